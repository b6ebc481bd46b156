/-
  OWN WORK. Several texts in one: HuffF, HuffG, HuffN, HuffO, FlN, FlJ, FlCoP, FlK, ShU, LzB, FlM, FlO, ShV, FlQ.
-/
import Derived.Test.YtdnfhenncjhenaaGreatMgPngChunksD
import Derived.Test.YtdnfhenncjhenaaGreatMgPngChunksC

set_option linter.unusedVariables false
set_option linter.unusedSimpArgs false
namespace Go.Proofs
open Go.Sh
structure Pk where
 c:Int
 s:List Int
 deriving DecidableEq,Inhabited
def insT(x:Pk×Nat):List (Pk×Nat)→List (Pk×Nat)
 |[]=>[x]
 |y::r=>if x.1.c≤y.1.c then x::y::r else y::insT x r
def sortT(l:List (Pk×Nat)):List (Pk×Nat):=l.foldr insT []
def ssort(l:List Pk):List Pk:=(sortT l.zipIdx).map (·.1)
def LexT(x y:Pk×Nat):Prop:=x.1.c<y.1.c∨(x.1.c=y.1.c∧x.2<y.2)
theorem insT_perm(x:Pk×Nat): ∀l,(insT x l).Perm (x::l)
 |[]=>List.Perm.refl _
 |y::r=>by
  unfold insT
  split
  ·exact List.Perm.refl _
  ·exact((insT_perm x r).cons y).trans (List.Perm.swap x y r)
theorem sortT_perm: ∀l,(sortT l).Perm l
 |[]=>List.Perm.refl _
 |x::r=>(insT_perm x (sortT r)).trans ((sortT_perm r).cons x)
theorem insT_sorted{x:Pk×Nat}: ∀{l:List (Pk×Nat)},(∀y∈l,x.2<y.2)→l.Pairwise LexT→(insT x l).Pairwise LexT
 |[],_,_=>by simp[insT]
 |y::r,hx,hs=>by
  unfold insT
  have hs':=List.pairwise_cons.1 hs
  split
  ·rename_i hle
   refine List.pairwise_cons.2 ⟨fun z hz=>?_,hs⟩
   have h1:=hx y List.mem_cons_self
   have hz':LexT x y:=by unfold LexT;omega
   rcases List.mem_cons.1 hz with rfl|hz
   ·exact hz'
   ·have:=hs'.1 z hz
    unfold LexT at*;omega
  ·rename_i hle
   refine List.pairwise_cons.2 ⟨fun z hz=>?_,insT_sorted (fun z hz=>hx z (List.mem_cons_of_mem _ hz)) hs'.2⟩
   rcases List.mem_cons.1 ((insT_perm x r).mem_iff.1 hz) with rfl|hz
   ·left;omega
   ·exact hs'.1 z hz
theorem sortT_sorted: ∀{l:List (Pk×Nat)},l.Pairwise (fun x y=>x.2<y.2)→(sortT l).Pairwise LexT
 |[],_=>List.Pairwise.nil
 |x::r,h=>by
  have h':=List.pairwise_cons.1 h
  exact insT_sorted (fun y hy=>h'.1 y ((sortT_perm r).mem_iff.1 hy)) (sortT_sorted h'.2)
theorem perm_unique{α:Type}{r:α→α→Prop}(asym: ∀a b,r a b→ ¬r b a): ∀{l m:List α},l.Perm m→l.Pairwise r→m.Pairwise r→l=m
 |[],m,hp,_,_=>(List.nil_perm.1 hp).symm
 |a::l,[],hp,_,_=>absurd hp.symm (by simp)
 |a::l,b::m,hp,hl,hm=>by
  have hl':=List.pairwise_cons.1 hl
  have hm':=List.pairwise_cons.1 hm
  have hab:a=b:=by
   rcases List.mem_cons.1 (hp.mem_iff.1 List.mem_cons_self) with h|h
   ·exact h
   ·rcases List.mem_cons.1 (hp.mem_iff.2 (List.mem_cons_self (a:=b))) with h'|h'
    ·exact h'.symm
    ·exact absurd (hl'.1 b h') (asym _ _ (hm'.1 a h))
  subst hab
  rw[perm_unique asym (List.Perm.cons_inv hp) hl'.2 hm'.2]
theorem LexT.asymm(a b:Pk×Nat)(h:LexT a b): ¬LexT b a:=by unfold LexT at*;omega
theorem zipIdx_tags(l:List Pk):l.zipIdx.Pairwise (fun x y=>x.2<y.2):=by
 have:(l.zipIdx.map (·.2)).Pairwise (· < ·):=by
  rw[List.zipIdx_map_snd]
  exact List.pairwise_lt_range'
 exact List.pairwise_map.1 this
theorem ssort_perm(l:List Pk):(ssort l).Perm l:=by
 unfold ssort
 have:=(sortT_perm l.zipIdx).map (·.1)
 rwa [List.zipIdx_map_fst] at this
theorem ssort_len(l:List Pk):(ssort l).length=l.length:=(ssort_perm l).length_eq
theorem nodup_le{α:Type}[DecidableEq α]: ∀{l m:List α},l.Nodup→(∀a∈l,a∈m)→l.length≤m.length
 |[],m,_,_=>Nat.zero_le _
 |a::l,m,hn,h=>by
  rw[List.nodup_cons] at hn
  have hm:=h a List.mem_cons_self
  have:=nodup_le (m:=m.erase a) hn.2 fun b hb=>(List.mem_erase_of_ne (fun hh=>hn.1 (by rw[←hh];exact hb))).2 (h b (List.mem_cons_of_mem _ hb))
  have hl:=List.length_erase_of_mem hm
  have hp:0<m.length:=List.length_pos_of_mem hm
  rw[List.length_cons]
  omega
theorem ssort_of{L:List Pk}{n:Nat}(hn:L.length=n){π:Nat→Nat}(h1: ∀i,i<n→π i<n)(h2: ∀i j,i<n→j<n→π i=π j→i=j)
 (h3: ∀i j,i<j→j<n→(L.getD (π i) default).c<(L.getD (π j) default).c∨((L.getD (π i) default).c=(L.getD (π j) default).c∧π i<π j)):(List.range n).map (fun i=>L.getD (π i) default)=ssort L:=by
 have hnd:((List.range n).map π).Nodup:=by
  rw[List.nodup_iff_pairwise_ne,List.pairwise_map]
  exact List.Pairwise.imp_of_mem (fun ha hb hab he=>hab (h2 _ _ (List.mem_range.1 ha) (List.mem_range.1 hb) he)) List.nodup_range
 have hperm:((List.range n).map π).Perm (List.range n):=by
  have hsub: ∀x∈(List.range n).map π,x∈List.range n:=fun x hx=>by
   obtain⟨i,hi,rfl⟩:=List.mem_map.1 hx
   exact List.mem_range.2 (h1 i (List.mem_range.1 hi))
  refine(List.perm_ext_iff_of_nodup hnd List.nodup_range).2 fun x=>⟨hsub x,fun hx=>Classical.byContradiction fun hn=>?_⟩
  have:=nodup_le (l:=x::(List.range n).map π) (m:=List.range n) (List.nodup_cons.2 ⟨hn,hnd⟩) (fun a ha=>by
   rcases List.mem_cons.1 ha with rfl|ha
   ·exact hx
   ·exact hsub a ha)
  simp at this
  omega
 have hmap:(List.range n).map (fun i=>L.getD (π i) default)=(((List.range n).map π).map fun t=>(L.getD t default,t)).map (·.1):=by
  simp[List.map_map,Function.comp_def]
 have hz:L.zipIdx=(List.range n).map fun t=>(L.getD t default,t):=by
  apply List.ext_getElem?
  intro i
  rw[List.getElem?_zipIdx,List.getElem?_map]
  by_cases hi:i<n
  ·have hl:i<L.length:=by omega
   rw[List.getElem?_range hi]
   simp[hl]
  ·have hl: ¬i<L.length:=by omega
   rw[List.getElem?_eq_none_iff.2 (by omega),List.getElem?_eq_none_iff.2 (by simp;omega)]
   rfl
 rw[hmap]
 unfold ssort
 congr 1
 refine perm_unique LexT.asymm ?_ ?_ (sortT_sorted (zipIdx_tags L))
 ·refine List.Perm.trans (hperm.map _) ?_
  rw[←hz]
  exact(sortT_perm _).symm
 ·rw[List.pairwise_map,List.pairwise_map]
  exact List.Pairwise.imp_of_mem (fun ha hb hab=>h3 _ _ hab (List.mem_range.1 hb)) List.pairwise_lt_range
def pairsM:List Pk→List Pk
 |x::y::r=>⟨x.c+y.c,x.s++y.s⟩::pairsM r
 |_=>[]
theorem pairsM_two{L:List Pk}{j:Nat}{x y:Pk}(hx:L[2*j]?=some x)(hy:L[2*j+1]?=some y):pairsM (L.take (2*(j+1)))=pairsM (L.take (2*j))++[⟨x.c+y.c,x.s++y.s⟩]:=by
 induction j generalizing L with
 |zero=>
  match L,hx,hy with
  |a::b::r,hx,hy=>simp at hx hy;subst hx hy;simp[pairsM]
  |[a],hx,hy=>simp at hy
 |succ j ih=>
  match L,hx,hy with
  |a::b::r,hx,hy=>
   have e1:2*(j+1)=2*j+1+1:=by omega
   have e2:2*(j+1+1)=2*(j+1)+1+1:=by omega
   rw[e1] at hx hy
   simp only[List.getElem?_cons_succ] at hx
   have hy':r[2*j+1]?=some y:=by simpa[Nat.add_assoc] using hy
   rw[e2,List.take_succ_cons,List.take_succ_cons,e1,List.take_succ_cons,List.take_succ_cons]
   simp only[pairsM]
   rw[←e1,ih hx hy']
   rfl
  |[a],hx,hy=>simp at hy
  |[],hx,hy=>simp at hy
theorem pairsM_all{L:List Pk}{j:Nat}(h:L.length≤2*j+1):pairsM (L.take (2*j))=pairsM L:=by
 induction j generalizing L with
 |zero=>
  match L,h with
  |[],_=>rfl
  |[a],_=>rfl
  |a::b::r,h=>simp at h
 |succ j ih=>
  match L,h with
  |[],_=>simp
  |[a],_=>
   have e1:2*(j+1)=2*j+1+1:=by omega
   rw[e1,List.take_succ_cons];simp
  |a::b::r,h=>
   have e1:2*(j+1)=2*j+1+1:=by omega
   rw[e1,List.take_succ_cons,List.take_succ_cons]
   simp only[pairsM]
   rw[ih (by simp at h;omega)]
def flat(xs:List It):List Value:=xs.flatMap fun x=>[.int .i64 x.c,x.v]
theorem flat_len(xs:List It):(flat xs).length=xs.length*2:=by
 induction xs with
 |nil=>rfl
 |cons x r ih=>unfold flat at*;simp[List.flatMap_cons,ih];omega
theorem flat_append(a b:List It):flat (a++b)=flat a++flat b:=by simp[flat]
theorem flat_get{xs:List It}{i:Nat}{x:It}(h:xs[i]?=some x):(flat xs)[i*2]?=some (.int .i64 x.c)∧(flat xs)[i*2+1]?=some x.v:=by
 induction xs generalizing i with
 |nil=>simp at h
 |cons y r ih=>
  cases i with
  |zero=>simp at h;subst h;simp[flat]
  |succ i=>
   simp only[List.getElem?_cons_succ] at h
   obtain⟨h1,h2⟩:=ih h
   have e1:(i+1)*2=i*2+1+1:=by omega
   have e2:(i+1)*2+1=i*2+1+1+1:=by omega
   rw[e1]
   unfold flat at*
   simp only[List.flatMap_cons,List.cons_append,List.nil_append,List.getElem?_cons_succ]
   exact⟨h1,h2⟩
def SYM(av:Nat→Prop)(H:Heap)(v:Value)(s:List Int):Prop:= ∃q l c,v= .slice q l c∧RS H q l 3 1 (ints s)∧ ∀b,q=some ⟨b,0,none⟩→ ¬av b
def All(av:Nat→Prop)(H:Heap)(xs:List It)(L:List Pk):Prop:=xs.length=L.length∧ ∀(i:Nat) x y,xs[i]?=some x→L[i]?=some y→x.c=y.c∧SYM av H x.v y.s
variable {av:Nat→Prop}
theorem SYM.keep{H H':Heap}{v:Value}{s:List Int}(h:SYM av H v s)(hk: ∀(b:Nat) cs,¬av b→H[b]?=some (.cells cs 3)→H'[b]?=some (.cells cs 3)):SYM av H' v s:=by
 obtain⟨q,l,c,h1,h2,h3⟩:=h
 exact⟨q,l,c,h1,h2.keep fun b cs hq hb=>hk b cs (h3 b hq) hb,h3⟩
theorem All.keep{H H':Heap}{xs:List It}{L:List Pk}(h:All av H xs L)(hk: ∀(b:Nat) cs,¬av b→H[b]?=some (.cells cs 3)→H'[b]?=some (.cells cs 3)):All av H' xs L:=
 ⟨h.1,fun i x y hx hy=>let ⟨a,b⟩:=h.2 i x y hx hy;⟨a,b.keep hk⟩⟩
theorem All.ext{H H':Heap}{xs:List It}{L:List Pk}(h:All av H xs L)(he:Ext H H'):All av H' xs L:=h.keep fun b cs _ hb=>he _ _ hb
theorem All.append{H:Heap}{xs ys:List It}{L M:List Pk}(h:All av H xs L)(h':All av H ys M):All av H (xs++ys) (L++M):=by
 refine⟨by simp[h.1,h'.1],fun i x y hx hy=>?_⟩
 have hl:=h.1
 by_cases hi:i<xs.length
 ·rw[List.getElem?_append_left hi] at hx
  rw[List.getElem?_append_left (by omega)] at hy
  exact h.2 i x y hx hy
 ·rw[List.getElem?_append_right (by omega)] at hx
  rw[List.getElem?_append_right (by omega),←hl] at hy
  exact h'.2 _ x y hx hy
structure Row(av:Nat→Prop)(H:Heap)(p:Option Addr)(l:Nat)(L:List Pk):Prop where
 ex: ∃xs,RS H p l 165 2 (flat xs)∧All av H xs L
theorem Row.ext{H H':Heap}{p:Option Addr}{l:Nat}{L:List Pk}(h:Row av H p l L)(he:Ext H H'):Row av H' p l L:=by
 obtain⟨xs,h1,h2⟩:=h.ex
 exact⟨xs,h1.ext he,h2.ext he⟩
theorem Row.len{H:Heap}{p:Option Addr}{l:Nat}{L:List Pk}(h:Row av H p l L):L.length=l:=by
 obtain⟨xs,h1,h2⟩:=h.ex
 have:=h1.len
 rw[flat_len] at this
 have:=h2.1
 omega
def PkB(L:List Pk)(B:Int)(S:Nat):Prop:= ∀x∈L,0≤x.c∧x.c≤B∧x.s.length≤S
set_option maxHeartbeats 1000000 in
theorem c114{H:Heap}{p:Option Addr}{l c:Nat}{L:List Pk}(h:Row av H p l L)(hav: ∀b,av b→b<H.size)(hl:l≤10000)(hB:PkB L 576460752303423488 400000){R:Value→Heap→Prop}
 (hR: ∀H' q k c',Row av H' q k (pairsM L)→Ext H H'→R (.slice q k c') H'):CallsH Tryz.prog 114 #[.slice p l c] H R:=by
 have hlen:=h.len
 obtain⟨xs,hx,hall⟩:=h.ex
 have hxl:=hall.1
 refine Tryz.s114 ?_
 unfold Tryz.S114 alc
 intro X hX
 have loop: ∀(m j:Nat) (H1:Heap) (q:Option Addr) (k c':Nat) (ys:List It),l-2*j≤m→2*j≤l+1→Ext H H1→FS H.size H1 q k c' 165 2 (flat ys)→All av H1 ys (pairsM (L.take (2*j)))→k≤j→X [.slice q k c',.int .i64 ((2*j:Nat):Int)] H1:=by
  intro m
  induction m with
  |zero=>
   intro j H1 q k c' ys hm hj e1 f1 a1 hk
   have w1:IntKind.wrap .i64 (((2*j:Nat):Int)+1)=((2*j+1:Nat):Int):=by rw[wrap_id (by omega) (by omega)];omega
   rw[pairsM_all (by omega)] at a1
   refine hX q k c' _ H1 ?_
   rw[w1]
   exact br_n (by omega) (hR H1 q k c' ⟨ys,f1.rs,a1⟩ e1)
  |succ m ih=>
   intro j H1 q k c' ys hm hj e1 f1 a1 hk
   have w1:IntKind.wrap .i64 (((2*j:Nat):Int)+1)=((2*j+1:Nat):Int):=by rw[wrap_id (by omega) (by omega)];omega
   have w2:IntKind.wrap .i64 (((2*j:Nat):Int)+2)=((2*(j+1):Nat):Int):=by rw[wrap_id (by omega) (by omega)];omega
   refine hX q k c' _ H1 ?_
   rw[w1,w2]
   refine br_dec (fun hlt=>?_) (fun hge=>?_)
   ·have r1:=hx.ext e1
    have al1:=hall.ext e1
    obtain⟨x,hxx⟩: ∃x,xs[2*j]?=some x:=⟨_,List.getElem?_eq_getElem (by omega)⟩
    obtain⟨y,hyy⟩: ∃y,xs[2*j+1]?=some y:=⟨_,List.getElem?_eq_getElem (by omega)⟩
    obtain⟨u,hu⟩: ∃u,L[2*j]?=some u:=⟨_,List.getElem?_eq_getElem (by omega)⟩
    obtain⟨v,hv⟩: ∃v,L[2*j+1]?=some v:=⟨_,List.getElem?_eq_getElem (by omega)⟩
    obtain⟨xc,q1,l1,c1,xv,s1,_⟩:=al1.2 _ _ _ hxx hu
    obtain⟨yc,q2,l2,c2,yv,s2,_⟩:=al1.2 _ _ _ hyy hv
    obtain⟨gx,gxv⟩:=flat_get hxx
    obtain⟨gy,gyv⟩:=flat_get hyy
    obtain⟨blk,hp,cx⟩:=r1.cell gx
    obtain⟨blk2,hp2,cy⟩:=r1.cell gy
    obtain⟨blk3,hp3,cxv⟩:=r1.cell gxv
    obtain⟨blk4,hp4,cyv⟩:=r1.cell gyv
    rw[hp] at hp2 hp3 hp4
    cases hp2;cases hp3;cases hp4
    have bu:=hB u (List.mem_of_getElem? hu)
    have bv:=hB v (List.mem_of_getElem? hv)
    have l1e:l1=u.s.length:=by have:=s1.len;rw[ints_len] at this;omega
    have l2e:l2=v.s.length:=by have:=s2.len;rw[ints_len] at this;omega
    rw[xv] at cxv
    rw[yv] at cyv
    refine⟨_,hp,by omega,by omega,x.c,by rw[Int.toNat_natCast];simpa using cx,_,hp,by omega,by omega,y.c,by rw[Int.toNat_natCast];simpa using cy,_,hp,by omega,by omega,q1,l1,c1,by rw[Int.toNat_natCast];simpa using cxv,_,hp,by omega,by omega,q2,l2,c2,by rw[Int.toNat_natCast];simpa using cyv,.inl (Ext.push _ _),?_⟩
    have hb2:=get_push_self H1 (.cells #[Value.slice q1 l1 c1,Value.slice q2 l2 c2] 86)
    have e2:Ext H1 (H1.push (.cells #[Value.slice q1 l1 c1,Value.slice q2 l2 c2] 86)):=Ext.push _ _
    generalize H1.push (.cells #[Value.slice q1 l1 c1,Value.slice q2 l2 c2] 86)=H2 at hb2 e2
    refine c89 hb2 (s1.ext e2) (s2.ext e2) (by omega) fun H3 q3 c3 f3 e3=>⟨q3,l1+l2,c3,rfl,.inl e3,rfl,by omega,?_⟩
    have wc:IntKind.wrap .i64 (x.c+y.c)=u.c+v.c:=by rw[xc,yc];exact wrap_id (by omega) (by omega)
    rw[wc]
    have ha:(List.toArray (setL [Value.int .i64 0,Value.slice none 0 0] 0 (Array.toList #[Value.int .i64 (u.c+v.c),Value.slice q3 (l1+l2) c3])))=#[Value.int .i64 (u.c+v.c),Value.slice q3 (l1+l2) c3]:=rfl
    rw[ha]
    have e4:Ext H3 (H3.push (.cells #[Value.int .i64 (u.c+v.c),Value.slice q3 (l1+l2) c3] 165)):=Ext.push _ _
    have hb4:=get_push_self H3 (.cells #[Value.int .i64 (u.c+v.c),Value.slice q3 (l1+l2) c3] 165)
    generalize H3.push (.cells #[Value.int .i64 (u.c+v.c),Value.slice q3 (l1+l2) c3] 165)=H4 at e4 hb4
    have e14:=e2.trans (e3.trans e4)
    have fs4:=f1.ext e14
    have src:RS H4 (some ⟨H3.size,0,none⟩) 1 165 2 (flat [⟨u.c+v.c,.slice q3 (l1+l2) c3,0⟩]):=
     ⟨rfl,by intro z hz;simp[flat] at hz;rcases hz with rfl|rfl<;>rfl,.inr ⟨H3.size,_,rfl,hb4,fun i z hz=>by simpa[flat] using hz⟩⟩
    have sz:=(e1.trans e14).size
    refine fs4.app src (by decide) sz rfl (by omega) (by omega) fun q5 c5 H5 f5 hk5 hs5=>?_
    rw[←flat_append] at f5
    have k3: ∀(b:Nat) cs,¬av b→H4[b]?=some (.cells cs 3)→H5[b]?=some (.cells cs 3):=fun b cs _ hb=>by
     refine hk5 b _ hb fun hq=>?_
     rcases fs4.at_ with ⟨h1,_⟩|⟨blk,cs',h1,_,h3,_⟩
     ·rw[h1] at hq;cases hq
     ·rw[h1] at hq;cases hq;rw[hb] at h3;cases h3
    have e5:Ext H H5:=fun b o hb=>by
     refine hk5 b o ((e1.trans e14) b o hb) fun hq=>?_
     have hlt:=lt_of_get hb
     rcases fs4.at_ with ⟨h1,_⟩|⟨blk,cs',h1,h2,_⟩
     ·rw[h1] at hq;cases hq
     ·rw[h1] at hq;cases hq;omega
    refine ih (j+1) H5 q5 (k+1) c5 _ (by omega) (by omega) e5 f5 ?_ (by omega)
    rw[pairsM_two hu hv]
    refine((a1.ext e14).append ⟨rfl,fun i a b ha hb=>?_⟩).keep k3
    match i,ha,hb with
    |0,ha,hb=>
     simp at ha hb;subst ha hb
     refine⟨rfl,q3,l1+l2,c3,rfl,by rw[ints_append];exact f3.rs.ext e4,fun b hb hab=>?_⟩
     have hlt:=hav b hab
     have hsz2:=(e1.trans e2).size
     rcases f3.at_ with ⟨h1,_⟩|⟨blk,cs',h1,h2,_⟩
     ·rw[h1] at hb;cases hb
     ·rw[h1] at hb;cases hb;omega
    |i+1,ha,hb=>simp at ha
   ·rw[pairsM_all (by omega)] at a1
    exact hR H1 q k c' ⟨ys,f1.rs,a1⟩ e1
 exact loop l 0 H none 0 0 [] (by omega) (by omega) (Ext.refl _) (FS.nil _ _ _ _) (by simp[pairsM,All]) (Nat.le_refl _)
theorem c31_zero{g:Nat}{H:Heap}{p:Option Addr}{c:Nat}{R:Value→Heap→Prop}(hR:R (.tuple #[]) H):CallsH Tryz.prog 130 #[.slice p 0 c,.int .i64 (0:Int),.int .i64 (0:Int),.func (.func g) #[] #[]] H R:=by
 refine Tryz.s130 ?_
 unfold Tryz.S130
 intro X hX
 have w:IntKind.wrap .i64 ((0:Int)+1)=1:=by decide
 rw[w]
 exact hX _ H (br_n (by omega) hR)
theorem c22_zero{g:Nat}{H:Heap}{p:Option Addr}{c:Nat}{R:Value→Heap→Prop}(hR:R (.tuple #[]) H):CallsH Tryz.prog 111 #[.slice p 0 c,.func (.func g) #[] #[]] H R:=by
 refine Tryz.s111 ?_
 unfold Tryz.S111
 refine Tryz.s125 ?_
 unfold Tryz.S125
 intro X hX
 refine hX _ _ H (br_n (by omega) ?_)
 refine c31_zero ⟨rfl,?_⟩
 intro Y hY
 exact hY _ H (br_n (by omega) ⟨rfl,hR⟩)
theorem sort_row{g:Nat}(hc:Cmp g){n0:Nat}{H:Heap}{p:Option Addr}{l c:Nat}{xs:List It}{L:List Pk}(hf:FS n0 H p l c 165 2 (flat xs))(ha:All av H xs L)(hl:l≤100000)(hB:PkB L 1152921504606846976 400000){R:Value→Heap→Prop}
 (hR: ∀H',Row av H' p l (ssort L)→(∀(b:Nat) (o:Obj),H[b]?=some o→p≠some ⟨b,0,none⟩→H'[b]?=some o)→R (.tuple #[]) H'):CallsH Tryz.prog 111 #[.slice p l c,.func (.func g) #[] #[]] H R:=by
 have hlen:xs.length=l:=by have:=hf.len;rw[flat_len] at this;omega
 have hLl:L.length=l:=by rw[←ha.1,hlen]
 by_cases h0:l=0
 ·subst h0
  have:L=[]:=List.length_eq_zero_iff.1 hLl
  subst this
  exact c22_zero (hR H ⟨[],RS.nil _ _ _ _,⟨rfl,fun i x y hx=>by simp at hx⟩⟩ fun b o hb _=>hb)
 ·rcases hf.at_ with ⟨_,hc0⟩|⟨blk,cs,rfl,h2,h3,h4,h5⟩
  ·have:=hf.le;omega
  ·let f:Nat→It:=fun i=>{(xs.getD i ⟨0,.bool false,0⟩) with t:=i}
   have fget: ∀i,i<l→ ∃x,xs[i]?=some x∧(f i).c=x.c∧(f i).v=x.v∧(f i).t=i:=fun i hi=>by
    refine⟨xs[i],List.getElem?_eq_getElem (by omega),?_,?_,rfl⟩<;>simp[f,List.getD_eq_getElem?_getD,List.getElem?_eq_getElem (show i<xs.length by omega)]
   have hd:DS H blk l f:=⟨cs,h3,by have:=hf.le;omega,fun i hi=>by
    obtain⟨x,hx,e1,e2,_⟩:=fget i hi
    obtain⟨g1,g2⟩:=flat_get hx
    rw[e1,e2]
    refine⟨?_,?_,hf.one _ (List.mem_of_getElem? g2)⟩
    ·rw[Nat.mul_comm];exact h5 _ _ g1
    ·rw[Nat.mul_comm];exact h5 _ _ g2⟩
   have lget: ∀i,i<l→ ∃y,L[i]?=some y∧(f i).c=y.c∧SYM av H (f i).v y.s:=fun i hi=>by
    obtain⟨x,hx,e1,e2,_⟩:=fget i hi
    have hy:L[i]?=some L[i]:=List.getElem?_eq_getElem (by omega)
    obtain⟨a,b⟩:=ha.2 i x _ hx hy
    exact⟨_,hy,by rw[e1,a],by rw[e2];exact b⟩
   have hbnd:Bnd l f:=fun i hi=>by
    obtain⟨y,hy,e,_⟩:=lget i hi
    have:=hB y (List.mem_of_getElem? hy)
    rw[e];omega
   refine c111 hc hd hbnd (by omega) (fun p q _ hpq _=>hpq) fun H' f' d' b' p' s'=>?_
   obtain⟨π,π1,π2,π3⟩:=p'.ex
   have hss:(List.range l).map (fun i=>L.getD (π i) default)=ssort L:=by
    refine ssort_of hLl (fun i hi=>(π1 i (by omega) hi).2) (fun i j hi hj he=>π2 i j (by omega) hi (by omega) hj he) fun i j hij hj=>?_
    have hs:=s' i j (by omega) hij hj
    have hi':=(π1 i (by omega) (by omega)).2
    have hj':=(π1 j (by omega) hj).2
    obtain⟨y1,hy1,e1,_⟩:=lget _ hi'
    obtain⟨y2,hy2,e2,_⟩:=lget _ hj'
    rw[π3 i (by omega) (by omega),π3 j (by omega) hj] at hs
    have t1:(f (π i)).t=π i:=rfl
    have t2:(f (π j)).t=π j:=rfl
    unfold Lex at hs
    rw[e1,e2,t1,t2] at hs
    rw[List.getD_eq_getElem?_getD,List.getD_eq_getElem?_getD,hy1,hy2]
    exact hs
   refine hR H' ⟨(List.range l).map f',?_,?_⟩ fun b o hb hn=>b' b o hb fun hh=>hn (by rw[hh])
   ·obtain⟨cs',g1,g2,g3⟩:=d'
    have hget: ∀i x,((List.range l).map f')[i]?=some x→i<l∧x=f' i:=fun i x hx=>by
     rw[List.getElem?_map] at hx
     obtain⟨j,hj,rfl⟩:=Option.map_eq_some_iff.1 hx
     rw[List.getElem?_eq_some_iff] at hj
     obtain⟨hj1,hj2⟩:=hj
     simp at hj1 hj2
     subst hj2
     exact⟨hj1,rfl⟩
    have hfl: ∀(i:Nat) v,(flat ((List.range l).map f'))[i]?=some v→cs'[i]?=some v∧v.oneCell'=true:=fun i v hv=>by
     have hi:=(List.getElem?_eq_some_iff.1 hv).1
     rw[flat_len,List.length_map,List.length_range] at hi
     have hj:i/2<l:=by omega
     have hx:((List.range l).map f')[i/2]?=some (f' (i/2)):=by simp[hj]
     obtain⟨a1,a2⟩:=flat_get hx
     obtain⟨c1,c2,c3⟩:=g3 _ hj
     by_cases he:i%2=0
     ·have e1:i/2*2=i:=by omega
      rw[e1,hv] at a1
      cases a1
      have e2:2*(i/2)=i:=by omega
      rw[e2] at c1
      exact⟨c1,rfl⟩
     ·have e1:i/2*2+1=i:=by omega
      rw[e1,hv] at a2
      cases a2
      have e2:2*(i/2)+1=i:=by omega
      rw[e2] at c2
      exact⟨c2,c3⟩
    refine⟨by rw[flat_len];simp,fun v hv=>?_,.inr ⟨blk,cs',rfl,g1,fun i v hv=>(hfl i v hv).1⟩⟩
    obtain⟨i,hi⟩:=List.getElem?_of_mem hv
    exact(hfl i v hi).2
   ·rw[←hss]
    refine⟨by simp,fun i x y hx hy=>?_⟩
    rw[List.getElem?_map] at hx hy
    obtain⟨j,hj,rfl⟩:=Option.map_eq_some_iff.1 hx
    obtain⟨j',hj',rfl⟩:=Option.map_eq_some_iff.1 hy
    rw[hj] at hj';cases hj'
    have hjl:j<l:=List.mem_range.1 (List.mem_of_getElem? hj)
    obtain⟨y,hy,e1,e2⟩:=lget (π j) (π1 j (by omega) hjl).2
    rw[π3 j (by omega) hjl,List.getD_eq_getElem?_getD,hy]
    refine⟨e1,e2.keep fun b cs2 _ hb=>b' b _ hb fun hh=>?_⟩
    rw[hh,h3] at hb;cases hb
theorem c113{H:Heap}{p q:Option Addr}{l1 c1 l2 c2:Nat}{A B:List Pk}(hA:Row av H p l1 A)(hB:Row av H q l2 B)(hl:l1+l2≤100000)(hbd:PkB (A++B) 1152921504606846976 400000){R:Value→Heap→Prop}
 (hR: ∀H' p' c',Row av H' p' (l1+l2) (ssort (A++B))→l1+l2≤c'→Ext H H'→R (.slice p' (l1+l2) c') H'):CallsH Tryz.prog 113 #[.slice p l1 c1,.slice q l2 c2] H R:=by
 refine Tryz.s113 ?_
 unfold Tryz.S113 alc
 have hb:=get_push_self H (.cells #[Value.slice p l1 c1,Value.slice q l2 c2] 163)
 have e1:Ext H (H.push (.cells #[Value.slice p l1 c1,Value.slice q l2 c2] 163)):=Ext.push _ _
 generalize H.push (.cells #[Value.slice p l1 c1,Value.slice q l2 c2] 163)=H1 at hb e1
 obtain⟨xs,x1,x2⟩:=(hA.ext e1).ex
 obtain⟨ys,y1,y2⟩:=(hB.ext e1).ex
 refine c126 hb x1 y1 (by omega) fun H2 p' c' f2 e2=>⟨p',l1+l2,c',rfl,?_⟩
 rw[←flat_append] at f2
 refine sort_row cmp29 f2 ((x2.append y2).ext e2) hl hbd fun H3 r3 k3=>⟨rfl,hR H3 p' c' r3 f2.le fun b o hb=>?_⟩
 refine k3 b o (e2 b o (e1 b o hb)) fun hq=>?_
 have h1:=lt_of_get (e1 b o hb)
 rcases f2.at_ with ⟨h1,_⟩|⟨blk,cs,h1,h2,_⟩
 ·rw[h1] at hq;cases hq
 ·rw[h1] at hq;cases hq;omega
end Go.Proofs
namespace Go.Proofs
open Go.Sh
def leavesFrom(i:Nat):List Int→List Pk
 |[]=>[]
 |n::r=>(if n>0 then[⟨n,[(i:Int)]⟩] else[])++leavesFrom (i+1) r
def leavesM(cs:List Int):List Pk:=leavesFrom 0 cs
theorem leavesFrom_append(i:Nat): ∀(a b:List Int),leavesFrom i (a++b)=leavesFrom i a++leavesFrom (i+a.length) b
 |[],b=>by simp[leavesFrom]
 |n::r,b=>by
  have e:i+1+r.length=i+(n::r).length:=by simp;omega
  simp only[List.cons_append,leavesFrom]
  rw[leavesFrom_append (i+1) r b,e,List.append_assoc]
theorem leavesM_snoc{cs:List Int}{s:Nat}{n:Int}(h:cs[s]?=some n):leavesM (cs.take (s+1))=leavesM (cs.take s)++(if n>0 then[⟨n,[(s:Int)]⟩] else[]):=by
 obtain⟨hl,hv⟩:=List.getElem?_eq_some_iff.1 h
 unfold leavesM
 rw[List.take_succ_eq_append_getElem hl,leavesFrom_append,hv]
 have:(cs.take s).length=s:=by simp;omega
 rw[this,Nat.zero_add]
 simp[leavesFrom]
theorem leavesFrom_mem{i:Nat}{cs:List Int}{x:Pk}(h:x∈leavesFrom i cs): ∃k n,cs[k]?=some n∧n>0∧x=⟨n,[((i+k:Nat):Int)]⟩:=by
 induction cs generalizing i with
 |nil=>simp[leavesFrom] at h
 |cons n r ih=>
  rcases List.mem_append.1 h with h|h
  ·split at h
   ·rename_i hn
    simp at h
    exact⟨0,n,rfl,hn,h⟩
   ·simp at h
  ·obtain⟨k,m,h1,h2,h3⟩:=ih h
   exact⟨k+1,m,by simpa using h1,h2,by rw[h3];congr 3;omega⟩
theorem leavesFrom_len(i:Nat)(cs:List Int):(leavesFrom i cs).length≤cs.length:=by
 induction cs generalizing i with
 |nil=>simp[leavesFrom]
 |cons n r ih=>
  have:=ih (i+1)
  simp only[leavesFrom,List.length_append,List.length_cons]
  split<;>simp<;>omega
def rowM(ls:List Pk):Nat→List Pk
 |0=>[]
 |k+1=>ssort (ls++pairsM (rowM ls k))
theorem pairsM_len: ∀(L:List Pk),(pairsM L).length=L.length/2
 |[]=>rfl
 |[a]=>by simp[pairsM]
 |a::b::r=>by simp only[pairsM,List.length_cons,pairsM_len r];omega
theorem pairsM_mem: ∀{L:List Pk} {x:Pk},x∈pairsM L→ ∃a∈L,∃b∈L,x=⟨a.c+b.c,a.s++b.s⟩
 |a::b::r,x,h=>by
  simp only[pairsM,List.mem_cons] at h
  rcases h with rfl|h
  ·exact⟨a,List.mem_cons_self,b,by simp,rfl⟩
  ·obtain⟨c,hc,d,hd,e⟩:=pairsM_mem h
   exact⟨c,by simp[hc],d,by simp[hd],e⟩
 |[a],x,h=>by simp[pairsM] at h
 |[],x,h=>by simp[pairsM] at h
theorem rowM_mem{ls:List Pk}{k:Nat}{x:Pk}(h:x∈rowM ls (k+1)):x∈ls∨x∈pairsM (rowM ls k):=List.mem_append.1 ((ssort_perm _).mem_iff.1 h)
theorem rowM_bnd{ls:List Pk}(hls:PkB ls 1099511627776 1): ∀k:Nat,PkB (rowM ls k) (1099511627776*2^k) (2^k)
 |0=>fun x hx=>by simp[rowM] at hx
 |k+1=>fun x hx=>by
  have p1:(1:Int)≤2^k:=Int.pow_pos (by omega)
  have p2:1≤2^k:=Nat.one_le_two_pow
  have e1:(2:Int)^(k+1)=2^k*2:=Int.pow_succ ..
  have e2:2^(k+1)=2^k*2:=Nat.pow_succ ..
  rw[e1,e2]
  rcases rowM_mem hx with hx|hx
  ·have:=hls x hx
   generalize (2:Int)^k=y at*
   generalize 2^k=z at*
   omega
  ·obtain⟨a,ha,b,hb,rfl⟩:=pairsM_mem hx
   have h1:=rowM_bnd hls k a ha
   have h2:=rowM_bnd hls k b hb
   simp only[List.length_append]
   generalize (2:Int)^k=y at*
   generalize 2^k=z at*
   omega
theorem rowM_syms{ls:List Pk}{N:Int}(hls: ∀x∈ls,∀s∈x.s,0≤s∧s<N): ∀k:Nat,∀x∈rowM ls k,∀s∈x.s,0≤s∧s<N
 |0,x,hx,_,_=>by simp[rowM] at hx
 |k+1,x,hx,s,hs=>by
  rcases rowM_mem hx with hx|hx
  ·exact hls x hx s hs
  ·obtain⟨a,ha,b,hb,rfl⟩:=pairsM_mem hx
   rcases List.mem_append.1 hs with hs|hs
   ·exact rowM_syms hls k a ha s hs
   ·exact rowM_syms hls k b hb s hs
theorem rowM_len(ls:List Pk)(k:Nat):(rowM ls (k+1)).length=ls.length+(rowM ls k).length/2:=by
 show(ssort _).length=_
 rw[ssort_len,List.length_append,pairsM_len]
theorem rowM_len_le(ls:List Pk): ∀k,(rowM ls k).length≤2*ls.length
 |0=>by simp[rowM]
 |k+1=>by rw[rowM_len];have:=rowM_len_le ls k;omega
theorem rowM_len_ge{ls:List Pk}{m:Nat}(hn:ls.length≤2^m): ∀k,k+1≤m→2*ls.length≤(rowM ls (k+1)).length+2^(m-k)
 |0,h=>by rw[rowM_len];simp[rowM];omega
 |k+1,h=>by
  have ih:=rowM_len_ge hn k (by omega)
  rw[rowM_len]
  have e:2^(m-k)=2^(m-(k+1))*2:=by rw[←Nat.pow_succ];congr 1;omega
  rw[e] at ih
  generalize 2^(m-(k+1))=z at*
  omega
theorem rowM_whole{ls:List Pk}{m:Nat}(h1:1≤m)(hn:ls.length≤2^m):2*ls.length-2≤(rowM ls m).length:=by
 obtain⟨k,rfl⟩: ∃k,m=k+1:=⟨m-1,by omega⟩
 have:=rowM_len_ge hn k (Nat.le_refl _)
 have e:k+1-k=1:=by omega
 rw[e] at this
 omega
def bump(o:List Int)(s:Int):List Int:=o.set s.toNat (o.getD s.toNat 0+1)
def lenM(cs:List Int)(most:Nat):List Int:=
 if (leavesM cs).length=1 then(List.replicate cs.length 0).set (((leavesM cs).headD default).s.headD 0).toNat 1
 else(((rowM (ssort (leavesM cs)) most).take (2*(leavesM cs).length-2)).flatMap (·.s)).foldl bump (List.replicate cs.length 0)
structure OkL(cs:List Int)(most:Int):Prop where
 m1:1≤most
 m2:most≤16
 len:cs.length≤300
 rng: ∀n∈cs,0≤n∧n≤1099511627776
 few:(leavesM cs).length≤2^most.toNat
theorem bump_len(o:List Int)(s:Int):(bump o s).length=o.length:=by simp[bump]
theorem foldl_bump_len(l:List Int)(o:List Int):(l.foldl bump o).length=o.length:=by
 induction l generalizing o with
 |nil=>rfl
 |cons s r ih=>simp only[List.foldl_cons];rw[ih,bump_len]
theorem shl_one{m:Int}(h1:1≤m)(h2:m≤16):shlI .i64 (1:Int) m=((2^m.toNat:Nat):Int):=by
 have:m=1∨m=2∨m=3∨m=4∨m=5∨m=6∨m=7∨m=8∨m=9∨m=10∨m=11∨m=12∨m=13∨m=14∨m=15∨m=16:=by omega
 rcases this with h|h|h|h|h|h|h|h|h|h|h|h|h|h|h|h<;>subst h<;>decide
set_option maxHeartbeats 4000000 in
theorem c90{H:Heap}{p:Option Addr}{l c:Nat}{cs:List Int}{most:Int}(h:IS H p l (ints cs))(hl:l≤100000){R:Value→Heap→Prop}
 (hbad: ∀H',Ext H H'→ ¬OkL cs most→R (.tuple #[.slice none 0 0,.bool false]) H')
 (hgood:OkL cs most→ ∀H' b,FS H.size H' (some ⟨b,0,none⟩) l l 3 1 (ints (lenM cs most.toNat))→Ext H H'→R (.tuple #[.slice (some ⟨b,0,none⟩) l l,.bool true]) H'):
 CallsH Tryz.prog 90 #[.slice p l c,.int .i64 most] H R:=by
 have hcl:cs.length=l:=by have:=h.len;rw[ints_len] at this;omega
 refine Tryz.s90 ?_
 unfold Tryz.S90 alc
 intro J hJ
 refine br_dec (fun hm=>hbad H (Ext.refl _) fun ok=>by have:=ok.m1;omega) (fun m1=>br_dec (fun hm=>hbad H (Ext.refl _) fun ok=>by have:=ok.m2;omega) (fun m2=>br_dec (fun hm=>hbad H (Ext.refl _) fun ok=>by have:=ok.len;omega) (fun l300=>hJ H ?_)))
 have m1:1≤most:=by omega
 have m2:most≤16:=by omega
 have l300:l≤300:=by omega
 intro X hX
 have loop: ∀(m s:Nat) (H1:Heap) (q:Option Addr) (k c':Nat) (xs:List It),l-s=m→s≤l→Ext H H1→FS H.size H1 q k c' 165 2 (flat xs)→All (fun _=>False) H1 xs (leavesM (cs.take s))→(∀n∈cs.take s,0≤n∧n≤1099511627776)→X [.slice q k c',.int .i64 s] H1:=by
  intro m
  induction m with
  |succ m ih=>
   intro s H1 q k c' xs hm hs e1 f1 a1 rg
   have ws:IntKind.wrap .i64 ((s:Int)+1)=((s+1:Nat):Int):=by rw[wrap_id (by omega) (by omega)];omega
   have hsl:s<cs.length:=by omega
   have hv:cs[s]?=some cs[s]:=List.getElem?_eq_getElem hsl
   have htake:cs.take (s+1)=cs.take s++[cs[s]]:=List.take_succ_eq_append_getElem hsl
   have hmem:cs[s]∈cs:=List.getElem_mem hsl
   generalize cs[s]=n at hv htake hmem
   obtain⟨blk,hp,cv⟩:=(h.ext e1).cell (ints_get hv)
   have hsn:=leavesM_snoc hv
   have hkl:k≤s:=by
    have e2:=f1.len
    rw[flat_len] at e2
    have e3:=a1.1
    have e4:=leavesFrom_len 0 (cs.take s)
    have e5:(leavesM (cs.take s)).length≤s:=by unfold leavesM;simp at e4;omega
    omega
   refine hX q k c' _ H1 (br_y (by omega) ⟨_,hp,by omega,by omega,n,by simpa using cv,?_⟩)
   rw[ws]
   intro J1 hJ1
   refine br_dec (fun hneg=>hbad H1 e1 fun ok=>by have:=ok.rng n hmem;omega) (fun hn0=>br_dec (fun hbig=>hbad H1 e1 fun ok=>by have:=ok.rng n hmem;omega) (fun hn1=>hJ1 H1 ?_))
   have rg': ∀x∈cs.take (s+1),0≤x∧x≤1099511627776:=fun x hx=>by
    rw[htake] at hx
    rcases List.mem_append.1 hx with hx|hx
    ·exact rg x hx
    ·rw[List.mem_singleton] at hx;subst hx;omega
   refine br_dec (fun hpos=>?_) (fun hz=>?_)
   ·have hb2:=get_push_self H1 (.cells #[Value.int .i64 s] 3)
    have e2:Ext H1 (H1.push (.cells #[Value.int .i64 s] 3)):=Ext.push _ _
    refine⟨rfl,by omega,?_⟩
    have ha:(List.toArray (setL [Value.int .i64 0,Value.slice none 0 0] 0 (Array.toList #[Value.int .i64 n,Value.slice (some ⟨H1.size,0,none⟩) 1 1])))=#[Value.int .i64 n,Value.slice (some ⟨H1.size,0,none⟩) 1 1]:=rfl
    rw[ha]
    generalize hH2:H1.push (.cells #[Value.int .i64 s] 3)=H2 at hb2 e2
    have e3:Ext H2 (H2.push (.cells #[Value.int .i64 n,Value.slice (some ⟨H1.size,0,none⟩) 1 1] 165)):=Ext.push _ _
    have hb3:=get_push_self H2 (.cells #[Value.int .i64 n,Value.slice (some ⟨H1.size,0,none⟩) 1 1] 165)
    generalize H2.push (.cells #[Value.int .i64 n,Value.slice (some ⟨H1.size,0,none⟩) 1 1] 165)=H3 at e3 hb3
    have e13:=e2.trans e3
    have src:RS H3 (some ⟨H2.size,0,none⟩) 1 165 2 (flat [⟨n,.slice (some ⟨H1.size,0,none⟩) 1 1,0⟩]):=
     ⟨rfl,by intro z hz;simp[flat] at hz;rcases hz with rfl|rfl<;>rfl,.inr ⟨H2.size,_,rfl,hb3,fun i z hz=>by simpa[flat] using hz⟩⟩
    have f3:=f1.ext e13
    have sz:=(e1.trans e13).size
    refine f3.app src (by decide) sz rfl (by omega) (by omega) fun q5 c5 H5 f5 hk5 hs5=>?_
    rw[←flat_append] at f5
    have k3: ∀(b:Nat) cs,¬(fun _=>False) b→H3[b]?=some (.cells cs 3)→H5[b]?=some (.cells cs 3):=fun b cs _ hb=>by
     refine hk5 b _ hb fun hq=>?_
     rcases f3.at_ with ⟨h1,_⟩|⟨blk,cs',h1,_,h3,_⟩
     ·rw[h1] at hq;cases hq
     ·rw[h1] at hq;cases hq;rw[hb] at h3;cases h3
    have e5:Ext H H5:=fun b o hb=>by
     refine hk5 b o ((e1.trans e13) b o hb) fun hq=>?_
     have hlt:=lt_of_get hb
     rcases f3.at_ with ⟨h1,_⟩|⟨blk,cs',h1,h2,_⟩
     ·rw[h1] at hq;cases hq
     ·rw[h1] at hq;cases hq;omega
    refine ih (s+1) H5 q5 (k+1) c5 _ (by omega) (by omega) e5 f5 ?_ rg'
    rw[hsn,if_pos hpos]
    refine((a1.ext e13).append ⟨rfl,fun i a b ha hb=>?_⟩).keep k3
    match i,ha,hb with
    |0,ha,hb=>
     simp at ha hb;subst ha hb
     refine⟨rfl,some ⟨H1.size,0,none⟩,1,1,rfl,⟨rfl,ints_one _,.inr ⟨H1.size,_,rfl,e3 _ _ hb2,fun i v hv=>by simpa[ints] using hv⟩⟩,fun b _ hh=>hh⟩
    |i+1,ha,hb=>simp at ha
   ·refine ih (s+1) H1 q k c' xs (by omega) (by omega) e1 f1 ?_ rg'
    rw[hsn,if_neg hz,List.append_nil]
    exact a1
  |zero=>
   intro s H1 q k c' xs hm hs e1 f1 a1 rg
   have hsl:s=l:=by omega
   rw[List.take_of_length_le (by omega)] at a1 rg
   have hkL:(leavesM cs).length=k:=by have:=f1.len;rw[flat_len] at this;have:=a1.1;omega
   have hkl:k≤l:=by have:=leavesFrom_len 0 cs;unfold leavesM at hkL;omega
   refine hX q k c' _ H1 (br_n (by omega) ⟨by omega,by omega,by omega,by omega,by omega,?_⟩)
   rw[shl_one m1 m2,Int.toNat_natCast]
   have hb2:=get_push_self H1 (.cells (List.toArray (reps l [Value.int .i64 0])) 3)
   have e2:Ext H1 (H1.push (.cells (List.toArray (reps l [Value.int .i64 0])) 3)):=Ext.push _ _
   have out2:FS H.size (H1.push (.cells (List.toArray (reps l [Value.int .i64 0])) 3)) (some ⟨H1.size,0,none⟩) l l 3 1 (ints (List.replicate l 0)):=zeros_FS e1.size hb2
   have hsz2:(H1.push (.cells (List.toArray (reps l [Value.int .i64 0])) 3)).size=H1.size+1:=by simp
   generalize H1.push (.cells (List.toArray (reps l [Value.int .i64 0])) 3)=H2 at e2 out2 hsz2
   -- the leaves' symbols do not lie in 'out'
   have a2:All (· =H1.size) H2 xs (leavesM cs):=by
    refine⟨a1.1,fun i x y hx hy=>?_⟩
    obtain⟨u1,q1,l1,c1,u2,u3,_⟩:=a1.2 i x y hx hy
    refine⟨u1,q1,l1,c1,u2,u3.ext e2,fun b hb hh=>?_⟩
    obtain⟨k',n',_,_,hy'⟩:=leavesFrom_mem (List.mem_of_getElem? hy)
    rcases u3.at_ with h0|⟨blk,cs',hq,hg,_⟩
    ·have:=u3.len;rw[h0,ints_len,hy'] at this;simp at this
    ·rw[hq] at hb;cases hb
     have:=lt_of_get hg;omega
   have f2:=f1.ext e2
   refine br_dec (fun hmany=>hbad H2 (e1.trans e2) fun ok=>by have:=ok.few;omega) (fun hfew=>?_)
   have ok:OkL cs most:=⟨m1,m2,by omega,rg,by omega⟩
   refine br_eq (fun hk1=>?_) (fun hk1=>?_)
   ·have hk1:k=1:=by omega
    obtain⟨y,hy⟩: ∃y,leavesM cs=[y]:=List.length_eq_one_iff.1 (by omega)
    obtain⟨x,hx⟩: ∃x,xs=[x]:=List.length_eq_one_iff.1 (by have:=a1.1;omega)
    obtain⟨_,q1,l1,c1,xv,s1,_⟩:=a2.2 0 x y (by rw[hx];rfl) (by rw[hy];rfl)
    obtain⟨k0,n0,h1,h2,h3⟩:=leavesFrom_mem (i:=0) (cs:=cs) (x:=y) (by show y∈leavesM cs;rw[hy];simp)
    have hk0:=(List.getElem?_eq_some_iff.1 h1).1
    rw[Nat.zero_add] at h3
    have hs0:y.s=[(k0:Int)]:=by rw[h3]
    rw[hs0] at s1
    have hl1:l1=1:=by have:=s1.len;simpa[ints] using this.symm
    obtain⟨_,gv⟩:=flat_get (xs:=xs) (i:=0) (x:=x) (by rw[hx];rfl)
    obtain⟨blk,hq,cv⟩:=f2.rs.cell gv
    obtain⟨blk1,hq1,cv1⟩:=s1.cell (i:=0) (v:= .int .i64 k0) rfl
    rw[xv] at cv
    refine⟨_,hq,by omega,by omega,q1,l1,c1,by simpa using cv,_,hq1,by omega,by omega,k0,by simpa using cv1,_,rfl,by omega,by omega,?_⟩
    simp only[add_none,Nat.zero_add,Nat.mul_one,Int.toNat_natCast]
    refine out2.set (by rw[ints_len];simp;omega) rfl fun H3 f3 hk3 hs3=>?_
    refine hgood ok H3 H1.size ?_ fun b o hb=>hk3 b o ((e1.trans e2) b o hb) (by have:=lt_of_get hb;have:=e1.size;omega)
    have:lenM cs most.toNat=(List.replicate l 0).set k0 1:=by
     unfold lenM
     rw[if_pos (by omega),hy]
     simp[hs0,hcl]
    rw[this,←ints_set]
    exact f3
   ·have hls:PkB (leavesM cs) 1099511627776 1:=fun x hx=>by
     obtain⟨k0,n0,h1,h2,h3⟩:=leavesFrom_mem hx
     have:=rg n0 (List.mem_of_getElem? h1)
     rw[h3];simp;omega
    refine sort_row cmp23 f2 a2 (by omega) (fun x hx=>by have:=hls x hx;omega) fun H3 r3 hk3=>⟨rfl,?_⟩
    have e3:Ext H H3:=fun b o hb=>by
     refine hk3 b o ((e1.trans e2) b o hb) fun hq=>?_
     have hlt:=lt_of_get hb
     rcases f2.at_ with ⟨h1,_⟩|⟨blk,cs',h1,h2,_⟩
     ·rw[h1] at hq;cases hq
     ·rw[h1] at hq;cases hq;omega
    have out3:FS H.size H3 (some ⟨H1.size,0,none⟩) l l 3 1 (ints (List.replicate l 0)):=out2.keep fun b cs' hb hg=>by
     refine hk3 b _ hg fun hq=>?_
     cases hb
     rcases f2.at_ with ⟨h1,_⟩|⟨blk,cs2,h1,h2,h3',_⟩
     ·rw[h1] at hq;cases hq
     ·rw[h1] at hq;cases hq;rw[hg] at h3';cases h3'
    have h13:H1.size<H3.size:=by
     rcases out3.at_ with ⟨h1,_⟩|⟨blk,cs2,h1,h2,h3',_⟩
     ·cases h1
     ·cases h1;exact lt_of_get h3'
    have hsl':(ssort (leavesM cs)).length=k:=by rw[ssort_len,hkL]
    have hss:PkB (ssort (leavesM cs)) 1099511627776 1:=fun x hx=>hls x ((ssort_perm _).mem_iff.1 hx)
    generalize hLS:ssort (leavesM cs)=LS at r3 hsl' hss
    have hmt:(most.toNat:Int)=most:=by omega
    have pow16: ∀t:Nat,t≤16→(2:Int)^t≤65536∧2^t≤65536:=fun t ht=>by
     have h1:2^t≤2^16:=Nat.pow_le_pow_right (by omega) ht
     have h2:((2^t:Nat):Int)=(2:Int)^t:=by simp
     have h3:(2:Nat)^16=65536:=rfl
     omega
    intro Y hY
    have rows: ∀(m t:Nat) (H4:Heap) (q4:Option Addr) (l4 c4:Nat),most.toNat-t=m→t≤most.toNat→Ext H3 H4→Row (· =H1.size) H4 q4 l4 (rowM LS t)→l4≤c4→Y [.slice q4 l4 c4,.int .i64 t] H4:=by
     intro m
     induction m with
     |succ m ihr=>
      intro t H4 q4 l4 c4 hm4 ht e4 r4 hlc
      have wt:IntKind.wrap .i64 ((t:Int)+1)=((t+1:Nat):Int):=by rw[wrap_id (by omega) (by omega)];omega
      have hl4:=r4.len
      have hle4:=rowM_len_le LS t
      have hpb:=rowM_bnd hss t
      have hp16:=pow16 t (by omega)
      have sz4:=e4.size
      refine hY q4 l4 c4 _ H4 (br_y (by omega) ?_)
      rw[wt]
      refine c114 r4 (fun b hb=>by omega) (by omega) (fun x hx=>by have:=hpb x hx;generalize (2:Int)^t=y at*;generalize 2^t=z at*;omega) fun H5 q5 l5 c5 r5 e5=>⟨q5,l5,c5,rfl,?_⟩
      have hl5:=r5.len
      rw[pairsM_len] at hl5
      have r3':Row (· =H1.size) H5 q k LS:=r3.ext (e4.trans e5)
      refine c113 r3' r5 (by omega) (fun x hx=>?_) fun H6 q6 c6 r6 hc6 e6=>⟨q6,k+l5,c6,rfl,?_⟩
      ·rcases List.mem_append.1 hx with hx|hx
       ·have:=hss x hx;omega
       ·obtain⟨a,ha,b,hb,rfl⟩:=pairsM_mem hx
        have u1:=hpb a ha
        have u2:=hpb b hb
        simp only[List.length_append]
        generalize (2:Int)^t=y at*
        generalize 2^t=z at*
        omega
      ·exact ihr (t+1) H6 q6 (k+l5) c6 (by omega) (by omega) (e4.trans (e5.trans e6)) r6 hc6
     |zero=>
      intro t H4 q4 l4 c4 hm4 ht e4 r4 hlc
      have htm:t=most.toNat:=by omega
      subst htm
      have hl4:=r4.len
      have hle4:=rowM_len_le LS most.toNat
      have few':LS.length≤2^most.toNat:=by omega
      have hge:=rowM_whole (m:=most.toNat) (by omega) few'
      refine hY q4 l4 c4 _ H4 (br_n (by omega) ?_)
      have w2k:IntKind.wrap .i64 ((2:Int)*((k:Nat):Int))=2*(k:Int):=wrap_id (by omega) (by omega)
      have w2k2:IntKind.wrap .i64 (2*(k:Int)-2)=2*(k:Int)-2:=wrap_id (by omega) (by omega)
      have hmx:max (0:Int) (2*(k:Int)-2)=((2*k-2:Nat):Int):=by omega
      rw[w2k,w2k2,hmx]
      simp only[Int.toNat_natCast,Nat.sub_zero]
      refine⟨by omega,by omega,?_⟩
      generalize hROW:rowM LS most.toNat=ROW at r4 hl4 hge hle4
      have hsym: ∀x∈ROW,(∀s∈x.s,0≤s∧s<(l:Int))∧x.s.length≤65536:=fun x hx=>by
       rw[←hROW] at hx
       refine⟨rowM_syms (N:=(l:Int)) (fun y hy s hs=>?_) _ x hx,?_⟩
       ·rw[←hLS] at hy
        obtain⟨k0,n0,h1,h2,h3⟩:=leavesFrom_mem ((ssort_perm _).mem_iff.1 hy)
        have hk0:=(List.getElem?_eq_some_iff.1 h1).1
        rw[h3] at hs;simp at hs;omega
       ·have h1:=(rowM_bnd hss _ x hx).2.2
        have h2:=(pow16 most.toNat (by omega)).2
        omega
      obtain⟨zs,rz,az⟩:=r4.ex
      have hzl:zs.length=l4:=by have:=rz.len;rw[flat_len] at this;omega
      intro Z hZ
      have items: ∀(m t:Nat) (H5:Heap) (o:List Int),2*k-2-t=m→t≤2*k-2→Ext H H5→RS H5 q4 l4 165 2 (flat zs)→All (· =H1.size) H5 zs ROW→FS H.size H5 (some ⟨H1.size,0,none⟩) l l 3 1 (ints o)→o=((ROW.take t).flatMap (·.s)).foldl bump (List.replicate l 0)→(∀v∈o,0≤v∧v≤(t:Int)*65536)→Z [.int .i64 t] H5:=by
       intro m
       induction m with
       |zero=>
        intro t H5 o hm5 ht5 e5 r5 a5 f5 ho hr5
        refine hZ _ H5 (br_n (by omega) ?_)
        refine hgood ok H5 H1.size ?_ e5
        have:lenM cs most.toNat=o:=by
         unfold lenM
         rw[if_neg (by omega),hLS,hROW,hcl,ho,hkL]
         have:t=2*k-2:=by omega
         rw[this]
        rw[this]
        exact f5
       |succ m ihi=>
        intro t H5 o hm5 ht5 e5 r5 a5 f5 ho hr5
        have wt:IntKind.wrap .i64 ((t:Int)+1)=((t+1:Nat):Int):=by rw[wrap_id (by omega) (by omega)];omega
        obtain⟨x,hx⟩: ∃x,zs[t]?=some x:=⟨_,List.getElem?_eq_getElem (by omega)⟩
        have htR:t<ROW.length:=by omega
        have hy:ROW[t]?=some ROW[t]:=List.getElem?_eq_getElem htR
        have htakeR:ROW.take (t+1)=ROW.take t++[ROW[t]]:=List.take_succ_eq_append_getElem htR
        have hyS:=hsym _ (List.getElem_mem htR)
        generalize ROW[t]=y at hy htakeR hyS
        obtain⟨g1,g2⟩:=flat_get hx
        have hcells: ∀(j:Nat) v,x.cells[j]?=some v→(flat zs)[t*2+j]?=some v:=fun j v hv=>by
         match j,hv with
         |0,hv=>simp[It.cells] at hv;subst hv;exact g1
         |1,hv=>simp[It.cells] at hv;subst hv;exact g2
         |j+2,hv=>simp[It.cells] at hv
        obtain⟨blk,hq,hrow⟩:=r5.row (i:=t) (by omega) (by decide) hcells
        have hc4:c4≠0:=by omega
        refine hZ _ H5 (br_y (by omega) ?_)
        rw[wt]
        simp only[hc4,if_false,hq,Option.map_some,Nat.zero_mul]
        refine⟨_,rfl,by omega,by omega,x.cells,rfl,by simpa using hrow,rfl,?_⟩
        have hnew:=get_push_self H5 (.cells #[Value.int .i64 0,Value.slice none 0 0] 165)
        have e6:Ext H5 (H5.push (.cells #[Value.int .i64 0,Value.slice none 0 0] 165)):=Ext.push _ _
        have hxv:x.v.oneCell'=true:=r5.one _ (List.mem_of_getElem? g2)
        refine stAt_whole hnew rfl (by intro v hv;simp[It.cells] at hv;rcases hv with rfl|rfl<;>first|rfl|exact hxv) ?_
        have e7:Ext H5 ((H5.push (.cells #[Value.int .i64 0,Value.slice none 0 0] 165)).setIfInBounds H5.size (.cells x.cells.toList.toArray 165 (0,0))):=fun b o hb=>get_set_ne (Nat.ne_of_gt (lt_of_get hb)) (e6 _ _ hb)
        have hcp:=get_set_self (o:=Obj.cells x.cells.toList.toArray 165 (0,0)) hnew
        generalize (H5.push (.cells #[Value.int .i64 0,Value.slice none 0 0] 165)).setIfInBounds H5.size (.cells x.cells.toList.toArray 165 (0,0))=H7 at e7 hcp
        obtain⟨_,q8,l8,c8,xv,s8,nq8⟩:=(a5.ext e7).2 t x y hx hy
        have hl8:y.s.length=l8:=by have:=s8.len;rw[ints_len] at this;omega
        refine⟨q8,l8,c8,by rw[add_none];exact cell_get hcp (by simp[It.cells,xv]),?_⟩
        intro V hV
        have syms: ∀(m u:Nat) (H8:Heap) (o8:List Int),l8-u=m→u≤l8→Ext H H8→RS H8 q4 l4 165 2 (flat zs)→All (· =H1.size) H8 zs ROW→RS H8 q8 l8 3 1 (ints y.s)→FS H.size H8 (some ⟨H1.size,0,none⟩) l l 3 1 (ints o8)→o8=(y.s.take u).foldl bump o→(∀v∈o8,0≤v∧v≤(t:Int)*65536+u)→V [.int .i64 u] H8:=by
         intro m
         induction m with
         |zero=>
          intro u H8 o8 hm8 hu e8 r8 a8 s8 f8 ho8 hr8
          refine hV _ H8 (br_n (by omega) ?_)
          refine ihi (t+1) H8 o8 (by omega) (by omega) e8 r8 a8 f8 ?_ fun v hv=>?_
          ·rw[ho8,htakeR,List.flatMap_append,List.foldl_append,←ho,List.take_of_length_le (by omega)]
           simp
          ·have:=hr8 v hv
           have:=hyS.2
           omega
         |succ m ihs=>
          intro u H8 o8 hm8 hu e8 r8 a8 s8 f8 ho8 hr8
          have wu:IntKind.wrap .i64 ((u:Int)+1)=((u+1:Nat):Int):=by rw[wrap_id (by omega) (by have:=hyS.2;omega)];omega
          have hul:u<y.s.length:=by omega
          have hz:y.s[u]?=some y.s[u]:=List.getElem?_eq_getElem hul
          have hzr:=hyS.1 _ (List.getElem_mem hul)
          have htakeU:y.s.take (u+1)=y.s.take u++[y.s[u]]:=List.take_succ_eq_append_getElem hul
          generalize y.s[u]=z at hz hzr htakeU
          obtain⟨bz,hqz,cz⟩:=s8.cell (ints_get hz)
          have ho8l:o8.length=l:=by have:=f8.len;rw[ints_len] at this;omega
          have hzo:o8[z.toNat]?=some o8[z.toNat]:=List.getElem?_eq_getElem (by omega)
          have hzor:=hr8 _ (List.mem_of_getElem? hzo)
          obtain⟨bo,hbo,co⟩:=f8.rs.cell (ints_get hzo)
          cases hbo
          have hget:o8.getD z.toNat 0=o8[z.toNat]:=by rw[List.getD_eq_getElem?_getD,hzo];rfl
          have hul2:(u:Int)≤65536:=by have:=hyS.2;omega
          have htb:(t:Int)*65536≤100000000:=by omega
          have wv:IntKind.wrap .i64 (o8[z.toNat]+1)=o8[z.toNat]+1:=wrap_id (by omega) (by omega)
          refine hV _ H8 (br_y (by omega) ⟨_,hqz,by omega,by omega,z,by simpa using cz,_,rfl,hzr.1,hzr.2,o8[z.toNat],by simpa using co,_,rfl,hzr.1,hzr.2,?_⟩)
          rw[wu,wv]
          simp only[add_none,Nat.zero_add,Nat.mul_one]
          refine f8.set (by rw[ints_len];omega) rfl fun H9 f9 hk9 hs9=>?_
          rw[ints_set] at f9
          refine ihs (u+1) H9 _ (by omega) (by omega) (fun b o' hb=>hk9 b o' (e8 b o' hb) (by have:=lt_of_get hb;have:=e1.size;omega)) (r8.keep fun b cs' hb hg=>hk9 b _ hg fun hh=>?_) (a8.keep fun b cs' hb hg=>hk9 b _ hg hb) (s8.keep fun b cs' hb hg=>hk9 b _ hg (nq8 b hb)) f9 ?_ ?_
          ·rcases f8.at_ with ⟨h1,_⟩|⟨blk',cs2,h1,h2,h3',_⟩
           ·cases h1
           ·cases h1;rw[hh] at hg;rw[hg] at h3';cases h3'
          ·rw[htakeU,List.foldl_append,←ho8]
           show o8.set z.toNat (o8[z.toNat]+1)=bump o8 z
           unfold bump
           rw[hget]
          ·intro v hv
           rcases List.mem_or_eq_of_mem_set hv with hv|rfl
           ·have:=hr8 v hv;omega
           ·omega
        exact syms _ 0 H7 o rfl (by omega) (e5.trans e7) (r5.ext e7) (a5.ext e7) s8 (f5.ext e7) (by simp) (fun v hv=>by have:=hr5 v hv;omega)
      exact items _ 0 H4 _ rfl (by omega) (e3.trans e4) rz az (out3.ext e4) (by simp) (fun v hv=>by have:=(List.mem_replicate.1 hv).2;omega)
    exact rows _ 0 H3 none 0 0 rfl (by omega) (Ext.refl _) ⟨[],RS.nil _ _ _ _,⟨rfl,fun i x y hx=>by simp at hx⟩⟩ (Nat.le_refl _)
 exact loop l 0 H none 0 0 [] rfl (by omega) (Ext.refl _) (FS.nil _ _ _ _) ⟨by simp[leavesM,leavesFrom],fun i x y hx=>by simp at hx⟩ (fun n hn=>by simp at hn)
end Go.Proofs
namespace Go.Proofs
open Go.Sh
def mrg:List (Pk×Nat)→List (Pk×Nat)→List (Pk×Nat)
 |[],b=>b
 |a,[]=>a
 |x::a,y::b=>if x.1.c≤y.1.c then x::mrg a (y::b) else y::mrg (x::a) b
 termination_by a b=>a.length+b.length
theorem mrg_nil(a:List (Pk×Nat)):mrg a []=a:=by cases a<;>simp[mrg]
theorem mrg_cons(x y:Pk×Nat)(a b:List (Pk×Nat)):mrg (x::a) (y::b)=if x.1.c≤y.1.c then x::mrg a (y::b) else y::mrg (x::a) b:=by rw[mrg]
theorem mrg_take: ∀(s:Nat) (a b:List (Pk×Nat)),a.length+b.length≤s→ ∀q,q≤a.length+b.length→ ∃x y,x≤a.length∧y≤b.length∧x+y=q∧((mrg a b).take q).Perm (a.take x++b.take y)∧((mrg a b).drop q).Perm (a.drop x++b.drop y):=by
 intro s
 induction s with
 |zero=>
  intro a b hs q hq
  have ha:a=[]:=List.length_eq_zero_iff.1 (by omega)
  have hb:b=[]:=List.length_eq_zero_iff.1 (by omega)
  subst ha hb
  exact⟨0,0,by omega,by omega,by simp at hq;omega,by simp[mrg],by simp[mrg]⟩
 |succ s ih=>
  intro a b hs q hq
  match a,b with
  |[],b=>exact⟨0,q,by omega,by simpa using hq,by omega,by simp[mrg],by simp[mrg]⟩
  |x::a,[]=>exact⟨q,0,by simpa using hq,by omega,by omega,by rw[mrg_nil];simp,by rw[mrg_nil];simp⟩
  |x::a,y::b=>
   rw[mrg_cons]
   simp only[List.length_cons] at hs hq
   split
   ·cases q with
    |zero=>
     obtain⟨x',y',h1,h2,h3,h4,h5⟩:=ih a (y::b) (by simp;omega) 0 (by omega)
     have hx:x'=0:=by omega
     have hy:y'=0:=by omega
     subst hx hy
     refine⟨0,0,by omega,by omega,by omega,by simp,?_⟩
     simp only[List.drop_zero] at h5 ⊢
     exact h5.cons x
    |succ q=>
     obtain⟨x',y',h1,h2,h3,h4,h5⟩:=ih a (y::b) (by simp;omega) q (by simp;omega)
     refine⟨x'+1,y',by simp;omega,h2,by omega,?_,?_⟩
     ·simp only[List.take_succ_cons,List.cons_append];exact h4.cons x
     ·simp only[List.drop_succ_cons];exact h5
   ·cases q with
    |zero=>
     obtain⟨x',y',h1,h2,h3,h4,h5⟩:=ih (x::a) b (by simp;omega) 0 (by omega)
     have hx:x'=0:=by omega
     have hy:y'=0:=by omega
     subst hx hy
     refine⟨0,0,by omega,by omega,by omega,by simp,?_⟩
     simp only[List.drop_zero] at h5 ⊢
     exact(h5.cons y).trans List.perm_middle.symm
    |succ q=>
     obtain⟨x',y',h1,h2,h3,h4,h5⟩:=ih (x::a) b (by simp;omega) q (by simp;omega)
     refine⟨x',y'+1,h1,by simp;omega,by omega,?_,?_⟩
     ·simp only[List.take_succ_cons];exact(h4.cons y).trans List.perm_middle.symm
     ·simp only[List.drop_succ_cons];exact h5
theorem mrg_perm(a b:List (Pk×Nat)):(mrg a b).Perm (a++b):=by
 obtain⟨x,y,h1,h2,h3,h4,h5⟩:=mrg_take _ a b (Nat.le_refl _) 0 (by omega)
 have hx:x=0:=by omega
 have hy:y=0:=by omega
 subst hx hy
 simpa using h5
theorem mrg_sorted: ∀(s:Nat) (a b:List (Pk×Nat)),a.length+b.length≤s→a.Pairwise LexT→b.Pairwise LexT→(∀u∈a,∀v∈b,u.2<v.2)→(mrg a b).Pairwise LexT:=by
 intro s
 induction s with
 |zero=>
  intro a b hs _ _ _
  have ha:a=[]:=List.length_eq_zero_iff.1 (by omega)
  have hb:b=[]:=List.length_eq_zero_iff.1 (by omega)
  subst ha hb;simp[mrg]
 |succ s ih=>
  intro a b hs ha hb hab
  match a,b with
  |[],b=>simpa[mrg] using hb
  |x::a,[]=>rw[mrg_nil];exact ha
  |x::a,y::b=>
   simp only[List.length_cons] at hs
   have ha':=List.pairwise_cons.1 ha
   have hb':=List.pairwise_cons.1 hb
   have hxy:=hab x List.mem_cons_self y List.mem_cons_self
   rw[mrg_cons]
   split
   ·rename_i hle
    have hlex:LexT x y:=by unfold LexT;omega
    refine List.pairwise_cons.2 ⟨fun z hz=>?_,ih a (y::b) (by simp;omega) ha'.2 hb fun u hu v hv=>hab u (List.mem_cons_of_mem _ hu) v hv⟩
    rcases List.mem_append.1 ((mrg_perm _ _).mem_iff.1 hz) with hz|hz
    ·exact ha'.1 z hz
    ·rcases List.mem_cons.1 hz with rfl|hz
     ·exact hlex
     ·have:=hb'.1 z hz
      unfold LexT at*;omega
   ·rename_i hle
    have hlex:LexT y x:=by left;omega
    refine List.pairwise_cons.2 ⟨fun z hz=>?_,ih (x::a) b (by simp;omega) ha hb'.2 fun u hu v hv=>hab u hu v (List.mem_cons_of_mem _ hv)⟩
    rcases List.mem_append.1 ((mrg_perm _ _).mem_iff.1 hz) with hz|hz
    ·rcases List.mem_cons.1 hz with rfl|hz
     ·exact hlex
     ·have:=ha'.1 z hz
      unfold LexT at*;omega
    ·exact hb'.1 z hz
def SortedC(L:List Pk):Prop:=L.Pairwise fun a b=>a.c≤b.c
theorem zip_lex{L:List Pk}(h:SortedC L)(i:Nat):(L.zipIdx i).Pairwise LexT:=by
 induction L generalizing i with
 |nil=>simp
 |cons x r ih=>
  have h':=List.pairwise_cons.1 h
  rw[List.zipIdx_cons]
  refine List.pairwise_cons.2 ⟨fun z hz=>?_,ih h'.2 (i+1)⟩
  have h1:=List.mem_zipIdx hz
  have h2:=h'.1 z.1 (by
   have:=List.fst_mem_of_mem_zipIdx hz
   exact this)
  unfold LexT
  show x.c<z.1.c∨(x.c=z.1.c∧i<z.2)
  omega
theorem ssort_merge{A B:List Pk}(hA:SortedC A)(hB:SortedC B):ssort (A++B)=(mrg A.zipIdx (B.zipIdx A.length)).map (·.1):=by
 unfold ssort
 congr 1
 refine perm_unique LexT.asymm ?_ (sortT_sorted (zipIdx_tags _)) (mrg_sorted _ _ _ (Nat.le_refl _) (zip_lex hA 0) (zip_lex hB _) fun u hu v hv=>?_)
 ·refine(sortT_perm _).trans ?_
  rw[List.zipIdx_append]
  simpa using(mrg_perm A.zipIdx (B.zipIdx A.length)).symm
 ·have h1:=List.mem_zipIdx hu
  have h2:=List.mem_zipIdx hv
  omega
theorem ssort_sorted(L:List Pk):SortedC (ssort L):=by
 unfold ssort SortedC
 rw[List.pairwise_map]
 exact(sortT_sorted (zipIdx_tags L)).imp fun h=>by unfold LexT at h;omega
theorem merge_take{A B:List Pk}(hA:SortedC A)(hB:SortedC B){q:Nat}(hq:q≤A.length+B.length):
 ∃x y,x≤A.length∧y≤B.length∧x+y=q∧((ssort (A++B)).take q).Perm (A.take x++B.take y)∧ ∀u∈A.take x++B.take y,∀v∈A.drop x++B.drop y,u.c≤v.c:=by
 obtain⟨x,y,h1,h2,h3,h4,h5⟩:=mrg_take _ A.zipIdx (B.zipIdx A.length) (Nat.le_refl _) q (by simpa using hq)
 simp only[List.length_zipIdx] at h1 h2
 have e:=ssort_merge hA hB
 have t1:((A.zipIdx.take x).map (·.1))=A.take x:=by rw[List.map_take,List.zipIdx_map_fst]
 have t2:(((B.zipIdx A.length).take y).map (·.1))=B.take y:=by rw[List.map_take,List.zipIdx_map_fst]
 have t3:((A.zipIdx.drop x).map (·.1))=A.drop x:=by rw[List.map_drop,List.zipIdx_map_fst]
 have t4:(((B.zipIdx A.length).drop y).map (·.1))=B.drop y:=by rw[List.map_drop,List.zipIdx_map_fst]
 have p1:((ssort (A++B)).take q).Perm (A.take x++B.take y):=by
  rw[e,←List.map_take]
  have:=h4.map (·.1)
  rwa [List.map_append,t1,t2] at this
 have p2:((ssort (A++B)).drop q).Perm (A.drop x++B.drop y):=by
  rw[e,←List.map_drop]
  have:=h5.map (·.1)
  rwa [List.map_append,t3,t4] at this
 refine⟨x,y,h1,h2,h3,p1,fun u hu v hv=>?_⟩
 have hs:=ssort_sorted (A++B)
 unfold SortedC at hs
 rw[←List.take_append_drop q (ssort (A++B)),List.pairwise_append] at hs
 exact hs.2.2 u (p1.mem_iff.2 hu) v (p2.mem_iff.2 hv)
theorem pairsM_sorted: ∀{L:List Pk},SortedC L→SortedC (pairsM L)
 |[],_=>List.Pairwise.nil
 |[a],_=>by simp[pairsM,SortedC]
 |a::b::r,h=>by
  have h1:=List.pairwise_cons.1 h
  have h2:=List.pairwise_cons.1 h1.2
  simp only[pairsM]
  refine List.pairwise_cons.2 ⟨fun z hz=>?_,pairsM_sorted h2.2⟩
  obtain⟨u,hu,v,hv,rfl⟩:=pairsM_mem hz
  have:=h1.1 u (List.mem_cons_of_mem _ hu)
  have:=h2.1 v hv
  show a.c+b.c≤u.c+v.c
  omega
theorem rowM_sorted(ls:List Pk): ∀k,SortedC (rowM ls k)
 |0=>List.Pairwise.nil
 |k+1=>ssort_sorted _
theorem pairsM_take: ∀(y:Nat) (L:List Pk),2*y≤L.length→(pairsM L).take y=pairsM (L.take (2*y))
 |0,L,_=>by simp[pairsM]
 |y+1,a::b::r,h=>by
  have e:2*(y+1)=2*y+1+1:=by omega
  rw[e,List.take_succ_cons,List.take_succ_cons]
  simp only[pairsM,List.take_succ_cons]
  rw[pairsM_take y r (by simp at h;omega)]
 |y+1,[a],h=>by simp at h;omega
 |y+1,[],h=>by simp at h
theorem pairsM_syms: ∀(y:Nat) (M:List Pk),M.length=2*y→(pairsM M).flatMap (·.s)=M.flatMap (·.s)∧((pairsM M).map (·.c)).sum=(M.map (·.c)).sum
 |0,M,h=>by
  have:M=[]:=List.length_eq_zero_iff.1 (by omega)
  subst this;simp[pairsM]
 |y+1,a::b::r,h=>by
  obtain⟨h1,h2⟩:=pairsM_syms y r (by simp at h;omega)
  simp only[pairsM,List.flatMap_cons,List.map_cons,List.sum_cons]
  rw[h1,h2]
  refine⟨by simp,by omega⟩
 |y+1,[a],h=>by simp at h;omega
 |y+1,[],h=>by simp at h
theorem pairsM_over: ∀(y:Nat) (M:List Pk),M.length=2*y→(∀x∈M,0<x.c)→ ∀z∈M,∃u∈pairsM M,z.c<u.c
 |0,M,h,_,z,hz=>by
  have:M=[]:=List.length_eq_zero_iff.1 (by omega)
  subst this;simp at hz
 |y+1,a::b::r,h,hp,z,hz=>by
  have ha:=hp a List.mem_cons_self
  have hb:=hp b (by simp)
  simp only[pairsM]
  rcases List.mem_cons.1 hz with rfl|hz
  ·exact⟨_,List.mem_cons_self,by show z.c<z.c+b.c;omega⟩
  ·rcases List.mem_cons.1 hz with rfl|hz
   ·exact⟨_,List.mem_cons_self,by show z.c<a.c+z.c;omega⟩
   ·obtain⟨u,hu,hlt⟩:=pairsM_over y r (by simp at h;omega) (fun x hx=>hp x (by simp[hx])) z hz
    exact⟨u,List.mem_cons_of_mem _ hu,hlt⟩
 |y+1,[a],h,_,_,_=>by simp at h;omega
 |y+1,[],h,_,_,_=>by simp at h
theorem rowM_pos{ls:List Pk}(h: ∀x∈ls,0<x.c): ∀k,∀x∈rowM ls k,0<x.c
 |0,x,hx=>by simp[rowM] at hx
 |k+1,x,hx=>by
  rcases rowM_mem hx with hx|hx
  ·exact h x hx
  ·obtain⟨a,ha,b,hb,rfl⟩:=pairsM_mem hx
   have:=rowM_pos h k a ha
   have:=rowM_pos h k b hb
   show 0<a.c+b.c
   omega
def wsum:List Nat→Nat
 |[]=>0
 |x::r=>x*2^r.length+wsum r
def csum(L:List Pk):Int:=(L.map (·.c)).sum
structure Sel(LS:List Pk)(k q:Nat)(X:List Nat):Prop where
 len:X.length=k
 le: ∀x∈X,x≤LS.length
 dec:X.Pairwise (· ≥ ·)
 sym:(((rowM LS k).take q).flatMap (·.s)).Perm (X.flatMap fun x=>(LS.take x).flatMap (·.s))
 cost:csum ((rowM LS k).take q)=(X.map fun x=>csum (LS.take x)).sum
 wid:wsum X*2=q*2^k
 hd: ∀x r,X=x::r→ ∀z∈LS.take x,z∈(rowM LS k).take q
theorem csum_append(a b:List Pk):csum (a++b)=csum a+csum b:=by
 unfold csum
 rw[List.map_append]
 induction a with
 |nil=>simp
 |cons x r ih=>simp only[List.map_cons,List.cons_append,List.sum_cons,ih];omega
theorem csum_perm{a b:List Pk}(h:a.Perm b):csum a=csum b:=by
 unfold csum
 induction h with
 |nil=>rfl
 |cons x _ ih=>simp only[List.map_cons,List.sum_cons,ih]
 |swap x y l=>simp only[List.map_cons,List.sum_cons];omega
 |trans _ _ ih1 ih2=>rw[ih1,ih2]
theorem sel_ex{LS:List Pk}(hs:SortedC LS)(hp: ∀x∈LS,0<x.c): ∀(k q:Nat),q≤(rowM LS k).length→ ∃X,Sel LS k q X
 |0,q,hq=>by
  have:q=0:=by simpa[rowM] using hq
  subst this
  exact⟨[],rfl,by simp,List.Pairwise.nil,by simp[rowM],by simp[rowM,csum],by simp[wsum],fun x r h=>by cases h⟩
 |k+1,q,hq=>by
  rw[rowM_len] at hq
  have hB:=pairsM_sorted (rowM_sorted LS k)
  have hBl:=pairsM_len (rowM LS k)
  obtain⟨x,y,h1,h2,h3,h4,h5⟩:=merge_take hs hB (q:=q) (by omega)
  have hy2:2*y≤(rowM LS k).length:=by omega
  obtain⟨X,sel⟩:=sel_ex hs hp k (2*y) hy2
  have htk:=pairsM_take y (rowM LS k) hy2
  have hml:((rowM LS k).take (2*y)).length=2*y:=by simp;omega
  obtain⟨s1,s2⟩:=pairsM_syms y _ hml
  have hle: ∀x'∈X,x'≤x:=by
   match X,sel with
   |[],_=>intro x' hx';simp at hx'
   |x1::r,sel=>
    have hx1:x1≤x:=by
     rcases Nat.lt_or_ge x x1 with h|h
     ·have hn:=sel.le x1 List.mem_cons_self
      have hxl:x<LS.length:=by omega
      have hz:LS[x]∈LS.take x1:=by
       refine List.mem_of_getElem? (i:=x) ?_
       rw[List.getElem?_take_of_lt h,List.getElem?_eq_getElem hxl]
      have hzr:=sel.hd x1 r rfl _ hz
      obtain⟨u,hu,hlt⟩:=pairsM_over y _ hml (fun w hw=>rowM_pos hp k w (List.mem_of_mem_take hw)) _ hzr
      rw[←htk] at hu
      have hd:LS[x]∈LS.drop x:=by
       rw[List.drop_eq_getElem_cons hxl];exact List.mem_cons_self
      have:=h5 u (List.mem_append_right _ hu) _ (List.mem_append_left _ hd)
      omega
     ·exact h
    intro x' hx'
    rcases List.mem_cons.1 hx' with rfl|hx'
    ·exact hx1
    ·have:=(List.pairwise_cons.1 sel.dec).1 x' hx'
     omega
  refine⟨x::X,by simp[sel.len],fun x' hx'=>?_,List.pairwise_cons.2 ⟨hle,sel.dec⟩,?_,?_,?_,fun x0 r0 he z hz=>?_⟩
  ·rcases List.mem_cons.1 hx' with rfl|hx'
   ·exact h1
   ·exact sel.le x' hx'
  ·refine(h4.flatMap_right _).trans ?_
   rw[List.flatMap_append,htk,s1,List.flatMap_cons]
   exact sel.sym.append_left _
  ·show csum ((ssort (LS++pairsM (rowM LS k))).take q)=_
   rw[csum_perm h4,csum_append,htk]
   have:csum (pairsM ((rowM LS k).take (2*y)))=csum ((rowM LS k).take (2*y)):=s2
   rw[this,sel.cost]
   simp
  ·have hw:=sel.wid
   simp only[wsum]
   rw[sel.len,Nat.add_mul,hw,←h3,Nat.pow_succ,Nat.add_mul]
   generalize 2^k=p
   rw[Nat.mul_assoc x,Nat.mul_comm 2 y,Nat.mul_assoc y,Nat.mul_comm 2 p]
  ·cases he
   exact h4.mem_iff.2 (List.mem_append_left _ hz)
end Go.Proofs
namespace Go.Proofs
open Go.Sh
def sy(x:Pk):Int:=x.s.headD 0
theorem leaves_sy{cs:List Int}{x:Pk}(h:x∈leavesM cs): ∃(k:Nat) (n:Int),cs[k]?=some n∧n>0∧x=⟨n,[(k:Int)]⟩:=by
 obtain⟨k,n,h1,h2,h3⟩:=leavesFrom_mem h
 exact⟨k,n,h1,h2,by rw[h3];simp⟩
theorem leavesFrom_has{cs:List Int}{k:Nat}{n:Int}(h:cs[k]?=some n)(hn:n>0): ∀i:Nat,⟨n,[((i+k:Nat):Int)]⟩∈leavesFrom i cs:=by
 induction cs generalizing k with
 |nil=>simp at h
 |cons a r ih=>
  intro i
  cases k with
  |zero=>simp at h;subst h;simp[leavesFrom,hn]
  |succ k=>
   simp only[List.getElem?_cons_succ] at h
   have:=ih h (i+1)
   have e:i+1+k=i+(k+1):=by omega
   rw[e] at this
   exact List.mem_append_right _ this
theorem leavesFrom_up(cs:List Int): ∀i:Nat,(leavesFrom i cs).Pairwise fun a b=>sy a<sy b:=by
 induction cs with
 |nil=>intro i;exact List.Pairwise.nil
 |cons a r ih=>
  intro i
  simp only[leavesFrom]
  split
  ·refine List.pairwise_cons.2 ⟨fun z hz=>?_,ih (i+1)⟩
   obtain⟨k,n,_,_,rfl⟩:=leavesFrom_mem hz
   show(i:Int)<((i+1+k:Nat):Int)
   omega
  ·simpa using ih (i+1)
theorem flat_sy: ∀{L:List Pk},(∀x∈L,x.s=[sy x])→L.flatMap (·.s)=L.map sy
 |[],_=>rfl
 |x::r,h=>by
  rw[List.flatMap_cons,List.map_cons,h x List.mem_cons_self,flat_sy fun z hz=>h z (List.mem_cons_of_mem _ hz)]
  rfl
structure Lv(cs:List Int)(LS:List Pk):Prop where
 one: ∀x∈LS,x.s=[sy x]
 src: ∀x∈LS,∃k:Nat,cs[k]?=some x.c∧x.c>0∧sy x=(k:Int)
 has: ∀(k:Nat) (n:Int),cs[k]?=some n→n>0→ ∃r:Nat,LS[r]?=some ⟨n,[(k:Int)]⟩
 nd:(LS.map sy).Nodup
 srt:SortedC LS
theorem lv_of(cs:List Int):Lv cs (ssort (leavesM cs)):=by
 have hm:=fun x=>(ssort_perm (leavesM cs)).mem_iff (a:=x)
 refine⟨fun x hx=>?_,fun x hx=>?_,fun k n h1 h2=>?_,?_,ssort_sorted _⟩
 ·obtain⟨k,n,_,_,rfl⟩:=leaves_sy ((hm x).1 hx);rfl
 ·obtain⟨k,n,h1,h2,rfl⟩:=leaves_sy ((hm x).1 hx);exact⟨k,h1,h2,rfl⟩
 ·have:=leavesFrom_has h1 h2 0
  rw[Nat.zero_add] at this
  exact List.getElem?_of_mem ((hm _).2 this)
 ·have h1:((leavesM cs).map sy).Nodup:=by
   rw[List.nodup_iff_pairwise_ne,List.pairwise_map]
   exact(leavesFrom_up cs 0).imp fun h=>by omega
  exact(((ssort_perm (leavesM cs)).map sy).nodup_iff).2 h1
theorem foldl_bump_get: ∀(l o:List Int) (i:Nat),i<o.length→(∀s∈l,0≤s)→(l.foldl bump o)[i]?=some (o.getD i 0+(l.count (i:Int):Int))
 |[],o,i,hi,_=>by simp[hi]
 |s::r,o,i,hi,h=>by
  have hs:=h s List.mem_cons_self
  rw[List.foldl_cons,foldl_bump_get r (bump o s) i (by rw[bump_len];exact hi) fun x hx=>h x (List.mem_cons_of_mem _ hx),List.count_cons]
  congr 1
  unfold bump
  rw[List.getD_eq_getElem?_getD,List.getElem?_set]
  by_cases hsi:s.toNat=i
  ·have:s=(i:Int):=by omega
   rw[if_pos hsi,if_pos (by omega)]
   simp[this]
   omega
  ·have: ¬s=(i:Int):=by omega
   rw[if_neg hsi,←List.getD_eq_getElem?_getD]
   simp[this]
def lenAt(X:List Nat)(r:Nat):Nat:=X.countP fun x=>decide (r<x)
theorem lenAt_le(X:List Nat)(r:Nat):lenAt X r≤X.length:=List.countP_le_length
theorem count_take{σ:List Int}(hn:σ.Nodup){r:Nat}{v:Int}(h:σ[r]?=some v)(x:Nat):(σ.take x).count v=if r<x then 1 else 0:=by
 have hnt:(σ.take x).Nodup:=List.Pairwise.sublist (List.take_sublist _ _) hn
 by_cases hr:r<x
 ·rw[if_pos hr]
  have hm:v∈σ.take x:=List.mem_of_getElem? (i:=r) (by rw[List.getElem?_take_of_lt hr];exact h)
  have h1:=List.nodup_iff_count.1 hnt v
  have h2:=List.count_pos_iff.2 hm
  omega
 ·rw[if_neg hr]
  refine List.count_eq_zero.2 fun hm=>?_
  obtain⟨j,hj⟩:=List.getElem?_of_mem hm
  have hjx:=(List.getElem?_eq_some_iff.1 hj).1
  have hjx2:j<x:=by simp at hjx;omega
  rw[List.getElem?_take_of_lt hjx2] at hj
  have:=(List.getElem?_inj (List.getElem?_eq_some_iff.1 hj).1 hn).1 (hj.trans h.symm)
  omega
theorem count_flat{σ:List Int}(hn:σ.Nodup){r:Nat}{v:Int}(h:σ[r]?=some v): ∀X:List Nat,(X.flatMap fun x=>σ.take x).count v=lenAt X r
 |[]=>rfl
 |x::X=>by
  rw[List.flatMap_cons,List.count_append,count_take hn h,count_flat hn h X]
  unfold lenAt
  rw[List.countP_cons]
  by_cases hr:r<x<;>simp[hr]<;>omega
theorem count_flat0{σ:List Int}{v:Int}(h:v∉σ)(X:List Nat):(X.flatMap fun x=>σ.take x).count v=0:=by
 refine List.count_eq_zero.2 fun hm=>?_
 obtain⟨x,_,hx⟩:=List.mem_flatMap.1 hm
 exact h (List.mem_of_mem_take hx)
def kraft(n:Nat)(X:List Nat):Nat:=((List.range n).map fun r=>2^(X.length-lenAt X r)).sum
theorem sum_add{α:Type}(f g:α→Nat): ∀l:List α,(l.map fun x=>f x+g x).sum=(l.map f).sum+(l.map g).sum
 |[]=>rfl
 |x::r=>by simp only[List.map_cons,List.sum_cons,sum_add f g r];omega
theorem sum_above(c x:Nat): ∀n:Nat,x≤n→((List.range n).map fun r=>if r<x then 0 else c).sum=(n-x)*c
 |0,h=>by simp
 |n+1,h=>by
  rw[List.range_succ,List.map_append,List.sum_append]
  by_cases hx:x=n+1
  ·subst hx
   have:((List.range n).map fun r=>if r<n+1 then 0 else c)=(List.range n).map fun _=>0:=List.map_congr_left fun r hr=>by
    have:=List.mem_range.1 hr
    rw[if_pos (by omega)]
   rw[this]
   have z: ∀l:List Nat,(l.map fun _=>0).sum=0:=fun l=>by induction l with
    |nil=>rfl
    |cons a b ih=>simp only[List.map_cons,List.sum_cons,ih]
   rw[z]
   simp
  ·rw[sum_above c x n (by omega)]
   have e:n+1-x=n-x+1:=by omega
   rw[e,Nat.add_mul]
   simp only[List.map_cons,List.map_nil,List.sum_cons,List.sum_nil]
   rw[if_neg (by omega)]
   omega
theorem kraft_eq(n:Nat): ∀X:List Nat,X.Pairwise (· ≥ ·)→(∀x∈X,x≤n)→kraft n X+wsum X=n*2^X.length
 |[],_,_=>by
  simp only[kraft,wsum,lenAt,List.length_nil,List.countP_nil,Nat.sub_zero,Nat.pow_zero]
  have:((List.range n).map fun _=>1).sum=n:=by
   have z: ∀l:List Nat,(l.map fun _=>1).sum=l.length:=fun l=>by induction l with
    |nil=>rfl
    |cons a b ih=>simp only[List.map_cons,List.sum_cons,ih,List.length_cons];omega
   rw[z];simp
  omega
 |x::X,hd,hle=>by
  have hd':=List.pairwise_cons.1 hd
  have ih:=kraft_eq n X hd'.2 fun y hy=>hle y (List.mem_cons_of_mem _ hy)
  have hx:=hle x List.mem_cons_self
  have hk:kraft n (x::X)=kraft n X+(n-x)*2^X.length:=by
   unfold kraft
   rw[←sum_above (2^X.length) x n hx,←sum_add]
   congr 1
   refine List.map_congr_left fun r _=>?_
   have hc:lenAt (x::X) r=lenAt X r+if r<x then 1 else 0:=by
    unfold lenAt;rw[List.countP_cons];by_cases h:r<x<;>simp[h]
   have hl:=lenAt_le X r
   rw[hc,List.length_cons]
   by_cases h:r<x
   ·rw[if_pos h,if_pos h]
    have:X.length+1-(lenAt X r+1)=X.length-lenAt X r:=by omega
    rw[this,Nat.add_zero]
   ·rw[if_neg h,if_neg h]
    have h0:lenAt X r=0:=by
     unfold lenAt
     refine List.countP_eq_zero.2 fun y hy=>?_
     have:=hd'.1 y hy
     simp;omega
    rw[h0,Nat.add_zero,Nat.sub_zero,Nat.sub_zero,Nat.pow_succ]
    omega
  simp only[wsum,List.length_cons]
  rw[hk,Nat.pow_succ]
  generalize 2^X.length=p at*
  have e1:(n-x)*p+x*p=n*p:=by rw[←Nat.add_mul];congr 1;omega
  have e2:n*(p*2)=n*p+n*p:=by rw[←Nat.mul_assoc];omega
  omega
theorem sum_ge_one{v:Nat}: ∀{l:List Nat},(∀x∈l,1≤x)→v∈l→v+l.length≤l.sum+1
 |x::r,h,hm=>by
  have h1:=h x List.mem_cons_self
  have hall:r.length≤r.sum:=by
   have: ∀{l:List Nat},(∀x∈l,1≤x)→l.length≤l.sum:=fun{l}=>by
    induction l with
    |nil=>intro _;simp
    |cons a b ih=>intro hh;have:=hh a List.mem_cons_self;have:=ih fun z hz=>hh z (List.mem_cons_of_mem _ hz);simp;omega
   exact this fun z hz=>h z (List.mem_cons_of_mem _ hz)
  simp only[List.length_cons,List.sum_cons]
  rcases List.mem_cons.1 hm with rfl|hm
  ·omega
  ·have:=sum_ge_one (fun z hz=>h z (List.mem_cons_of_mem _ hz)) hm
   omega
theorem sum_places{N:Nat}{g:Nat→Int}{T:List Nat}(hn:T.Nodup)(hT: ∀t∈T,t<N)(h0: ∀i,i<N→i∉T→g i=0):((List.range N).map g).sum=(T.map g).sum:=by
 have hp:(List.range N).Perm (T++(List.range N).filter fun i=>decide (i∉T)):=by
  refine(List.perm_ext_iff_of_nodup List.nodup_range ?_).2 fun i=>?_
  ·rw[List.nodup_append]
   refine⟨hn,List.Pairwise.filter _ List.nodup_range,fun a ha b hb hab=>?_⟩
   have:=(List.mem_filter.1 hb).2
   simp at this
   exact this (by rw[←hab];exact ha)
  ·rw[List.mem_append,List.mem_filter]
   simp only[List.mem_range,decide_eq_true_eq]
   constructor
   ·intro h
    by_cases hi:i∈T
    ·exact .inl hi
    ·exact .inr ⟨h,hi⟩
   ·rintro(h|h)
    ·exact hT i h
    ·exact h.1
 have sp: ∀{a b:List Int},a.Perm b→a.sum=b.sum:=fun h=>by
  induction h with
  |nil=>rfl
  |cons x _ ih=>simp only[List.sum_cons,ih]
  |swap x y l=>simp only[List.sum_cons];omega
  |trans _ _ ih1 ih2=>rw[ih1,ih2]
 rw[sp (hp.map g),List.map_append,sum_append]
 have:(((List.range N).filter fun i=>decide (i∉T)).map g)=((List.range N).filter fun i=>decide (i∉T)).map fun _=>0:=List.map_congr_left fun i hi=>by
  have:=List.mem_filter.1 hi
  exact h0 i (List.mem_range.1 this.1) (by simpa using this.2)
 rw[this]
 have z: ∀l:List Nat,(l.map fun _=>(0:Int)).sum=0:=fun l=>by induction l with
  |nil=>rfl
  |cons a b ih=>simp only[List.map_cons,List.sum_cons,ih];rfl
 rw[z];omega
structure Two(cs:List Int)(m:Nat)(LS:List Pk)(X:List Nat):Prop where
 sel:Sel LS m (2*LS.length-2) X
 lv:Lv cs LS
 n2:2≤LS.length
 len:(lenM cs m).length=cs.length
 leaf: ∀(r:Nat) x (i:Nat),LS[r]?=some x→sy x=(i:Int)→i<cs.length∧(lenM cs m)[i]?=some (lenAt X r:Int)
 none: ∀i:Nat,i<cs.length→(∀x∈LS,sy x≠(i:Int))→(lenM cs m)[i]?=some 0
 pos: ∀r,r<LS.length→1≤lenAt X r∧lenAt X r≤m
theorem two_of{cs:List Int}{most:Int}(ok:OkL cs most)(h2:2≤(leavesM cs).length): ∃X,Two cs most.toNat (ssort (leavesM cs)) X:=by
 have m1:=ok.m1
 have hlv:=lv_of cs
 have hsl:=ssort_len (leavesM cs)
 have hlenM:lenM cs most.toNat=(((rowM (ssort (leavesM cs)) most.toNat).take (2*(leavesM cs).length-2)).flatMap (·.s)).foldl bump (List.replicate cs.length 0):=by
  unfold lenM;rw[if_neg (by omega)]
 generalize ssort (leavesM cs)=LS at hlv hsl hlenM
 have hpos: ∀x∈LS,0<x.c:=fun x hx=>by obtain⟨k,_,h,_⟩:=hlv.src x hx;exact h
 have hq:=rowM_whole (ls:=LS) (m:=most.toNat) (by omega) (by rw[hsl];exact ok.few)
 obtain⟨X,sel⟩:=sel_ex hlv.srt hpos most.toNat (2*LS.length-2) hq
 rw[hsl.symm] at hlenM
 have hsy: ∀x:Nat,(LS.take x).flatMap (·.s)=(LS.map sy).take x:=fun x=>by
  rw[flat_sy fun z hz=>hlv.one z (List.mem_of_mem_take hz),List.map_take]
 have hfl:(X.flatMap fun x=>(LS.take x).flatMap (·.s))=X.flatMap fun x=>(LS.map sy).take x:=by
  congr 1;funext x;exact hsy x
 have hperm:=sel.sym
 rw[hfl] at hperm
 have hs0: ∀s∈((rowM LS most.toNat).take (2*LS.length-2)).flatMap (·.s),0≤s:=fun s hs=>by
  have:=hperm.mem_iff.1 hs
  obtain⟨x,_,hx⟩:=List.mem_flatMap.1 this
  obtain⟨z,hz,rfl⟩:=List.mem_map.1 (List.mem_of_mem_take hx)
  obtain⟨k,_,_,e⟩:=hlv.src z hz
  omega
 have hget: ∀i:Nat,i<cs.length→(lenM cs most.toNat)[i]?=some (((X.flatMap fun x=>(LS.map sy).take x).count (i:Int):Nat):Int):=fun i hi=>by
  rw[hlenM,foldl_bump_get _ _ i (by simpa using hi) hs0,hperm.count_eq]
  have:(List.replicate cs.length (0:Int)).getD i 0=0:=by rw[List.getD_eq_getElem?_getD,List.getElem?_replicate,if_pos hi];rfl
  rw[this,Int.zero_add]
 have hk:=kraft_eq LS.length X sel.dec sel.le
 have hw:=sel.wid
 rw[sel.len] at hk
 have hkr:kraft LS.length X=2^most.toNat:=by
  generalize 2^most.toNat=p at*
  have e1:wsum X*2=2*(LS.length*p)-2*p:=by rw[hw,Nat.sub_mul,Nat.mul_assoc]
  have e2:2*p≤2*(LS.length*p):=by
   have:1*p≤LS.length*p:=Nat.mul_le_mul_right p (by omega)
   omega
  omega
 refine⟨X,sel,hlv,by omega,?_,fun r x i hr hi=>?_,fun i hi hno=>?_,fun r hr=>⟨?_,?_⟩⟩
 ·rw[hlenM,foldl_bump_len];simp
 ·obtain⟨k,h1,_,h3⟩:=hlv.src x (List.mem_of_getElem? hr)
  have hki:k=i:=by omega
  subst hki
  have hkl:=(List.getElem?_eq_some_iff.1 h1).1
  refine⟨hkl,?_⟩
  rw[hget k hkl,count_flat hlv.nd (r:=r) (by rw[List.getElem?_map,hr,←h3];rfl)]
 ·rw[hget i hi,count_flat0 fun hm=>?_]
  ·rfl
  ·obtain⟨z,hz,he⟩:=List.mem_map.1 hm
   exact hno z hz he
 ·rcases Nat.eq_zero_or_pos (lenAt X r) with h0|h0
  ·have hm:2^(X.length-lenAt X r)∈(List.range LS.length).map fun r=>2^(X.length-lenAt X r):=List.mem_map.2 ⟨r,List.mem_range.2 hr,rfl⟩
   have:=sum_ge_one (fun x hx=>by
    obtain⟨j,_,rfl⟩:=List.mem_map.1 hx
    exact Nat.one_le_two_pow) hm
   rw[h0,Nat.sub_zero,sel.len] at this
   have hkk:((List.range LS.length).map fun r=>2^(X.length-lenAt X r)).sum=2^most.toNat:=hkr
   rw[sel.len] at hkk
   simp only[List.length_map,List.length_range] at this
   omega
  ·exact h0
 ·have:=lenAt_le X r
  rw[sel.len] at this;exact this
theorem wt_nat{t m:Nat}(h1:1≤t)(h2:t≤m)(h3:m≤16):wt (t:Int)=2^(16-m)*((2^(m-t):Nat):Int):=by
 unfold wt
 rw[if_pos (by omega)]
 have e:(16-(t:Int)).toNat=16-m+(m-t):=by omega
 rw[e,Int.pow_add]
 simp
theorem Two.whole{cs:List Int}{m:Nat}{LS:List Pk}{X:List Nat}(t:Two cs m LS X)(hm:m≤16):wtM (lenM cs m)=65536:=by
 have hl:=t.len
 have hmap:(lenM cs m).map wt=(List.range cs.length).map fun i=>wt ((lenM cs m).getD i 0):=by
  apply List.ext_getElem?
  intro i
  by_cases hi:i<cs.length
  ·rw[List.getElem?_map,List.getElem?_map,List.getElem?_range hi]
   simp only[Option.map_some]
   rw[List.getD_eq_getElem?_getD,List.getElem?_eq_getElem (by omega)];rfl
  ·rw[List.getElem?_eq_none_iff.2 (by simp;omega),List.getElem?_eq_none_iff.2 (by simp;omega)]
 unfold wtM
 rw[hmap]
 have hT: ∀x∈LS,∃k:Nat,sy x=(k:Int)∧k<cs.length:=fun x hx=>by
  obtain⟨k,h1,_,h3⟩:=t.lv.src x hx
  exact⟨k,h3,(List.getElem?_eq_some_iff.1 h1).1⟩
 have hnd:(LS.map fun x=>(sy x).toNat).Nodup:=by
  have:=t.lv.nd
  rw[List.nodup_iff_pairwise_ne,List.pairwise_map] at this ⊢
  refine List.Pairwise.imp_of_mem (fun ha hb hab he=>hab ?_) this
  obtain⟨k,h1,_⟩:=hT _ ha
  obtain⟨k',h2,_⟩:=hT _ hb
  omega
 rw[sum_places (T:=LS.map fun x=>(sy x).toNat) hnd (fun i hi=>?_) (fun i hi hni=>?_)]
 ·have hg:((LS.map fun x=>(sy x).toNat).map fun i=>wt ((lenM cs m).getD i 0))=(List.range LS.length).map fun r=>2^(16-m)*((2^(m-lenAt X r):Nat):Int):=by
   apply List.ext_getElem?
   intro r
   by_cases hr:r<LS.length
   ·have hx:LS[r]?=some LS[r]:=List.getElem?_eq_getElem hr
    obtain⟨k,h1,h2⟩:=hT _ (List.mem_of_getElem? hx)
    obtain⟨_,h3⟩:=t.leaf r _ k hx h1
    obtain⟨p1,p2⟩:=t.pos r hr
    rw[List.getElem?_map,List.getElem?_map,hx,List.getElem?_map,List.getElem?_range hr]
    simp only[Option.map_some]
    have e:(sy LS[r]).toNat=k:=by omega
    rw[e,List.getD_eq_getElem?_getD,h3]
    congr 1
    exact wt_nat p1 p2 hm
   ·rw[List.getElem?_eq_none_iff.2 (by simp;omega),List.getElem?_eq_none_iff.2 (by simp;omega)]
  rw[hg]
  have hsum: ∀(c:Int) (f:Nat→Nat) (l:List Nat),(l.map fun r=>c*(f r:Int)).sum=c*(((l.map f).sum:Nat):Int):=fun c f l=>by
   induction l with
   |nil=>simp
   |cons a b ih=>simp only[List.map_cons,List.sum_cons,ih];rw[Int.natCast_add,Int.mul_add]
  rw[hsum]
  have hk:=kraft_eq LS.length X t.sel.dec t.sel.le
  have hw:=t.sel.wid
  rw[t.sel.len] at hk
  have hkr:((List.range LS.length).map fun r=>2^(m-lenAt X r)).sum=2^m:=by
   have hkk:((List.range LS.length).map fun r=>2^(m-lenAt X r)).sum=kraft LS.length X:=by unfold kraft;rw[t.sel.len]
   rw[hkk]
   have n2:=t.n2
   generalize 2^m=p at*
   have e1:wsum X*2=2*(LS.length*p)-2*p:=by rw[hw,Nat.sub_mul,Nat.mul_assoc]
   have e2:2*p≤2*(LS.length*p):=by
    have:1*p≤LS.length*p:=Nat.mul_le_mul_right p (by omega)
    omega
   omega
  rw[hkr]
  have:(2:Int)^(16-m)*((2^m:Nat):Int)=2^(16-m+m):=by rw[Int.pow_add];simp
  rw[this]
  have e:16-m+m=16:=by omega
  rw[e];decide
 ·obtain⟨x,hx,rfl⟩:=List.mem_map.1 hi
  obtain⟨k,h1,h2⟩:=hT x hx
  omega
 ·have:(lenM cs m)[i]?=some 0:=t.none i hi fun x hx he=>hni (List.mem_map.2 ⟨x,hx,by omega⟩)
  show wt ((lenM cs m).getD i 0)=0
  rw[List.getD_eq_getElem?_getD,this]
  rfl
theorem wt_replicate(n:Nat):wtM (List.replicate n 0)=0:=by
 unfold wtM
 induction n with
 |zero=>rfl
 |succ n ih=>rw[List.replicate_succ,List.map_cons,List.sum_cons,ih];rfl
theorem wt_set_le: ∀(n i:Nat),wtM ((List.replicate n 0).set i 1)≤32768
 |0,i=>by simp[wtM]
 |n+1,0=>by
  have:=wt_replicate n
  unfold wtM at*
  rw[List.replicate_succ,List.set_cons_zero,List.map_cons,List.sum_cons,this]
  decide
 |n+1,i+1=>by
  have:=wt_set_le n i
  unfold wtM at*
  rw[List.replicate_succ,List.set_cons_succ,List.map_cons,List.sum_cons]
  have:wt 0=0:=rfl
  omega
theorem lenM_ok{cs:List Int}{most:Int}(ok:OkL cs most):OkC (lenM cs most.toNat)∧(lenM cs most.toNat).length=cs.length:=by
 have m1:=ok.m1
 have m2:=ok.m2
 have l300:=ok.len
 by_cases h2:2≤(leavesM cs).length
 ·obtain⟨X,t⟩:=two_of ok h2
  refine⟨⟨⟨by rw[t.len];omega,fun v hv=>?_⟩,by rw[t.whole (by omega)];omega⟩,t.len⟩
  obtain⟨i,hi⟩:=List.getElem?_of_mem hv
  have hil:=(List.getElem?_eq_some_iff.1 hi).1
  rw[t.len] at hil
  by_cases hx: ∃x∈ssort (leavesM cs),sy x=(i:Int)
  ·obtain⟨x,hx,hs⟩:=hx
   obtain⟨r,hr⟩:=List.getElem?_of_mem hx
   obtain⟨_,h⟩:=t.leaf r x i hr hs
   rw[hi] at h;cases h
   have:=t.pos r (List.getElem?_eq_some_iff.1 hr).1
   omega
  ·have:=t.none i hil fun x hx' hs=>hx ⟨x,hx',hs⟩
   rw[hi] at this;cases this;omega
 ·by_cases h1:(leavesM cs).length=1
  ·have e:lenM cs most.toNat=(List.replicate cs.length 0).set (((leavesM cs).headD default).s.headD 0).toNat 1:=by unfold lenM;rw[if_pos h1]
   rw[e]
   refine⟨⟨⟨by simp;omega,fun v hv=>?_⟩,Int.le_trans (wt_set_le _ _) (by omega)⟩,by simp⟩
   rcases List.mem_or_eq_of_mem_set hv with hv|rfl
   ·have:=(List.mem_replicate.1 hv).2;omega
   ·omega
  ·have h0:(leavesM cs).length=0:=by omega
   have e:lenM cs most.toNat=List.replicate cs.length 0:=by
    unfold lenM
    rw[if_neg h1,h0]
    simp
   rw[e]
   refine⟨⟨⟨by simp;omega,fun v hv=>?_⟩,by rw[wt_replicate];omega⟩,by simp⟩
   have:=(List.mem_replicate.1 hv).2;omega
end Go.Proofs
namespace Go.Proofs
open Go.Sh
def fndM(base:Nat→Nat×Nat)(v:Nat):Nat→Nat
 |0=>0
 |s+1=>if (base (s+1)).1≤v then s+1 else fndM base v s
theorem fndM_ok{base:Nat→Nat×Nat}{v from_:Nat}(hv:(base from_).1≤v): ∀s,from_≤s→from_≤fndM base v s∧fndM base v s≤s∧(base (fndM base v s)).1≤v∧ ∀t,fndM base v s<t→t≤s→v<(base t).1
 |0,h=>by
  have:from_=0:=by omega
  subst this
  rw[fndM]
  exact⟨Nat.le_refl _,Nat.le_refl _,hv,fun t h1 h2=>by omega⟩
 |s+1,h=>by
  rw[fndM]
  split
  ·rename_i hle
   exact⟨h,Nat.le_refl _,hle,fun t h1 h2=>by omega⟩
  ·rename_i hle
   have hne:from_≠s+1:=fun he=>hle (by rw[←he];exact hv)
   obtain⟨h1,h2,h3,h4⟩:=fndM_ok (base:=base) hv s (by omega)
   refine⟨h1,by omega,h3,fun t h5 h6=>?_⟩
   by_cases ht:t=s+1
   ·rw[ht];omega
   ·exact h4 t h5 (by omega)
def lenS(n:Nat):Nat:=if n=258 then 285 else fndM lenB n 284
def dstS(d:Nat):Nat:=fndM dstB d 29
theorem lenS_tab: ∀n:Fin 259,3≤n.val→257≤lenS n.val∧lenS n.val≤285∧(lenB (lenS n.val)).1≤n.val∧n.val-(lenB (lenS n.val)).1<2^(lenB (lenS n.val)).2:=by decide+kernel
theorem lenS_ok{n:Nat}(h:3≤n∧n≤258):257≤lenS n∧lenS n≤285∧(lenB (lenS n)).1≤n∧n-(lenB (lenS n)).1<2^(lenB (lenS n)).2:=lenS_tab ⟨n,by omega⟩ h.1
theorem dst_next: ∀s:Fin 29,(dstB (s.val+1)).1=(dstB s.val).1+2^(dstB s.val).2:=by decide+kernel
theorem dstS_ok{d:Nat}(h:1≤d∧d≤32768):dstS d≤29∧(dstB (dstS d)).1≤d∧d-(dstB (dstS d)).1<2^(dstB (dstS d)).2:=by
 obtain⟨h1,h2,h3,h4⟩:=fndM_ok (base:=dstB) (v:=d) (from_:=0) (by show 1≤d;exact h.1) 29 (by omega)
 refine⟨h2,h3,?_⟩
 unfold dstS
 by_cases h29:fndM dstB d 29=29
 ·rw[h29]
  have e1:(dstB 29).1=24577:=by decide
  have e2:(2:Nat)^(dstB 29).2=8192:=by decide
  omega
 ·have:=h4 (fndM dstB d 29+1) (by omega) (by omega)
  have e:=dst_next ⟨fndM dstB d 29,by omega⟩
  simp only at e
  omega
def tokB(ll dl:List Int)(t:Tok):List Int:=
 if t.n=0 then symBits ll t.c.toNat
 else symBits ll (lenS t.n)++bitsOf false ((t.n-(lenB (lenS t.n)).1:Nat):Int) (lenB (lenS t.n)).2++symBits dl (dstS t.d)++bitsOf false ((t.d-(dstB (dstS t.d)).1:Nat):Int) (dstB (dstS t.d)).2
def toksB(ll dl:List Int)(ts:List Tok):List Int:=ts.flatMap (tokB ll dl)++symBits ll 256
def lsym(t:Tok):Int:=if t.n=0 then t.c else(lenS t.n:Nat)
def dsyms(ts:List Tok):List Int:=(ts.filter fun t=>decide (t.n≠0)).map fun t=>((dstS t.d:Nat):Int)
def cntL(ts:List Tok):List Int:=(ts.map lsym).foldl bump ((List.replicate 286 0).set 256 1)
def cntD(ts:List Tok):List Int:=(dsyms ts).foldl bump (List.replicate 30 0)
def cntH(l:List Int):List Int:=l.foldl bump (List.replicate 19 0)
def posC(l:List Int):Nat:=l.countP fun x=>decide (x>0)
def padG:Nat→Nat→Nat→List Int→List Int
 |0,_,_,cs=>cs
 |f+1,s,n,cs=>if n<2 then(if cs.getD s 0=0 then padG f (s+1) (n+1) (cs.set s 1) else padG f (s+1) n cs) else cs
def padM(cs:List Int):List Int:=padG cs.length 0 (posC cs) cs
def litL(ts:List Tok):List Int:=lenM (padM (cntL ts)) 15
def dstL(ts:List Tok):List Int:=lenM (padM (cntD ts)) 15
def hdrL(ts:List Tok):List Int:=lenM (padM (cntH (litL ts++dstL ts))) 7
def dynB(ts:List Tok)(last:Int):List Int:=
 bitsOf false last 1++bitsOf false 2 2++bitsOf false 29 5++bitsOf false 29 5++bitsOf false 15 4++ordL.flatMap (fun s=>bitsOf false ((hdrL ts).getD s 0) 3)++
  (litL ts++dstL ts).flatMap (fun n=>symBits (hdrL ts) n.toNat)++toksB (litL ts) (dstL ts) ts
def fixB(ts:List Tok):List Int:=bitsOf false 3 3++toksB fixL fixD ts
def storW:Nat→List Int→List Int→List Int
 |0,ws,_=>ws
 |f+1,ws,b=>if b.length≤65535 then partW ws 1 0 b else storW f (partW ws 0 0 (b.take 65535)) (b.drop 65535)
def storB(b:List Int):List Int:=storW (b.length+1) [] b
def nby(ws:List Int):Nat:=(ws.length+7)/8
def bestB(ts:List Tok):List Int:=if 20<ts.length∧nby (dynB ts 1)<nby (fixB ts) then dynB ts 1 else fixB ts
def defB(b:List Int)(eff:Int):List Int:=if nby (storB b)<nby (bestB (lzM b eff)) then storB b else bestB (lzM b eff)
theorem posC_set{cs:List Int}{s:Nat}(hs:s<cs.length)(h0:cs.getD s 0=0):posC (cs.set s 1)=posC cs+1:=by
 have e:cs.set s 1=cs.take s++1::cs.drop (s+1):=List.set_eq_take_append_cons_drop▸by rw[if_pos hs]
 have e2:cs=cs.take s++0::cs.drop (s+1):=by
  have h3:cs[s]=0:=by rw[List.getD_eq_getElem?_getD,List.getElem?_eq_getElem hs] at h0;exact h0
  rw[←h3]
  simp
 unfold posC
 rw[e]
 conv=>rhs;rw[e2]
 rw[List.countP_append,List.countP_append,List.countP_cons,List.countP_cons]
 simp
 omega
theorem posC_take(cs:List Int)(s:Nat):posC (cs.take s)≤posC cs:=by
 unfold posC
 conv=>rhs;rw[←List.take_append_drop s cs,List.countP_append]
 omega
theorem posC_step{cs:List Int}{s:Nat}(hs:s<cs.length):posC (cs.take (s+1))=posC (cs.take s)+if cs.getD s 0>0 then 1 else 0:=by
 unfold posC
 rw[List.take_add_one,get_gD cs 0 hs,Option.toList_some,List.countP_append,List.countP_singleton];simp
theorem padG_ok {M : Int} (hM : 1 ≤ M) : ∀ (f s n : Nat) (cs : List Int), (∀ x ∈ cs, 0 ≤ x ∧ x ≤ M) → n = posC cs → s + f = cs.length → s ≤ posC (cs.take s) → 2 ≤ cs.length →
    (padG f s n cs).length = cs.length ∧ (∀ x ∈ padG f s n cs, 0 ≤ x ∧ x ≤ M) ∧ 2 ≤ posC (padG f s n cs) ∧ ∀ (i : Nat) (a : Int), cs[i]? = some a → a > 0 → (padG f s n cs)[i]? = some a
  | 0, s, n, cs, hr, hn, hs, hp, h2 => by
    rw [padG]
    have := posC_take cs s
    exact ⟨rfl, hr, by omega, fun i a h _ => h⟩
  | f + 1, s, n, cs, hr, hn, hs, hp, h2 => by
    rw [padG]
    have hst := posC_step (cs := cs) (s := s) (by omega)
    have hmem : cs.getD s 0 ∈ cs := List.mem_of_getElem? (get_gD cs 0 (by omega))
    have hge := hr _ hmem
    split
    · split
      · rename_i h0
        have hset := posC_set (cs := cs) (s := s) (by omega) h0
        have ht : (cs.set s 1).take (s + 1) = cs.take s ++ [1] := by
          rw [List.take_add_one, List.take_set_of_le (Nat.le_refl s), List.getElem?_set_self (by omega)]; rfl
        have hp2 : s + 1 ≤ posC ((cs.set s 1).take (s + 1)) := by
          rw [ht]; unfold posC at hp ⊢; rw [List.countP_append]; simp; exact hp
        obtain ⟨h3, h4, h5, h6⟩ := padG_ok hM f (s + 1) (n + 1) (cs.set s 1) (fun x hx => by
          rcases List.mem_or_eq_of_mem_set hx with hx | rfl
          · exact hr x hx
          · omega) (by rw [hset, hn]) (by rw [List.length_set]; omega) hp2 (by rw [List.length_set]; exact h2)
        rw [List.length_set] at h3
        refine ⟨h3, h4, h5, fun i a hi ha => h6 i a ?_ ha⟩
        rw [List.getElem?_set_ne (fun he => by subst he; rw [gD_get hi] at h0; omega)]
        exact hi
      · rename_i h0
        rw [if_pos (by omega)] at hst
        exact padG_ok hM f (s + 1) n cs hr hn (by omega) (by omega) h2
    · exact ⟨rfl, hr, by omega, fun i a h _ => h⟩
theorem padM_ok{cs:List Int}{M:Int}(hM:1≤M)(hr: ∀x∈cs,0≤x∧x≤M)(h2:2≤cs.length):
 (padM cs).length=cs.length∧(∀x∈padM cs,0≤x∧x≤M)∧2≤posC (padM cs)∧ ∀(i:Nat) (a:Int),cs[i]?=some a→a>0→(padM cs)[i]?=some a:=
 padG_ok hM cs.length 0 _ cs hr rfl (by omega) (by omega) h2
theorem leaves_count(cs:List Int): ∀i,(leavesFrom i cs).length=posC cs:=by
 induction cs with
 |nil=>intro i;rfl
 |cons n r ih=>
  intro i
  rw[leavesFrom,List.length_append,ih]
  unfold posC
  rw[List.countP_cons]
  by_cases h:n>0
  ·simp[h];omega
  ·simp[h]
structure Whole(ls cs:List Int)(m:Nat):Prop where
 ok:OkC ls
 len:ls.length=cs.length
 wt:wtM ls=65536
 rng: ∀x∈ls,0≤x∧x≤m
 pos: ∀(i:Nat) (a:Int),cs[i]?=some a→a>0→0<ls.getD i 0
theorem whole_of{cs:List Int}{m:Nat}(ok:OkL cs m)(h2:2≤posC cs):Whole (lenM cs m) cs m:=by
 have hl2:2≤(leavesM cs).length:=by unfold leavesM;rw[leaves_count];exact h2
 obtain⟨X,t⟩:=two_of ok hl2
 have hok:=lenM_ok ok
 have hm:=ok.m2
 rw[Int.toNat_natCast] at t hok
 refine⟨hok.1,hok.2,t.whole (by omega),fun v hv=>?_,fun i a hi ha=>?_⟩
 ·obtain⟨i,hi⟩:=List.getElem?_of_mem hv
  have hil:=(List.getElem?_eq_some_iff.1 hi).1
  rw[t.len] at hil
  by_cases hx: ∃x∈ssort (leavesM cs),sy x=(i:Int)
  ·obtain⟨x,hx,hs⟩:=hx
   obtain⟨r,hr⟩:=List.getElem?_of_mem hx
   obtain⟨_,h⟩:=t.leaf r x i hr hs
   rw[hi] at h;cases h
   have:=t.pos r (List.getElem?_eq_some_iff.1 hr).1
   omega
  ·have:=t.none i hil fun x hx' hs=>hx ⟨x,hx',hs⟩
   rw[hi] at this;cases this;omega
 ·obtain⟨r,hr⟩:=t.lv.has i a hi ha
  obtain⟨_,h⟩:=t.leaf r _ i hr rfl
  have:=t.pos r (List.getElem?_eq_some_iff.1 hr).1
  rw[gD_get h];omega
theorem posC_le(l:List Int):posC l≤l.length:=List.countP_le_length
theorem whole_pad{cs:List Int}{m:Nat}(hm:1≤m∧m≤16)(hr: ∀x∈cs,0≤x∧x≤1099511627776)(h2:2≤cs.length)(hl:cs.length≤300)(hp:cs.length≤2^m):Whole (lenM (padM cs) m) cs m∧OkL (padM cs) m:=by
 obtain⟨h3,h4,h5,h6⟩:=padM_ok (M:=1099511627776) (by omega) hr h2
 have hok:OkL (padM cs) m:=⟨by omega,by omega,by omega,h4,by
  unfold leavesM
  rw[leaves_count,Int.toNat_natCast]
  have:=posC_le (padM cs)
  omega⟩
 have w:=whole_of hok h5
 exact⟨⟨w.ok,by rw[w.len,h3],w.wt,w.rng,fun i a hi ha=>w.pos i a (h6 i a hi ha) ha⟩,hok⟩
theorem bumps_ok{l o:List Int}(hs: ∀s∈l,0≤s∧s<o.length)(ho: ∀x∈o,0≤x∧x≤1):(l.foldl bump o).length=o.length∧(∀x∈l.foldl bump o,0≤x∧x≤1+l.length)∧
 (∀(i:Nat) (a:Int),o[i]?=some a→a>0→ ∃b,(l.foldl bump o)[i]?=some b∧b>0)∧ ∀s∈l,∃b,(l.foldl bump o)[s.toNat]?=some b∧b>0:=by
 have hg:=foldl_bump_get l o
 have hlen:=foldl_bump_len l o
 have hs0: ∀s∈l,0≤s:=fun s h=>(hs s h).1
 have ho': ∀i,i<o.length→0≤o.getD i 0∧o.getD i 0≤1:=fun i hi=>ho _ (List.mem_of_getElem? (get_gD o 0 hi))
 refine⟨hlen,fun x hx=>?_,fun i a hi ha=>?_,fun s hsl=>?_⟩
 ·obtain⟨i,hi⟩:=List.getElem?_of_mem hx
  have hil:=(List.getElem?_eq_some_iff.1 hi).1
  rw[hlen] at hil
  rw[hg i hil hs0] at hi
  cases hi
  have:=ho' i hil
  have:l.count (i:Int)≤l.length:=List.count_le_length
  omega
 ·have hil:=(List.getElem?_eq_some_iff.1 hi).1
  refine⟨_,hg i hil hs0,?_⟩
  rw[gD_get hi];omega
 ·have h:=hs s hsl
  refine⟨_,hg s.toNat (by omega) hs0,?_⟩
  have:=ho' s.toNat (by omega)
  have hc:0<l.count ((s.toNat:Nat):Int):=by rw[Int.toNat_of_nonneg h.1];exact List.count_pos_iff.2 hsl
  omega
def TokR(t:Tok):Prop:=(t.n=0∧t.d=0∧0≤t.c∧t.c<256)∨(3≤t.n∧t.n≤258∧1≤t.d∧t.d≤32768∧t.c=0)
theorem TokOk.r{out:List Int}{t:Tok}(h:TokOk out t):TokR t:=by
 rcases h with h|⟨h1,h2,h3,h4,_,h6⟩
 ·exact .inl h
 ·exact .inr ⟨h1,h2,h3,h4,h6⟩
theorem Runs.r: ∀{ts:List Tok} {out b:List Int},Runs out ts b→ ∀t∈ts,TokR t
 |[],_,_,_,t,ht=>by cases ht
 |u::ts,out,b,h,t,ht=>by
  rcases List.mem_cons.1 ht with rfl|ht
  ·exact h.1.r
  ·exact h.2.r t ht
theorem lsym_rng{t:Tok}(h:TokR t):0≤lsym t∧lsym t<286:=by
 unfold lsym
 rcases h with ⟨h,_,h1,h2⟩|⟨h1,h2,_⟩
 ·rw[if_pos h];omega
 ·rw[if_neg (by omega)]
  have:=lenS_ok ⟨h1,h2⟩
  omega
structure Codes(ll dl:List Int)(ts:List Tok):Prop where
 l:OkC ll
 d:OkC dl
 end_:0<ll.getD 256 0
 lit: ∀t∈ts,0<ll.getD (lsym t).toNat 0
 dst: ∀t∈ts,t.n≠0→0<dl.getD (dstS t.d) 0
theorem cntL_ok{ts:List Tok}(h: ∀t∈ts,TokR t):(cntL ts).length=286∧(∀x∈cntL ts,0≤x∧x≤1+ts.length)∧(∃b,(cntL ts)[256]?=some b∧b>0)∧ ∀t∈ts,∃b,(cntL ts)[(lsym t).toNat]?=some b∧b>0:=by
 obtain⟨h1,h2,h3,h4⟩:=bumps_ok (l:=ts.map lsym) (o:=(List.replicate 286 0).set 256 1) (fun s hs=>by
  obtain⟨t,ht,rfl⟩:=List.mem_map.1 hs
  have:=lsym_rng (h t ht)
  rw[List.length_set,List.length_replicate];omega) (fun x hx=>by
  rcases List.mem_or_eq_of_mem_set hx with hx|rfl
  ·rw[(List.mem_replicate.1 hx).2];omega
  ·omega)
 refine⟨by unfold cntL;rw[h1,List.length_set,List.length_replicate],by unfold cntL;rw[List.length_map] at h2;exact h2,h3 256 1 (by rw[List.getElem?_set_self (by rw[List.length_replicate];decide)]) (by omega),fun t ht=>h4 _ (List.mem_map.2 ⟨t,ht,rfl⟩)⟩
theorem cntD_ok{ts:List Tok}(h: ∀t∈ts,TokR t):(cntD ts).length=30∧(∀x∈cntD ts,0≤x∧x≤1+ts.length)∧ ∀t∈ts,t.n≠0→ ∃b,(cntD ts)[dstS t.d]?=some b∧b>0:=by
 have hl:(dsyms ts).length≤ts.length:=by unfold dsyms;rw[List.length_map];exact List.length_filter_le _ _
 obtain⟨h1,h2,h3,h4⟩:=bumps_ok (l:=dsyms ts) (o:=List.replicate 30 0) (fun s hs=>by
  obtain⟨t,ht,rfl⟩:=List.mem_map.1 hs
  rw[List.mem_filter] at ht
  rcases h t ht.1 with h0|h0
  ·have:=ht.2;simp[h0.1] at this
  ·have:=dstS_ok ⟨h0.2.2.1,h0.2.2.2.1⟩
   simp;omega) (fun x hx=>by rw[(List.mem_replicate.1 hx).2];omega)
 refine⟨by unfold cntD;rw[h1,List.length_replicate],fun x hx=>by have:=h2 x hx;omega,fun t ht hn=>?_⟩
 have:=h4 ((dstS t.d:Nat):Int) (List.mem_map.2 ⟨t,List.mem_filter.2 ⟨ht,by simpa using hn⟩,rfl⟩)
 rw[Int.toNat_natCast] at this
 exact this
structure Dyn(ts:List Tok):Prop where
 l:Whole (litL ts) (cntL ts) 15
 lo:OkL (padM (cntL ts)) 15
 d:Whole (dstL ts) (cntD ts) 15
 do_:OkL (padM (cntD ts)) 15
 h:Whole (hdrL ts) (cntH (litL ts++dstL ts)) 7
 ho:OkL (padM (cntH (litL ts++dstL ts))) 7
 all: ∀n∈litL ts++dstL ts,0≤n∧n≤15∧0<(hdrL ts).getD n.toNat 0
 c:Codes (litL ts) (dstL ts) ts
 ll:(litL ts).length=286
 dl:(dstL ts).length=30
 hl:(hdrL ts).length=19
theorem dyn_of{ts:List Tok}(h: ∀t∈ts,TokR t)(hl:ts.length≤1000000000):Dyn ts:=by
 obtain⟨l1,l2,⟨b,l3,l3'⟩,l4⟩:=cntL_ok h
 obtain⟨d1,d2,d3⟩:=cntD_ok h
 have e15:(2:Nat)^15=32768:=by decide
 have e7:(2:Nat)^7=128:=by decide
 obtain⟨wl,ol⟩:=whole_pad (cs:=cntL ts) (m:=15) (by omega) (fun x hx=>by have:=l2 x hx;omega) (by omega) (by omega) (by omega)
 obtain⟨wd,od⟩:=whole_pad (cs:=cntD ts) (m:=15) (by omega) (fun x hx=>by have:=d2 x hx;omega) (by omega) (by omega) (by omega)
 have hll:(litL ts).length=286:=by have:=wl.len;rw[l1] at this;exact this
 have hdl:(dstL ts).length=30:=by have:=wd.len;rw[d1] at this;exact this
 have hall: ∀n∈litL ts++dstL ts,0≤n∧n≤15:=fun n hn=>by
  rcases List.mem_append.1 hn with hn|hn
  ·exact wl.rng n hn
  ·exact wd.rng n hn
 obtain⟨h1,h2,_,h4⟩:=bumps_ok (l:=litL ts++dstL ts) (o:=List.replicate 19 0) (fun s hs=>by have:=hall s hs;rw[List.length_replicate];omega) (fun x hx=>by rw[(List.mem_replicate.1 hx).2];omega)
 rw[List.length_replicate] at h1
 rw[List.length_append,hll,hdl] at h2
 obtain⟨wh,oh⟩:=whole_pad (cs:=cntH (litL ts++dstL ts)) (m:=7) (by omega) (fun x hx=>by have:=h2 x hx;omega) (by unfold cntH;omega) (by unfold cntH;omega) (by unfold cntH;omega)
 refine⟨wl,ol,wd,od,wh,oh,fun n hn=>?_,⟨wl.ok,wd.ok,wl.pos _ _ l3 l3',fun t ht=>?_,fun t ht hn=>?_⟩,hll,hdl,by have:=wh.len;unfold cntH at this;rw[h1] at this;exact this⟩
 ·obtain⟨b,hb,hb'⟩:=h4 n hn
  have:=hall n hn
  exact⟨this.1,this.2,wh.pos _ _ hb hb'⟩
 ·obtain⟨b,hb,hb'⟩:=l4 t ht
  exact wl.pos _ _ hb hb'
 ·obtain⟨b,hb,hb'⟩:=d3 t ht hn
  exact wd.pos _ _ hb hb'
end Go.Proofs
namespace Go.Proofs
open Go.Sh
variable {H0 H:Heap} {σ:List Rs} {R:Value→Heap→Prop}
section
variable {f a most:Nat} {B out:List Int}
theorem getM_adv{n a':Nat}{v:Int}(h:getM B n a= .ok (v,a')):a≤a':=by
 unfold getM at h
 split at h
 ·cases h;omega
 ·cases h
theorem copiesM_adv{mst:Int}{dl:List Int}{s a':Nat}{out':List Int}(h:copiesM B mst dl s a out= .ok (a',out')):a≤a':=by
 unfold copiesM at h
 split at h
 ·cases h
 ·split at h
  ·cases h
  ·rename_i x a1 h1
   split at h
   ·cases h
   ·rename_i t a2 h2
    split at h
    ·cases h
    ·split at h
     ·cases h
     ·rename_i y a3 h3
      split at h
      ·cases h
      ·split at h
       ·cases h
       ·cases h
        have:=getM_adv h1;have:=symM_adv h2;have:=getM_adv h3
        omega
theorem symbols_e{e:Int}(hs:St H0 H (flR f B a most out e::σ))(he:e≠0){d1 d2:Option Addr}(hR:R (.tuple #[]) H):
 CallsH Tryz.prog 75 #[.pointer (some ⟨f,0,none⟩),.pointer d1,.pointer d2] H R:=by
 refine Tryz.s75 ?_
 unfold Tryz.S75
 intro X hX
 exact hX H ⟨_,rfl,_,flR_e hs,br_ne (fun _=>hR) (fun h=>absurd h he)⟩
theorem c75(hs:St H0 H (flR f B a most out 0::σ)){j1 j2 d1 d2:Nat}{ll dl F1 F2:List Int}{P1 P2:List (Nat×Int)}(hj1:σ[j1]?=some (decR d1 ll P1 F1))(hj2:σ[j2]?=some (decR d2 dl P2 F2))
 (hbad: ∀k,k≠0→symbolsM B most ll dl a out= .error k→ ∀H' a' out',St H0 H' (flR f B a' most out' k::σ)→R (.tuple #[]) H')
 (hR: ∀a' out',symbolsM B most ll dl a out= .ok (a',out')→ ∀H',St H0 H' (flR f B a' most out' 0::σ)→R (.tuple #[]) H'):
 CallsH Tryz.prog 75 #[.pointer (some ⟨f,0,none⟩),.pointer (some ⟨d1,0,none⟩),.pointer (some ⟨d2,0,none⟩)] H R:=by
 refine Tryz.s75 ?_
 unfold Tryz.S75
 intro X hX
 have bad: ∀k,k≠0→symbolsM B most ll dl a out= .error k→ ∀H' a' out',St H0 H' (flR f B a' most out' k::σ)→X [] H':=fun k hk he H' a' out' hs=>
  hX H' ⟨_,rfl,_,flR_e hs,br_ne (fun _=>hbad k hk he H' a' out' hs) (fun h=>absurd h hk)⟩
 obtain⟨_,_,okl,_,_,_,_⟩:=decR_use hs (j:=j1+1) (by simpa using hj1)
 have l300:=okl.w.len
 unfold symbolsM at bad hbad hR
 generalize hT:symsM B most ll dl (8*B.length+1) a out=T at bad hbad hR
 have loop: ∀(g a1:Nat) (out1:List Int) (H1:Heap),8*B.length<a1+g→symsM B most ll dl g a1 out1=T→St H0 H1 (flR f B a1 most out1 0::σ)→X [] H1:=by
  intro g
  induction g with
  |zero=>
   intro a1 out1 H1 hg he hs1
   have:=flR_rd hs1;omega
  |succ g ih=>
   intro a1 out1 H1 hg he hs1
   rw[symsM] at he
   refine hX H1 ⟨_,rfl,_,flR_e hs1,br_f rfl (c102 hs1 hj1 (fun k hk hsy H2 a2 hs2=>?_) (fun s a2 hsy H2 hs2=>?_))⟩
   ·rw[hsy] at he
    exact⟨_,rfl,_,rfl,_,flR_e hs2,br_ne (fun _=>hbad k hk he.symm H2 a2 out1 hs2) (fun h=>absurd h hk)⟩
   ·obtain⟨ha1,ha2,hsl⟩:=symM_adv hsy
    rw[hsy] at he
    simp only at he
    refine⟨_,rfl,_,rfl,_,flR_e hs2,br_f rfl (br_eq (fun h256=>?_) (fun h256=>br_dec (fun hgt=>?_) (fun hle=>?_)))⟩
    ·rw[if_pos (by omega)] at he
     exact hR _ _ he.symm H2 hs2
    ·rw[if_neg (by omega),if_pos (by omega)] at he
     refine c103 hs2 hj2 (by omega) (fun k hk hc H3 a3 hs3=>⟨rfl,?_⟩) (fun a3 out3 hc H3 hs3=>⟨rfl,?_⟩)
     ·rw[hc] at he
      exact bad k hk he.symm H3 a3 out1 hs3
     ·rw[hc] at he
      have:=copiesM_adv hc
      exact ih a3 out3 H3 (by omega) he hs3
    ·rw[if_neg (by omega),if_neg (by omega)] at he
     obtain⟨rb,p,c,h1,h2,h3,hs'⟩:=flR_op hs2
     refine⟨_,rfl,_,_,_,hs'.get 2 (j:=1) rfl rfl,_,rfl,_,hs'.get 2 (j:=2) rfl rfl,br_dec (fun hge=>c77 hs2 fun H3 hs3=>⟨rfl,?_⟩) (fun hlt=>⟨_,rfl,_,_,_,hs'.get 2 (j:=1) rfl rfl,?_⟩)⟩
     ·rw[if_pos (by omega)] at he
      rw[if_pos rfl] at hs3
      exact bad 24 (by decide) he.symm H3 _ _ hs3
     ·rw[if_neg (by omega)] at he
      rw[wrap_u8 (by omega) (by omega)]
      refine hs'.alc fun b H5 hs5=>?_
      refine hs5.appC 2 0 (el:=5) (k:=1) rfl rfl rfl (one1 rfl) (by decide) rfl (by omega) (by omega) fun p' c' H6 hs6=>⟨_,rfl,?_⟩
      refine hs6.put 3 (j:=1) rfl (by simp) rfl fun H7 hs7=>?_
      refine ih a2 (out1++[(s:Int)]) H7 (by omega) he ?_
      refine flR_mk (rb:=rb) (p:=p') (c:=c') (by simp;omega) h2 (fun z hz=>?_) ?_
      ·rcases List.mem_append.1 hz with hz|hz
       ·exact h3 z hz
       ·rw[List.mem_singleton.1 hz];omega
      ·rw[kints_append,List.length_append,List.length_singleton]
       exact hs7.tail
 exact loop _ a out H (by omega) hT hs
theorem xor_all(n:Fin 65536):n.val ^^^ 65535=65535-n.val:=by
 have h1:(BitVec.ofNat 16 n.val ^^^ BitVec.allOnes 16).toNat=(~~~ BitVec.ofNat 16 n.val).toNat:=by rw[BitVec.xor_allOnes]
 have hn:=n.isLt
 rw[BitVec.toNat_xor,BitVec.toNat_not,BitVec.toNat_ofNat,BitVec.toNat_allOnes,Nat.mod_eq_of_lt hn] at h1
 exact h1
theorem xor_ffff{n m:Int}(hn:0≤n∧n<65536)(hm:0≤m∧m<65536):xorI .i64 n m=65535↔m=65535-n:=by
 obtain⟨x,rfl⟩:=Int.eq_ofNat_of_zero_le hn.1
 obtain⟨y,rfl⟩:=Int.eq_ofNat_of_zero_le hm.1
 have e64:(2:Int)^64=18446744073709551616:=by decide
 have hlt:x ^^^ y<65536:=Nat.xor_lt_two_pow (n:=16) (by omega) (by omega)
 unfold xorI
 rw[show IntKind.bits .i64=64 from rfl,BitVec.toNat_xor,ofInt_nat (by omega) (by omega),ofInt_nat (by omega) (by omega),Int.toNat_natCast,Int.toNat_natCast,wrap_id (by omega) (by omega)]
 have hx:=xor_all ⟨x,by omega⟩
 simp only at hx
 constructor
 ·intro h
  have h':x ^^^ y=65535:=by omega
  have:y=x ^^^ 65535:=by rw[←h',←Nat.xor_assoc,Nat.xor_self,Nat.zero_xor]
  omega
 ·intro h
  have h':y=x ^^^ 65535:=by omega
  rw[h',←Nat.xor_assoc,Nat.xor_self,Nat.zero_xor]
  rfl
theorem getM_num{n:Nat}(h:a+n≤8*B.length):getM B n a= .ok (numB false B a n,a+n):=by unfold getM;rw[if_pos h]
theorem getM_bad{n:Nat}(h:8*B.length<a+n):getM B n a= .error 20:=by unfold getM;rw[if_neg (by omega)]
theorem c73(hs:St H0 H (flR f B a most out 0::σ))
 (hbad: ∀k,k≠0→storedM B most a out= .error k→ ∀H' a' out',St H0 H' (flR f B a' most out' k::σ)→R (.tuple #[]) H')
 (hR: ∀a' out',storedM B most a out= .ok (a',out')→ ∀H',St H0 H' (flR f B a' most out' 0::σ)→R (.tuple #[]) H'):
 CallsH Tryz.prog 73 #[.pointer (some ⟨f,0,none⟩)] H R:=by
 have key:storedM B most a out=storedM B most a out:=rfl
 conv at key=>lhs;unfold storedM
 obtain⟨rb,p,c,h1,h2,h3,hs'⟩:=flR_op hs
 have e16:(2:Int)^16=65536:=by decide
 refine Tryz.s73 ⟨_,rfl,_,hs'.get 2 (j:=0) rfl rfl,c101 hs' (i:=0) rfl fun H1 hs1=>⟨rfl,?_⟩⟩
 have hs1:St H0 H1 (flR f B ((a+7)/8*8) most out 0::σ):=flR_mk h1 h2 h3 hs1
 clear hs'
 generalize (a+7)/8*8=a1 at*
 have bad0: ∀{H2 a2 out2},storedM B most a out= .error 20→St H0 H2 (flR f B a2 most out2 20::σ)→R (.tuple #[]) H2:=fun h hs=>hbad 20 (by decide) h _ _ _ hs
 -- behind the two numbers
 refine c72 hs1 (by omega) (fun hlt H2 hs2=>⟨_,rfl,?_⟩) (fun hle H2 hs2=>⟨_,rfl,?_⟩)
 ·rw[getM_bad (n:=16) hlt] at key
  rw[if_pos rfl] at hs2
  refine c72 hs2 (by omega) (fun hlt H3 hs3=>⟨_,rfl,?_⟩) (fun hle H3 hs3=>⟨_,rfl,?_⟩)
  ·rw[if_neg (by decide)] at hs3
   intro J hJ
   exact⟨_,rfl,_,flR_e hs3,br_t rfl (bad0 key.symm hs3)⟩
  ·intro J hJ
   exact⟨_,rfl,_,flR_e hs3,br_t rfl (bad0 key.symm hs3)⟩
 rw[getM_num (n:=16) hle] at key
 simp only[show Int.toNat 16=16 from rfl] at hs2 key hle ⊢
 have hn:=numB_rng false B a1 16
 refine c72 hs2 (by omega) (fun hlt H3 hs3=>⟨_,rfl,?_⟩) (fun hle2 H3 hs3=>⟨_,rfl,?_⟩)
 ·rw[getM_bad (n:=16) hlt] at key
  rw[if_pos rfl] at hs3
  intro J hJ
  exact⟨_,rfl,_,flR_e hs3,br_t rfl (bad0 key.symm hs3)⟩
 rw[getM_num (n:=16) hle2] at key
 simp only[show Int.toNat 16=16 from rfl] at hs3 key hle2 ⊢
 have hm:=numB_rng false B (a1+16) 16
 generalize numB false B a1 16=n at*
 generalize numB false B (a1+16) 16=m at*
 intro J hJ
 obtain⟨rb,p,c,h1,h2,h3,hs3'⟩:=flR_op hs3
 -- the loop comes to nothing with an error
 have stop: ∀k,k≠0→storedM B most a out= .error k→ ∀H' a' out',St H0 H' (flR f B a' most out' k::σ)→J [] H':=fun k hk he H' a' out' hs=>by
  refine hJ H' ?_
  intro X hX
  refine hX _ H' ?_
  intro J2 hJ2
  exact br_dec (fun _=>⟨_,rfl,_,flR_e hs,br_eq (fun h=>absurd h hk) (fun _=>hbad k hk he _ _ _ hs)⟩) (fun _=>hbad k hk he _ _ _ hs)
 have w1:IntKind.wrap .i64 ((most:Int)-((out.length:Nat):Int))=(most:Int)-out.length:=wrap_id (by omega) (by omega)
 refine⟨_,rfl,_,flR_e hs3,br_f rfl (br_ne (fun hne=>c77 hs3 fun H4 hs4=>⟨rfl,?_⟩) (fun heq=>⟨_,rfl,_,hs3'.get 2 (j:=2) rfl rfl,_,rfl,_,_,_,hs3'.get 2 (j:=1) rfl rfl,?_⟩))⟩
 ·rw[if_pos (fun h=>hne ((xor_ffff (by omega) (by omega)).2 h))] at key
  exact stop 25 (by decide) key.symm H4 _ _ hs4
 rw[if_neg (fun h=>h ((xor_ffff (by omega) (by omega)).1 heq))] at key
 rw[w1]
 refine br_dec (fun hgt=>c77 hs3 fun H4 hs4=>⟨rfl,?_⟩) (fun hle3=>hJ H3 ?_)
 ·rw[if_pos hgt] at key
  exact stop 24 (by decide) key.symm H4 _ _ hs4
 rw[if_neg hle3] at key
 obtain⟨N,rfl⟩:=Int.eq_ofNat_of_zero_le hn.1
 rw[Int.toNat_natCast] at key
 clear stop bad0 hJ w1 hs3'
 intro X hX
 have loop: ∀(r k a2:Nat) (out2:List Int) (H4:Heap),k+r=N→out2.length=out.length+k→bytesM B r a2 out2=storedM B most a out→St H0 H4 (flR f B a2 most out2 0::σ)→X [.int .i64 k] H4:=by
  intro r
  induction r with
  |zero=>
   intro k a2 out2 H4 hk hl hb hs4
   refine hX _ H4 ?_
   intro J2 hJ2
   rw[bytesM] at hb
   exact br_n (by omega) (hR _ _ hb.symm H4 hs4)
  |succ r ih=>
   intro k a2 out2 H4 hk hl hb hs4
   have wk:IntKind.wrap .i64 ((k:Int)+1)=((k+1:Nat):Int):=by rw[wrap_id (by omega) (by omega)];omega
   refine hX _ H4 ?_
   rw[wk]
   intro J2 hJ2
   refine br_y (by omega) ⟨_,rfl,_,flR_e hs4,br_t rfl (hJ2 H4 ?_)⟩
   obtain⟨rb,p,c,h1,h2,h3,hs4'⟩:=flR_op hs4
   have e8:(2:Int)^8=256:=by decide
   refine⟨_,rfl,_,_,_,hs4'.get 2 (j:=1) rfl rfl,getO hs4' (by omega) (fun hlt H5 hs5=>⟨_,rfl,.inr ⟨_,_,_,hs5.get 2 (j:=1) rfl rfl,rfl⟩,?_⟩) (fun hle H5 hs5=>⟨_,rfl,.inr ⟨_,_,_,hs5.get 2 (j:=1) rfl rfl,rfl⟩,?_⟩)⟩
   ·rw[bytesM,getM_bad (n:=8) hlt] at hb
    rw[if_pos rfl] at hs5
    refine hs5.alcE fun b H6 he hs6=>⟨.inl he,?_⟩
    refine hs6.appC 2 0 (el:=5) (k:=1) rfl rfl rfl (one1 rfl) (by decide) rfl (by omega) (by omega) fun p' c' H7 hs7=>⟨_,rfl,?_⟩
    refine hs7.put 3 (j:=1) rfl (by simp) rfl fun H8 hs8=>?_
    have hs9:St H0 H8 (flR f B a2 most (out2++[0]) 20::σ):=by
     refine flR_mk (rb:=rb) (p:=p') (c:=c') (by simp;omega) h2 (fun z hz=>?_) ?_
     ·rcases List.mem_append.1 hz with hz|hz
      ·exact h3 z hz
      ·rw[List.mem_singleton.1 hz];omega
     ·rw[kints_append,List.length_append,List.length_singleton]
      exact hs8.tail
    refine hX _ H8 ?_
    intro J3 hJ3
    exact br_dec (fun _=>⟨_,rfl,_,flR_e hs9,br_f rfl (hbad 20 (by decide) hb.symm _ _ _ hs9)⟩) (fun _=>hbad 20 (by decide) hb.symm _ _ _ hs9)
   ·rw[bytesM,getM_num (n:=8) hle] at hb
    simp only[show Int.toNat 8=8 from rfl] at hs5 hb ⊢
    have hv:=numB_rng false B a2 8
    generalize numB false B a2 8=v at*
    rw[wrap_u8 (by omega) (by omega)]
    refine hs5.alcE fun b H6 he hs6=>⟨.inl he,?_⟩
    refine hs6.appC 2 0 (el:=5) (k:=1) rfl rfl rfl (one1 rfl) (by decide) rfl (by omega) (by omega) fun p' c' H7 hs7=>⟨_,rfl,?_⟩
    refine hs7.put 3 (j:=1) rfl (by simp) rfl fun H8 hs8=>?_
    refine ih (k+1) (a2+8) (out2++[v]) H8 (by omega) (by simp;omega) hb ?_
    refine flR_mk (rb:=rb) (p:=p') (c:=c') (by simp;omega) h2 (fun z hz=>?_) ?_
    ·rcases List.mem_append.1 hz with hz|hz
     ·exact h3 z hz
     ·rw[List.mem_singleton.1 hz];omega
    ·rw[kints_append,List.length_append,List.length_singleton]
     exact hs8.tail
 exact loop N 0 _ out H3 (by omega) (by omega) key hs3
end
theorem fixK: ∀k:Fin 288,(k.val≥144∧k.val<256→fixL.getD k.val 0=9)∧(k.val≥256∧k.val<280→fixL.getD k.val 0=7)∧(¬(k.val≥144∧k.val<256)→ ¬(k.val≥256∧k.val<280)→fixL.getD k.val 0=8):=by decide+kernel
theorem fixL_len:fixL.length=288:=by decide+kernel
theorem fixD_len:fixD.length=32:=by decide+kernel
theorem fixD_get: ∀k:Fin 32,fixD.getD k.val 0=5:=by decide+kernel
theorem take_get{l:List Int}{k:Nat}(h:k<l.length):l.take (k+1)=l.take k++[l.getD k 0]:=by
 rw[List.take_add_one,get_gD l 0 h];rfl
theorem c57(hR: ∀p c q c' H',St H H' [.sl q 32 c' 3 1 (ints fixD),.sl p 288 c 3 1 (ints fixL)]→R (.tuple #[.slice p 288 c,.slice q 32 c']) H'):CallsH Tryz.prog 57 #[] H R:=by
 refine Tryz.s57 (_u:=()) ?_
 unfold Tryz.S57
 intro X hX
 have two: ∀p c H1,St H H1 [.sl p 288 c 3 1 (ints fixL)]→X [.slice p 288 c,.int .i64 ((288:Nat):Int)] H1:=fun p c H1 hs1=>by
  refine hX _ _ _ _ H1 (br_n (by omega) ?_)
  intro Y hY
  have go: ∀k,k≤32→ ∀q c' H2,St H H2 [.sl q k c' 3 1 (ints (fixD.take k)),.sl p 288 c 3 1 (ints fixL)]→Y [.slice q k c',.int .i64 (k:Nat)] H2:=upto fun k hk ih q c' H2 hs2=>by
   refine hY _ _ _ _ H2 (br_dec (fun hlt=>?_) (fun hge=>?_))
   ·have hlt:k<32:=by omega
    rw[wrap_id (by omega) (by omega)]
    refine hs2.alc fun b H3 hs3=>?_
    refine hs3.appC 1 0 (el:=3) (k:=1) rfl rfl rfl (one1 rfl) (by decide) rfl (by omega) (by omega) fun p' c2 H4 hs4=>?_
    refine ih hlt p' c2 H4 ?_
    have e:fixD.take (k+1)=fixD.take k++[5]:=by rw[take_get (by rw[fixD_len];exact hlt),fixD_get ⟨k,hlt⟩]
    rw[e,ints_append]
    exact hs4.tail
   ·have:k=32:=by omega
    subst this
    refine hR p c q c' H2 ?_
    rw[List.take_of_length_le (by rw[fixD_len];exact Nat.le_refl _)] at hs2
    exact hs2
  exact go 0 (by omega) none 0 H1 (hs1.nilSl 3 1)
 have go: ∀k,k≤288→ ∀p c H1,St H H1 [.sl p k c 3 1 (ints (fixL.take k))]→X [.slice p k c,.int .i64 (k:Nat)] H1:=upto fun k hk ih p c H1 hs1=>by
  by_cases hlt:k<288
  ·refine hX _ _ _ _ H1 (br_y (by omega) ?_)
   intro J hJ
   have nx: ∀n,fixL.getD k 0=n→J [.int .i64 n] H1:=fun n hn=>by
    refine hJ _ H1 ?_
    rw[wrap_id (by omega) (by omega)]
    refine hs1.alc fun b H3 hs3=>?_
    refine hs3.appC 1 0 (el:=3) (k:=1) rfl rfl rfl (one1 rfl) (by decide) rfl (by omega) (by omega) fun p' c2 H4 hs4=>?_
    refine ih hlt p' c2 H4 ?_
    rw[take_get (by rw[fixL_len];exact hlt),hn,ints_append]
    exact hs4.tail
   obtain⟨k1,k2,k3⟩:=fixK ⟨k,hlt⟩
   simp only at k1 k2 k3
   refine br_dec (fun h1=>br_dec (fun h2=>nx 9 (k1 (by omega))) (fun h2=>br_dec (fun h3=>br_dec (fun h4=>nx 7 (k2 (by omega))) (fun h4=>nx 8 (k3 (by omega) (by omega)))) (fun h3=>nx 8 (k3 (by omega) (by omega))))) (fun h1=>br_dec (fun h3=>br_dec (fun h4=>nx 7 (k2 (by omega))) (fun h4=>nx 8 (k3 (by omega) (by omega)))) (fun h3=>nx 8 (k3 (by omega) (by omega))))
  ·have:k=288:=by omega
   subst this
   rw[List.take_of_length_le (by rw[fixL_len];exact Nat.le_refl _)] at hs1
   exact two p c H1 hs1
 exact go 0 (by omega) none 0 H ((St.nil H).nilSl 3 1)
end Go.Proofs
namespace Go.Proofs
open Go.Sh
theorem fixL_ok:OkC fixL:=⟨⟨by decide+kernel,by decide+kernel⟩,by decide+kernel⟩
theorem fixD_ok:OkC fixD:=⟨⟨by decide+kernel,by decide+kernel⟩,by decide+kernel⟩
theorem fixL_pos{s:Nat}(h:s<288):0<fixL.getD s 0:=by
 have: ∀s:Fin 288,0<fixL.getD s.val 0:=by decide+kernel
 exact this ⟨s,h⟩
end Go.Proofs
namespace Go.Proofs
open Go.Sh
def TabC(T:TabT):Prop:= ∀{H0 H:Heap} {σ:List Rs} {R:Value→Heap→Prop} {f a most:Nat} {B out:List Int},St H0 H (flR f B a most out 0::σ)→
 (∀k,k≠0→T B a= .error k→ ∀H' a' d1 d2 τ,St H0 H' (flR f B a' most out k::τ++σ)→R (.tuple #[.pointer d1,.pointer d2]) H')→
 (∀a' ll dl,T B a= .ok (a',ll,dl)→a≤a'→ ∀H' b1 b2 P1 F1 P2 F2 τ,St H0 H' (flR f B a' most out 0::decR b1 ll P1 F1::decR b2 dl P2 F2::τ++σ)→R (.tuple #[.pointer (some ⟨b1,0,none⟩),.pointer (some ⟨b2,0,none⟩)]) H')→
 CallsH Tryz.prog 76 #[.pointer (some ⟨f,0,none⟩)] H R
theorem symsM_adv{B:List Int}{mst:Int}{ll dl:List Int}: ∀(g a:Nat) (out:List Int) {a':Nat} {out':List Int},symsM B mst ll dl g a out= .ok (a',out')→a≤a'
 |0,_,_,_,_,h=>by cases h
 |g+1,a,out,a',out',h=>by
  rw[symsM] at h
  split at h
  ·cases h
  ·rename_i s a1 h1
   have:=symM_adv h1
   split at h
   ·cases h;omega
   ·split at h
    ·split at h
     ·cases h
     ·rename_i a2 out2 h2
      have:=copiesM_adv h2
      have:=symsM_adv g _ _ h
      omega
    ·split at h
     ·cases h
     ·have:=symsM_adv g _ _ h
      omega
theorem bytesM_adv{B:List Int}: ∀(n a:Nat) (out:List Int) {a':Nat} {out':List Int},bytesM B n a out= .ok (a',out')→a≤a'
 |0,a,out,a',out',h=>by cases h;exact Nat.le_refl _
 |n+1,a,out,a',out',h=>by
  rw[bytesM] at h
  split at h
  ·cases h
  ·rename_i c a1 h1
   have:=getM_adv h1
   have:=bytesM_adv n _ _ h
   omega
theorem storedM_adv{B:List Int}{mst:Int}{a a':Nat}{out out':List Int}(h:storedM B mst a out= .ok (a',out')):a≤a':=by
 unfold storedM at h
 split at h
 ·cases h
 ·rename_i n a1 h1
  split at h
  ·cases h
  ·rename_i m a2 h2
   split at h
   ·cases h
   ·split at h
    ·cases h
    ·have:=getM_adv h1;have:=getM_adv h2;have:=bytesM_adv _ _ _ h
     omega
theorem inflate_of{T:TabT}{H:Heap}{R:Value→Heap→Prop}{p:Option Addr}{l c:Nat}{B:List Int}(h:IS H p l (kints .u8 B))(hl:l≤1000000000)(hB: ∀x∈B,0≤x∧x<256){most:Int}(hm:most≤1000000000)
 (hT:TabC T∨T=noT∧inflM T B most≠ .error 99)
 (hbad: ∀k,k≠0→inflM T B most= .error k→ ∀H',Ext H H'→R (.tuple #[.slice none 0 0,.int .i64 0,.int .i64 k]) H')
 (hR: ∀out n,inflM T B most= .ok (out,n)→ ∀H' q m,(∀y∈out,0≤y∧y<256)→St H H' [.sl q out.length m 5 1 (kints .u8 out)]→R (.tuple #[.slice q out.length m,.int .i64 (n:Nat),.int .i64 0]) H'):
 CallsH Tryz.prog 49 #[.slice p l c,.int .i64 most] H R:=by
 refine Tryz.s49 ?_
 unfold Tryz.S49
 refine c71 h hl hB fun rb H1 hs1=>⟨_,rfl,hs1.alc fun fb H2 hs2=>?_⟩
 obtain⟨M,hM⟩:=Int.eq_ofNat_of_zero_le (show 0≤max most 0 by omega)
 unfold inflM at hT hbad hR
 rw[hM] at hT hbad hR hs2
 have hs:St H H2 [flR fb B 0 M [] 0]:=flR_mk (p:=none) (c:=0) (by simp) (by omega) (by simp) ((hs2.nilSl 5 1).front 2 rfl)
 clear hs1 hs2
 generalize hX0:blocksM T B M (8*B.length+1) 0 []=W at hT hbad hR
 intro J hJ
 have fin: ∀H3 a out e τ,St H H3 (flR fb B a M out e::τ)→(e=0→W= .ok (a,out))→(e≠0→W= .error e)→J [] H3:=fun H3 a out e τ hs h0 h1=>by
  have hs:=hs.take 1
  refine hJ H3 ⟨_,rfl,_,flR_e hs,br_ne (fun hne=>⟨_,rfl,_,flR_e hs,hbad e hne (by rw[h1 hne]) H3 hs.ext⟩) (fun he=>?_)⟩
  obtain⟨rb,p,c,h1,h2,h3,hs'⟩:=flR_op hs
  have hrd:=flR_rd hs
  refine⟨_,rfl,_,_,_,hs'.get 2 (j:=1) rfl rfl,_,rfl,_,hs'.get 2 (j:=0) rfl rfl,c78 hs' (i:=0) rfl ⟨_,rfl,.inl (Ext.refl _),by decide,?_⟩⟩
  rw[wrap_id (n:=(a:Int)+7) (by omega) (by omega),show(a:Int)+7=((a+7:Nat):Int) from rfl,wdiv8 _ (by omega)]
  exact hR out ((a+7)/8) (by rw[h0 he]) H3 p c h3 (hs'.tail.take 1)
 intro X hX
 have bad: ∀k b,k≠0→W= .error k→ ∀H3 a out τ,St H H3 (flR fb B a M out k::τ)→X [.bool b] H3:=fun k b hk hW H3 a out τ hs=>by
  refine hX b H3 ?_
  intro J2 hJ2
  have:=fin H3 a out k τ hs (fun h=>absurd h hk) (fun _=>hW)
  exact br_not (fun _=>⟨_,rfl,_,flR_e hs,br_eq (fun h=>absurd h hk) (fun _=>this)⟩) (fun _=>this)
 have loop: ∀(g a:Nat) (out:List Int) (H3:Heap),8*B.length<a+g→blocksM T B M g a out=W→St H H3 [flR fb B a M out 0]→X [.bool false] H3:=by
  intro g
  induction g with
  |zero=>
   intro a out H3 hg he hs
   have:=flR_rd hs;omega
  |succ g ih=>
   intro a out H3 hg he hs
   rw[blocksM] at he
   refine hX false H3 ?_
   intro J2 hJ2
   refine br_t rfl ⟨_,rfl,_,flR_e hs,br_t rfl (hJ2 H3 ?_)⟩
   refine c72 hs (by omega) (fun hlt H4 hs4=>⟨_,rfl,?_⟩) (fun hle H4 hs4=>⟨_,rfl,?_⟩)
   ·rw[getM_bad (n:=1) hlt] at he
    rw[if_pos rfl] at hs4
    refine c72 hs4 (by omega) (fun hlt H5 hs5=>⟨_,rfl,?_⟩) (fun hle H5 hs5=>⟨_,rfl,?_⟩)
    ·rw[if_neg (by decide)] at hs5
     exact⟨_,rfl,_,flR_e hs5,br_t rfl (bad 20 _ (by decide) he.symm H5 _ _ _ hs5)⟩
    ·exact⟨_,rfl,_,flR_e hs5,br_t rfl (bad 20 _ (by decide) he.symm H5 _ _ _ hs5)⟩
   rw[getM_num (n:=1) hle] at he
   simp only[show Int.toNat 1=1 from rfl] at hs4 he hle ⊢
   have hl01:=numB_rng false B a 1
   generalize numB false B a 1=last at*
   refine c72 hs4 (by omega) (fun hlt H5 hs5=>⟨_,rfl,?_⟩) (fun hle2 H5 hs5=>⟨_,rfl,?_⟩)
   ·rw[getM_bad (n:=2) hlt] at he
    rw[if_pos rfl] at hs5
    exact⟨_,rfl,_,flR_e hs5,br_t rfl (bad 20 _ (by decide) he.symm H5 _ _ _ hs5)⟩
   rw[getM_num (n:=2) hle2] at he
   simp only[show Int.toNat 2=2 from rfl] at hs5 he hle2 ⊢
   have hk:=numB_rng false B (a+1) 2
   generalize numB false B (a+1) 2=kind at*
   have e1:(2:Int)^1=2:=by decide
   have e2:(2:Int)^2=4:=by decide
   -- behind a block
   have nx: ∀a3 out3 H6 τ,a+3≤a3→(if last=1 then(.ok (a3,out3):Except Int (Nat×List Int)) else blocksM T B M g a3 out3)=W→St H H6 (flR fb B a3 M out3 0::τ)→X [.bool (last==1)] H6:=fun a3 out3 H6 τ ha hW hs6=>by
    by_cases hla:last=1
    ·rw[if_pos hla] at hW
     subst hla
     refine hX _ H6 ?_
     intro J3 hJ3
     exact br_f rfl (fin H6 a3 out3 0 τ hs6 (fun _=>hW.symm) (fun h=>absurd rfl h))
    ·rw[if_neg hla] at hW
     have:(last==1)=false:=by simpa using hla
     rw[this]
     exact ih a3 out3 H6 (by omega) hW (hs6.take 1)
   refine⟨_,rfl,_,flR_e hs5,br_f rfl (br_eq (fun h0=>?_) (fun h0=>br_eq (fun h1=>?_) (fun h1=>br_eq (fun h2=>?_) (fun h2=>?_))))⟩
   ·rw[if_pos h0] at he
    refine c73 hs5 (fun k hk0 hk2 H6 a6 out6 hs6=>⟨rfl,?_⟩) (fun a6 out6 hk2 H6 hs6=>⟨rfl,?_⟩)
    ·rw[hk2] at he
     exact bad k _ hk0 he.symm H6 a6 out6 _ hs6
    ·rw[hk2] at he
     exact nx a6 out6 H6 _ (storedM_adv hk2) he hs6
   ·rw[if_neg h0,if_pos h1] at he
    refine c57 fun p1 c1 q1 c2 H6 hs6=>⟨_,_,_,_,_,_,rfl,?_⟩
    have hs6:=hs5.call hs6
    refine newDecR (hs6.is 1 rfl) (fun hn=>absurd fixL_ok hn) fun _ H7 d1 P1 F1 hs7=>⟨_,_,rfl,?_⟩
    have hs7:=hs6.call hs7
    refine newDecR (hs7.is 1 rfl) (fun hn=>absurd fixD_ok hn) fun _ H8 d2 P2 F2 hs8=>⟨_,_,rfl,?_⟩
    have hs8:=(hs7.call hs8).front 4 rfl
    refine c75 hs8 (j1:=1) (j2:=0) rfl rfl (fun k hk0 hk2 H9 a9 out9 hs9=>⟨rfl,?_⟩) (fun a9 out9 hk2 H9 hs9=>⟨rfl,?_⟩)
    ·rw[hk2] at he
     exact bad k _ hk0 he.symm H9 a9 out9 _ hs9
    ·rw[hk2] at he
     exact nx a9 out9 H9 _ (symsM_adv _ _ _ hk2) he hs9
   ·rw[if_neg h0,if_neg h1,if_pos h2] at he
    rcases hT with hT|⟨rfl,hne⟩
    ·refine hT hs5 (fun k hk0 hk2 H6 a6 d1 d2 τ hs6=>⟨_,_,rfl,?_⟩) (fun a6 ll dl hk2 ha6 H6 b1 b2 P1 F1 P2 F2 τ hs6=>⟨_,_,rfl,?_⟩)
     ·rw[hk2] at he
      exact symbols_e hs6 hk0 ⟨rfl,bad k _ hk0 he.symm H6 a6 out _ hs6⟩
     ·rw[hk2] at he
      refine c75 hs6 (j1:=0) (j2:=1) rfl rfl (fun k hk0 hk2 H9 a9 out9 hs9=>⟨rfl,?_⟩) (fun a9 out9 hk2 H9 hs9=>⟨rfl,?_⟩)
      ·simp only at he
       rw[hk2] at he
       exact bad k _ hk0 he.symm H9 a9 out9 _ hs9
      ·simp only at he
       rw[hk2] at he
       have:=symsM_adv _ _ _ hk2
       exact nx a9 out9 H9 _ (by omega) he hs9
    ·exact absurd (by rw[←he];rfl) hne
   ·rw[if_neg h0,if_neg h1,if_neg h2] at he
    refine c77 hs5 fun H6 hs6=>⟨rfl,?_⟩
    rw[if_pos rfl] at hs6
    exact bad 25 _ (by decide) he.symm H6 _ _ _ hs6
 exact loop _ 0 [] H2 (by omega) hX0 hs
theorem c10{H:Heap}{R:Value→Heap→Prop}{p q:Option Addr}{l c l2 c2:Nat}{xs ys:List Int}(h1:IS H p l (kints .u8 xs))(h2:IS H q l2 (kints .u8 ys))(hl:l≤1000000000000)(hR:R (.bool (decide (xs=ys))) H):
 CallsH Tryz.prog 10 #[.slice p l c,.slice q l2 c2] H R:=by
 have e1:=h1.length
 have e2:=h2.length
 refine Tryz.s10 (br_ne (fun hne=>?_) (fun he=>?_))
 ·rw[show decide (xs=ys)=false from decide_eq_false fun h=>hne (by subst h;omega)] at hR
  exact hR
 intro X hX
 have go: ∀k,k≤l→xs.take k=ys.take k→X [.int .i64 (k:Nat)] H:=upto fun k hk ih heq=>by
  refine hX _ H (br_dec (fun hlt=>?_) (fun hge=>?_))
  ·have hlt:k<l:=by omega
   obtain⟨x,hx⟩:=h1.get' hlt
   obtain⟨y,hy⟩:=h2.get' (i:=k) (by omega)
   refine h1.rd (by omega) (by omega) (by rw[Int.toNat_natCast];exact hx) (h2.rd (by omega) (by omega) (by rw[Int.toNat_natCast];exact hy) (br_ne (fun hne=>?_) (fun he=>?_)))
   ·rw[show decide (xs=ys)=false from decide_eq_false fun h=>hne (by subst h;rw[hx] at hy;exact Option.some.inj hy)] at hR
    exact hR
   ·rw[wrap_id (by omega) (by omega)]
    refine ih hlt ?_
    rw[List.take_add_one,List.take_add_one,heq,hx,hy,he]
  ·have:k=l:=by omega
   subst this
   rw[List.take_of_length_le (by omega),List.take_of_length_le (by omega)] at heq
   rw[show decide (xs=ys)=true from decide_eq_true heq] at hR
   exact hR
 exact go 0 (by omega) rfl
end Go.Proofs
namespace Go.Sh
variable {H0 H:Heap} {σ:List Rs}
theorem intsA_size(l:List Int):(ints l).toArray.size=l.length:=by simp[ints]
theorem St.rdA(hs:St H0 H σ)(i:Nat){b j:Nat}{l:List Int}{ty:TypeId}{x:Int}(hi:σ[i]?=some (.cell b (ints l).toArray ty))(hx:l[j]?=some x):Sh.cell H ⟨b,j,none⟩=some (.int .i64 x):=
 hs.get i hi (by rw[List.getElem?_toArray];exact ints_get hx)
theorem St.putA(hs:St H0 H σ)(i:Nat){b j:Nat}{l:List Int}{ty:TypeId}{x:Int}{f:Heap→Prop}(hi:σ[i]?=some (.cell b (ints l).toArray ty))(hj:j<l.length)
 (hK: ∀H',St H0 H' (σ.set i (.cell b (ints (l.set j x)).toArray ty))→f H'):stAt H ⟨b,j,none⟩ [.int .i64 x] f:=
 hs.put i hi (by rw[intsA_size];exact hj) rfl fun H' hs'=>hK H' (by
  have e:(ints l).toArray.setIfInBounds j (Value.int .i64 x)=(ints (l.set j x)).toArray:=by rw[←ints_set];simp
  rw[←e];exact hs')
theorem reps_rep(v:Value): ∀n,reps n [v]=List.replicate n v
 |0=>rfl
 |n+1=>by rw[reps,reps_rep v n,List.replicate_succ];rfl
theorem repsA(n:Nat):(reps n (Array.toList #[Value.int .i64 0])).toArray=(ints (List.replicate n 0)).toArray:=by
 show(reps n [Value.int .i64 0]).toArray=_
 rw[reps_rep];simp[ints]
theorem St.isA(hs:St H0 H σ)(i:Nat){b n:Nat}{l:List Int}{ty:TypeId}(hi:σ[i]?=some (.cell b (ints l).toArray ty))(hn:l.length=n):IS H (some ⟨b,0,none⟩) n (ints l):=
 ⟨by rw[ints_len];exact hn,fun j v hv=>⟨_,rfl,by rw[add_none,Nat.zero_add];exact hs.get i hi (by rw[List.getElem?_toArray];exact hv)⟩⟩
theorem gDl{α:Type}(a b:List α)(d:α)(i:Nat)(h:i<a.length):(a++b).getD i d=a.getD i d:=by simp[List.getD_eq_getElem?_getD,List.getElem?_append_left h]
theorem getD_some{α:Type}(a:List α)(d:α){i:Nat}(h:i<a.length):a[i]?=some (a.getD i d):=by rw[List.getD_eq_getElem?_getD,List.getElem?_eq_getElem h];rfl
theorem tab_getD{n:Nat}{f:Nat→Int}{i:Nat}(h:i<n):((List.range n).map f).getD i 0=f i:=by simp[List.getD_eq_getElem?_getD,h]
end Go.Sh
namespace Go.Proofs
open Go.Sh
variable {H0 H:Heap} {σ:List Rs} {R:Value→Heap→Prop}
theorem andI_4095(a:Int):andI .i64 a (4095:Int)=a%4096:=by
 unfold andI
 rw[show IntKind.bits .i64=64 from rfl,BitVec.toNat_and,BitVec.toNat_ofInt,BitVec.toNat_ofInt]
 rw[show((4095:Int)%((2^64:Nat):Int)).toNat=2^12-1 from by decide,Nat.and_two_pow_sub_one_eq_mod]
 have h2:(((a%((2^64:Nat):Int)).toNat%2^12:Nat):Int)=a%4096:=by
  rw[show((2^64:Nat):Int)=18446744073709551616 from by decide];omega
 rw[h2]
 exact wrap_id (by omega) (by omega)
theorem is_from{p:Option Addr}{l c a:Nat}{fs:List Value}(h:IS H p l fs)(hlc:l≤c)(ha:a≤l):IS H (if c=a then p else Option.map (fun x=>Addr.add x (a*1)) p) (l-a) (fs.drop a):=by
 refine⟨by rw[List.length_drop,h.len],fun i v hv=>?_⟩
 have hi:=(List.getElem?_eq_some_iff.1 hv).1
 rw[List.length_drop,h.len] at hi
 rw[List.getElem?_drop] at hv
 obtain⟨x,h1,h2⟩:=h.get _ _ hv
 rw[if_neg (by omega),h1]
 exact⟨_,rfl,by rw[add_add,Nat.mul_one];exact h2⟩
theorem kints_drop(k:IntKind)(l:List Int)(i:Nat):(kints k l).drop i=kints k (l.drop i):=by simp[kints]
theorem kints_take(k:IntKind)(l:List Int)(i:Nat):(kints k l).take i=kints k (l.take i):=by simp[kints]
theorem drop_gD{b:List Int}{a i:Nat}(h:a+i<b.length):(b.drop a)[i]?=some (b.getD (a+i) 0):=by rw[List.getElem?_drop];exact get_gD b 0 h
theorem c105{p:Option Addr}{l c a:Nat}{b:List Int}(h:IS H p l (kints .u8 (b.drop a)))(hb: ∀x∈b,0≤x∧x<256)(hl:3≤l)(hR:R (.int .i64 (hashM b a)) H):
 CallsH Tryz.prog 105 #[.slice p l c] H R:=by
 have e:=h.length
 rw[List.length_drop] at e
 have r0:=getD_rng hb a
 have r1:=getD_rng hb (a+1)
 have r2:=getD_rng hb (a+2)
 refine Tryz.s105 (h.rd (x:=b.getD a 0) (by omega) (by omega) (by simpa using drop_gD (b:=b) (a:=a) (i:=0) (by omega)) ⟨by decide,h.rd (by omega) (by omega) (drop_gD (i:=1) (by omega)) ⟨by decide,h.rd (by omega) (by omega) (drop_gD (i:=2) (by omega)) ?_⟩⟩)
 rw[wrap_id (by omega) (by omega),wrap_id (by omega) (by omega),wrap_id (by omega) (by omega),andI_4095]
 exact hR
abbrev fiO(f:Nat)(p:Option Addr)(l c bf ba:Nat)(F A:List Int):List Rs:=
 [.cell f #[.slice p l c,.slice (some ⟨bf,0,none⟩) 4096 4096,.slice (some ⟨ba,0,none⟩) l l] 123,.sl (some ⟨bf,0,none⟩) 4096 4096 3 1 (ints F),.sl (some ⟨ba,0,none⟩) l l 3 1 (ints A)]
section
variable {f l c bf ba a:Nat} {p:Option Addr} {b F A:List Int}
theorem c80(hs:St H0 H (fiO f p l c bf ba F A++σ))(hb:IS H0 p l (kints .u8 b))(hr: ∀x∈b,0≤x∧x<256)(hlc:l≤c)(ha:a≤1000000000)(hch:Chains b F A a)
 (hR: ∀H',St H0 H' (fiO f p l c bf ba (addF b F a) (addA b F A a)++σ)→R (.tuple #[]) H'):CallsH Tryz.prog 80 #[.pointer (some ⟨f,0,none⟩),.int .i64 (a:Nat)] H R:=by
 have hbl:=hb.length
 refine Tryz.s80 ⟨_,rfl,_,_,_,hs.get 0 (j:=0) rfl rfl,?_⟩
 rw[wrap_id (by omega) (by omega)]
 refine br_dec (fun hle=>⟨_,rfl,_,_,_,hs.get 0 (j:=0) rfl rfl,by omega,by omega,?_⟩) (fun hgt=>?_)
 ·rw[Int.toNat_natCast]
  have hi:=is_from (hb.ext hs.ext) hlc (a:=a) (by omega)
  rw[kints_drop] at hi
  have hh:=hashM_rng b a
  refine c105 hi hr (by omega) ⟨_,rfl,_,rfl,_,_,_,hs.get 0 (j:=2) rfl rfl,_,rfl,_,_,_,hs.get 0 (j:=1) rfl rfl,_,rfl,_,_,_,hs.get 0 (j:=1) rfl rfl,?_⟩
  have hF:IS H (some ⟨bf,0,none⟩) 4096 (kints .i64 F):=hs.is 1 rfl
  refine hF.rd hh.1 (by omega) (get_gD F 0 (by rw[hch.fl];omega)) ⟨_,rfl,by omega,by omega,?_⟩
  rw[add_none,Nat.zero_add,Nat.mul_one]
  refine hs.slPut 2 rfl (by rw[ints_len,hch.al];omega) rfl fun H2 hs2=>⟨_,rfl,by omega,by omega,?_⟩
  rw[add_none,Nat.zero_add,Nat.mul_one,wrap_id (by omega) (by omega)]
  refine hs2.slPut 1 rfl (by rw[ints_len,hch.fl];omega) rfl fun H3 hs3=>hR H3 ?_
  unfold addF addA
  rw[if_pos (by omega),if_pos (by omega)]
  unfold fiO
  rw[←ints_set,←ints_set]
  exact hs3
 ·refine hR H ?_
  unfold addF addA
  rw[if_neg (by omega),if_neg (by omega)]
  exact hs
theorem c79(hs:St H0 H (fiO f p l c bf ba F A++σ))(hb:IS H0 p l (kints .u8 b))(hr: ∀x∈b,0≤x∧x<256)(hlc:l≤c)(hl:l≤1000000000)(ha:a≤l)(hch:Chains b F A a){eff:Int}(he:0<eff∧eff≤64)
 (hR:R (.tuple #[.int .i64 ((bestM b F A a eff).1:Nat),.int .i64 ((bestM b F A a eff).2:Nat)]) H):CallsH Tryz.prog 79 #[.pointer (some ⟨f,0,none⟩),.int .i64 (a:Nat),.int .i64 eff] H R:=by
 have hbl:=hb.length
 refine Tryz.s79 ?_
 unfold Tryz.S79
 refine⟨_,rfl,_,_,_,hs.get 0 (j:=0) rfl rfl,?_⟩
 rw[wrap_id (by omega) (by omega)]
 unfold bestM at hR
 refine br_dec (fun hgt=>?_) (fun hle=>?_)
 ·rw[if_pos (by omega)] at hR;exact hR
 rw[if_neg (by omega)] at hR
 intro J6 hJ6
 have hR:=hJ6 _ _ H hR
 refine⟨_,rfl,_,_,_,hs.get 0 (j:=1) rfl rfl,_,rfl,_,_,_,hs.get 0 (j:=0) rfl rfl,by omega,by omega,?_⟩
 rw[Int.toNat_natCast]
 have hi:=is_from (hb.ext hs.ext) hlc (a:=a) (by omega)
 rw[kints_drop] at hi
 have hh:=hashM_rng b a
 refine c105 hi hr (by omega) ⟨_,rfl,.inl (Ext.refl _),?_⟩
 have hF:IS H (some ⟨bf,0,none⟩) 4096 (kints .i64 F):=hs.is 1 rfl
 have hA:IS H (some ⟨ba,0,none⟩) l (kints .i64 A):=hs.is 2 rfl
 have hB:=hb.ext hs.ext
 refine hF.rd hh.1 (by omega) (get_gD F 0 (by rw[hch.fl];omega)) ?_
 have hf0:=hch.fget (hashM b a).toNat
 generalize F.getD (hashM b a).toNat 0=p0 at hR hf0 ⊢
 intro X19 hX
 have loop: ∀(g:Nat) (q t:Int) (L D:Nat),q<g→0≤q→0≤t→t+q≤a→L≤258→D≤1000000000→J6 [.int .i64 ((chainM b A a eff g q t L D).1:Nat),.int .i64 ((chainM b A a eff g q t L D).2:Nat)] H→X19 [.int .i64 (L:Nat),.int .i64 (D:Nat),.int .i64 t,.int .i64 q] H:=by
  intro g
  induction g with
  |zero=>intro q t L D h1 h2;omega
  |succ g ih=>
   intro q t L D hqg hq ht htq hL hD hfin
   rw[chainM] at hfin
   refine hX _ _ _ _ H ?_
   rw[wrap_id (n:=q-1) (by omega) (by omega),wrap_id (n:=(a:Int)-(q-1)) (by omega) (by omega),wrap_id (n:=t+1) (by omega) (by omega),wrap_id (n:=8*eff) (by omega) (by omega)]
   intro J25 hJ25
   refine br_dec (fun hq0=>br_dec (fun hw=>hJ25 H ?_) (fun hw=>?_)) (fun hq0=>?_)
   ·rw[if_pos ⟨hq0,hw⟩] at hfin
    obtain⟨k,hk⟩:=Int.eq_ofNat_of_zero_le (show 0≤q-1 by omega)
    rw[hk] at hfin ⊢
    rw[Int.toNat_natCast] at hfin
    have hx:=hch.aget k
    have hxg:A[k]?=some (A.getD k 0):=get_gD A 0 (by rw[hch.al];omega)
    generalize A.getD k 0=x at hx hxg hfin
    -- on along the chain
    intro J27 hJ27
    have on: ∀L' D':Nat,L'≤258→D'≤1000000000→J6 [.int .i64 ((chainM b A a eff g x (t+1) L' D').1:Nat),.int .i64 ((chainM b A a eff g x (t+1) L' D').2:Nat)] H→J27 [.int .i64 (L':Nat),.int .i64 (D':Nat),.int .i64 (t+1)] H:=fun L' D' h1 h2 h3=>by
     refine hJ27 _ _ _ H ⟨_,rfl,_,_,_,hs.get 0 (j:=2) rfl rfl,?_⟩
     refine hA.rd (by omega) (by omega) (by rw[Int.toNat_natCast];exact hxg) ?_
     exact ih x (t+1) L' D' (by omega) hx.1 (by omega) (by omega) h1 h2 h3
    intro J36 hJ36
    obtain⟨m1,m2,m3⟩:=preM_ok b k a 258 0 (by omega) (.inl rfl)
    have goal36:J36 [.int .i64 (preM b k a 258 0:Nat)] H:=by
     generalize preM b k a 258 0=n at*
     refine hJ36 _ H ?_
     intro J39 hJ39
     have keep: ¬(n≥3∧n>L)→J39 [.int .i64 (L:Nat),.int .i64 (D:Nat)] H:=fun hn=>by
      rw[if_neg hn] at hfin
      refine hJ39 _ _ H (br_eq (fun h258=>?_) (fun h258=>br_dec (fun hL0=>br_dec (fun ht8=>?_) (fun ht8=>?_)) (fun hL0=>?_)))
      ·rw[if_pos (.inl (by omega))] at hfin;exact hfin
      ·rw[if_pos (.inr (by omega))] at hfin;exact hfin
      ·rw[if_neg (by omega)] at hfin;exact on L D hL hD hfin
      ·rw[if_neg (by omega)] at hfin;exact on L D hL hD hfin
     refine br_dec (fun h3=>br_dec (fun hgt=>?_) (fun hgt=>keep (by omega))) (fun h3=>keep (by omega))
     rw[if_pos (show n≥3∧n>L from⟨by omega,by omega⟩)] at hfin
     obtain⟨D',hD'⟩:=Int.eq_ofNat_of_zero_le (show 0≤(a:Int)-k by omega)
     rw[hD'] at hfin ⊢
     rw[Int.toNat_natCast] at hfin
     refine hJ39 _ _ H (br_eq (fun h258=>?_) (fun h258=>br_dec (fun hL0=>br_dec (fun ht8=>?_) (fun ht8=>?_)) (fun hL0=>by omega)))
     ·rw[if_pos (.inl (by omega))] at hfin;exact hfin
     ·rw[if_pos (.inr ht8)] at hfin;exact hfin
     ·rw[if_neg (by omega)] at hfin;exact on n D' (by omega) (by omega) hfin
    intro X43 hX43
    have inner: ∀(g n:Nat),n+g=258→preM b k a g n=preM b k a 258 0→X43 [.int .i64 (n:Nat)] H:=by
     intro g
     induction g with
     |zero=>
      intro n hn he
      rw[preM] at he
      refine hX43 _ H (br_n (by omega) ?_)
      rw[he];exact goal36
     |succ g ih2=>
      intro n hn he
      rw[preM] at he
      refine hX43 _ H (br_y (by omega) ⟨_,rfl,_,_,_,hs.get 0 (j:=0) rfl rfl,?_⟩)
      rw[wrap_id (n:=(a:Int)+n) (by omega) (by omega),wrap_id (n:=(k:Int)+n) (by omega) (by omega),wrap_id (n:=(n:Int)+1) (by omega) (by omega)]
      refine br_dec (fun hlt=>⟨_,rfl,_,_,_,hs.get 0 (j:=0) rfl rfl,?_⟩) (fun hge=>?_)
      ·refine hB.rd (by omega) (by omega) (by rw[show((k:Int)+n).toNat=k+n from by omega];exact get_gD b 0 (by omega)) ⟨_,rfl,_,_,_,hs.get 0 (j:=0) rfl rfl,?_⟩
       refine hB.rd (by omega) (by omega) (by rw[show((a:Int)+n).toNat=a+n from by omega];exact get_gD b 0 (by omega)) (br_eq (fun heq=>?_) (fun hne=>?_))
       ·rw[if_pos ⟨by omega,heq⟩] at he
        exact ih2 (n+1) (by omega) he
       ·rw[if_neg (fun h=>hne h.2)] at he
        rw[he];exact goal36
      ·rw[if_neg (fun h=>by omega)] at he
       rw[he];exact goal36
    exact inner 258 0 (by omega) rfl
   ·rw[if_neg (fun h=>hw h.2)] at hfin;exact hfin
   ·rw[if_neg (fun h=>hq0 h.1)] at hfin;exact hfin
 exact loop (a+1) p0 0 0 0 (by omega) hf0.1 (by omega) (by omega) (by omega) (by omega) hR
end
def tokC(t:Tok):List Value:=[.int .i64 (t.n:Nat),.int .i64 (t.d:Nat),.int .u8 t.c]
def tokL(l:List Tok):List Value:=l.flatMap tokC
theorem tokL_snoc(l:List Tok)(t:Tok):tokL (l++[t])=tokL l++tokC t:=by simp[tokL]
theorem tokC_one(t:Tok): ∀v∈tokC t,v.oneCell'=true:=fun v hv=>by
 simp only[tokC,List.mem_cons,List.mem_singleton,List.not_mem_nil,or_false] at hv
 rcases hv with rfl|rfl|rfl<;>rfl
theorem tokL_len(l:List Tok):(tokL l).length=l.length*3:=by
 induction l with
 |nil=>rfl
 |cons t r ih=>simp only[tokL,List.flatMap_cons,List.length_append,List.length_cons] at ih ⊢;rw[ih];simp[tokC];omega
theorem lits_tok(l:List Int)(k:Nat)(h:k<l.length):(l.map fun c=>(⟨0,0,c⟩:Tok)).take (k+1)=(l.map fun c=>(⟨0,0,c⟩:Tok)).take k++[⟨0,0,l.getD k 0⟩]:=by
 rw[List.take_add_one,List.getElem?_map,get_gD l 0 h];rfl
theorem tok_app{q:Option Addr}{n m i:Nat}{ts:List Tok}(hs:St H0 H σ)(hi:σ[i]?=some (.sl q n m 120 3 (tokL ts)))(hn:n≤1000000000)(t:Tok){K:Option Addr→Nat→Nat→Heap→Prop}
 (hK: ∀q' m' H',St H0 H' (σ.set i (.sl q' (n+1) m' 120 3 (tokL (ts++[t]))))→K q' (n+1) m' H'):
 alc H (.cells (List.toArray (tokC t)) 120) fun b9 H10=>appQ 3 24 #[.int .i64 0,.int .i64 0,.int .u8 0] H10 q n m (some ⟨b9,0,none⟩) 1 120 K:=by
 refine hs.alc fun b9 H10 hs10=>?_
 refine hs10.appC (i+1) 0 (k:=3) (by simpa using hi) rfl (by rfl) (by simpa using tokC_one t) (by decide) rfl (by omega) (by omega) fun q' m' H' hs'=>hK q' m' H' ?_
 rw[tokL_snoc]
 simp only[List.set_cons_succ] at hs'
 exact hs'.tail
theorem c52{p:Option Addr}{l c:Nat}{b:List Int}{eff:Int}(hb:IS H p l (kints .u8 b))(hr: ∀x∈b,0≤x∧x<256)(hlc:l≤c)(hl:l≤100000000)
 (hR: ∀q m H',St H H' [.sl q (lzM b eff).length m 120 3 (tokL (lzM b eff))]→R (.slice q (lzM b eff).length m) H'):CallsH Tryz.prog 52 #[.slice p l c,.int .i64 eff] H R:=by
 have hbl:=hb.length
 refine Tryz.s52 ?_
 unfold Tryz.S52
 have hlen:=(lz_ok hr eff).len
 unfold lzM at hR
 refine br_dec (fun h0=>?_) (fun h0=>?_)
 ·rw[if_pos h0] at hR
  intro X3 hX
  have go: ∀k,k≤l→ ∀q m H',St H H' [.sl q k m 120 3 (tokL ((b.map fun c=>(⟨0,0,c⟩:Tok)).take k))]→X3 [.slice q k m,.int .i64 (k:Nat)] H':=upto fun k hk ih q m H' hs=>by
   refine hX _ _ _ _ H' (br_dec (fun hlt=>?_) (fun hge=>?_))
   ·refine(hb.ext hs.ext).rd (by omega) (by omega) (by rw[Int.toNat_natCast];exact get_gD b 0 (by omega)) ⟨rfl,by decide,?_⟩
    refine tok_app hs (i:=0) rfl (by omega) ⟨0,0,b.getD k 0⟩ fun q' m' H2 hs2=>?_
    rw[wrap_id (by omega) (by omega)]
    refine ih (by omega) q' m' H2 ?_
    rw[lits_tok b k (by omega)]
    exact hs2
   ·have:k=l:=by omega
    subst this
    rw[List.take_of_length_le (by rw[List.length_map];omega)] at hs
    have:=hR q m H' (by rw[List.length_map,hbl];exact hs)
    rw[List.length_map,hbl] at this
    exact this
  exact go 0 (by omega) none 0 H ((St.nil H).nilSl _ 3)
 rw[if_neg h0] at hR
 intro J13 hJ13
 have main: ∀(f bf ba:Nat) (H1:Heap),St H H1 (fiO f p l c bf ba (List.replicate 4096 0) (List.replicate l 0))→J13 [.pointer (some ⟨f,0,none⟩)] H1:=fun f bf ba H1 hs1=>by
  refine hJ13 _ H1 ?_
  intro X16 hX
  unfold lzM at hlen
  rw[if_neg h0] at hlen
  generalize hall:findG b (min eff 64) (b.length+1) 0 (List.replicate 4096 0) (List.replicate b.length 0)=all at hR hlen
  have loop: ∀(g a:Nat) (F A:List Int) (ts:List Tok) (q:Option Addr) (m:Nat) (H2:Heap),l<a+g→a≤l→Chains b F A a→ts++findG b (min eff 64) g a F A=all→St H H2 (.sl q ts.length m 120 3 (tokL ts)::fiO f p l c bf ba F A)→X16 [.slice q ts.length m,.int .i64 (a:Nat)] H2:=by
   intro g
   induction g with
   |zero=>intro a F A ts q m H2 h1 h2;omega
   |succ g ih=>
    intro a F A ts q m H2 hg ha hch he hs2
    rw[findG] at he
    have htl:ts.length≤all.length:=by rw[←he,List.length_append];omega
    refine hX _ _ _ _ H2 (br_dec (fun hlt=>?_) (fun hge=>?_))
    ·rw[if_pos (by omega)] at he
     have hbest:=best_ok hch (min eff 64)
     refine c79 (σ:=[.sl q ts.length m 120 3 (tokL ts)]) (hs2.perm (by
      rw[show(Rs.sl q ts.length m 120 3 (tokL ts)::fiO f p l c bf ba F A)=[Rs.sl q ts.length m 120 3 (tokL ts)]++fiO f p l c bf ba F A from rfl]
      exact List.perm_append_comm)) hb hr hlc (by omega) ha hch (by omega) ⟨_,_,rfl,?_⟩
     generalize bestM b F A a (min eff 64)=N at*
     refine br_eq (fun hn0=>?_) (fun hn0=>?_)
     ·rw[if_pos (by omega)] at he
      refine(hb.ext hs2.ext).rd (by omega) (by omega) (by rw[Int.toNat_natCast];exact get_gD b 0 (by omega)) ⟨rfl,by decide,?_⟩
      refine tok_app hs2 (i:=0) rfl (by omega) ⟨0,0,b.getD a 0⟩ fun q' m' H3 hs3=>?_
      refine c80 (σ:=[.sl q' (ts.length+1) m' 120 3 (tokL (ts++[⟨0,0,b.getD a 0⟩]))]) (hs3.perm (by
       rw[List.set_cons_zero,show ∀r:Rs,(r::fiO f p l c bf ba F A)=[r]++fiO f p l c bf ba F A from fun _=>rfl]
       exact List.perm_append_comm)) hb hr hlc (by omega) hch fun H4 hs4=>⟨rfl,?_⟩
      rw[wrap_id (by omega) (by omega)]
      have:=ih (a+1) _ _ (ts++[⟨0,0,b.getD a 0⟩]) q' m' H4 (by omega) (by omega) hch.add (by rw[List.append_assoc];exact he) (by
       rw[List.length_append,List.length_singleton]
       exact hs4.perm List.perm_append_comm)
      rw[List.length_append,List.length_singleton] at this
      exact this
     ·rw[if_neg (by omega)] at he
      have hc:3≤N.1∧N.1≤258∧N.2≤32768∧a+N.1≤l:=by
       rcases hbest with h|h
       ·omega
       ·exact⟨h.1,h.2.1,h.2.2.2.1,by have:=h.2.2.2.2.2.1;omega⟩
      refine⟨rfl,by decide,?_⟩
      refine tok_app hs2 (i:=0) rfl (by omega) ⟨N.1,N.2,0⟩ fun q' m' H3 hs3=>?_
      intro X36 hX36
      have adds: ∀(r a':Nat) (F' A':List Int) (H4:Heap),a'+r=a+N.1→a≤a'→Chains b F' A' a'→addsM b r a' F' A'=addsM b N.1 a F A→St H H4 (fiO f p l c bf ba F' A'++[.sl q' (ts.length+1) m' 120 3 (tokL (ts++[⟨N.1,N.2,0⟩]))])→X36 [.int .i64 (a':Nat),.int .i64 ((N.1-r:Nat):Int)] H4:=by
       intro r
       induction r with
       |zero=>
        intro a' F' A' H4 hr' haa hch' had hs4
        refine hX36 _ _ H4 (br_n (by omega) ?_)
        rw[addsM] at had
        rw[←had] at he
        have:=ih a' F' A' (ts++[⟨N.1,N.2,0⟩]) q' m' H4 (by omega) (by omega) hch' (by rw[List.append_assoc,show a'=a+N.1 from by omega];exact he) (by
         rw[List.length_append,List.length_singleton]
         exact hs4.perm List.perm_append_comm)
        rw[List.length_append,List.length_singleton] at this
        exact this
       |succ r ih2=>
        intro a' F' A' H4 hr' haa hch' had hs4
        refine hX36 _ _ H4 (br_y (by omega) ?_)
        refine c80 hs4 hb hr hlc (by omega) hch' fun H5 hs5=>⟨rfl,?_⟩
        rw[wrap_id (by omega) (by omega),wrap_id (by omega) (by omega)]
        have:=ih2 (a'+1) _ _ H5 (by omega) (by omega) hch'.add had hs5
        rw[show((N.1-r:Nat):Int)=((N.1-(r+1):Nat):Int)+1 from by omega] at this
        exact this
      have:=adds N.1 a F A H3 rfl (Nat.le_refl _) hch rfl (hs3.perm (by
       rw[List.set_cons_zero,show ∀r:Rs,(r::fiO f p l c bf ba F A)=[r]++fiO f p l c bf ba F A from fun _=>rfl]
       exact List.perm_append_comm))
      rw[Nat.sub_self] at this
      exact this
    ·rw[if_neg (by omega),List.append_nil] at he
     subst he
     exact hR q m H2 (hs2.take 1)
  have:=loop (b.length+1) 0 _ _ [] none 0 H1 (by omega) (by omega) (chains_zero b) (by rw[List.nil_append];exact hall) (by rw[hbl];exact hs1.nilSl _ 3)
  exact this
 have mk: ∀(H1:Heap) (bf ba:Nat),St H H1 [.cell bf (List.toArray (reps 4096 [.int .i64 0])) 3,.cell ba (List.toArray (reps l [.int .i64 0])) 3]→alc H1 (.cells #[.slice p l c,.slice (some ⟨bf,0,none⟩) 4096 4096,.slice (some ⟨ba,0,none⟩) l l] 123) fun f H2=>J13 [.pointer (some ⟨f,0,none⟩)] H2:=fun H1 bf ba hs=>by
  rw[reps_rep,reps_rep] at hs
  have hs:=(hs.toSl 0 (l:=4096) (k:=1) rfl (by rw[List.size_toArray,List.length_replicate]) rfl (fun v hv=>by rw[(List.mem_replicate.1 hv).2];rfl)).toSl 1 (l:=l) (k:=1) rfl (by rw[List.size_toArray,List.length_replicate,Nat.mul_one]) rfl (fun v hv=>by rw[(List.mem_replicate.1 hv).2];rfl)
  refine hs.alc fun f H2 hs2=>main f bf ba H2 ?_
  simp only[List.set_cons_zero,List.set_cons_succ] at hs2
  unfold fiO
  rw[show ints (List.replicate 4096 0)=List.replicate 4096 (Value.int .i64 0) from List.map_replicate,show ints (List.replicate l 0)=List.replicate l (Value.int .i64 0) from List.map_replicate]
  exact hs2
 have i8:((8:Nat):Int)=8:=rfl
 rw[i8]
 refine⟨⟨by decide,by decide,by decide,by decide,?_⟩,⟨by omega,by omega,by omega,by omega,?_⟩⟩
 ·refine(St.nil H).alcE fun b1 H1 e1 hs1=>⟨.inl e1,by omega,by omega,by omega,by omega,hs1.alc fun b2 H2 hs2=>?_⟩
  rw[Int.toNat_natCast] at*
  exact mk H2 b1 b2 hs2.swap
 ·refine(St.nil H).alcE fun b1 H1 e1 hs1=>⟨by decide,by decide,by decide,by decide,hs1.alc fun b2 H2 hs2=>?_⟩
  rw[Int.toNat_natCast] at*
  exact mk H2 b2 b1 hs2
end Go.Proofs
namespace Go.Proofs
open Go.Sh
variable {H0 H:Heap} {σ:List Rs} {R:Value→Heap→Prop}
theorem is_till{p:Option Addr}{l c n:Nat}{fs:List Value}(h:IS H p l fs)(hn:n≤l):IS H (if c=0 then p else Option.map (fun x=>Addr.add x (0*1)) p) (n-0) (fs.take n):=by
 refine⟨by rw[List.length_take,h.len];omega,fun i v hv=>?_⟩
 rw[List.getElem?_take] at hv
 split at hv
 ·obtain⟨x,h1,h2⟩:=h.get _ _ hv
  subst h1
  split
  ·exact⟨x,rfl,h2⟩
  ·exact⟨_,rfl,by rw[add_add];simpa using h2⟩
 ·cases hv
theorem ints_drop(l:List Int)(i:Nat):(ints l).drop i=ints (l.drop i):=by simp[ints]
theorem ints_take(l:List Int)(i:Nat):(ints l).take i=ints (l.take i):=by simp[ints]
theorem c92(hR: ∀b H',St H H' [.sl (some ⟨b,0,none⟩) 19 19 3 1 (ints (ordL.map Int.ofNat))]→R (.slice (some ⟨b,0,none⟩) 19 19) H'):CallsH Tryz.prog 92 #[] H R:=by
 refine Tryz.s92 (_u:=()) ((St.nil H).alc fun b H1 hs=>hR b H1 ?_)
 exact hs.toSl 0 (l:=19) (k:=1) rfl rfl rfl (by intro v hv;revert v;decide)
theorem countP_take{l:List Int}{k:Nat}(h:k<l.length):(l.take (k+1)).countP (fun x=>decide (x>0))=(l.take k).countP (fun x=>decide (x>0))+if l.getD k 0>0 then 1 else 0:=by
 rw[take_get h,List.countP_append,List.countP_singleton];simp
theorem c124{p:Option Addr}{l c:Nat}{ls:List Int}(h:IS H p l (ints ls))(hl:l≤1000000)(hR:R (.bool (ls.countP (fun x=>decide (x>0))==1)) H):CallsH Tryz.prog 124 #[.slice p l c] H R:=by
 have h':IS H p l (kints .i64 ls):=h
 have e:=h'.length
 refine Tryz.s124 ?_
 intro X hX
 have go: ∀k,k≤l→X [.int .i64 ((ls.take k).countP (fun x=>decide (x>0)):Nat),.int .i64 (k:Nat)] H:=upto fun k hk ih=>by
  have hc:(ls.take k).countP (fun x=>decide (x>0))≤(ls.take k).length:=List.countP_le_length
  rw[List.length_take] at hc
  refine hX _ _ H (br_dec (fun hlt=>?_) (fun hge=>?_))
  ·have ih:=ih (by omega)
   rw[countP_take (by omega)] at ih
   refine h'.rd (by omega) (by omega) (by rw[Int.toNat_natCast];exact get_gD ls 0 (by omega)) ?_
   rw[wrap_id (by omega) (by omega),wrap_id (by omega) (by omega)]
   refine br_dec (fun hp=>?_) (fun hp=>?_)
   ·rw[if_pos hp] at ih;exact ih
   ·rw[if_neg hp] at ih;exact ih
  ·have:k=l:=by omega
   subst this
   rw[List.take_of_length_le (by omega)]
   have e2:(((ls.countP (fun x=>decide (x>0)):Nat):Int)==1)=(ls.countP (fun x=>decide (x>0))==1):=by
    rw[Bool.eq_iff_iff];simp;omega
   rw[e2];exact hR
 exact go 0 (by omega)
theorem rightM_ok{ls:List Int}{s n:Bool}(h:rightM ls s n=true):OkC ls:=by
 unfold rightM at h
 simp only[Bool.and_eq_true,Bool.or_eq_true,decide_eq_true_eq,List.all_eq_true,beq_iff_eq] at h
 refine⟨⟨h.1.1,h.1.2⟩,?_⟩
 rcases h.2 with (h|h)|h<;>omega
theorem rightM_of{ls:List Int}(ok:OkC ls)(s n:Bool):rightM ls s n=(wtM ls==65536||(s&&wtM ls==32768&&ls.countP (fun x=>decide (x>0))==1)||(n&&wtM ls==0)):=by
 unfold rightM
 have h1:decide (ls.length≤300)=true:=by simpa using ok.w.len
 have h2:(ls.all fun n=>decide (0≤n∧n≤16))=true:=by
  rw[List.all_eq_true];intro x hx;simpa using ok.w.rng x hx
 rw[h1,h2];simp
section
variable {f a most:Nat} {B out:List Int} {e:Int}
theorem c104(hs:St H0 H (flR f B a most out e::σ)){p:Option Addr}{l c:Nat}{ls:List Int}(h:IS H p l (ints ls))(hl:l≤1000000){s n:Bool}
 (hbad:rightM ls s n=false→ ∀H' d τ,St H0 H' (flR f B a most out (if e=0 then 21 else e)::(τ++σ))→R (.pointer d) H')
 (hgood:rightM ls s n=true→ ∀H' b P F,St H0 H' (flR f B a most out e::decR b ls P F::σ)→R (.pointer (some ⟨b,0,none⟩)) H'):
 CallsH Tryz.prog 104 #[.pointer (some ⟨f,0,none⟩),.slice p l c,.bool s,.bool n] H R:=by
 refine Tryz.s104 ?_
 unfold Tryz.S104
 refine newDecR h (fun hn=>⟨_,_,rfl,?_⟩) (fun ok H1 b P F hs1=>⟨_,_,rfl,?_⟩)
 ·have hf:rightM ls s n=false:=by
   cases hr:rightM ls s n with
   |false=>rfl
   |true=>exact absurd (rightM_ok hr) hn
  have fin: ∀x y,(∃r11 r12,Value.tuple #[.int .i64 x,.bool y]= .tuple #[.int .i64 r11,.bool r12]∧True):=fun x y=>⟨_,_,rfl,trivial⟩
  refine c108 h (fun _=>⟨_,_,rfl,?_⟩) (fun _=>⟨_,_,rfl,?_⟩)
  all_goals
   intro J hJ
   exact br_t rfl (c77 hs fun H2 hs2=>⟨rfl,hJ H2 (hbad hf H2 _ [] hs2)⟩)
 ·have hs1:=(hs.call hs1).swap
  have h1:=h.ext (show Ext H H1 from by
   rename_i hs0
   exact hs0.ext)
  refine c108 h1 (fun hn=>absurd ok.w hn) (fun _=>⟨_,_,rfl,?_⟩)
  intro J hJ
  have hrm:=rightM_of ok s n
  have good:rightM ls s n=true→J [] H1:=fun hr=>hJ H1 (hgood hr H1 b P F hs1)
  have bad:rightM ls s n=false→CallsH Tryz.prog 77 #[.pointer (some ⟨f,0,none⟩),.int .i64 21] H1 (fun r H'=>r= .tuple #[]∧J [] H'):=fun hr=>
   c77 hs1 fun H2 hs2=>⟨rfl,hJ H2 (hbad hr H2 _ [decR b ls P F] hs2)⟩
  have last:(wtM ls==65536||(s&&wtM ls==32768&&ls.countP (fun x=>decide (x>0))==1))=false→br n (br (!(wtM ls==0)) (CallsH Tryz.prog 77 #[.pointer (some ⟨f,0,none⟩),.int .i64 21] H1 (fun r H'=>r= .tuple #[]∧J [] H')) (J [] H1)) (CallsH Tryz.prog 77 #[.pointer (some ⟨f,0,none⟩),.int .i64 21] H1 (fun r H'=>r= .tuple #[]∧J [] H')):=fun hz=>by
   rw[hz,Bool.false_or] at hrm
   refine br_i (fun hn=>br_not (fun h0=>bad ?_) (fun h0=>good ?_)) (fun hn=>bad ?_)
   ·rw[hrm,hn,h0];rfl
   ·rw[hrm,hn,h0];rfl
   ·rw[hrm,hn];rfl
  refine br_f rfl (br_ne (fun hw=>?_) (fun hw=>good ?_))
  ·have e1:(wtM ls==65536)=false:=by simpa using hw
   refine br_i (fun hsg=>br_i (fun h3=>c124 h1 hl ⟨_,rfl,br_not (fun hc=>last ?_) (fun hc=>good ?_)⟩) (fun h3=>last ?_)) (fun hsg=>last ?_)
   ·rw[e1,hsg,h3,hc];rfl
   ·rw[hrm,e1,hsg,h3,hc];rfl
   ·rw[e1,hsg,h3];rfl
   ·rw[e1,hsg];rfl
  ·rw[hrm,show(wtM ls==65536)=true from by simpa using hw];rfl
end
end Go.Proofs
namespace Go.Proofs
open Go.Sh
theorem symBits_pos{ls:List Int}{s:Nat}(h:0<ls.getD s 0):1≤(symBits ls s).length:=by rw[symBits_len];omega
theorem Codes.tail{ll dl:List Int}{t:Tok}{ts:List Tok}(c:Codes ll dl (t::ts)):Codes ll dl ts:=⟨c.l,c.d,c.end_,fun u hu=>c.lit u (List.mem_cons_of_mem _ hu),fun u hu=>c.dst u (List.mem_cons_of_mem _ hu)⟩
theorem toksB_cons(ll dl:List Int)(t:Tok)(ts:List Tok):toksB ll dl (t::ts)=tokB ll dl t++toksB ll dl ts:=by simp[toksB]
theorem toksB_len{ll dl:List Int}: ∀{ts:List Tok},Codes ll dl ts→(∀t∈ts,TokR t)→ts.length+1≤(toksB ll dl ts).length
 |[],c,_=>by have:=symBits_pos c.end_;simp only[toksB,List.flatMap_nil,List.nil_append,List.length_nil];omega
 |t::ts,c,hr=>by
  have:=toksB_len c.tail fun u hu=>hr u (List.mem_cons_of_mem _ hu)
  rw[toksB_cons,List.length_append,List.length_cons]
  have h1:=c.lit t List.mem_cons_self
  have h2:1≤(tokB ll dl t).length:=by
   unfold tokB
   unfold lsym at h1
   split
   ·rename_i h0
    rw[if_pos h0] at h1
    exact symBits_pos h1
   ·rename_i h0
    rw[if_neg h0,Int.toNat_natCast] at h1
    have:=symBits_pos h1
    simp only[List.length_append];omega
  omega
theorem natpow{m n:Nat}(h:m<2^n):((m:Nat):Int)<2^n:=by rw[←pow_cast];exact Int.ofNat_lt.2 h
theorem toks_has {B : List Int} {most : Nat} {ll dl : List Int} : ∀ (ts : List Tok) (out b : List Int) (f a : Nat), Runs out ts b → Codes ll dl ts → Has B a (toksB ll dl ts) → out.length ≤ most → ts.length < f →
    symsM B most ll dl f a out = if b.length ≤ most then .ok (a + (toksB ll dl ts).length, b) else .error 24
  | [], out, b, f, a, hr, c, h, ho, hf => by
    obtain ⟨f, rfl⟩ : ∃ g, f = g + 1 := ⟨f - 1, by omega⟩
    cases hr
    rw [if_pos ho, symsM]
    have h' : Has B a (symBits ll 256) := h
    rw [symM_has c.l c.end_ h']
    simp [toksB, symBits_len]
  | t :: ts, out, b, f, a, hr, c, h, ho, hf => by
    obtain ⟨f, rfl⟩ : ∃ g, f = g + 1 := ⟨f - 1, by simp at hf; omega⟩
    have hlen := hr.2.len
    rw [expT_len] at hlen
    rw [toksB_cons] at h ⊢
    obtain ⟨h1, h2⟩ := h.app
    have hlit := c.lit t List.mem_cons_self
    have ih := toks_has (B := B) (most := most) ts (expT out t) b f (a + (tokB ll dl t).length) hr.2 c.tail h2
    rw [expT_len] at ih
    rw [symsM, List.length_append, ← Nat.add_assoc]
    rcases hr.1 with ⟨n0, d0, c0, c1⟩ | ⟨n3, n258, d1, d2, d3, hc0⟩
    · have etok : tokB ll dl t = symBits ll t.c.toNat := by unfold tokB; rw [if_pos n0]
      have eexp : expT out t = out ++ [((t.c.toNat : Nat) : Int)] := by unfold expT; rw [if_pos n0, Int.toNat_of_nonneg c0]
      unfold lsym at hlit
      rw [if_pos n0] at hlit
      rw [etok] at h1 ih ⊢
      rw [eexp] at ih
      rw [symM_has c.l hlit h1]
      simp only
      rw [if_neg (by omega), if_neg (by omega)]
      rw [symBits_len] at ih ⊢
      by_cases hm : (out.length : Int) ≥ most
      · rw [if_pos hm, if_neg (by omega)]
      · rw [if_neg hm]
        exact ih (by omega) (by simp at hf; omega)
    · have hn0 : t.n ≠ 0 := by omega
      obtain ⟨s1, s2, s3, s4⟩ := lenS_ok ⟨n3, n258⟩
      obtain ⟨q1, q2, q3⟩ := dstS_ok ⟨d1, d2⟩
      have hdst := c.dst t List.mem_cons_self hn0
      have etok : tokB ll dl t = symBits ll (lenS t.n) ++ bitsOf false ((t.n - (lenB (lenS t.n)).1 : Nat) : Int) (lenB (lenS t.n)).2 ++ symBits dl (dstS t.d) ++ bitsOf false ((t.d - (dstB (dstS t.d)).1 : Nat) : Int) (dstB (dstS t.d)).2 := by unfold tokB; rw [if_neg hn0]
      have eexp : expT out t = copyM t.d t.n out := by unfold expT; rw [if_neg hn0]
      unfold lsym at hlit
      rw [if_neg hn0, Int.toNat_natCast] at hlit
      rw [eexp] at ih
      have hlt : (tokB ll dl t).length = (ll.getD (lenS t.n) 0).toNat + (lenB (lenS t.n)).2 + (dl.getD (dstS t.d) 0).toNat + (dstB (dstS t.d)).2 := by
        rw [etok]; simp only [List.length_append, symBits_len, bitsOf_len]
      rw [etok] at h1
      obtain ⟨h1, g4⟩ := h1.app
      obtain ⟨h1, g3⟩ := h1.app
      obtain ⟨g1, g2⟩ := h1.app
      simp only [List.length_append, symBits_len, bitsOf_len] at g2 g3 g4
      rw [symM_has c.l hlit g1]
      simp only
      rw [if_neg (by omega), if_pos (by omega)]
      unfold copiesM
      rw [if_neg (by omega), getM_has g2 (by omega) (natpow s4)]
      simp only
      rw [show a + (ll.getD (lenS t.n) 0).toNat + (lenB (lenS t.n)).2 = a + ((ll.getD (lenS t.n) 0).toNat + (lenB (lenS t.n)).2) from by omega, symM_has c.d hdst g3]
      simp only
      rw [if_neg (by omega)]
      rw [show a + ((ll.getD (lenS t.n) 0).toNat + (lenB (lenS t.n)).2) + (dl.getD (dstS t.d) 0).toNat = a + ((ll.getD (lenS t.n) 0).toNat + (lenB (lenS t.n)).2 + (dl.getD (dstS t.d) 0).toNat) from by omega, getM_has g4 (by omega) (natpow q3)]
      simp only
      rw [if_neg (by omega), Int.toNat_natCast, Int.toNat_natCast]
      rw [show (dstB (dstS t.d)).1 + (t.d - (dstB (dstS t.d)).1) = t.d from by omega, show (lenB (lenS t.n)).1 + (t.n - (lenB (lenS t.n)).1) = t.n from by omega]
      by_cases hm : ((lenB (lenS t.n)).1 : Int) + ((t.n - (lenB (lenS t.n)).1 : Nat) : Int) > (most : Int) - out.length
      · rw [if_pos hm, if_neg (by omega)]
      · rw [if_neg hm]
        simp only
        have := ih (by omega) (by simp at hf; omega)
        rw [hlt] at this ⊢
        rw [show a + ((ll.getD (lenS t.n) 0).toNat + (lenB (lenS t.n)).2 + (dl.getD (dstS t.d) 0).toNat) + (dstB (dstS t.d)).2 = a + ((ll.getD (lenS t.n) 0).toNat + (lenB (lenS t.n)).2 + (dl.getD (dstS t.d) 0).toNat + (dstB (dstS t.d)).2) from by omega]
        exact this
theorem first_has{B first:List Int}(hr: ∀x∈first,0≤x∧x<8): ∀(l:List Nat) (a:Nat) (fs:List Int),Has B a (l.flatMap fun s=>bitsOf false (first.getD s 0) 3)→firstM B l a fs= .ok (a+3*l.length,l.foldl (fun fs s=>fs.set s (first.getD s 0)) fs)
 |[],a,fs,h=>rfl
 |s::l,a,fs,h=>by
  rw[List.flatMap_cons] at h
  obtain⟨h1,h2⟩:=h.app
  rw[bitsOf_len] at h2
  have hv:0≤first.getD s 0∧first.getD s 0<8:=by
   rcases getD_mem_or (l:=first) s with h|h
   ·exact hr _ h
   ·omega
  rw[firstM,getM_has h1 hv.1 (by
   have:(2:Int)^3=8:=by decide
   omega)]
  simp only
  rw[first_has hr l _ _ h2,List.length_cons,List.foldl_cons]
  congr 2;omega
theorem ord_fill{first:List Int}(h:first.length=19):ordL.foldl (fun fs s=>fs.set s (first.getD s 0)) (List.replicate 19 0)=first:=by
 match first,h with
 |[x0,x1,x2,x3,x4,x5,x6,x7,x8,x9,x10,x11,x12,x13,x14,x15,x16,x17,x18],_=>simp[ordL,List.replicate]
theorem list_has {B first : List Int} (ok : OkC first) : ∀ (rest ls : List Int) (a f total : Nat), Has B a (rest.flatMap fun n => symBits first n.toNat) → (∀ n ∈ rest, 0 ≤ n ∧ n ≤ 15 ∧ 0 < first.getD n.toNat 0) → ls.length + rest.length = total → rest.length < f →
    listM B first total f a ls = .ok (a + (rest.flatMap fun n => symBits first n.toNat).length, ls ++ rest)
  | [], ls, a, f, total, h, hr, ht, hf => by
    obtain ⟨f, rfl⟩ : ∃ g, f = g + 1 := ⟨f - 1, by simp at hf; omega⟩
    rw [listM, if_pos (by simp at ht; omega)]
    simp
  | n :: rest, ls, a, f, total, h, hr, ht, hf => by
    obtain ⟨f, rfl⟩ : ∃ g, f = g + 1 := ⟨f - 1, by simp at hf; omega⟩
    rw [List.flatMap_cons] at h
    obtain ⟨h1, h2⟩ := h.app
    have hn := hr n List.mem_cons_self
    rw [List.length_cons] at ht hf
    rw [listM, if_neg (by omega), symM_has ok hn.2.2 h1]
    simp only
    rw [if_neg (by omega), if_neg (by omega), if_neg (by omega), Int.toNat_of_nonneg hn.1]
    rw [symBits_len] at h2
    rw [list_has ok rest (ls ++ [n]) _ f total h2 (fun m hm => hr m (List.mem_cons_of_mem _ hm)) (by rw [List.length_append, List.length_singleton]; omega) (by omega)]
    rw [List.flatMap_cons, List.length_append, symBits_len, List.append_assoc]
    congr 2; omega
theorem rightM_whole{ls:List Int}{cs:List Int}{m:Nat}(w:Whole ls cs m)(s n:Bool):rightM ls s n=true:=by
 rw[rightM_of w.ok,w.wt];rfl
theorem flat_len_ge{first:List Int}: ∀{l:List Int},(∀n∈l,0<first.getD n.toNat 0)→l.length≤(l.flatMap fun n=>symBits first n.toNat).length
 |[],_=>by simp
 |n::l,h=>by
  rw[List.flatMap_cons,List.length_append,List.length_cons]
  have h1:=symBits_pos (h n List.mem_cons_self)
  have:=flat_len_ge (l:=l) fun m hm=>h m (List.mem_cons_of_mem _ hm)
  omega
theorem tables_has{B:List Int}{ts:List Tok}(dy:Dyn ts){a:Nat}(h:Has B a (bitsOf false 29 5++bitsOf false 29 5++bitsOf false 15 4++ordL.flatMap (fun s=>bitsOf false ((hdrL ts).getD s 0) 3)++(litL ts++dstL ts).flatMap (fun n=>symBits (hdrL ts) n.toNat))):
 tablesM B a= .ok (a+71+((litL ts++dstL ts).flatMap (fun n=>symBits (hdrL ts) n.toNat)).length,litL ts,dstL ts):=by
 have hB:=h.1
 obtain⟨h,h5⟩:=h.app
 obtain⟨h,h4⟩:=h.app
 obtain⟨h,h3⟩:=h.app
 obtain⟨h1,h2⟩:=h.app
 have eo:(ordL.flatMap (fun s=>bitsOf false ((hdrL ts).getD s 0) 3)).length=57:=by simp[ordL,bitsOf_len]
 simp only[List.length_append,bitsOf_len,eo] at h2 h3 h4 h5 hB
 have hr8: ∀x∈hdrL ts,0≤x∧x<8:=fun x hx=>by have:=dy.h.rng x hx;omega
 have hge:=flat_len_ge (l:=litL ts++dstL ts) (first:=hdrL ts) fun n hn=>(dy.all n hn).2.2
 rw[List.length_append,dy.ll,dy.dl] at hge
 unfold tablesM
 rw[getM_has h1 (by omega) (by decide)]
 simp only
 rw[getM_has h2 (by omega) (by decide)]
 simp only
 rw[show a+5+5=a+(5+5) from by omega,getM_has h3 (by omega) (by decide)]
 simp only
 rw[if_neg (by omega),show ordL.take (Int.toNat 15+4)=ordL from rfl,show a+(5+5)+4=a+(5+5+4) from by omega,first_has hr8 _ _ _ h4]
 simp only
 rw[ord_fill dy.hl,rightM_whole dy.h]
 simp only[Bool.true_eq_false,if_false]
 rw[show a+(5+5+4)+3*ordL.length=a+(5+5+4+57) from rfl,list_has dy.h.ok (litL ts++dstL ts) [] _ _ (Int.toNat 29+Int.toNat 29+258) h5 dy.all (by rw[List.length_append,dy.ll,dy.dl];rfl) (by rw[List.length_append,dy.ll,dy.dl];omega)]
 simp only[List.nil_append]
 rw[show Int.toNat 29+257=(litL ts).length from by rw[dy.ll];rfl,List.take_left,List.drop_left,rightM_whole dy.l,rightM_whole dy.d]
 simp only[Bool.true_eq_false,or_self,if_false]
theorem stored_big{B ws p out:List Int}{last v:Int}{most:Nat}(h:Has B 0 (partW ws last v p))(hp: ∀x∈p,0≤x∧x<256)(hl:p.length≤65535)(hl01:last=0∨last=1):
 getM B 1 ws.length= .ok (last,ws.length+1)∧getM B 2 (ws.length+1)= .ok (0,ws.length+3)∧storedM B most (ws.length+3) out=if out.length+p.length≤most then .ok ((partW ws last v p).length,out++p) else .error 24:=by
 by_cases hm:out.length+p.length≤most
 ·rw[if_pos hm];exact stored_has h hp hl hl01 hm
 obtain⟨g1,g2,_⟩:=stored_has h hp hl hl01 (out:=out) (most:=out.length+p.length) (Nat.le_refl _)
 refine⟨g1,g2,?_⟩
 rw[if_neg hm]
 unfold partW fillM at h
 simp only[List.append_assoc] at h
 obtain⟨_,h⟩:=h.app
 obtain⟨h1,h⟩:=h.app
 obtain⟨h2,h⟩:=h.app
 obtain⟨_,h⟩:=h.app
 obtain⟨h3,h⟩:=h.app
 obtain⟨h4,h5⟩:=h.app
 simp only[bitsOf_len,List.length_append,List.length_replicate,Nat.zero_add] at h1 h2 h3 h4 h5
 have e16:(2:Int)^16=65536:=by decide
 have ea:(ws.length+3+7)/8*8=(ws.length+10)/8*8:=by omega
 have eb:ws.length+1+2+(8-(ws.length+(1+2))%8)%8=(ws.length+10)/8*8:=by omega
 rw[eb] at h3 h4 h5
 unfold storedM
 rw[ea,getM_has h3 (by omega) (by omega)]
 simp only
 rw[getM_has h4 (by omega) (by omega)]
 simp only
 rw[if_neg (by simp),if_pos (by omega)]
theorem storW_pre: ∀(f:Nat) (ws b:List Int),∃t,storW f ws b=ws++t
 |0,ws,b=>⟨[],by simp[storW]⟩
 |f+1,ws,b=>by
  rw[storW]
  split
  ·exact⟨_,by simp only[partW,fillM,List.append_assoc];rfl⟩
  ·obtain⟨t,h⟩:=storW_pre f (partW ws 0 0 (b.take 65535)) (b.drop 65535)
   exact⟨_,by rw[h];simp only[partW,fillM,List.append_assoc];rfl⟩
theorem storW_len: ∀(f:Nat) (ws b:List Int),b.length<f→ws.length%8=0→(storW f ws b).length%8=0∧(storW f ws b).length≤ws.length+8*b.length+40*(b.length/65535+1)∧ws.length+8*b.length+40≤(storW f ws b).length
 |0,ws,b,h,_=>by omega
 |f+1,ws,b,h,h8=>by
  rw[storW]
  split
  ·rw[partW_len];omega
  ·have hd:(b.drop 65535).length=b.length-65535:=List.length_drop
   have ht:(b.take 65535).length=65535:=by rw[List.length_take];omega
   have hp:=partW_len ws 0 0 (b.take 65535)
   rw[ht] at hp
   obtain⟨h1,h2,h3⟩:=storW_len f (partW ws 0 0 (b.take 65535)) (b.drop 65535) (by omega) (by omega)
   rw[hd] at h2 h3
   have:b.length/65535=(b.length-65535)/65535+1:=by omega
   omega
theorem blocks_stor {T : TabT} {B : List Int} {most : Nat} : ∀ (f : Nat) (ws out b : List Int) (g : Nat), b.length < f → b.length < g → Has B 0 (storW f ws b) → (∀ x ∈ b, 0 ≤ x ∧ x < 256) → out.length ≤ most →
    blocksM T B most g ws.length out = if out.length + b.length ≤ most then .ok ((storW f ws b).length, out ++ b) else .error 24
  | 0, ws, out, b, g, hf, _, _, _, _ => by omega
  | f + 1, ws, out, b, g, hf, hg, h, hr, hm => by
    obtain ⟨g, rfl⟩ : ∃ k, g = k + 1 := ⟨g - 1, by omega⟩
    rw [storW] at h ⊢
    by_cases h65 : b.length ≤ 65535
    · rw [if_pos h65] at h ⊢
      obtain ⟨h1, h2, h3⟩ := stored_big h hr h65 (.inr rfl) (out := out) (most := most)
      rw [blocksM, h1]; simp only
      rw [h2]; simp only
      simp only [if_true]
      rw [h3]
      by_cases hm2 : out.length + b.length ≤ most
      · rw [if_pos hm2]
      · rw [if_neg hm2]
    · rw [if_neg h65] at h ⊢
      have hd : (b.drop 65535).length = b.length - 65535 := List.length_drop
      have ht : (b.take 65535).length = 65535 := by rw [List.length_take]; omega
      obtain ⟨t, hpre⟩ := storW_pre f (partW ws 0 0 (b.take 65535)) (b.drop 65535)
      have h' : Has B 0 (partW ws 0 0 (b.take 65535)) := by rw [hpre] at h; exact h.app.1
      obtain ⟨h1, h2, h3⟩ := stored_big h' (fun x hx => hr x (List.mem_of_mem_take hx)) (by omega) (.inl rfl) (out := out) (most := most)
      rw [blocksM, h1]; simp only
      rw [h2]; simp only
      simp only [if_true]
      rw [h3, ht]
      by_cases hle : out.length + 65535 ≤ most
      · rw [if_pos hle]
        simp only
        rw [if_neg (by decide)]
        have ih := blocks_stor (T := T) (B := B) (most := most) f (partW ws 0 0 (b.take 65535)) (out ++ b.take 65535) (b.drop 65535) g (by omega) (by omega) h (fun x hx => hr x (List.mem_of_mem_drop hx)) (by rw [List.length_append, ht]; exact hle)
        rw [ih, List.length_append, ht, hd, List.append_assoc, List.take_append_drop]
        by_cases hm2 : out.length + b.length ≤ most
        · rw [if_pos hm2, if_pos (by omega)]
        · rw [if_neg hm2, if_neg (by omega)]
      · rw [if_neg hle, if_neg (by omega)]
theorem fix_codes{ts:List Tok}(h: ∀t∈ts,TokR t):Codes fixL fixD ts:=
 ⟨fixL_ok,fixD_ok,by decide+kernel,fun t ht=>by
  have:=lsym_rng (h t ht)
  exact fixL_pos (by omega),fun t ht hn=>by
  rcases h t ht with h|h
  ·exact absurd h.1 hn
  ·have:=dstS_ok ⟨h.2.2.1,h.2.2.2.1⟩
   rw[fixD_get ⟨dstS t.d,by omega⟩];decide⟩
theorem max_nat(n:Nat):max ((n:Nat):Int) 0=(n:Int):=by omega
theorem infl_best{B b:List Int}{ts:List Tok}(hr:Runs [] ts b)(hl:ts.length≤1000000000){most:Nat}(h:Has B 0 (bestB ts)):inflM tablesM B most=if b.length≤most then .ok (b,nby (bestB ts)) else .error 24:=by
 have hB:=h.1
 unfold inflM
 rw[max_nat]
 unfold bestB at h hB ⊢
 by_cases hc:20<ts.length∧nby (dynB ts 1)<nby (fixB ts)
 ·rw[if_pos hc] at h hB
  rw[if_pos hc]
  have dy:=dyn_of hr.r hl
  unfold dynB at h hB ⊢
  have hlen:=toksB_len dy.c hr.r
  rw[show ∀x1 x2 x3 x4 x5 x6 x7 x8:List Int,x1++x2++x3++x4++x5++x6++x7++x8=x1++(x2++((x3++x4++x5++x6++x7)++x8)) from fun _ _ _ _ _ _ _ _=>by simp only[List.append_assoc]] at h
  obtain⟨h1,h⟩:=h.app
  obtain⟨h2,h⟩:=h.app
  obtain⟨h3,h4⟩:=h.app
  have eo:(ordL.flatMap (fun s=>bitsOf false ((hdrL ts).getD s 0) 3)).length=57:=by simp[ordL,bitsOf_len]
  simp only[List.length_append,bitsOf_len,eo,Nat.zero_add] at h2 h3 h4 hB
  rw[blocksM,getM_has h1 (by omega) (by decide)]
  simp only
  rw[Nat.zero_add,getM_has h2 (by omega) (by decide)]
  simp only
  rw[if_neg (by decide),if_neg (by decide),if_pos (by decide),tables_has dy h3]
  simp only
  unfold symbolsM
  rw[show 1+2+71=1+2+(5+5+4+57) from rfl,Nat.add_assoc (1+2)]
  rw[toks_has ts [] b _ _ hr dy.c h4 (Nat.zero_le _) (by omega)]
  by_cases hm2:b.length≤most
  ·rw[if_pos hm2,if_pos hm2]
   simp only[if_true]
   unfold nby
   simp only[List.length_append,bitsOf_len,eo]
   congr 2;omega
  ·rw[if_neg hm2,if_neg hm2]
 ·rw[if_neg hc] at h hB
  rw[if_neg hc]
  have fc:=fix_codes hr.r
  unfold fixB at h hB ⊢
  have hlen:=toksB_len fc hr.r
  rw[show bitsOf false 3 3=bitsOf false 1 1++bitsOf false 1 2 from by decide+kernel,List.append_assoc] at h
  obtain⟨h1,h⟩:=h.app
  obtain⟨h2,h4⟩:=h.app
  simp only[bitsOf_len,Nat.zero_add] at h2 h4
  simp only[List.length_append,bitsOf_len,Nat.zero_add] at hB
  rw[blocksM,getM_has h1 (by omega) (by decide)]
  simp only
  rw[Nat.zero_add,getM_has h2 (by omega) (by decide)]
  simp only
  rw[if_neg (by decide),if_pos (by decide)]
  unfold symbolsM
  rw[toks_has ts [] b _ _ hr fc h4 (Nat.zero_le _) (by omega)]
  by_cases hm2:b.length≤most
  ·rw[if_pos hm2,if_pos hm2]
   simp only[if_true]
   unfold nby
   simp only[List.length_append,bitsOf_len]
  ·rw[if_neg hm2,if_neg hm2]
theorem infl_def{B b:List Int}{eff:Int}(hb: ∀x∈b,0≤x∧x<256)(hl:b.length≤1000000000){most:Nat}(h:Has B 0 (defB b eff)):inflM tablesM B most=if b.length≤most then .ok (b,nby (defB b eff)) else .error 24:=by
 have hr:=lz_ok hb eff
 have hlen:=hr.len
 rw[List.length_nil] at hlen
 unfold defB at h ⊢
 by_cases hc:nby (storB b)<nby (bestB (lzM b eff))
 ·rw[if_pos hc] at h
  rw[if_pos hc]
  have h0:=storW_len (b.length+1) [] b (by omega) rfl
  have hB:=h.1
  unfold storB at hB
  rw[List.length_nil] at h0
  unfold inflM
  rw[max_nat]
  have:=blocks_stor (T:=tablesM) (B:=B) (most:=most) (b.length+1) [] [] b (8*B.length+1) (by omega) (by omega) h hb (Nat.zero_le _)
  rw[List.length_nil,Nat.zero_add,List.nil_append] at this
  rw[this]
  by_cases hm2:b.length≤most
  ·rw[if_pos hm2,if_pos hm2];rfl
  ·rw[if_neg hm2,if_neg hm2]
 ·rw[if_neg hc] at h
  rw[if_neg hc]
  exact infl_best hr (by omega) h
theorem nby_def(b:List Int)(eff:Int):nby (defB b eff)≤b.length+5*(b.length/65535+1)∧0<nby (defB b eff):=by
 have h0:=storW_len (b.length+1) [] b (by omega) rfl
 rw[List.length_nil] at h0
 have h1:nby (storB b)≤b.length+5*(b.length/65535+1):=by unfold nby storB;omega
 have h2:0<nby (storB b):=by unfold nby storB;omega
 unfold defB
 by_cases hc:nby (storB b)<nby (bestB (lzM b eff))
 ·rw[if_pos hc];exact⟨h1,h2⟩
 ·rw[if_neg hc]
  refine⟨by omega,?_⟩
  unfold bestB
  by_cases hc2:20<(lzM b eff).length∧nby (dynB (lzM b eff) 1)<nby (fixB (lzM b eff))
  all_goals first|rw[if_pos hc2]|rw[if_neg hc2]
  ·unfold nby dynB;simp only[List.length_append,bitsOf_len];omega
  ·unfold nby fixB;simp only[List.length_append,bitsOf_len];omega
end Go.Proofs
namespace Go.Sh
variable {H0 H H':Heap} {σ τ:List Rs}
def Rs.pers(Q:Heap→Prop):Rs where
 at_ H fp:=(∀b∈fp,b<H.size)∧ ∀H',(∀b∈fp,∀o,H[b]?=some o→H'[b]?=some o)→Q H'
 loc:=fun{H H' fp} h hk=>⟨fun b hb=>by
  have hlt:=h.1 b hb
  exact lt_of_get (hk b hb _ (Array.getElem?_eq_getElem hlt)),fun H'' hk2=>h.2 H'' fun b hb o ho=>hk2 b hb o (hk b hb o ho)⟩
 has h:=h.1
theorem St.persGet(hs:St H0 H σ)(i:Nat){Q:Heap→Prop}(hi:σ[i]?=some (.pers Q)):Q H:=by
 obtain⟨_,fps,hl,_⟩:=hs
 obtain⟨fp,_,h⟩:=hl.get hi
 exact h.2 H fun b _ o ho=>ho
theorem Ext.empty(H:Heap):Ext #[] H:=fun b o h=>by simp at h
theorem St.persOf{Q:Heap→Prop}(hs:St H0 H (τ++σ))(hq: ∀H',St #[] H' τ→Q H'):St H0 H (.pers Q::σ):=by
 obtain⟨he,fps,hl,hn,hb⟩:=hs
 obtain⟨a,b,rfl,h1,h2⟩:=hl.split
 have hna:a.flatten.Nodup:=by rw[List.flatten_append,List.nodup_append] at hn;exact hn.1
 refine⟨he,a.flatten::b,⟨⟨h1.has,fun H' hk=>hq H' ⟨Ext.empty H',a,h1.loc hk,hna,fun x _=>Nat.zero_le x⟩⟩,h2⟩,by simpa using hn,fun x hx=>hb x (by simpa using hx)⟩
end Go.Sh
namespace Go.Proofs
open Go.Sh
variable {H0 H:Heap} {σ:List Rs} {R:Value→Heap→Prop}
theorem put_ok(hs:St H0 H σ){i b:Nat}{hi:Bool}{ws:List Int}(hi':σ[i]?=some (wrR b hi ws)){v:Int}{n:Nat}(hn:n≤24)(v0:0≤v)(v1:v<2^n)(hl:ws.length+n≤1000000000)
 (hR: ∀H',St H0 H' (σ.set i (wrR b hi (ws++bitsOf hi v n)))→R (.bool true) H'):CallsH Tryz.prog 54 #[.pointer (some ⟨b,0,none⟩),.int .i64 v,.int .i64 (n:Nat)] H R:=
 c54 hs hi' (by rw[Int.toNat_natCast];exact hl) (fun h=>absurd ⟨Int.natCast_nonneg n,by omega,v0,by rw[Int.toNat_natCast];exact v1⟩ h) (fun _ H' hs'=>hR H' (by rw[Int.toNat_natCast] at hs';exact hs'))
theorem setget_ne{i j:Nat}(h:i≠j)(r:Rs){x:Rs}(hj:σ[j]?=some x):(σ.set i r)[j]?=some x:=by rw[List.getElem?_set_ne h];exact hj
theorem c82(hs:St H0 H σ){i b:Nat}{ws:List Int}(hi:σ[i]?=some (wrR b false ws)){code n:Int}(hn:0≤n∧n≤16)(hl:ws.length+16≤1000000000)
 (hR: ∀H',St H0 H' (σ.set i (wrR b false (ws++bitsOf true code n.toNat)))→R (.tuple #[]) H'):CallsH Tryz.prog 82 #[.agg #[.pointer (some ⟨b,0,none⟩)],.int .i64 code,.int .i64 n] H R:=by
 obtain⟨m,rfl⟩:=Int.eq_ofNat_of_zero_le hn.1
 rw[Int.toNat_natCast] at hR
 refine Tryz.s82 ?_
 unfold Tryz.S82
 refine hs.alc fun b4 H5 hs5=>?_
 intro X6 hX
 have go: ∀k,k≤m→ ∀H1,St H0 H1 (.cell b4 #[.pointer (some ⟨b,0,none⟩)] 84::σ.set i (wrR b false (ws++(bitsOf true code m).take k)))→X6 [.int .i64 ((m:Int)-1-k)] H1:=upto fun k hk ih H1 hs1=>by
  refine hX _ H1 (br_dec (fun hge=>?_) (fun hlt=>?_))
  ·have hk':k<m:=by omega
   refine⟨_,hs1.get 0 (j:=0) rfl rfl,by omega,?_⟩
   rw[show(m:Int)-1-k=((m-1-k:Nat):Int) from by omega,shr_of _ (by omega),andI_1]
   refine put_ok hs1 (i:=i+1) (n:=1) (by rw[List.getElem?_cons_succ];exact setget hi _) (by omega) (by omega) (by omega) (by rw[List.length_append,List.length_take,bitsOf_len];omega) fun H2 hs2=>⟨_,rfl,?_⟩
   rw[wrap_id (by omega) (by omega),show((m-1-k:Nat):Int)-1=(m:Int)-1-((k+1:Nat):Int) from by omega]
   refine ih hk' H2 ?_
   rw[List.set_cons_succ,setset] at hs2
   have e:(bitsOf true code m).take (k+1)=(bitsOf true code m).take k++bitsOf false (code/2^(m-1-k)%2) 1:=by
    rw[List.take_add_one]
    congr 1
    simp[bitsOf,hk']
   rw[e,←List.append_assoc];exact hs2
  ·have:k=m:=by omega
   subst this
   rw[List.take_of_length_le (by rw[bitsOf_len];omega)] at hs1
   exact hR H1 hs1.tail
 have h0:=go 0 (by omega) H5 (by
  rw[List.take_zero,List.append_nil]
  obtain⟨h1,h2⟩:=List.getElem?_eq_some_iff.1 hi
  rw[←h2,List.set_getElem_self];exact hs5)
 rw[wrap_id (by omega) (by omega)]
 rw[show(m:Int)-1-((0:Nat):Int)=(m:Int)-1 from by omega] at h0
 exact h0
theorem fndM_hit{base:Nat→Nat×Nat}{v s:Nat}(h:(base s).1≤v):fndM base v s=s:=by
 cases s with
 |zero=>rfl
 |succ s=>rw[fndM,if_pos h]
theorem c84{g:Nat}{base:Nat→Nat×Nat}{v fr to_:Nat}(hg: ∀(s:Nat) (H:Heap) (R:Value→Heap→Prop),fr≤s→s≤to_→R (.tuple #[.int .i64 ((base s).1:Nat),.int .i64 ((base s).2:Nat)]) H→CallsH Tryz.prog g #[.int .i64 (s:Nat)] H R)
 (hv:(base fr).1≤v)(hft:fr≤to_)(hto:to_≤1000)(hvb:v≤100000000)(hR:R (.tuple #[.int .i64 (fndM base v to_:Nat),.int .i64 ((v-(base (fndM base v to_)).1:Nat):Int),.int .i64 ((base (fndM base v to_)).2:Nat)]) H):
 CallsH Tryz.prog 84 #[.int .i64 (v:Nat),.int .i64 (fr:Nat),.int .i64 (to_:Nat),.func (.func g) #[] #[]] H R:=by
 refine Tryz.s84 ?_
 unfold Tryz.S84
 intro X hX
 have go: ∀d s,s=fr+d→s≤to_→fndM base v s=fndM base v to_→X [.int .i64 (s:Nat)] H:=by
  intro d
  induction d with
  |zero=>
   intro s hs hst he
   refine hX _ H (hg s H _ (by omega) hst ⟨_,_,rfl,?_⟩)
   have hb:(base s).1≤v:=by rw[hs];exact hv
   rw[fndM_hit hb] at he
   rw[←he] at hR
   refine br_y (by omega) (br_y (by omega) ?_)
   rw[wrap_id (by omega) (by omega),show(v:Int)-((base s).1:Nat)=((v-(base s).1:Nat):Int) from by omega]
   exact hR
  |succ d ih=>
   intro s hs hst he
   refine hX _ H (hg s H _ (by omega) hst ⟨_,_,rfl,?_⟩)
   refine br_dec (fun hb=>br_y (by omega) ?_) (fun hb=>?_)
   ·rw[fndM_hit (by omega)] at he
    rw[←he] at hR
    rw[wrap_id (by omega) (by omega),show(v:Int)-((base s).1:Nat)=((v-(base s).1:Nat):Int) from by omega]
    exact hR
   ·rw[wrap_id (by omega) (by omega),show(s:Int)-1=((fr+d:Nat):Int) from by omega]
    refine ih (fr+d) rfl (by omega) ?_
    rw[←he,hs,show fr+(d+1)=(fr+d)+1 from rfl,fndM,if_neg (by rw[show fr+d+1=s from by omega];omega)]
 exact go (to_-fr) to_ (by omega) (Nat.le_refl _) rfl
theorem c83{n:Nat}(h:3≤n∧n≤258)(hR:R (.tuple #[.int .i64 (lenS n:Nat),.int .i64 ((n-(lenB (lenS n)).1:Nat):Int),.int .i64 ((lenB (lenS n)).2:Nat)]) H):CallsH Tryz.prog 83 #[.int .i64 (n:Nat)] H R:=by
 refine Tryz.s83 (br_eq (fun h8=>?_) (fun h8=>?_))
 ·have:n=258:=by omega
  subst this
  exact hR
 ·unfold lenS at hR
  rw[if_neg (by omega)] at hR
  exact c84 (g:=107) (base:=lenB) (fr:=257) (to_:=284) (fun s H R h1 h2 hr=>c107 ⟨h1,by omega⟩ hr) (by show 3≤n;omega) (by omega) (by omega) (by omega) ⟨_,_,_,rfl,hR⟩
theorem find_dst{d:Nat}(h:1≤d∧d≤32768)(hR:R (.tuple #[.int .i64 (dstS d:Nat),.int .i64 ((d-(dstB (dstS d)).1:Nat):Int),.int .i64 ((dstB (dstS d)).2:Nat)]) H):
 CallsH Tryz.prog 84 #[.int .i64 (d:Nat),.int .i64 (0:Int),.int .i64 (29:Int),.func (.func 85) #[] #[]] H R:=
 c84 (g:=85) (base:=dstB) (fr:=0) (to_:=29) (fun s H R h1 h2 hr=>c85 h2 hr) (by show 1≤d;exact h.1) (by omega) (by omega) (by omega) hR
structure SetI(p1 p2 p3 p4:Option Addr)(ll dl:List Int)(H:Heap):Prop where
 l1:IS H p1 ll.length (kints .i64 ll)
 l2:IS H p2 dl.length (kints .i64 dl)
 l3:IS H p3 ll.length (kints .i64 (codesM ll))
 l4:IS H p4 dl.length (kints .i64 (codesM dl))
theorem c56{p1 p2:Option Addr}{c1 c2:Nat}{ll dl:List Int}(h1:IS H p1 ll.length (ints ll))(h2:IS H p2 dl.length (ints dl))(okl:OkC ll)(okd:OkC dl)
 (hR: ∀q3 q4 H',St H H' [.sl q4 dl.length dl.length 3 1 (ints (codesM dl)),.sl q3 ll.length ll.length 3 1 (ints (codesM ll))]→R (.agg #[.slice p1 ll.length c1,.slice p2 dl.length c2,.slice q3 ll.length ll.length,.slice q4 dl.length dl.length]) H'):
 CallsH Tryz.prog 56 #[.slice p1 ll.length c1,.slice p2 dl.length c2] H R:=by
 refine Tryz.s56 ?_
 unfold Tryz.S56
 refine(St.nil H).alc fun b3 H4 hs4=>?_
 refine c86 (h1.ext hs4.ext) (fun hn=>absurd okl hn) fun _ H6 b5 f5 e5=>⟨_,_,_,_,rfl,?_⟩
 have hs6:=hs4.newSl e5 f5
 refine c86 (h2.ext hs6.ext) (fun hn=>absurd okd hn) fun _ H10 b9 f9 e9=>⟨_,_,_,_,rfl,rfl,?_⟩
 have hs10:=hs6.newSl e9 f9
 refine hs10.putAll 2 rfl (by simp) (by simp[Value.oneCell']) fun H13 hs13=>⟨_,rfl,rowIn_whole (hs13.block 2 rfl),?_⟩
 exact hR _ _ H13 (hs13.take 2)
theorem tokL_get: ∀{ts:List Tok} {i:Nat} {t:Tok},ts[i]?=some t→ ∀(j:Nat) (v:Value),(tokC t).toArray[j]?=some v→(tokL ts)[i*3+j]?=some v
 |[],i,t,h,_,_,_=>by simp at h
 |u::ts,0,t,h,j,v,hv=>by
  simp at h;subst h
  have hj:j<3:=by have:=(Array.getElem?_eq_some_iff.1 hv).1;simpa[tokC] using this
  rw[List.getElem?_toArray] at hv
  rw[Nat.zero_mul,Nat.zero_add,show tokL (u::ts)=tokC u++tokL ts from rfl,List.getElem?_append_left (by show j<3;exact hj)]
  exact hv
 |u::ts,i+1,t,h,j,v,hv=>by
  rw[show tokL (u::ts)=tokC u++tokL ts from rfl,List.getElem?_append_right (by show 3≤_;omega),show(i+1)*3+j-(tokC u).length=i*3+j from by show(i+1)*3+j-3=_;omega]
  exact tokL_get (by simpa using h) j v hv
theorem toksP_step{ll dl:List Int}{ts:List Tok}{k:Nat}{t:Tok}(h:ts[k]?=some t):(ts.take (k+1)).flatMap (tokB ll dl)=(ts.take k).flatMap (tokB ll dl)++tokB ll dl t:=by
 rw[List.take_add_one,h,Option.toList_some,List.flatMap_append];simp
theorem tokB_le{ll dl:List Int}(okl:OkC ll)(okd:OkC dl){t:Tok}(h:TokR t):(tokB ll dl t).length≤50:=by
 have hl: ∀(ls:List Int) (ok:OkC ls) s,(ls.getD s 0).toNat≤16:=fun ls ok s=>by
  rcases getD_mem_or (l:=ls) s with h|h
  ·have:=ok.w.rng _ h;omega
  ·rw[h];decide
 unfold tokB
 split
 ·rw[symBits_len];have:=hl ll okl t.c.toNat;omega
 ·rename_i hn
  rcases h with h|h
  ·exact absurd h.1 hn
  ·have h1:=lenS_ok ⟨h.1,h.2.1⟩
   have h2:=lenB_le ⟨h1.1,h1.2.1⟩
   have h3:=dstS_ok ⟨h.2.2.1,h.2.2.2.1⟩
   have h4:=dstB_le h3.1
   simp only[List.length_append,symBits_len,bitsOf_len]
   have:=hl ll okl (lenS t.n);have:=hl dl okd (dstS t.d);omega
theorem toksP_le{ll dl:List Int}(okl:OkC ll)(okd:OkC dl): ∀{ts:List Tok},(∀t∈ts,TokR t)→(ts.flatMap (tokB ll dl)).length≤50*ts.length
 |[],_=>by simp
 |t::ts,h=>by
  have:=tokB_le okl okd (h t List.mem_cons_self)
  have:=toksP_le okl okd fun u hu=>h u (List.mem_cons_of_mem _ hu)
  rw[List.flatMap_cons,List.length_append,List.length_cons];omega
theorem c55(hs:St H0 H σ){i j k b n m c1 c2 c3 c4:Nat}{ws:List Int}{ll dl:List Int}{ts:List Tok}{p1 p2 p3 p4 q:Option Addr}(hi:σ[i]?=some (wrR b false ws))(hj:σ[j]?=some (.pers (SetI p1 p2 p3 p4 ll dl)))(hk:σ[k]?=some (.sl q n m 120 3 (tokL ts)))
 (hij:i≠j)(hik:i≠k)(cd:Codes ll dl ts)(hr: ∀t∈ts,TokR t)(hl:ws.length+50*ts.length+20≤1000000000)
 (hR: ∀H',St H0 H' (σ.set i (wrR b false (ws++toksB ll dl ts)))→R (.tuple #[]) H'):
 CallsH Tryz.prog 55 #[.agg #[.pointer (some ⟨b,0,none⟩)],.slice q n m,.agg #[.slice p1 ll.length c1,.slice p2 dl.length c2,.slice p3 ll.length c3,.slice p4 dl.length c4]] H R:=by
 have hn:n=ts.length:=by
  have:=(hs.fs k hk).len
  rw[tokL_len] at this;omega
 subst hn
 refine Tryz.s55 ?_
 unfold Tryz.S55
 refine hs.alc fun b4 H5 hs5=>hs5.alc fun b6 H7 hs7=>?_
 intro X8 hX
 have h17: ∀(ls:List Int) (ok:OkC ls) (s:Nat),s<ls.length→0≤ls.getD s 0∧ls.getD s 0≤16:=fun ls ok s h=>ok.w.rng _ (List.mem_of_getElem? (get_gD ls 0 h))
 have inl: ∀s,0<ll.getD s 0→s<ll.length:=fun s h=>by
  rcases Nat.lt_or_ge s ll.length with h'|h'
  ·exact h'
  ·rw[gD_none _ _ h'] at h;omega
 have ind: ∀s,0<dl.getD s 0→s<dl.length:=fun s h=>by
  rcases Nat.lt_or_ge s dl.length with h'|h'
  ·exact h'
  ·rw[gD_none _ _ h'] at h;omega
 have go: ∀t,t≤ts.length→ ∀H1,St H0 H1 (.cell b6 #[.slice p1 ll.length c1,.slice p2 dl.length c2,.slice p3 ll.length c3,.slice p4 dl.length c4] 88:: .cell b4 #[.pointer (some ⟨b,0,none⟩)] 84::σ.set i (wrR b false (ws++(ts.take t).flatMap (tokB ll dl))))→X8 [.int .i64 (t:Nat)] H1:=upto fun t ht ih H1 hs1=>by
  have hwl:=toksP_le cd.l cd.d (ts:=ts.take t) fun u hu=>hr u (List.mem_of_mem_take hu)
  rw[List.length_take] at hwl
  have S1:=hs1.persGet (j+2) (by rw[List.getElem?_cons_succ,List.getElem?_cons_succ];exact setget_ne hij _ hj)
  refine hX _ H1 (br_dec (fun hlt=>?_) (fun hge=>?_))
  ·have hlt:t<ts.length:=by omega
   obtain⟨tk,htk⟩: ∃x,ts[t]?=some x:=⟨_,List.getElem?_eq_getElem hlt⟩
   have hmem:=List.mem_of_getElem? htk
   have hih:=ih hlt
   rw[toksP_step htk,←List.append_assoc] at hih
   have hrs:=hs1.rs (k+2) (by rw[List.getElem?_cons_succ,List.getElem?_cons_succ];exact setget_ne hik _ hk)
   obtain⟨blk,hq,hrow⟩:=hrs.row hlt (by decide) (tokL_get htk)
   have hbl:=tokB_le cd.l cd.d (hr tk hmem)
   refine⟨_,hq,by omega,by omega,(tokC tk).toArray,rfl,?_⟩
   rw[Int.toNat_natCast,add_none,Nat.zero_add]
   refine⟨hrow,hs1.alc fun b13 H14 hs14=>⟨rfl,hs14.putAll 0 rfl rfl (by simpa using tokC_one tk) fun H15 hs15=>?_⟩⟩
   rw[List.set_cons_zero] at hs15
   have S15:=hs15.persGet (j+3) (by rw[List.getElem?_cons_succ,List.getElem?_cons_succ,List.getElem?_cons_succ];exact setget_ne hij _ hj)
   have hW: ∀x:List Int,(Rs.cell b13 (tokC tk).toArray.toList.toArray 120::Rs.cell b6 #[.slice p1 ll.length c1,.slice p2 dl.length c2,.slice p3 ll.length c3,.slice p4 dl.length c4] 88::Rs.cell b4 #[.pointer (some ⟨b,0,none⟩)] 84::σ.set i (wrR b false x))[i+3]?=some (wrR b false x):=fun x=>by
    rw[List.getElem?_cons_succ,List.getElem?_cons_succ,List.getElem?_cons_succ];exact setget hi _
   have hlit:=cd.lit tk hmem
   unfold lsym at hlit
   unfold tokB at hbl
   have etok:tokB ll dl tk=tokB ll dl tk:=rfl
   conv at etok=>rhs;unfold tokB
   refine⟨_,hs15.get 1 (j:=0) rfl rfl|>fun _=>hs15.get 0 (j:=0) rfl rfl,br_eq (fun h0=>?_) (fun h0=>?_)⟩
   ·have h0:tk.n=0:=by omega
    rw[if_pos h0] at hlit hbl etok
    have hc:=hr tk hmem
    have hcr:0≤tk.c:=by rcases hc with h|h<;>omega
    have hcl:=inl _ hlit
    refine⟨_,rfl,rowIn_whole (hs15.block 2 rfl),_,_,_,hs15.get 1 (j:=2) rfl rfl,_,hs15.get 0 (j:=2) rfl rfl,S15.l3.rd hcr (by omega) (codesM_get hcl) ?_⟩
    refine⟨_,_,_,hs15.get 1 (j:=0) rfl rfl,_,hs15.get 0 (j:=2) rfl rfl,S15.l1.rd hcr (by omega) (get_gD ll 0 hcl) ?_⟩
    refine c82 hs15 (hW _) (h17 ll cd.l _ hcl) (by rw[List.length_append];omega) fun H27 hs27=>⟨rfl,?_⟩
    rw[wrap_id (by omega) (by omega)]
    refine hih H27 ?_
    rw[etok]
    have:=hs27.tail
    simp only[List.set_cons_succ] at this
    rw[setset] at this
    exact this
   ·have h0:tk.n≠0:=by omega
    rw[if_neg h0] at hlit hbl etok
    rw[Int.toNat_natCast] at hlit
    have hcl:=inl _ hlit
    obtain⟨n3,n258,d1,d2,_⟩:3≤tk.n∧tk.n≤258∧1≤tk.d∧tk.d≤32768∧tk.c=0:=by
     rcases hr tk hmem with h|h
     ·exact absurd h.1 h0
     ·exact h
    have hdst:=cd.dst tk hmem h0
    have hdl:=ind _ hdst
    obtain⟨s1,s2,s3,s4⟩:=lenS_ok ⟨n3,n258⟩
    have s5:=lenB_le ⟨s1,s2⟩
    obtain⟨q1,q2,q3⟩:=dstS_ok ⟨d1,d2⟩
    have q5:=dstB_le q1
    simp only[List.length_append,symBits_len,bitsOf_len] at hbl
    refine⟨_,hs15.get 0 (j:=0) rfl rfl,c83 ⟨n3,n258⟩ ⟨_,_,_,rfl,?_⟩⟩
    refine⟨_,rfl,rowIn_whole (hs15.block 2 rfl),_,_,_,hs15.get 1 (j:=2) rfl rfl,S15.l3.rd (by omega) (by omega) (by rw[Int.toNat_natCast];exact codesM_get hcl) ?_⟩
    refine⟨_,_,_,hs15.get 1 (j:=0) rfl rfl,S15.l1.rd (by omega) (by omega) (by rw[Int.toNat_natCast];exact get_gD ll 0 hcl) ?_⟩
    refine c82 hs15 (hW _) (h17 ll cd.l _ hcl) (by rw[List.length_append];omega) fun H27 hs27=>⟨rfl,?_⟩
    simp only[List.set_cons_succ] at hs27
    rw[setset] at hs27
    refine⟨_,hs27.get 2 (j:=0) rfl rfl,put_ok hs27 (hW _) (by omega) (by omega) (natpow s4) (by simp only[List.length_append,bitsOf_len];omega) fun H30 hs30=>⟨_,rfl,?_⟩⟩
    simp only[List.set_cons_succ] at hs30
    rw[setset] at hs30
    have S30:=hs30.persGet (j+3) (by rw[List.getElem?_cons_succ,List.getElem?_cons_succ,List.getElem?_cons_succ];exact setget_ne hij _ hj)
    refine⟨_,hs30.get 0 (j:=1) rfl rfl,find_dst ⟨d1,d2⟩ ⟨_,_,_,rfl,?_⟩⟩
    refine⟨_,rfl,rowIn_whole (hs30.block 2 rfl),_,_,_,hs30.get 1 (j:=3) rfl rfl,S30.l4.rd (by omega) (by omega) (by rw[Int.toNat_natCast];exact codesM_get hdl) ?_⟩
    refine⟨_,_,_,hs30.get 1 (j:=1) rfl rfl,S30.l2.rd (by omega) (by omega) (by rw[Int.toNat_natCast];exact get_gD dl 0 hdl) ?_⟩
    refine c82 hs30 (hW _) (h17 dl cd.d _ hdl) (by simp only[List.length_append,bitsOf_len];omega) fun H31 hs31=>⟨rfl,?_⟩
    simp only[List.set_cons_succ] at hs31
    rw[setset] at hs31
    refine⟨_,hs31.get 2 (j:=0) rfl rfl,put_ok hs31 (hW _) (by omega) (by omega) (natpow q3) (by simp only[List.length_append,bitsOf_len];omega) fun H32 hs32=>⟨_,rfl,?_⟩⟩
    simp only[List.set_cons_succ] at hs32
    rw[setset] at hs32
    rw[wrap_id (by omega) (by omega)]
    refine hih H32 ?_
    rw[etok]
    have:=hs32.tail
    simp only[List.append_assoc] at this ⊢
    exact this
  ·have:t=ts.length:=by omega
   subst this
   rw[List.take_of_length_le (Nat.le_refl _)] at hs1 hwl
   have hcl:=inl _ cd.end_
   refine⟨_,rfl,rowIn_whole (hs1.block 1 rfl),_,_,_,hs1.get 0 (j:=2) rfl rfl,S1.l3.rd (i:=(256:Int)) (by omega) (by omega) (show(codesM ll)[256]?=some _ from codesM_get hcl) ?_⟩
   refine⟨_,_,_,hs1.get 0 (j:=0) rfl rfl,S1.l1.rd (i:=(256:Int)) (by omega) (by omega) (show ll[256]?=some _ from get_gD ll 0 hcl) ?_⟩
   refine c82 hs1 (i:=i+2) (by rw[List.getElem?_cons_succ,List.getElem?_cons_succ];exact setget hi _) (h17 ll cd.l _ hcl) (by rw[List.length_append];omega) fun H27 hs27=>⟨rfl,hR H27 ?_⟩
   simp only[List.set_cons_succ] at hs27
   rw[setset] at hs27
   have:=hs27.tail.tail
   rw[List.append_assoc] at this
   exact this
 refine go 0 (by omega) H7 ?_
 rw[List.take_zero,List.flatMap_nil,List.append_nil]
 obtain⟨h1,h2⟩:=List.getElem?_eq_some_iff.1 hi
 rw[←h2,List.set_getElem_self];exact hs7
end Go.Proofs
