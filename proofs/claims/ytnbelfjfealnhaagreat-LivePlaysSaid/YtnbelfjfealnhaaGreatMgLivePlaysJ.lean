/-
  OWN WORK. Several texts in one: HsBack, HsBranch, HsRest, HsK, HsL, HsM, HsN, LvK, OpBytes, OpTree, OpLive.
-/
import Derived.Test.YtnbelfjfealnhaaGreatMgLivePlaysI
import Derived.Test.YtnbelfjfealnhaaGreatMgLivePlaysG
import Derived.Test.YtnbelfjfealnhaaGreatRows
import Derived.Test.YtnbelfjfealnhaaGreatMgLivePlaysB
import Derived.ChangeSlices
import Derived.Deep.Slices

set_option linter.unusedVariables false
set_option linter.unusedSimpArgs false
set_option maxRecDepth 10000
namespace Go.Proofs
open Go.Sh
variable {H0 H:Heap} {σ:List Rs} {R:Value→Heap→Prop}
theorem HOk.at{n:Nat}{all:List DocL}(h: ∀d∈all,Inv d∧d.next≤n+1)(hl:all.length≤n+1){k:Nat}(hk:k<all.length):HOk n (atH all k):=by
 obtain⟨h1,h2⟩:=at_len all k hk
 refine⟨fun d hd=>h d ?_,by omega⟩
 unfold atH at hd
 simp only at hd
 rcases hd with rfl|hd|hd
 ·rw[List.getD_eq_getElem?_getD,List.getElem?_eq_getElem hk];exact List.getElem_mem hk
 ·exact List.mem_of_mem_take hd
 ·exact List.mem_of_mem_drop (List.mem_reverse.1 hd)
theorem HOk.all{n:Nat}{all:List DocL}{k:Nat}(hk:k<all.length)(h:HOk n (atH all k)): ∀d∈all,Inv d∧d.next≤n+1:=fun d hd=>by
 obtain⟨a,x,b,rfl,rfl⟩:=at_split all hk
 rw[at_app] at h
 refine h.inv d ?_
 simp only[List.mem_append,List.mem_cons,List.mem_reverse] at hd ⊢
 rcases hd with h|h|h<;>simp[h]
end Go.Proofs
namespace Go.Proofs
open Go.Sh
variable {H0 H:Heap} {σ:List Rs} {R:Value→Heap→Prop}
end Go.Proofs
namespace Go.Proofs
open Go.Sh
variable {H0 H:Heap} {σ:List Rs} {R:Value→Heap→Prop}
end Go.Proofs
namespace Go.Proofs
open Go.Sh
variable {H0 H:Heap} {σ:List Rs} {R:Value→Heap→Prop}
def bkRs(l:List PD):Rs:= .ex fun(L:List (Sl3×List RT))=> .pu (∀x∈l,∃rs,(x.1,rs)∈L∧Rel x.2.ks (rwS rs)) (poolRs L)
theorem bkIn{l:List PD}(L:List (Sl3×List RT))(h: ∀x∈l,∃rs,(x.1,rs)∈L∧Rel x.2.ks (rwS rs))(hs:St H0 H (poolRs L::σ)):St H0 H (bkRs l::σ):=
 St.inex (f:=fun(L:List (Sl3×List RT))=> .pu (∀x∈l,∃rs,(x.1,rs)∈L∧Rel x.2.ks (rwS rs)) (poolRs L)) L (St.with h hs)
theorem bkOut{l:List PD}(hs:St H0 H (bkRs l::σ)): ∃L:List (Sl3×List RT),(∀x∈l,∃rs,(x.1,rs)∈L∧Rel x.2.ks (rwS rs))∧St H0 H (poolRs L::σ):=by
 obtain⟨L,h1⟩:=St.unex hs
 obtain⟨h2,h3⟩:=St.fact h1
 exact⟨L,h2,h3⟩
theorem bkSub{l l':List PD}(hs:St H0 H (bkRs l::σ))(h: ∀x∈l',x∈l):St H0 H (bkRs l'::σ):=by
 obtain⟨L,h1,h2⟩:=bkOut hs
 exact bkIn L (fun x hx=>h1 x (h x hx)) h2
theorem bkGet(hs:St H0 H σ)(i:Nat){l:List PD}(hi:σ[i]?=some (bkRs l)){x:PD}(hx:x∈l): ∃rs,RD H x.1 rs∧Rel x.2.ks (rwS rs):=by
 obtain⟨L,h1,h2⟩:=bkOut (hs.front i hi)
 obtain⟨rs,h3,h4⟩:=h1 x hx
 exact⟨rs,h2.pool 0 rfl h3,h4⟩
theorem bkStart(hs:St H0 H σ)(w h:Int):St H0 H (bkRs [(.nil,⟨w,h,1,[]⟩)]::σ):=by
 refine bkIn [(.nil,[])] (fun x hx=>?_) (St.persIn (τ:=[]) hs fun H' fps _ x hx=>?_)
 ·rw[List.mem_singleton] at hx;subst hx
  exact⟨[],List.mem_singleton.2 rfl,fun to=>rfl⟩
 ·rw[List.mem_singleton] at hx;subst hx
  exact⟨RL.nil H',fun r hr=>by cases hr⟩
theorem rdo_bk{e:Ed}{s:EdS}{x:PD}{l:List PD}(hs:St H0 H (bkRs l::σ))(hm:x∈l)(hv:Inv x.2)(hnx:x.2.next≤1000000000000000)(hed:EdOk H e s)
 (hR: ∀(q:Sl3) H',Ext H H'→St H0 H' (bkRs ((q,nxt x.2 e)::l)::σ)→R (.tuple #[.agg (arrP (q,nxt x.2 e)),.int .i64 (doD x.2 e).1]) H'):
 CallsH Tryz.prog 16 #[.agg (arrP x),.agg (edL e s).toArray] H R:=by
 obtain⟨L,h1,h2⟩:=bkOut hs
 obtain⟨rs,h3,h4⟩:=h1 x hm
 refine rdo_st h2 0 rfl h3 h4 hv hnx hed fun q rs' L' H' hq hsub hrel he hs'=>hR q H' he (bkIn L' (fun y hy=>?_) hs')
 rcases List.mem_cons.1 hy with rfl|hy
 ·exact⟨rs',hq,hrel⟩
 ·obtain⟨r2,h5,h6⟩:=h1 y hy
  exact⟨r2,hsub _ h5,h6⟩
theorem like_bk{A:Array Value}{x:PD}{l:List PD}(hs:St H0 H σ)(i:Nat)(hi:σ[i]?=some (bkRs l))(hm:x∈l)(ha:DocR H A x.2)(hv:Inv x.2)(hR: ∀H',Ext H H'→R (.bool true) H'):CallsH Tryz.prog 19 #[.agg A,.agg (arrP x)] H R:=by
 obtain⟨L,h1,h2⟩:=bkOut (hs.front i hi)
 obtain⟨rs,h3,h4⟩:=h1 x hm
 exact like_st h2 0 rfl h3 ha hv hv h4 fun t H' ht he _=>by rw[ht.2 rfl];exact hR H' he
end Go.Proofs
namespace Go.Proofs
open Go.Sh
variable {H0 H:Heap} {σ:List Rs} {R:Value→Heap→Prop}
end Go.Proofs
namespace Go.Proofs
open Go.Sh
variable {H0 H:Heap} {σ:List Rs} {R:Value→Heap→Prop}
theorem q6{a b c d e f:Rs}{σ:List Rs}:(a::b::c::d::e::f::σ).Perm (c::b::a::d::e::f::σ):=((permC (a:=[a,b,c]) (b:=[c,b,a]) fun _ y=>by simp only[List.count_cons,List.count_nil];ac_rfl)).append_right (d::e::f::σ)
theorem q5{a b c d e:Rs}{σ:List Rs}:(a::b::c::d::e::σ).Perm (b::c::d::e::a::σ):=((permC (a:=[a,b,c,d,e]) (b:=[b,c,d,e,a]) fun _ y=>by simp only[List.count_cons,List.count_nil];ac_rfl)).append_right σ
end Go.Proofs
namespace Go.Proofs
open Go.Sh
variable {H0 H:Heap} {σ:List Rs} {R:Value→Heap→Prop}
theorem rowE{P:Sl3}{el:TypeId}{l:List PD}{i:Nat}{x:PD}(h:RS H P.p P.l el 4 (cellsP l))(hx:l[i]?=some x): ∃a,P.p=some a∧rowIn H (a.add (i*4)) (arrP x):=by
 have hi:=(List.getElem?_eq_some_iff.1 hx).1
 have hl:P.l=l.length:=by have:=h.len;rw[cellsP_len] at this;omega
 obtain⟨blk,h1,h2⟩:=h.row (i:=i) (by omega) (by decide) (xs:=arrP x) fun j v hv=>cellsP_get hx hv
 refine⟨_,h1,?_⟩
 rw[add_none,Nat.zero_add]
 exact h2
theorem map_at{l l':List PD}(h:l.map Prod.snd=l'.map Prod.snd){i:Nat}{x:PD}(hx:l[i]?=some x): ∃y,l'[i]?=some y∧y.2=x.2:=by
 have h1:(l.map Prod.snd)[i]?=some x.2:=by rw[List.getElem?_map,hx];rfl
 rw[h,List.getElem?_map] at h1
 cases hy:l'[i]? with
 |none=>rw[hy] at h1;cases h1
 |some y=>rw[hy] at h1;exact⟨y,rfl,Option.some.inj h1⟩
end Go.Proofs
namespace Go.Proofs
open Go.Sh
variable {H0 H:Heap} {σ:List Rs} {R:Value→Heap→Prop}
structure SvE where
 e:Ed
 s:EdS
 rd:Bool
 st:Bool
 x:Int
 y:Int
 w:Int
 h:Int
 bk:Int
def svL(z:SvE):List Value:=edL z.e z.s++[.bool z.rd,.bool z.st,.int .i64 z.x,.int .i64 z.y,.int .i64 z.w,.int .i64 z.h,.int .i64 z.bk]
theorem svL_one(z:SvE): ∀v∈svL z,v.oneCell'=true:=fun v hv=>by
 rcases List.mem_append.1 hv with hv|hv
 ·exact edL_one z.e z.s v hv
 ·simp only[List.mem_cons,List.not_mem_nil,or_false] at hv
  rcases hv with rfl|rfl|rfl|rfl|rfl|rfl|rfl<;>rfl
structure SvsR(H:Heap)(p:Option Addr)(l:Nat)(ss:List SvE):Prop where
 len:ss.length=l
 get: ∀(i:Nat) z,ss[i]?=some z→ ∃a,p=some a∧rowIn H (a.add (i*26)) (svL z).toArray∧rdEd H z.e z.s
theorem SvsR.ext{H H':Heap}{p:Option Addr}{l:Nat}{ss:List SvE}(h:SvsR H p l ss)(he:Ext H H'):SvsR H' p l ss:=⟨h.len,fun i z hi=>let ⟨a,h1,h2,h3⟩:=h.get i z hi;⟨a,h1,rowAt_ext he h2,h3.ext he⟩⟩
theorem sv_row{b:Nat}{z:SvE}{ty:TypeId}(hb:H[b]?=some (.cells (svL z).toArray ty)):rowIn H ⟨b,0,none⟩ (edL z.e z.s).toArray:=
 rowIn_block hb fun j v hv=>by
  rw[Nat.zero_add]
  rw[List.getElem?_toArray] at hv ⊢
  unfold svL
  rw[List.getElem?_append_left (List.getElem?_eq_some_iff.1 hv).1];exact hv
def pl6(lb bd:Nat)(s:LvS)(cur:PD)(P:Sl3)(past:List PD)(B:Sl3)(books:List PD):List Rs:=
 [lvRs lb s,.cell bd (arrP cur) 32,.sl P.p P.l P.c 26 4 (cellsP past),.sl B.p B.l B.c 32 4 (cellsP books),pdRs past,bkRs (cur::books)]
structure PlOk(N:Nat)(s:LvS)(cur:PD)(past books:List PD):Prop where
 ok:LvOk s
 hc:cur.2=s.D
 eq:past.map Prod.snd=books.map Prod.snd
 inv: ∀x,x=cur∨x∈past→Inv x.2∧x.2.next≤N∧x.2.w≤40∧x.2.h≤40
 n:0≤s.n∧s.n≤10000*(N:Int)
 len:past.length≤N
theorem PlOk.more{N:Nat}{s s2:LvS}{cur cur2:PD}{past books:List PD}(h:PlOk N s cur past books)(h1:LvOk s2)(h2:cur2.2=s2.D)(h3:s2.D.next≤N+1∧s2.D.w≤40∧s2.D.h≤40)(h4:0≤s2.n∧s2.n≤s.n+5000):PlOk (N+1) s2 cur2 past books:=
 ⟨h1,h2,h.eq,fun x hx=>by
  rcases hx with rfl|hx
  ·exact⟨h2▸h1.inv,by rw[h2];omega,by rw[h2];omega,by rw[h2];omega⟩
  ·have:=h.inv x (.inr hx);exact⟨this.1,by omega,this.2.2⟩,by have:=h.n;omega,by have:=h.len;omega⟩
theorem PlOk.same{N:Nat}{s:LvS}{cur:PD}{past books:List PD}(h:PlOk N s cur past books):PlOk (N+1) s cur past books:=by
 have h1:=h.inv cur (.inl rfl)
 have h2:=h.n
 exact h.more h.ok h.hc (by rw[←h.hc];omega) (by omega)
theorem PlOk.snoc{N:Nat}{s:LvS}{cur:PD}{past books:List PD}{K:Sl3}(h:PlOk N s cur past books)(hl:past.length+1≤N):PlOk N s cur (past++[(K,s.D)]) (books++[cur]):=
 ⟨h.ok,h.hc,by rw[List.map_append,List.map_append,h.eq];simp[h.hc],fun x hx=>by
  rcases hx with rfl|hx
  ·exact h.inv _ (.inl rfl)
  ·rcases List.mem_append.1 hx with hx|hx
   ·exact h.inv x (.inr hx)
   ·rw[List.mem_singleton] at hx;subst hx
    have:=h.inv cur (.inl rfl)
    rw[h.hc] at this;exact this,h.n,by rw[List.length_append];simpa using hl⟩
theorem plays_law2{w h:Int}{p:Option Addr}{l c:Nat}{ss:List SvE}(hss:SvsR H p l ss)(hR: ∀H',Ext H H'→R (.bool true) H'):CallsH Tryz.prog 3 #[.int .i64 w,.int .i64 h,.slice p l c] H R:=by
 have hone: ∀v∈(begunA w h).toList,v.oneCell'=true:=by unfold begunA;split<;>exact docA_one _ _ _ _
 have hsize:(begunA w h).size=4:=by unfold begunA;split<;>rfl
 refine Tryz.s3 ?_
 unfold Tryz.S3
 refine c5 fun H5 he5=>⟨_,rfl,br_f rfl ?_⟩
 refine new_call fun H8 he8=>⟨_,_,rfl,(St.of_ext (he5.trans he8)).alc fun b11 H12 hs12=>⟨hsize,hs12.putAll 0 rfl hsize hone fun H13 hs13=>rnew_call fun H15 he15=>⟨_,_,rfl,(hs13.step he15).alc fun b18 H19 hs19=>⟨hsize,hs19.putAll 0 rfl hsize hone fun H20 hs20=>?_⟩⟩⟩⟩
 intro J21 hJ21
 refine br_ne (fun _=>hR _ hs20.ext) fun hnew=>br_dec (fun _=>hR _ hs20.ext) fun hw=>br_dec (fun _=>hR _ hs20.ext) fun hh=>?_
 have hsz:sizedB w h=true:=by
  cases hb:sizedB w h with
  |true=>rfl
  |false=>exact absurd hnew (by unfold newE;rw[hb];decide)
 refine br_dec (fun _=>hR _ hs20.ext) fun _=>br_dec (fun _=>hR _ hs20.ext) fun hmost=>hJ21 _ ?_
 have hA:begunA w h=docA w h 1 .nil:=by unfold begunA;rw[if_pos hsz]
 rw[hA] at hs20
 have hinv:=new_inv hsz
 have hssl:=hss.len
 have hs20:St H H20 [.cell b18 (docA w h 1 .nil) 32,.cell b11 (docA w h 1 .nil) 26]:=hs20
 refine⟨_,rfl,rowIn_whole (hs20.block 1 rfl),c8 (E:=⟨w,h,1,[]⟩) hs20 (DocR.new H20 w h) hinv fun lb H25 hs25=>⟨_,rfl,br_f rfl ?_⟩⟩
 intro J27 hJ27
 have start: ∀(b1 b2:Nat) (H1:Heap),St H H1 [.cell b1 (docA w h 1 .nil) 26,.cell b2 (docA w h 1 .nil) 32,lvRs lb ⟨⟨w,h,1,[]⟩,[],0⟩,.cell b18 (docA w h 1 .nil) 32]→J27 [.slice (some ⟨b1,0,none⟩) 1 1,.slice (some ⟨b2,0,none⟩) 1 1] H1:=by
  intro b1 b2 H1 hs1
  refine hJ27 _ _ _ _ _ _ _ ?_
  intro X31 hX31
  have go: ∀i,i≤ss.length→ ∀(P:Sl3) (past:List PD) (B:Sl3) (books:List PD) (s:LvS) (cur:PD) (H1:Heap),PlOk (i+1) s cur past books→St H H1 (pl6 lb b18 s cur P past B books)→X31 [.slice P.p P.l P.c,.slice B.p B.l B.c,.int .i64 (i:Nat)] H1:=by
   refine upto fun i hi ih P past B books s cur H1 ok hs1=>hX31 _ _ _ _ _ _ _ _ (br_dec (fun hlt=>?_) fun hge=>hR H1 hs1.ext)
   have hi':i<ss.length:=by omega
   have hx:=List.getElem?_eq_getElem hi'
   generalize ss[i]=z at hx
   have hPl:P.l=past.length:=by have:=(hs1.rs 2 rfl).len;rw[cellsP_len] at this;omega
   have hBl:B.l=books.length:=by have:=(hs1.rs 3 rfl).len;rw[cellsP_len] at this;omega
   have hpb:past.length=books.length:=by have:=congrArg List.length ok.eq;simpa using this
   have hpl:=ok.len
   intro J36 hJ36
   obtain⟨a,hp,hrow,hrd⟩:=(hss.ext hs1.ext).get i z hx
   refine⟨a,hp,by omega,hlt,_,rfl,hrow,hs1.alc fun b42 H43 hs43=>⟨rfl,hs43.putAll 0 rfl rfl (by simpa using svL_one z) fun H44 hs44=>⟨(edL z.e z.s).toArray,rfl,sv_row (hs44.block 0 rfl),rfl,by decide,hs44.alc fun b46 H47 hs47=>?_⟩⟩⟩
   have hs47:St H H47 (.cell b46 (edL z.e z.s).toArray 44:: .cell b42 (svL z).toArray 46::pl6 lb b18 s cur P past B books):=hs47
   have hrdH: ∀{H':Heap},Ext H H'→rdEd H' z.e z.s:=fun he=>let ⟨_,_,_,h3⟩:=(hss.ext he).get i z hx;h3
   refine c9 (es:=[(z.e,z.s)]) (one_eds (hs47.block 0 rfl) (hrdH hs47.ext)) (by decide) fun H49 he49=>⟨_,rfl,br_not (fun _=>hR _ (hs47.step he49).ext) fun hsm=>?_⟩
   have h49:=(hs47.step he49).tail
   obtain⟨_,hok2⟩:=smallB_ok hsm
   have hok2:=hok2 (z.e,z.s) List.mem_cons_self
   simp only at hok2
   have hedH: ∀{H':Heap},Ext H H'→EdOk H' z.e z.s:=fun he=>⟨hrdH he,by omega,by omega⟩
   intro J51 hJ51
   have aft: ∀(s':LvS) (cur':PD) (H1:Heap),PlOk (i+2) s' cur' past books→St H H1 (pl6 lb b18 s' cur' P past B books)→J51 [] H1:=by
    intro s' cur' H1 ok' hs1
    have hcur:=ok'.hc
    have hinv':=ok'.ok.inv
    rw[←hcur] at hinv'
    have fin: ∀(p2 p3:Option Addr) (c2 c3:Nat) (Y:Array Value) (c:Nat) (d:Nat) (u1 u2:Array Value) (t1 t2:TypeId) (H1:Heap),St H H1 [.cell d u2 t2,.cell c u1 t1,docRs Y s'.D,lvRs lb s',.cell b18 (arrP cur') 32,.sl p2 (P.l+1) c2 26 4 (cellsP past++Y.toList),.sl p3 (B.l+1) c3 32 4 (cellsP books++(arrP cur').toList),pdRs past,bkRs (cur'::books)]→
     J36 [.slice p2 (P.l+1) c2,.slice p3 (B.l+1) c3] H1:=by
     intro p2 p3 c2 c3 Y c d u1 u2 t1 t2 H1 hs1
     obtain⟨KY,hKY⟩:=docR_arr (hs1.doc 2 rfl)
     refine hJ36 _ _ _ _ _ _ _ ?_
     rw[wrap_id (by omega) (by omega)]
     refine ih hi' ⟨p2,P.l+1,c2⟩ (past++[(KY,s'.D)]) ⟨p3,B.l+1,c3⟩ (books++[cur']) s' cur' H1 (ok'.snoc (by omega)) ?_
     have e1:cellsP past++Y.toList=cellsP (past++[(KY,s'.D)]):=by rw[cellsP_app,cellsP_one,hKY]
     have e2:cellsP books++(arrP cur').toList=cellsP (books++[cur']):=by rw[cellsP_app,cellsP_one]
     rw[e1,e2] at hs1
     have h1:St H H1 [docRs Y s'.D,pdRs past,lvRs lb s',.cell b18 (arrP cur') 32,.sl p2 (P.l+1) c2 26 4 (cellsP (past++[(KY,s'.D)])),.sl p3 (B.l+1) c3 32 4 (cellsP (books++[cur'])),bkRs (cur'::books)]:=((hs1.drop 2).front 5 rfl).swap
     have h2:=(St.pdAdd (x:=(KY,s'.D)) h1 hKY).pdSub (l':=past++[(KY,s'.D)]) fun y hy=>by
      rcases List.mem_append.1 hy with hy|hy
      ·exact List.mem_cons_of_mem _ hy
      ·rw[List.mem_singleton] at hy;subst hy;exact List.mem_cons_self
     have h3:=bkSub (l':=cur'::(books++[cur'])) (h2.front 5 rfl) fun y hy=>by
      rcases List.mem_cons.1 hy with rfl|hy
      ·exact List.mem_cons_self
      ·rcases List.mem_append.1 hy with hy|hy
       ·exact List.mem_cons_of_mem _ hy
       ·rw[List.mem_singleton] at hy;subst hy;exact List.mem_cons_self
     exact h3.perm (permC (a:=[_,_,_,_,_,_]) (b:=[_,_,_,_,_,_]) fun _ y=>by simp only[List.count_cons,List.count_nil];ac_rfl)
    have asz:=arrP_size cur'
    refine hJ51 _ ⟨arrP cur',asz,rowIn_whole (hs1.block 1 rfl),c20 hs1 ok'.ok fun X H55 hdX hs55=>⟨_,rfl,.inr ⟨_,asz,rowIn_whole (hs55.block 2 rfl),rfl⟩,?_⟩⟩
    refine like_bk hs55 6 rfl List.mem_cons_self (by rw[hcur];exact hdX) hinv' fun H58 he58=>⟨_,rfl,br_f rfl ?_⟩
    have h58:=(hs55.step he58).tail
    refine⟨arrP cur',asz,rowIn_whole (h58.block 1 rfl),?_,?_⟩
    ·refine c20 h58 ok'.ok fun Y H62 hdY hs62=>⟨_,rfl,.inr ⟨_,asz,rowIn_whole (hs62.block 2 rfl),rfl⟩,⟨hdY.size,by decide,?_⟩,asz,by decide,?_⟩
     ·rw[elemD hdY.size]
      refine hs62.alcE fun b64 H65 he65 hs65=>⟨.inl he65,?_,asz,by decide,?_⟩
      ·refine hs65.appC 4 0 rfl rfl hdY.size hdY.one (by decide) rfl (by omega) (by omega) fun p2 c2 H67 hs67=>⟨.inr ⟨_,asz,rowIn_whole (hs67.block 3 rfl),rfl⟩,asz,by decide,?_⟩
       rw[elemD asz]
       exact hs67.alc fun b68 H69 hs69=>hs69.appC 6 0 rfl rfl asz (arrP_one _) (by decide) rfl (by omega) (by omega) fun p3 c3 H71 hs71=>fin p2 p3 c2 c3 Y b64 b68 _ _ _ _ H71 hs71
      ·rw[elemD asz]
       exact hs65.alc fun b73 H74 hs74=>hs74.appC 5 1 rfl rfl hdY.size hdY.one (by decide) rfl (by omega) (by omega) fun p2 c2 H76 hs76=>hs76.appC 6 0 rfl rfl asz (arrP_one _) (by decide) rfl (by omega) (by omega) fun p3 c3 H71 hs71=>fin p2 p3 c2 c3 Y b64 b73 _ _ _ _ H71 hs71
     ·rw[elemD asz]
      refine hs62.alc fun b80 H81 hs81=>⟨hdY.size,by decide,?_⟩
      rw[elemD hdY.size]
      exact hs81.alc fun b82 H83 hs83=>hs83.appC 5 0 rfl rfl hdY.size hdY.one (by decide) rfl (by omega) (by omega) fun p2 c2 H76 hs76=>hs76.appC 6 1 rfl rfl asz (arrP_one _) (by decide) rfl (by omega) (by omega) fun p3 c3 H71 hs71=>fin p2 p3 c2 c3 Y b80 b82 _ _ _ _ H71 hs71
    ·refine⟨asz,by decide,?_⟩
     rw[elemD asz]
     refine h58.alc fun b89 H90 hs90=>c20 hs90.swap ok'.ok fun Y H92 hdY hs92=>⟨_,rfl,hdY.size,by decide,?_⟩
     rw[elemD hdY.size]
     have h92:St H H92 (.cell b89 (arrP cur') 32::docRs Y s'.D::pl6 lb b18 s' cur' P past B books):=hs92.front 2 rfl
     exact h92.alc fun b94 H95 hs95=>hs95.appC 5 0 rfl rfl hdY.size hdY.one (by decide) rfl (by omega) (by omega) fun p2 c2 H76 hs76=>hs76.appC 6 1 rfl rfl asz (arrP_one _) (by decide) rfl (by omega) (by omega) fun p3 c3 H71 hs71=>fin p2 p3 c2 c3 Y b89 b94 _ _ _ _ H71 hs71
   have h49:St H H49 (.cell b42 (svL z).toArray 46::lvRs lb s:: .cell b18 (arrP cur) 32:: .sl P.p P.l P.c 26 4 (cellsP past):: .sl B.p B.l B.c 32 4 (cellsP books)::pdRs past::bkRs (cur::books)::[]):=h49
   have asz:=arrP_size cur
   have hcur:=ok.hc
   obtain⟨icur,nxc,wc,hc⟩:=ok.inv cur (.inl rfl)
   have hnn:=ok.n
   refine⟨z.rd,h49.get 0 rfl (j:=19) rfl,br_i (fun _=>?_) fun _=>⟨z.st,h49.get 0 rfl (j:=20) rfl,br_i (fun _=>?_) fun _=>?_⟩⟩
   ·have fr:St H H49 (lvRs lb s:: .cell b42 (svL z).toArray 46:: .cell b18 (arrP cur) 32:: .sl P.p P.l P.c 26 4 (cellsP past):: .sl B.p B.l B.c 32 4 (cellsP books)::pdRs past::bkRs (cur::books)::[]):=h49.swap
    refine c10 fr ⟨_,rfl,z.x,h49.get 0 rfl (j:=21) rfl,z.y,h49.get 0 rfl (j:=22) rfl,z.w,h49.get 0 rfl (j:=23) rfl,z.h,h49.get 0 rfl (j:=24) rfl,?_⟩
    refine c11 fr ok.ok (by omega) (fun hreg bo H110 hs110=>⟨_,_,_,_,rfl,?_⟩) fun hno=>⟨_,_,_,_,rfl,?_⟩
    ·have hpn:=hreg.pn ok.ok.inv
     have ok2:=ok.ok.rd hpn (Nat.le_refl _)
     have hD2:=rd_D s (regP s.D z.x z.y z.w z.h) (regP s.D z.x z.y z.w z.h).n
     have hn2:=rd_n s (regP s.D z.x z.y z.w z.h) (regP s.D z.x z.y z.w z.h).n
     have htl:=read_tiles hpn ok.ok.nodup
     have hle:=readK_le (p:=regP s.D z.x z.y z.w z.h) (ks:=s.ks) (regP s.D z.x z.y z.w z.h).n
     have hge:=readK_len (p:=regP s.D z.x z.y z.w z.h) (ks:=s.ks) (regP s.D z.x z.y z.w z.h).n
     have htw:LvS.rd (s.rd (regP s.D z.x z.y z.w z.h) (regP s.D z.x z.y z.w z.h).n) (regP s.D z.x z.y z.w z.h) (regP s.D z.x z.y z.w z.h).n=s.rd (regP s.D z.x z.y z.w z.h) (regP s.D z.x z.y z.w z.h).n:=rd_again read_in
     obtain⟨r1,r2,r3,r4⟩:=hreg
     have hreg:RegOk s.D z.x z.y z.w z.h:=⟨r1,r2,r3,r4⟩
     have hwD:s.D.w≤40∧s.D.h≤40:=by rw[←hcur];exact⟨wc,hc⟩
     have hpnn:((regP s.D z.x z.y z.w z.h).n:Int)=z.w*z.h:=hpn.n
     have hmb:=mul_bd (x:=z.w) (y:=z.h) (A:=40) (B:=40) (by omega) (by omega)
     have hlen:(picL (regP s.D z.x z.y z.w z.h) s.D.ks).length=(regP s.D z.x z.y z.w z.h).n:=plL_len _ _
     generalize s.rd (regP s.D z.x z.y z.w z.h) (regP s.D z.x z.y z.w z.h).n=s2 at hs110 ok2 hD2 hn2 htw
     have h110:St H H110 (.cell bo (ints (picL (regP s.D z.x z.y z.w z.h) s.D.ks)).toArray 3::lvRs lb s2:: .cell b42 (svL z).toArray 46:: .cell b18 (arrP cur) 32:: .sl P.p P.l P.c 26 4 (cellsP past):: .sl B.p B.l B.c 32 4 (cellsP books)::pdRs past::bkRs (cur::books)::[]):=hs110
     obtain⟨rs,hrd,hrel⟩:=bkGet h110 7 rfl List.mem_cons_self
     refine⟨arrP cur,asz,rowIn_whole (h110.block 3 rfl),z.x,h110.get 2 rfl (j:=21) rfl,z.y,h110.get 2 rfl (j:=22) rfl,z.w,h110.get 2 rfl (j:=23) rfl,z.h,h110.get 2 rfl (j:=24) rfl,?_⟩
     refine c12 (D:=cur.2) hrd icur hrel (fun _ Q H119 hs119=>⟨_,_,_,_,rfl,?_⟩) fun hn=>absurd (hcur▸hreg) hn
     rw[hcur] at hs119
     have h119:=h110.call hs119
     intro J122 hJ122
     refine br_ne (fun h=>absurd rfl h) fun _=>?_
     refine c13 (h119.isA 1 rfl hlen) (h119.is 0 rfl) (by omega) ⟨_,rfl,?_⟩
     rw[decide_eq_true rfl]
     refine br_f rfl (hJ122 _ ?_)
     intro J124 hJ124
     have fr2:St H H119 (lvRs lb s2:: .cell b42 (svL z).toArray 46:: .cell b18 (arrP cur) 32:: .sl P.p P.l P.c 26 4 (cellsP past):: .sl B.p B.l B.c 32 4 (cellsP books)::pdRs past::bkRs (cur::books)::[]):=h119.drop 2
     refine br_t rfl ⟨z.x,fr2.get 1 rfl (j:=21) rfl,z.y,fr2.get 1 rfl (j:=22) rfl,z.w,fr2.get 1 rfl (j:=23) rfl,z.h,fr2.get 1 rfl (j:=24) rfl,c10 fr2 ⟨_,rfl,.inl (Ext.refl _),?_⟩⟩
     refine c14 (by omega) (by omega) (by omega) (by omega) ⟨_,rfl,?_⟩
     rw[wrap_id (n:=s2.n-s.n) (by omega) (by omega)]
     refine br_n (by omega) (hJ124 _ ?_)
     refine c10 fr2 ⟨_,rfl,z.x,fr2.get 1 rfl (j:=21) rfl,z.y,fr2.get 1 rfl (j:=22) rfl,z.w,fr2.get 1 rfl (j:=23) rfl,z.h,fr2.get 1 rfl (j:=24) rfl,?_⟩
     refine c11 fr2 ok2 (by omega) (fun _ bo2 H134 hs134=>⟨_,_,_,_,rfl,?_⟩) fun hn=>absurd (hD2▸hreg) hn
     rw[hD2,htw] at hs134
     refine c10 hs134.tail ⟨_,rfl,br_ne (fun h=>absurd rfl h) fun _=>aft s2 cur H134 (ok.more ok2 (hcur.trans hD2.symm) (by rw[hD2,←hcur];omega) (by omega)) ?_⟩
     exact(hs134.del 2).tail
    ·obtain⟨rs,hrd,hrel⟩:=bkGet fr 6 rfl List.mem_cons_self
     refine⟨arrP cur,asz,rowIn_whole (fr.block 2 rfl),z.x,fr.get 1 rfl (j:=21) rfl,z.y,fr.get 1 rfl (j:=22) rfl,z.w,fr.get 1 rfl (j:=23) rfl,z.h,fr.get 1 rfl (j:=24) rfl,?_⟩
     refine c12 (D:=cur.2) hrd icur hrel (fun hy=>absurd (hcur▸hy) hno) fun _ H119 he119=>⟨_,_,_,_,rfl,?_⟩
     have fr2:=fr.step he119
     have nil:IS H119 none 0 (ints []):=⟨rfl,fun i v h=>by simp[ints] at h⟩
     intro J122 hJ122
     refine br_ne (fun h=>absurd rfl h) fun _=>c13 nil nil (by decide) ⟨_,rfl,br_f rfl (hJ122 _ ?_)⟩
     intro J124 hJ124
     refine br_f rfl (hJ124 _ ?_)
     refine c10 fr2 ⟨_,rfl,z.x,fr2.get 1 rfl (j:=21) rfl,z.y,fr2.get 1 rfl (j:=22) rfl,z.w,fr2.get 1 rfl (j:=23) rfl,z.h,fr2.get 1 rfl (j:=24) rfl,?_⟩
     refine c11 fr2 ok.ok (by omega) (fun hy=>absurd hy hno) fun _=>⟨_,_,_,_,rfl,?_⟩
     exact c10 fr2 ⟨_,rfl,br_ne (fun h=>absurd rfl h) fun _=>aft s cur H119 ok.same (fr2.del 1)⟩
   ·intro J158 hJ158
    have cont:J36 [.slice P.p P.l P.c,.slice B.p B.l B.c] H49:=hJ36 _ _ _ _ _ _ _ (by
     rw[wrap_id (by omega) (by omega)]
     exact ih hi' P past B books s cur H49 ok.same h49.tail)
    refine⟨z.bk,h49.get 0 rfl (j:=25) rfl,br_dec (fun _=>cont) fun h0=>⟨z.bk,h49.get 0 rfl (j:=25) rfl,br_dec (fun _=>cont) fun h1=>hJ158 _ ⟨z.bk,h49.get 0 rfl (j:=25) rfl,?_⟩⟩⟩
    rw[wrap_id (n:=(P.l:Int)-1) (by omega) (by omega),wrap_id (n:=(P.l:Int)-1-z.bk) (by omega) (by omega)]
    obtain⟨m,hm⟩: ∃m:Nat,(P.l:Int)-1-z.bk=m:=⟨((P.l:Int)-1-z.bk).toNat,by omega⟩
    rw[hm]
    have hml:m<past.length:=by omega
    have hxm:=List.getElem?_eq_getElem hml
    generalize past[m]=x at hxm
    obtain⟨y,hy,hyx⟩:=map_at ok.eq hxm
    obtain⟨a1,ha1,hr1⟩:=pds_row (h49.rs 3 rfl) hxm
    have hxmem:=List.mem_of_getElem? hxm
    obtain⟨ix,nxx,wx,hx2⟩:=ok.inv x (.inr hxmem)
    refine⟨a1,ha1,by omega,by omega,arrP x,arrP_size x,by rw[Int.toNat_natCast];exact hr1,?_⟩
    refine c15 h49.swap (h49.pd 5 rfl hxmem) ix fun H164 hs164=>⟨rfl,?_⟩
    have h164:St H H164 (lvRs lb ⟨x.2,[],s.n⟩:: .cell b42 (svL z).toArray 46:: .cell b18 (arrP cur) 32:: .sl P.p P.l P.c 26 4 (cellsP past):: .sl B.p B.l B.c 32 4 (cellsP books)::pdRs past::bkRs (cur::books)::[]):=hs164
    obtain⟨a2,ha2,hr2⟩:=rowE (h164.rs 4 rfl) hy
    refine⟨a2,ha2,by omega,by omega,arrP y,arrP_size y,by rw[Int.toNat_natCast];exact hr2,arrP_size y,h164.putAll 2 rfl (arrP_size y) (arrP_one y) fun H167 hs167=>?_⟩
    refine aft ⟨x.2,[],s.n⟩ y H167 (ok.more (LvOk.start ix hnn.1) hyx ⟨by show x.2.next≤_;omega,wx,hx2⟩ ⟨hnn.1,by show s.n≤_;omega⟩) ?_
    have h167:St H H167 (lvRs lb ⟨x.2,[],s.n⟩:: .cell b42 (svL z).toArray 46:: .cell b18 (arrP y) 32:: .sl P.p P.l P.c 26 4 (cellsP past):: .sl B.p B.l B.c 32 4 (cellsP books)::pdRs past::bkRs (cur::books)::[]):=hs167
    have h168:=bkSub (l':=y::books) ((h167.del 1).front 5 rfl) fun q hq=>by
     rcases List.mem_cons.1 hq with rfl|hq
     ·exact List.mem_cons_of_mem _ (List.mem_of_getElem? hy)
     ·exact List.mem_cons_of_mem _ hq
    exact h168.perm (List.perm_append_comm (l₁:=[_]))
   ·intro J170 hJ170
    have mid: ∀(bn:Nat) (q:Sl3) (H1:Heap),St H H1 (.cell bn (arrP (q,nxt cur.2 z.e)) 32:: .cell b42 (svL z).toArray 46::lvRs lb s:: .cell b18 (arrP cur) 32:: .sl P.p P.l P.c 26 4 (cellsP past):: .sl B.p B.l B.c 32 4 (cellsP books)::pdRs past::bkRs ((q,nxt cur.2 z.e)::cur::books)::[])→J170 [.pointer (some ⟨bn,0,none⟩),.int .i64 (doD cur.2 z.e).1] H1:=by
     intro bn q H1 hs1
     refine hJ170 _ _ _ ⟨(edL z.e z.s).toArray,rfl,sv_row (hs1.block 1 rfl),c18 (hs1.front 2 rfl) ok.ok (by rw[←hcur];omega) (hedH hs1.ext) fun H176 hs176=>⟨_,rfl,?_⟩⟩
     obtain⟨d1,d2,d3,_⟩:=doE_D s z.e
     have ok2:=ok.ok.doE z.e
     rw[d1]
     generalize (s.doE z.e).2=s2 at hs176 d2 d3 ok2
     have h176:St H H176 (lvRs lb s2:: .cell bn (arrP (q,nxt cur.2 z.e)) 32:: .cell b42 (svL z).toArray 46:: .cell b18 (arrP cur) 32:: .sl P.p P.l P.c 26 4 (cellsP past):: .sl B.p B.l B.c 32 4 (cellsP books)::pdRs past::bkRs ((q,nxt cur.2 z.e)::cur::books)::[]):=hs176
     have hD2:s2.D=nxt cur.2 z.e:=by rw[d2,hcur]
     have hsz2:=nxt_size (D:=cur.2) z.e
     have hnx2:=nxt_next (D:=cur.2) z.e
     have hlim:s2.D.next≤i+1+1∧s2.D.w≤40∧s2.D.h≤40:=by rw[hD2];omega
     refine br_ne (fun hne=>absurd (by rw[hcur]) hne) fun _=>br_eq (fun h0=>⟨arrP (q,nxt cur.2 z.e),arrP_size _,rowIn_whole (h176.block 1 rfl),arrP_size _,h176.putAll 3 rfl (arrP_size _) (arrP_one _) fun H179 hs179=>?_⟩) fun hne=>?_
     ·refine aft s2 (q,nxt cur.2 z.e) H179 (ok.more ok2 hD2.symm hlim (by omega)) ?_
      have h179:=bkSub (l':=(q,nxt cur.2 z.e)::books) (((hs179.del 1).del 1).front 5 rfl) fun y hy=>by
       rcases List.mem_cons.1 hy with rfl|hy
       ·exact List.mem_cons_self
       ·exact List.mem_cons_of_mem _ (List.mem_cons_of_mem _ hy)
      exact h179.perm (List.perm_append_comm (l₁:=[_]))
     ·have hn:nxt cur.2 z.e=cur.2:=by unfold nxt;rw[if_neg hne]
      refine aft s2 cur H176 (ok.more ok2 (by rw[hD2,hn]) hlim (by omega)) ?_
      have h177:=bkSub (l':=cur::books) (((h176.del 1).del 1).front 5 rfl) fun y hy=>List.mem_cons_of_mem _ hy
      exact h177.perm (List.perm_append_comm (l₁:=[_]))
    refine⟨arrP cur,asz,rowIn_whole (h49.block 2 rfl),(edL z.e z.s).toArray,rfl,sv_row (h49.block 0 rfl),?_,?_⟩
    ·refine c17 (hedH h49.ext) fun s' H183 he183 hed'=>⟨_,rfl,.inr ⟨_,asz,rowIn_whole ((h49.step he183).block 2 rfl),rfl⟩,?_,?_⟩
     ·refine rdo_bk ((h49.step he183).front 6 rfl) List.mem_cons_self icur (by omega) hed' fun q H186 he186 hs186=>⟨_,_,rfl,hs186.alc fun b189 H190 hs190=>⟨rfl,hs190.putAll 0 rfl (arrP_size _) (arrP_one _) fun H191 hs191=>mid b189 q H191 ?_⟩⟩
      exact hs191.perm (List.Perm.cons _ (List.perm_append_comm (l₁:=[_])))
     ·refine(h49.step he183).alcE fun b192 H193 he193 hs193=>⟨.inl he193,?_⟩
      refine rdo_bk (hs193.front 7 rfl) List.mem_cons_self icur (by omega) ⟨hed'.rd.ext he193,hed'.shape,hed'.params⟩ fun q H195 he195 hs195=>⟨_,_,rfl,rfl,hs195.putAll 1 rfl (arrP_size _) (arrP_one _) fun H198 hs198=>mid b192 q H198 ?_⟩
      exact(St.swap hs198).perm (List.Perm.cons _ (List.perm_append_comm (l₁:=[_])))
    ·refine h49.alcE fun b201 H202 he202 hs202=>⟨.inl he202,?_⟩
     refine c17 (hedH hs202.ext) fun s' H204 he204 hed'=>⟨_,rfl,.inl he204,?_⟩
     refine rdo_bk ((hs202.step he204).front 7 rfl) List.mem_cons_self icur (by omega) hed' fun q H207 he207 hs207=>⟨_,_,rfl,rfl,hs207.putAll 1 rfl (arrP_size _) (arrP_one _) fun H210 hs210=>mid b201 q H210 ?_⟩
     exact(St.swap hs210).perm (List.Perm.cons _ (List.perm_append_comm (l₁:=[_])))
  have hi0:Inv (⟨w,h,1,[]⟩:DocL):=hinv
  have h1:St H H1 [.sl (some ⟨b1,0,none⟩) 1 1 26 4 (cellsP [(.nil,⟨w,h,1,[]⟩)]),.cell b2 (docA w h 1 .nil) 32,lvRs lb ⟨⟨w,h,1,[]⟩,[],0⟩,.cell b18 (docA w h 1 .nil) 32]:=hs1.toSl 0 rfl rfl rfl (docA_one _ _ _ _)
  have h2:St H H1 [.sl (some ⟨b1,0,none⟩) 1 1 26 4 (cellsP [(.nil,⟨w,h,1,[]⟩)]),.sl (some ⟨b2,0,none⟩) 1 1 32 4 (cellsP [(.nil,⟨w,h,1,[]⟩)]),lvRs lb ⟨⟨w,h,1,[]⟩,[],0⟩,.cell b18 (docA w h 1 .nil) 32]:=h1.toSl 1 rfl rfl rfl (docA_one _ _ _ _)
  have h3:St H H1 (pdRs [(.nil,⟨w,h,1,[]⟩)]::[.sl (some ⟨b1,0,none⟩) 1 1 26 4 (cellsP [(.nil,⟨w,h,1,[]⟩)]),.sl (some ⟨b2,0,none⟩) 1 1 32 4 (cellsP [(.nil,⟨w,h,1,[]⟩)]),lvRs lb ⟨⟨w,h,1,[]⟩,[],0⟩,.cell b18 (docA w h 1 .nil) 32]):=St.pdOne (x:=(.nil,⟨w,h,1,[]⟩)) (h2.docNil w h 1)
  have h4:=bkSub (l':=[(.nil,⟨w,h,1,[]⟩),(.nil,⟨w,h,1,[]⟩)]) (bkStart h3 w h) fun y hy=>by
   simp only[List.mem_cons,List.not_mem_nil,or_false,or_self] at hy;subst hy;exact List.mem_cons_self
  refine go 0 (Nat.zero_le _) ⟨some ⟨b1,0,none⟩,1,1⟩ [(.nil,⟨w,h,1,[]⟩)] ⟨some ⟨b2,0,none⟩,1,1⟩ [(.nil,⟨w,h,1,[]⟩)] ⟨⟨w,h,1,[]⟩,[],0⟩ (.nil,⟨w,h,1,[]⟩) H1 ⟨LvOk.start hi0 (by decide),rfl,rfl,fun x hx=>?_,⟨Int.le_refl _,show(0:Int)≤10000*((0+1:Nat):Int) by decide⟩,Nat.le_refl _⟩ (h4.perm (permC (a:=[_,_,_,_,_,_]) (b:=[_,_,_,_,_,_]) fun _ y=>by simp only[List.count_cons,List.count_nil];ac_rfl))
  simp only[List.mem_cons,List.not_mem_nil,or_false,or_self] at hx
  subst hx
  exact⟨hi0,show(1:Int)≤((0+1:Nat):Int) by decide,by show w≤40;omega,by show h≤40;omega⟩
 have h25:St H H25 [lvRs lb ⟨⟨w,h,1,[]⟩,[],0⟩,.cell b18 (docA w h 1 .nil) 32,.cell b11 (docA w h 1 .nil) 26]:=hs25
 refine⟨docA w h 1 .nil,rfl,rowIn_whole (h25.block 2 rfl),docA w h 1 .nil,rfl,rowIn_whole (h25.block 1 rfl),⟨rfl,by decide,?_⟩,rfl,by decide,?_⟩
 ·refine h25.alcE fun b216 H217 he217 hs217=>⟨.inl he217,rfl,by decide,hs217.alc fun b218 H219 hs219=>start b216 b218 H219 ?_⟩
  have h219:St H H219 [.cell b218 (docA w h 1 .nil) 32,.cell b216 (docA w h 1 .nil) 26,lvRs lb ⟨⟨w,h,1,[]⟩,[],0⟩,.cell b18 (docA w h 1 .nil) 32,.cell b11 (docA w h 1 .nil) 26]:=hs219
  exact h219.swap.take 4
 ·refine h25.alcE fun b221 H222 he222 hs222=>⟨.inl he222,rfl,by decide,hs222.alc fun b223 H224 hs224=>start b223 b221 H224 ?_⟩
  have h224:St H H224 [.cell b223 (docA w h 1 .nil) 26,.cell b221 (docA w h 1 .nil) 32,lvRs lb ⟨⟨w,h,1,[]⟩,[],0⟩,.cell b18 (docA w h 1 .nil) 32,.cell b11 (docA w h 1 .nil) 26]:=hs224
  exact h224.take 4
end Go.Proofs
namespace Go.Proofs
open Go.Sh Go.RowKit Go.ChangeShapes Go.WideShapes Go.ChangeAt
end Go.Proofs
namespace Go.Proofs
open Go.Sh Go.RowKit Go.ChangeShapes Go.WideShapes Go.ChangeAt Go.Deep
section
variable {H:Type} {enc:TypeId×Value→H} {W:World}
abbrev TrP(enc:TypeId×Value→H)(W:World)(fuel:Nat)(t:TypeId)(cs:List Value)(x:DataW H×List MemPlace):Prop:=DataW.trod enc Tryz.prog W 0 (fun _=>true) true fuel t cs=some x
theorem intsAt{fuel:Nat}{a0:Option Addr}{len cap:Nat}{x:DataW H×List MemPlace}(hf:TrP enc W fuel 39 [.slice a0 len cap] x): ∃ls,len≤cap∧IS W.heap a0 len (ints ls):=by
 rcases open_ints Tryz.underlying39 Tryz.underlying3 (by kernel_rfl) hf with ⟨hcs,_⟩|⟨a,len2,cap2,zs,hcs,_,hl,_,hz,_,hc,hw⟩
 ·simp at hcs
  obtain⟨rfl,rfl,rfl⟩:=hcs
  exact⟨[],Nat.le_refl _,⟨rfl,fun i v hv=>by simp[ints] at hv⟩⟩
 ·simp at hcs
  obtain⟨rfl,rfl,rfl⟩:=hcs
  have hzl:len≤zs.length:=by rw[hz];simp;omega
  refine⟨zs.take len,hl,⟨by rw[ints_len];simp;omega,fun i v hv=>⟨a,rfl,?_⟩⟩⟩
  have hi:i<len:=by have:=(List.getElem?_eq_some_iff.1 hv).1;rw[ints_len] at this;simp at this;omega
  have:=hc i (by omega)
  rw[cell_eq] at this
  rw[this]
  have hg:(zs.take len)[i]?=some (zs.getD i 0):=by
   rw[List.getElem?_take_of_lt hi,List.getD_eq_getElem?_getD,List.getElem?_eq_getElem (by omega)];rfl
  rw[ints_get hg] at hv
  exact hv
theorem fieldAt{t:TypeId}{fs:Array Field}{fuel:Nat}{cs:List Value}{x:DataW H×List MemPlace}(hs:Tryz.prog.underlying t=some (.struct fs))(h:TrP enc W fuel t cs x)(i:Nat){f:Field}{o ty c:Nat}(hf:fs[i]?=some f)(ho:f.offset=o)(ht:f.type=ty)(hc:Tryz.prog.cellsOf ty=c):
 ∃n y,n<fuel∧TrP enc W n ty ((cs.drop o).take c) y:=by
 obtain⟨xs,n,hfu,_,hl,hlen,hg⟩:=DataW.trod_struct hs h
 have:=hg i f hf
 have hi:=(Array.getElem?_eq_some_iff.1 hf).1
 rw[List.getElem?_eq_getElem (by omega),ho,ht,hc] at this
 exact⟨n,_,by omega,this⟩
theorem one_get{cs:List Value}{o:Nat}{v:Value}(h:(cs.drop o).take 1=[v]):cs[o]?=some v:=by
 have h4:((cs.drop o).take 1)[0]?=some v:=by rw[h];rfl
 rw[List.getElem?_take_of_lt (by omega),List.getElem?_drop] at h4
 simpa using h4
theorem intF{n:Nat}{cs:List Value}{o:Nat}{y:DataW H×List MemPlace}(h:TrP enc W n 3 ((cs.drop o).take 1) y): ∃m:Int,cs[o]?=some (.int .i64 m):=by
 obtain⟨m,hm,_,_⟩:=DataW.trod_int Tryz.underlying3 h
 exact⟨m,one_get hm⟩
theorem boolF{n:Nat}{cs:List Value}{o:Nat}{y:DataW H×List MemPlace}(h:TrP enc W n 4 ((cs.drop o).take 1) y): ∃m:Bool,cs[o]?=some (.bool m):=by
 obtain⟨m,hm,_⟩:=DataW.trod_bool Tryz.underlying4 h
 exact⟨m,one_get hm⟩
theorem slF{t e n:Nat}{cs:List Value}{o:Nat}{y:DataW H×List MemPlace}(ht:Tryz.prog.underlying t=some (.slice e))(h:TrP enc W n t ((cs.drop o).take 1) y): ∃s:Sl3,cs[o]?=some s.v∧TrP enc W n t [s.v] y:=by
 rcases DataW.trod_slice ht h with ⟨h0,_⟩|⟨a,len,cap,elems,rest,m,_,h0,_⟩
 ·rw[h0] at h;exact⟨.nil,one_get h0,h⟩
 ·rw[h0] at h;exact⟨⟨some a,len,cap⟩,one_get h0,h⟩
theorem list19{α:Type}{l:List α}(h:l.length=19): ∃a b c d e f g i j k m n o p q r s t u,l=[a,b,c,d,e,f,g,i,j,k,m,n,o,p,q,r,s,t,u]:=by
 match l,h with
 |[a,b,c,d,e,f,g,i,j,k,m,n,o,p,q,r,s,t,u],_=>exact⟨a,b,c,d,e,f,g,i,j,k,m,n,o,p,q,r,s,t,u,rfl⟩
theorem sixF{t n:Nat}{cs:List Value}{o:Nat}{y:DataW H×List MemPlace}(ht:Tryz.prog.underlying t=some (.array 6 3))(h:TrP enc W n t ((cs.drop o).take 6) y):
 ∃m:M6,cs[o]?=some (.int .i64 m.a)∧cs[o+1]?=some (.int .i64 m.b)∧cs[o+2]?=some (.int .i64 m.c)∧cs[o+3]?=some (.int .i64 m.d)∧cs[o+4]?=some (.int .i64 m.e)∧cs[o+5]?=some (.int .i64 m.f):=by
 obtain⟨xs,m,_,_,hl,hlen,hg⟩:=DataW.trod_array ht h
 have hc:Tryz.prog.cellsOf 3=1:=by kernel_rfl
 have each: ∀i,i<6→ ∃z:Int,cs[o+i]?=some (.int .i64 z):=fun i hi=>by
  have:=hg i hi
  rw[hc,Nat.mul_one,List.getElem?_eq_getElem (by omega)] at this
  obtain⟨z,hz⟩:=intF this
  rw[List.getElem?_take_of_lt hi,List.getElem?_drop] at hz
  exact⟨z,hz⟩
 obtain⟨a,ha⟩:=each 0 (by omega)
 obtain⟨b,hb⟩:=each 1 (by omega)
 obtain⟨c,hc⟩:=each 2 (by omega)
 obtain⟨d,hd⟩:=each 3 (by omega)
 obtain⟨e,he⟩:=each 4 (by omega)
 obtain⟨f,hf⟩:=each 5 (by omega)
 exact⟨⟨a,b,c,d,e,f⟩,ha,hb,hc,hd,he,hf⟩
theorem ptAt{n:Nat}{cs:List Value}{y:DataW H×List MemPlace}(h:TrP enc W n 86 cs y): ∃p:Pt,cs=[.int .i64 p.1,.int .i64 p.2]:=by
 obtain⟨_,_,_,h0⟩:=fieldAt (o:=0) (ty:=3) (c:=1) Tryz.underlying86 h 0 rfl rfl rfl (by kernel_rfl)
 obtain⟨_,_,_,h1⟩:=fieldAt (o:=1) (ty:=3) (c:=1) Tryz.underlying86 h 1 rfl rfl rfl (by kernel_rfl)
 obtain⟨x,hx⟩:=intF h0
 obtain⟨y,hy⟩:=intF h1
 obtain⟨xs,m,_,_,hl,_⟩:=DataW.trod_struct Tryz.underlying86 h
 have hl2:cs.length=2:=by rw[hl];kernel_rfl
 match cs,hl2 with
 |[a,b],_=>
  simp only[List.getElem?_cons_zero,List.getElem?_cons_succ,Option.some.injEq] at hx hy
  subst hx;subst hy
  exact⟨(x,y),rfl⟩
theorem choose_list{α:Type}{P:Nat→α→Prop}{n:Nat}[Inhabited α](h: ∀i,i<n→ ∃x,P i x): ∃l:List α,l.length=n∧ ∀i x,l[i]?=some x→P i x:=by
 obtain⟨f,hf⟩: ∃f:Nat→α,∀i,i<n→P i (f i):=by
  have: ∀i,∃x,i<n→P i x:=fun i=>by
   by_cases hi:i<n
   ·obtain⟨x,hx⟩:=h i hi;exact⟨x,fun _=>hx⟩
   ·exact⟨default,fun h=>absurd h hi⟩
  exact Classical.axiomOfChoice this
 refine⟨(List.range n).map f,by simp,fun i x hx=>?_⟩
 have hi:i<n:=by have:=(List.getElem?_eq_some_iff.1 hx).1;simpa using this
 simp[hi] at hx
 subst hx
 exact hf i hi
theorem ptsAt{fuel:Nat}{s:Sl3}{x:DataW H×List MemPlace}(hf:TrP enc W fuel 40 [s.v] x): ∃pts:List Pt,s.l≤s.c∧IS2 W.heap s.p s.l pts:=by
 rcases open_slice Tryz.underlying40 hf with ⟨hcs,_⟩|⟨a,len',cap',m,n,D,Pl,hcs,_,hl,hm,hmm,_,hx⟩
 ·obtain⟨p,l,c⟩:=s
  simp only[Sl3.v,List.cons.injEq,Value.slice.injEq,and_true] at hcs
  obtain⟨rfl,rfl,rfl⟩:=hcs
  exact⟨[],Nat.le_refl _,IS2.nil _⟩
 ·obtain⟨p,l,c⟩:=s
  simp only[Sl3.v,List.cons.injEq,Value.slice.injEq,and_true] at hcs
  obtain⟨rfl,rfl,rfl⟩:=hcs
  have hml:l≤m:=by rw[hmm];simp;omega
  obtain⟨pts,hlen,hpts⟩:=choose_list (P:=fun i (p:Pt)=>rowIn W.heap (a.add (i*2)) #[.int .i64 p.1,.int .i64 p.2]) (n:=l) fun i hi=>by
   obtain⟨cs,h1,h2⟩:=hx i (by omega)
   rw[show Tryz.prog.cellsOf 86=2 from by kernel_rfl] at h1
   obtain⟨p,rfl⟩:=ptAt h2
   obtain⟨_,_,hc⟩:=World.cells?_some h1
   refine⟨p,fun j v hv=>?_⟩
   have hj:j<2:=(Array.getElem?_eq_some_iff.1 hv).1
   have:=hc j hj
   rw[cell_eq] at this
   rw[this]
   simpa using hv
  exact⟨pts,hl,hlen,fun i x y hi=>⟨a,rfl,hpts i (x,y) hi⟩⟩
theorem edAt{fuel:Nat}{cs:List Value}{x:DataW H×List MemPlace}(h:TrP enc W fuel 44 cs x): ∃e s,cs=edL e s∧rdEd W.heap e s:=by
 have hu:=Tryz.underlying44
 obtain⟨_,_,_,h0⟩:=fieldAt (o:=0) (ty:=3) (c:=1) hu h 0 rfl rfl rfl (by kernel_rfl)
 obtain⟨_,_,_,h1⟩:=fieldAt (o:=1) (ty:=3) (c:=1) hu h 1 rfl rfl rfl (by kernel_rfl)
 obtain⟨_,_,_,h2⟩:=fieldAt (o:=2) (ty:=3) (c:=1) hu h 2 rfl rfl rfl (by kernel_rfl)
 obtain⟨_,_,_,h3⟩:=fieldAt (o:=3) (ty:=3) (c:=1) hu h 3 rfl rfl rfl (by kernel_rfl)
 obtain⟨_,_,_,h4⟩:=fieldAt (o:=4) (ty:=3) (c:=1) hu h 4 rfl rfl rfl (by kernel_rfl)
 obtain⟨_,_,_,h5⟩:=fieldAt (o:=5) (ty:=3) (c:=1) hu h 5 rfl rfl rfl (by kernel_rfl)
 obtain⟨_,_,_,h6⟩:=fieldAt (o:=6) (ty:=3) (c:=1) hu h 6 rfl rfl rfl (by kernel_rfl)
 obtain⟨_,_,_,h7⟩:=fieldAt (o:=7) (ty:=3) (c:=1) hu h 7 rfl rfl rfl (by kernel_rfl)
 obtain⟨_,_,_,h8⟩:=fieldAt (o:=8) (ty:=3) (c:=1) hu h 8 rfl rfl rfl (by kernel_rfl)
 obtain⟨_,_,_,h9⟩:=fieldAt (o:=9) (ty:=3) (c:=1) hu h 9 rfl rfl rfl (by kernel_rfl)
 obtain⟨_,_,_,h10⟩:=fieldAt (o:=10) (ty:=39) (c:=1) hu h 10 rfl rfl rfl (by kernel_rfl)
 obtain⟨_,_,_,h11⟩:=fieldAt (o:=11) (ty:=40) (c:=1) hu h 11 rfl rfl rfl (by kernel_rfl)
 obtain⟨_,_,_,h12⟩:=fieldAt (o:=12) (ty:=42) (c:=6) hu h 12 rfl rfl rfl (by kernel_rfl)
 obtain⟨_,_,_,h13⟩:=fieldAt (o:=18) (ty:=39) (c:=1) hu h 13 rfl rfl rfl (by kernel_rfl)
 obtain⟨v0,g0⟩:=intF h0
 obtain⟨v1,g1⟩:=intF h1
 obtain⟨v2,g2⟩:=intF h2
 obtain⟨v3,g3⟩:=intF h3
 obtain⟨v4,g4⟩:=intF h4
 obtain⟨v5,g5⟩:=intF h5
 obtain⟨v6,g6⟩:=intF h6
 obtain⟨v7,g7⟩:=intF h7
 obtain⟨v8,g8⟩:=intF h8
 obtain⟨v9,g9⟩:=intF h9
 obtain⟨P,g10,t10⟩:=slF Tryz.underlying39 h10
 obtain⟨S,g11,t11⟩:=slF Tryz.underlying40 h11
 obtain⟨m,ga,gb,gc,gd,ge,gf⟩:=sixF Tryz.underlying42 h12
 obtain⟨A,g18,t18⟩:=slF Tryz.underlying39 h13
 obtain⟨ps,_,hps⟩:=intsAt t10
 obtain⟨pts,_,hpts⟩:=ptsAt t11
 obtain⟨qs,_,hqs⟩:=intsAt t18
 obtain⟨xs,k,_,_,hl,_⟩:=DataW.trod_struct hu h
 have hl2:cs.length=19:=by rw[hl];kernel_rfl
 refine⟨⟨v0,v1,v2,v3,v4,v5,v6,v7,v8,v9,ps,pts,m,qs⟩,⟨P,S,A⟩,?_,⟨hps,hpts,hqs⟩⟩
 obtain⟨a,b,c,d,e,f,g,i,j,k,m',n,o,p,q,r,s,t,u,rfl⟩:=list19 hl2
 simp only[List.getElem?_cons_zero,List.getElem?_cons_succ,Option.some.injEq] at g0 g1 g2 g3 g4 g5 g6 g7 g8 g9 g10 g11 ga gb gc gd ge gf g18
 subst g0 g1 g2 g3 g4 g5 g6 g7 g8 g9 g10 g11 ga gb gc gd ge gf g18
 rfl
instance:Inhabited (Ed×EdS):=⟨⟨0,0,0,0,0,0,0,0,0,0,[],[],⟨0,0,0,0,0,0⟩,[]⟩,⟨.nil,.nil,.nil⟩⟩
end
end Go.Proofs
namespace Go.Proofs
open Go.Sh Go.RowKit Go.ChangeShapes Go.WideShapes Go.ChangeAt Go.Deep
section
variable {H:Type} {enc:TypeId×Value→H} {W:World}
theorem svAt{fuel:Nat}{cs:List Value}{x:DataW H×List MemPlace}(h:TrP enc W fuel 46 cs x): ∃z:SvE,cs=svL z∧rdEd W.heap z.e z.s:=by
 have hu:=Tryz.underlying46
 obtain⟨_,_,_,h0⟩:=fieldAt (o:=0) (ty:=44) (c:=19) hu h 0 rfl rfl rfl (by kernel_rfl)
 obtain⟨_,_,_,h1⟩:=fieldAt (o:=19) (ty:=4) (c:=1) hu h 1 rfl rfl rfl (by kernel_rfl)
 obtain⟨_,_,_,h2⟩:=fieldAt (o:=20) (ty:=4) (c:=1) hu h 2 rfl rfl rfl (by kernel_rfl)
 obtain⟨_,_,_,h3⟩:=fieldAt (o:=21) (ty:=3) (c:=1) hu h 3 rfl rfl rfl (by kernel_rfl)
 obtain⟨_,_,_,h4⟩:=fieldAt (o:=22) (ty:=3) (c:=1) hu h 4 rfl rfl rfl (by kernel_rfl)
 obtain⟨_,_,_,h5⟩:=fieldAt (o:=23) (ty:=3) (c:=1) hu h 5 rfl rfl rfl (by kernel_rfl)
 obtain⟨_,_,_,h6⟩:=fieldAt (o:=24) (ty:=3) (c:=1) hu h 6 rfl rfl rfl (by kernel_rfl)
 obtain⟨_,_,_,h7⟩:=fieldAt (o:=25) (ty:=3) (c:=1) hu h 7 rfl rfl rfl (by kernel_rfl)
 obtain⟨e,s,g0,hrd⟩:=edAt h0
 obtain⟨rd,g1⟩:=boolF h1
 obtain⟨st,g2⟩:=boolF h2
 obtain⟨x,g3⟩:=intF h3
 obtain⟨y,g4⟩:=intF h4
 obtain⟨w,g5⟩:=intF h5
 obtain⟨hh,g6⟩:=intF h6
 obtain⟨bk,g7⟩:=intF h7
 obtain⟨xs,m,_,_,hl,_⟩:=DataW.trod_struct hu h
 have hl2:cs.length=26:=by rw[hl];kernel_rfl
 refine⟨⟨e,s,rd,st,x,y,w,hh,bk⟩,?_,hrd⟩
 unfold svL
 simp only
 rw[←g0,List.drop_zero]
 conv=>lhs;rw[←List.take_append_drop 19 cs]
 congr 1
 refine List.ext_getElem? fun j=>?_
 rw[List.getElem?_drop]
 match j with
 |0=>exact g1
 |1=>exact g2
 |2=>exact g3
 |3=>exact g4
 |4=>exact g5
 |5=>exact g6
 |6=>exact g7
 |j+7=>rw[List.getElem?_eq_none (by omega),List.getElem?_eq_none (by simp)]
instance:Inhabited SvE:=let x:Ed×EdS:=default;⟨⟨x.1,x.2,false,false,0,0,0,0,0⟩⟩
theorem lstepsIn_of{v:Value}{d:DataW H}{ps:List MemPlace}{base:Nat}(hv:Value.okWide Tryz.prog W .any base 22 v)(h:DataW.Trod enc Tryz.prog W 0 (fun _=>true) true 22 v d ps):
 ∃a l c ss,v= .slice a l c∧True∧SvsR W.heap a l ss:=by
 obtain⟨a0,len,cap,rfl⟩:=okWide_slice Tryz.underlying22 hv
 obtain⟨fuel,hf⟩:=h
 rcases open_slice Tryz.underlying22 hf with ⟨hcs,_⟩|⟨a,len',cap',m,n,D,Pl,hcs,_,hl,hm,hmm,_,hx⟩
 ·simp only[Value.cells] at hcs
  simp at hcs
  obtain⟨rfl,rfl,rfl⟩:=hcs
  exact⟨none,0,0,[],rfl,trivial,rfl,fun i z hx=>by simp at hx⟩
 ·simp only[Value.cells] at hcs
  simp at hcs
  obtain⟨rfl,rfl,rfl⟩:=hcs
  have hml:len≤m:=by rw[hmm];simp;omega
  obtain⟨es,hlen,hes⟩:=choose_list (P:=fun i (z:SvE)=>rowIn W.heap (a.add (i*26)) (svL z).toArray∧rdEd W.heap z.e z.s) (n:=len) fun i hi=>by
   obtain⟨cs,h1,h2⟩:=hx i (by omega)
   rw[show Tryz.prog.cellsOf 46=26 from by kernel_rfl] at h1
   obtain⟨z,rfl,hrd⟩:=svAt h2
   obtain⟨_,_,hc⟩:=World.cells?_some h1
   refine⟨z,fun j v hv=>?_,hrd⟩
   have hj:j<26:=(Array.getElem?_eq_some_iff.1 hv).1
   have:=hc j hj
   rw[cell_eq] at this
   rw[this]
   simpa using hv
  exact⟨some a,len,cap,es,rfl,trivial,hlen,fun i z hi=>let ⟨h1,h2⟩:=hes i z hi;⟨a,rfl,h1,h2⟩⟩
end
end Go.Proofs
