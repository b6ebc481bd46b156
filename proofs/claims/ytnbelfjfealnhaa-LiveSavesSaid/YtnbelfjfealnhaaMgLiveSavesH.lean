/-
  OWN WORK. Several texts in one: LvF, LvG, LvH, OpBytes, OpTree.
-/
import Derived.Test.YtnbelfjfealnhaaMgLiveSavesG
import Derived.Test.YtnbelfjfealnhaaMgLiveSavesE
import Derived.Test.YtnbelfjfealnhaaMgLiveSavesF
import Derived.Test.YtnbelfjfealnhaaRows
import Derived.Test.YtnbelfjfealnhaaMgLiveSavesB
import Derived.ChangeSlices
import Derived.Deep.Slices

set_option linter.unusedVariables false
set_option linter.unusedSimpArgs false
set_option maxRecDepth 10000
namespace Go.Proofs
open Go.Sh
variable {H0 H:Heap} {σ:List Rs} {R:Value→Heap→Prop}
theorem c16{x y w h:Int}(hx:0≤x∧x≤1000000)(hy:0≤y∧y≤1000000)(hw: -1000000≤w∧w≤1000000)(hh: -1000000≤h∧h≤1000000)(hR:R (.int .i64 (tilesN x y w h)) H):CallsH Try.prog 16 #[.int .i64 x,.int .i64 y,.int .i64 w,.int .i64 h] H R:=by
 refine Try.s16 ?_
 unfold Try.S16
 intro J5 hJ5
 unfold tilesN at hR
 refine br_dec (fun c=>?_) fun c1=>br_dec (fun c=>?_) fun c2=>hJ5 _ ?_
 ·rw[if_pos (.inl c)] at hR;exact hR
 ·rw[if_pos (.inr c)] at hR;exact hR
 rw[if_neg (by omega)] at hR
 refine⟨by decide,by decide,by decide,by decide,?_⟩
 have hm:=mul_bd (x:=(x+w-1)/16-x/16+1) (y:=(y+h-1)/16-y/16+1) (A:=1000000) (B:=1000000) (by omega) (by omega)
 rw[wrap_id (n:=x+w) (by omega) (by omega),wrap_id (n:=y+h) (by omega) (by omega),wrap_id (n:=x+w-1) (by omega) (by omega),wrap_id (n:=y+h-1) (by omega) (by omega),Int.tdiv_eq_ediv_of_nonneg (show(0:Int)≤x+w-1 by omega),Int.tdiv_eq_ediv_of_nonneg (show(0:Int)≤y+h-1 by omega),Int.tdiv_eq_ediv_of_nonneg hx.1,Int.tdiv_eq_ediv_of_nonneg hy.1,
  wrap_id (n:=(x+w-1)/16) (by omega) (by omega),wrap_id (n:=x/16) (by omega) (by omega),wrap_id (n:=(y+h-1)/16) (by omega) (by omega),wrap_id (n:=y/16) (by omega) (by omega),wrap_id (n:=(x+w-1)/16-x/16) (by omega) (by omega),wrap_id (n:=(y+h-1)/16-y/16) (by omega) (by omega),
  wrap_id (n:=(x+w-1)/16-x/16+1) (by omega) (by omega),wrap_id (n:=(y+h-1)/16-y/16+1) (by omega) (by omega),wrap_id (by omega) (by omega)]
 exact hR
def lvE1:Ed:=ed0 1 0 0 (-1) 0 0 0 0 40 40
def lvE2:Ed:=⟨4,1,0,0,0,0,3,3,1,1,[255],[],zeroM,[]⟩
def lv0:DocL:=⟨40,40,1,[]⟩
def lv1:DocL:=(doD lv0 lvE1).2
def lv2:DocL:=(doD lv1 lvE2).2
def lvK9:List Ky:=readK (regP lv1 0 0 40 40) [] 1600
theorem lv_ok:(doD lv0 lvE1).1=0∧(doD lv1 lvE2).1=0∧lv1.next=2∧(lv1.w=40∧lv1.h=40)∧lv2.w=40∧lv2.h=40:=by decide+kernel
theorem lv_k9:lvK9.length=9:=by decide+kernel
theorem lv_k8:(keptL lv1 lv2 lvE2 lvK9).length=8∧(readK (regP lv2 0 0 40 40) (keptL lv1 lv2 lvE2 lvK9) 1600).length=9:=by decide+kernel
theorem lv_px:lsPx 40 3 3 lv2.ks 0=255:=by decide+kernel
theorem rd_again{D:DocL}{ks:List Ky}{n:Int}{p:Pn}{m:Nat}(h: ∀j,j<m→keyP p j∈ks):LvS.rd ⟨D,ks,n⟩ p m=⟨D,ks,n⟩:=by
 unfold LvS.rd
 simp only
 rw[readK_all h,Int.sub_self,Int.add_zero]
theorem read_in{p:Pn}{ks:List Ky}{m:Nat}: ∀j,j<m→keyP p j∈readK p ks m:=fun j hj=>readK_mem.2 (.inr ⟨j,hj,rfl⟩)
theorem regOk_whole{D:DocL}(hi:Inv D){w h:Int}(hw:D.w=w)(hh:D.h=h):RegOk D 0 0 w h:=by
 obtain⟨s1,s2⟩:=hi.sides
 exact⟨by decide,by decide,by omega,by omega⟩
theorem lv_doE(ks:List Ky):LvS.doE ⟨lv1,ks,9⟩ lvE2=(0,⟨lv2,keptL lv1 lv2 lvE2 ks,9⟩):=by
 have h:=lv_ok.2.1
 unfold LvS.doE lv2
 simp only
 rw[if_neg (fun hh=>hh h)]
theorem c6(hR: ∀H',Ext H H'→R (.bool true) H'):CallsH Try.prog 6 #[] H R:=by
 obtain⟨x1,x2,n1,⟨w1,h1⟩,w2,h2⟩:=lv_ok
 have i0:Inv lv0:=new_inv (by decide)
 have i1:Inv lv1:=do_inv i0 x1
 have i2:Inv lv2:=do_inv i1 x2
 have p1:(regP lv1 0 0 40 40).n=1600:=rfl
 have p2:(regP lv2 0 0 40 40).n=1600:=rfl
 refine Try.s6 (_u:=()) ?_
 unfold Try.S6
 refine c8 (fun _ H2 he2=>⟨_,_,rfl,?_⟩) fun h=>absurd h (by decide)
 refine(St.of_ext he2).alc fun b5 H6 hs6=>⟨rfl,hs6.putAll 0 rfl rfl (docA_one 40 40 1 .nil) fun H7 hs7=>⟨_,rfl,rowIn_whole (hs7.block 0 rfl),?_⟩⟩
 refine do_st (D:=lv0) (e:=lvE1) (s:=es0) hs7 (DocR.new H7 40 40) i0 (by decide) (ed0_ok H7 ..) fun A1 H10 hd1 hs10=>⟨_,_,rfl,hd1.size,hs10.putAll 1 rfl hd1.size hd1.one fun H13 hs13=>⟨A1,hd1.size,rowIn_whole (hs13.block 1 rfl),?_⟩⟩
 refine c10 hs13 (hs13.doc 0 rfl) i1 fun lb H16 hs16=>⟨_,rfl,br_f rfl ?_⟩
 have ok0:LvOk ⟨lv1,[],0⟩:=LvOk.start i1 (by decide)
 refine c11 (hs16.take 1) ok0 (by decide) (by decide) (fun _ bo H19 hs19=>⟨_,_,_,_,rfl,?_⟩) fun hn=>absurd (regOk_whole i1 w1 h1) hn
 have e1:LvS.rd ⟨lv1,[],0⟩ (regP lv1 0 0 40 40) (regP lv1 0 0 40 40).n=⟨lv1,lvK9,9⟩:=by
  show(⟨lv1,lvK9,0+((lvK9.length:Int)-0)⟩:LvS)=_
  rw[lv_k9];rfl
 have hs19:St H H19 [.cell bo (ints (picL (regP lv1 0 0 40 40) lv1.ks)).toArray 3,lvRs lb ⟨lv1,lvK9,9⟩]:=by rw[←e1];exact hs19
 have ok1:LvOk ⟨lv1,lvK9,9⟩:=e1▸ok0.rd ((regOk_whole i1 w1 h1).pn i1) (Nat.le_refl _)
 refine c12 hs19.tail ⟨_,rfl,?_⟩
 refine c11 hs19.swap ok1 (by decide) (by decide) (fun _ bo2 H26 hs26=>⟨_,_,_,_,rfl,?_⟩) fun hn=>absurd (regOk_whole i1 w1 h1) hn
 have e2:LvS.rd ⟨lv1,lvK9,9⟩ (regP lv1 0 0 40 40) (regP lv1 0 0 40 40).n=⟨lv1,lvK9,9⟩:=rd_again read_in
 have hs26:St H H26 [.cell bo2 (ints (picL (regP lv1 0 0 40 40) lv1.ks)).toArray 3,lvRs lb ⟨lv1,lvK9,9⟩,.cell bo (ints (picL (regP lv1 0 0 40 40) lv1.ks)).toArray 3]:=by rw[←e2];exact hs26.perm (List.Perm.refl _)
 refine c12 hs26.tail ⟨_,rfl,?_⟩
 refine(hs26.tail.take 1).alc fun b32 H33 hs33=>?_
 have hs33:St H H33 [.cell b32 (ints [255]).toArray 3,lvRs lb ⟨lv1,lvK9,9⟩]:=hs33
 have hed:EdOk H33 lvE2 ⟨⟨some ⟨b32,0,none⟩,1,1⟩,.nil,.nil⟩:=⟨⟨hs33.isA 0 rfl rfl,IS2.nil _,⟨rfl,fun i v h=>by simp[lvE2,ints] at h⟩⟩,by decide,by decide⟩
 refine c14 (e:=lvE2) (es:=⟨⟨some ⟨b32,0,none⟩,1,1⟩,.nil,.nil⟩) hs33.swap ok1 (by show lv1.next≤_;rw[n1];decide) hed fun H35 hs35=>⟨_,rfl,?_⟩
 have e4:=lv_doE lvK9
 have ok2:=ok1.doE lvE2
 rw[e4] at hs35 ok2 ⊢
 generalize hks:keptL lv1 lv2 lvE2 lvK9=ks8 at hs35 ok2
 have hs35:St H H35 [lvRs lb ⟨lv2,ks8,9⟩,.cell b32 (ints [255]).toArray 3]:=hs35
 have ok2:LvOk ⟨lv2,ks8,9⟩:=ok2
 refine c11 hs35 ok2 (show(9:Int)≤1000000000000 by decide) (by decide) (fun _ bo3 H38 hs38=>⟨_,_,_,_,rfl,?_⟩) fun hn=>absurd (regOk_whole i2 w2 h2) hn
 obtain⟨k8,k9⟩:=lv_k8
 rw[hks] at k8 k9
 have e3:(LvS.rd ⟨lv2,ks8,9⟩ (regP lv2 0 0 40 40) (regP lv2 0 0 40 40).n).n=10:=by
  show 9+(((readK (regP lv2 0 0 40 40) (ks8) 1600).length:Int)-((ks8).length:Int))=10
  rw[k8,k9];rfl
 have hs38:St H H38 (.cell bo3 (ints (picL (regP lv2 0 0 40 40) lv2.ks)).toArray 3::lvRs lb (LvS.rd ⟨lv2,ks8,9⟩ (regP lv2 0 0 40 40) (regP lv2 0 0 40 40).n)::[.cell b32 (ints [255]).toArray 3]):=hs38
 refine br_t rfl (br_t rfl (br_t rfl (br_t rfl ?_)))
 refine c12 hs38.tail ⟨_,rfl,?_⟩
 rw[e3]
 have hpx:=reg_at (D:=lv2) (x:=0) (y:=0) (w:=40) (h:=40) (i:=3) (j:=3) (by decide) (by decide)
 refine br_t rfl (br_t rfl (rdG (hs38.isA 0 rfl (plL_len _ _)) (by decide) (by rw[p2];decide) ?_))
 rw[show(picL (regP lv2 0 0 40 40) lv2.ks).getD (Int.toNat 123) 0=lsPx lv2.w (0+(3:Nat)) (0+(3:Nat)) lv2.ks 0 from hpx,w2]
 rw[show lsPx 40 (0+((3:Nat):Int)) (0+((3:Nat):Int)) lv2.ks 0=255 from lv_px]
 exact hR H38 hs38.ext
end Go.Proofs
namespace Go.Proofs
open Go.Sh
variable {H0 H:Heap} {σ:List Rs} {R:Value→Heap→Prop}
theorem sub_len: ∀{A B:List Ky},A.Nodup→(∀x∈A,x∈B)→A.length≤B.length
 |[],_,_,_=>Nat.zero_le _
 |x::A,B,hn,h=>by
  rw[List.nodup_cons] at hn
  have h1:=sub_len (A:=A) (B:=B.erase x) hn.2 fun y hy=>(List.mem_erase_of_ne fun he=>hn.1 (by rw[←he];exact hy)).2 (h y (List.mem_cons_of_mem _ hy))
  have hx:=h x List.mem_cons_self
  rw[List.length_erase_of_mem hx] at h1
  have:=List.length_pos_of_mem hx
  rw[List.length_cons];omega
theorem doE_D(s:LvS)(e:Ed):(s.doE e).1=(doD s.D e).1∧(s.doE e).2.D=nxt s.D e∧(s.doE e).2.n=s.n∧(s.ks=[]→(s.doE e).2.ks=[]):=by
 unfold LvS.doE nxt
 by_cases h:(doD s.D e).1=0
 ·rw[if_neg (fun hh=>hh h),if_pos h]
  refine⟨h.symm,rfl,rfl,fun hk=>?_⟩
  have:=kept_sub (D:=s.D) (E:=(doD s.D e).2) (e:=e) (ks:=s.ks)
  rw[hk] at this
  show keptL s.D (doD s.D e).2 e s.ks=[]
  rw[hk]
  exact List.sublist_nil.1 this
 ·rw[if_pos h,if_neg h]
  exact⟨rfl,rfl,rfl,fun h=>h⟩
theorem doE_ks(s:LvS)(e:Ed):((doD s.D e).1≠0→(s.doE e).2.ks=s.ks)∧((doD s.D e).1=0→(s.doE e).2.ks=keptL s.D (doD s.D e).2 e s.ks):=by
 unfold LvS.doE
 exact⟨fun h=>by rw[if_pos h],fun h=>by rw[if_neg (fun hh=>hh h)]⟩
theorem readK_congr{p q:Pn}{ks:List Ky}(h: ∀i,keyP p i=keyP q i): ∀n,readK p ks n=readK q ks n
 |0=>rfl
 |n+1=>by rw[readK,readK,readK_congr h n,h n]
end Go.Proofs
namespace Go.Proofs
open Go.Sh
variable {H0 H:Heap} {σ:List Rs} {R:Value→Heap→Prop}
def zEd:Array Value:=#[.int .i64 0,.int .i64 0,.int .i64 0,.int .i64 0,.int .i64 0,.int .i64 0,.int .i64 0,.int .i64 0,.int .i64 0,.int .i64 0,.slice none 0 0,.slice none 0 0,.int .i64 0,.int .i64 0,.int .i64 0,.int .i64 0,.int .i64 0,.int .i64 0,.slice none 0 0]
theorem play_snoc(D:DocL)(es:List Ed)(e:Ed):playD D (es++[e])=nxt (playD D es) e:=by unfold playD;rw[List.foldl_append];rfl
theorem play_size{D:DocL}: ∀(es:List Ed),(playD D es).w=D.w∧(playD D es).h=D.h:=by
 intro es
 induction es generalizing D with
 |nil=>exact⟨rfl,rfl⟩
 |cons e es ih=>
  have h1:=nxt_size (D:=D) e
  have h2:=ih (D:=nxt D e)
  exact⟨h2.1.trans h1.1,h2.2.trans h1.2⟩
theorem play_loop{p:Option Addr}{l:Nat}{es:List (Ed×EdS)}(hes:EdsR H0 p l es)(hok: ∀x∈es,x.1.shape.length≤300∧x.1.params.length≤100)(hl:es.length≤1000){bd:Nat}{D:DocL}{J:Heap→Prop}{X:List Value→Heap→Prop}(hi:Inv D)(hnx:D.next≤1000)
 (hX: ∀(t:Int) (H1:Heap),br (decide (t<(l:Int))) (∃a20:Addr,p=some a20∧0≤t∧t<(l:Int)∧ ∃v21:Array Value,v21.size=19∧rowIn H1 (.add a20 (Int.toNat t*19)) v21∧alc H1 (.cells zEd 28) fun b22 H23=>v21.size=19∧stAt H23 ⟨b22,0,none⟩ v21.toList fun H24=> ∃v25:Array Value,v25.size=4∧rowIn H24 ⟨bd,0,none⟩ v25∧ ∃v26:Array Value,v26.size=19∧rowIn H24 ⟨b22,0,none⟩ v26∧CallsH Try.prog 9 #[.agg v25,.agg v26] H24 fun r27 H28=> ∃r29 r30,r27= .tuple #[.agg r29,.int .i64 r30]∧alc H28 (.cells #[.int .i64 0,.int .i64 0,.int .i64 0,.slice none 0 0] 33) fun b31 H32=>r29.size=4∧stAt H32 ⟨b31,0,none⟩ r29.toList fun H33=>br (r30==0)
  (∃v34:Array Value,v34.size=4∧rowIn H33 ⟨b31,0,none⟩ v34∧v34.size=4∧stAt H33 ⟨bd,0,none⟩ v34.toList fun H35=>X [.int .i64 (IntKind.wrap .i64 (t+1))] H35)
  (X [.int .i64 (IntKind.wrap .i64 (t+1))] H33)) (J H1)→X [.int .i64 t] H1)
 {A:Array Value}(hs:St H0 H (.cell bd A 33::docRs A D::σ))
 (hJ: ∀A H',(playD D (es.map Prod.fst)).next≤D.next+es.length→St H0 H' (.cell bd A 33::docRs A (playD D (es.map Prod.fst))::σ)→J H'):X [.int .i64 0] H:=by
 have hesl:=hes.len
 have go: ∀k,k≤es.length→ ∀(A:Array Value) (E:DocL) (H1:Heap),Inv E→E.next≤D.next+k→E=playD D ((es.take k).map Prod.fst)→St H0 H1 (.cell bd A 33::docRs A E::σ)→X [.int .i64 (k:Nat)] H1:=by
  refine upto fun k hk ih A E H1 hi hnx2 hE hs1=>hX _ _ (br_dec (fun hlt=>?_) fun hge=>?_)
  ·have hk':k<es.length:=by omega
   have hx:=List.getElem?_eq_getElem hk'
   generalize es[k]=x at hx
   obtain⟨e,s⟩:=x
   obtain⟨a,hp,hrow,hed⟩:=eds_ok (hes.ext hs1.ext) hok hx
   have hedH: ∀{H':Heap},Ext H0 H'→EdOk H' e s:=fun he=>let ⟨_,_,_,h3⟩:=eds_ok (hes.ext he) hok hx;h3
   have hE2:nxt E e=playD D ((es.take (k+1)).map Prod.fst):=by rw[take_succ hx,List.map_append,hE];exact(play_snoc _ _ _).symm
   have hn2:=nxt_next (D:=E) e
   have hA:=(hs1.doc 1 rfl).size
   refine⟨a,hp,by omega,hlt,_,rfl,hrow,hs1.alc fun b22 H23 hs23=>⟨rfl,hs23.putAll 0 rfl rfl (by simpa using edL_one e s) fun H24 hs24=>⟨A,hA,rowIn_whole (hs24.block 1 rfl),(edL e s).toArray,rfl,rowIn_whole (hs24.block 0 rfl),?_⟩⟩⟩
   refine do_st hs24 (hs24.doc 2 rfl) hi (by omega) (hedH hs24.ext) fun A' H28 hd' hs28=>⟨_,_,rfl,hs28.alc fun b31 H32 hs32=>⟨hd'.size,hs32.putAll 0 rfl hd'.size hd'.one fun H33 hs33=>?_⟩⟩
   rw[wrap_id (by omega) (by omega)]
   have h33:St H0 H33 (.cell b31 A' 33::docRs A' (doD E e).2:: .cell b22 (edL e s).toArray 28:: .cell bd A 33::docRs A E::σ):=hs33
   refine br_eq (fun h0=>?_) fun hne=>?_
   ·have hn:nxt E e=(doD E e).2:=by unfold nxt;rw[if_pos h0]
    refine⟨A',hd'.size,rowIn_whole (h33.block 0 rfl),hd'.size,h33.putAll 3 rfl (hd'.size.trans hA.symm) hd'.one fun H35 hs35=>ih hk' A' (nxt E e) H35 (nxt_inv hi e) (by omega) hE2 ?_⟩
    rw[←hn] at hs35
    have h35:St H0 H35 (.cell b31 A' 33::docRs A' (nxt E e):: .cell b22 (edL e s).toArray 28:: .cell bd A' 33::docRs A E::σ):=hs35
    exact(((h35.del 4).del 2).del 0).swap
   ·have hn:nxt E e=E:=by unfold nxt;rw[if_neg hne]
    rw[hn] at hE2
    exact ih hk' A E H33 hi (by omega) hE2 (h33.drop 3)
  ·obtain rfl:k=es.length:=by omega
   rw[List.take_of_length_le (Nat.le_refl _)] at hE
   subst hE
   exact hJ A H1 hnx2 hs1
 exact go 0 (Nat.zero_le _) A D H hi (by omega) rfl hs
def lvK4:List Ky:=readK (regP ⟨24,20,1,[]⟩ 0 0 24 20) [] 480
theorem lv_k4:lvK4.length=4:=by decide+kernel
theorem k4_of(D:DocL)(n:Int):LvS.rd ⟨D,[],n⟩ (regP D 0 0 24 20) (regP D 0 0 24 20).n=⟨D,lvK4,n+4⟩:=by
 have h:(regP D 0 0 24 20).n=480:=rfl
 have h2:readK (regP D 0 0 24 20) [] 480=lvK4:=readK_congr (fun i=>rfl) 480
 have h3:=lv_k4
 unfold LvS.rd
 simp only
 rw[h,h2,h3];rfl
theorem saves_new{D:DocL}{ks:List Ky}(hn:ks.Nodup): ∃N:List Ky,readK (regP D 0 0 24 20) ks (regP D 0 0 24 20).n=ks++N∧N.Nodup∧ ∀k∈N,k∉ks∧k∈lvK4:=by
 obtain⟨N,h1,h2,h3⟩:=readK_new (p:=regP D 0 0 24 20) hn (regP D 0 0 24 20).n
 refine⟨N,h1,h2,fun k hk=>?_⟩
 obtain⟨h4,j,hj,rfl⟩:=h3 k hk
 have h:(regP D 0 0 24 20).n=480:=rfl
 exact⟨h4,readK_mem.2 (.inr ⟨j,by omega,rfl⟩)⟩
theorem chgK_hidden{w h:Int}{e:Ed}{f:LayF}(hk:e.kind≠6):(chgK w h e f).2.hidden=f.hidden:=by
 unfold chgK
 by_cases k4:e.kind=4
 ·rw[if_pos k4];unfold paintF;repeat' split
  all_goals rfl
 rw[if_neg k4]
 by_cases k5:e.kind=5
 ·rw[if_pos k5];unfold lookF;repeat' split
  all_goals rfl
 rw[if_neg k5,if_neg hk]
 by_cases k7:e.kind=7
 ·rw[if_pos k7];unfold maskF;repeat' split
  all_goals rfl
 rw[if_neg k7]
 by_cases k8:e.kind=8
 ·rw[if_pos k8];unfold placeF;repeat' split
  all_goals rfl
 rw[if_neg k8];unfold adjustF;repeat' split
 all_goals rfl
theorem hidden_kept{D:DocL}(hi:Inv D){e:Ed}{l:Lay}(h0:(doD D e).1=0)(hl:findL D.ks e.id=some l)(hh:l.f.hidden=true)(hk:e.kind≠6∧4≤e.kind)(ks:List Ky):keptL D (doD D e).2 e ks=ks:=by
 obtain⟨hk9,_,_⟩:=do_kinds h0
 have ht:tgtL (doD D e).2 e=e.id:=by unfold tgtL;rw[if_neg (by omega)]
 have hids:=(do_inv hi h0).ids'
 unfold keptL
 rw[ht]
 rw[if_pos]
 rcases fl_cases e.id D.ks with hn|⟨fr,u,ks,hf,hid,hp⟩
 ·unfold findL at hl;rw[hn] at hl;cases hl
 have hfh:fr.f.hidden=true:=by unfold findL at hl;rw[hf] at hl;cases hl;exact hh
 have hc:=do_chg (D:=D) (e:=e) (by omega) hf
 by_cases c:(chgK D.w D.h e fr.f).1≠0
 ·rw[if_pos c] at hc;rw[hc] at h0;exact absurd h0 c
 rw[if_neg c] at hc
 rw[hc] at hids ⊢
 simp only at hids ⊢
 have hf2:=fl_at (fr:=⟨_,(chgK D.w D.h e fr.f).2,_⟩) hids
 simp only at hf2
 rw[chgK_id,hid] at hf2
 unfold quietB
 rw[(found_some hf).2,(found_some hf2).2]
 unfold hidU
 simp only
 rw[hfh,chgK_hidden hk.1,hfh]
 simp
theorem saves_law{p:Option Addr}{l c:Nat}{es:List (Ed×EdS)}{e:Ed}{s:EdS}(hes:EdsR H p l es)(hrd:rdEd H e s)(hR: ∀H',Ext H H'→R (.bool true) H'):CallsH Try.prog 3 #[.slice p l c,.agg (edL e s).toArray] H R:=by
 refine Try.s3 ?_
 unfold Try.S3
 refine(St.nil H).alc fun b3 H4 hs4=>c6 fun H6 he6=>⟨_,rfl,br_f rfl ?_⟩
 have hs6:=hs4.step he6
 intro J8 hJ8
 refine c7 (hes.ext hs6.ext) (by decide) fun H95 he95=>⟨_,rfl,br_not (fun _=>hR _ (hs6.step he95).ext) fun hsm=>?_⟩
 have hs95:=hs6.step he95
 refine⟨(edL e s).toArray,rfl,rowIn_whole (hs95.block 0 rfl),rfl,by decide,hs95.alc fun b98 H99 hs99=>?_⟩
 have hs99:St H H99 [.cell b98 (edL e s).toArray 28,.cell b3 (edL e s).toArray 28]:=hs99
 refine c7 (es:=[(e,s)]) (one_eds (hs99.block 0 rfl) (hrd.ext hs99.ext)) (by decide) fun H101 he101=>⟨_,rfl,br_not (fun _=>hR _ (hs99.step he101).ext) fun hsm2=>hJ8 _ ?_⟩
 have hs101:=hs99.step he101
 obtain⟨hmost,hok⟩:=smallB_ok hsm
 obtain⟨_,hok2⟩:=smallB_ok hsm2
 have hok2:=hok2 (e,s) List.mem_cons_self
 simp only at hok2
 have hedH: ∀{H':Heap},Ext H H'→EdOk H' e s:=fun he=>⟨hrd.ext he,by omega,by omega⟩
 have hinv:Inv ⟨24,20,1,[]⟩:=new_inv (by decide)
 refine c8 (fun _ H11 he11=>⟨_,_,rfl,?_⟩) fun h=>absurd h (by decide)
 refine(hs101.step he11).alc fun b14 H15 hs15=>⟨rfl,hs15.putAll 0 rfl rfl (docA_one 24 20 1 .nil) fun H16 hs16=>?_⟩
 intro X17 hX17
 refine play_loop (D:=⟨24,20,1,[]⟩) hes hok (by omega) hinv (by decide) (fun t H1 hx=>hX17 t H1 hx) (hs16.docNil 24 20 1).swap fun A H19 hnx hs19=>?_
 have hD:=playD_inv hinv (es.map Prod.fst)
 have hsz:=play_size (D:=⟨24,20,1,[]⟩) (es.map Prod.fst)
 have hnx:(playD ⟨24,20,1,[]⟩ (es.map Prod.fst)).next≤1+es.length:=hnx
 have hesl:(es.length:Int)≤12:=hmost
 generalize playD ⟨24,20,1,[]⟩ (es.map Prod.fst)=D at hs19 hD hsz hnx
 have hwD:D.w=24:=hsz.1
 have hhD:D.h=20:=hsz.2
 have hA:=(hs19.doc 1 rfl).size
 refine⟨A,hA,rowIn_whole (hs19.block 0 rfl),c10 hs19 (hs19.doc 1 rfl) hD fun lb H38 hs38=>⟨_,rfl,br_f rfl ?_⟩⟩
 have ok0:LvOk ⟨D,[],0⟩:=LvOk.start hD (by decide)
 refine c11 hs38 ok0 (show(0:Int)≤_ by decide) (by decide) (fun _ bo H41 hs41=>⟨_,_,_,_,rfl,?_⟩) fun hn=>absurd (regOk_whole hD hwD hhD) hn
 have e1:=k4_of D 0
 rw[Int.zero_add] at e1
 have ok1:LvOk ⟨D,lvK4,4⟩:=e1▸ok0.rd ((regOk_whole hD hwD hhD).pn hD) (Nat.le_refl _)
 have hs41:St H H41 (.cell bo (ints (picL (regP D 0 0 24 20) D.ks)).toArray 3::lvRs lb ⟨D,lvK4,4⟩:: .cell b14 A 33::docRs A D:: .cell b98 (edL e s).toArray 28:: .cell b3 (edL e s).toArray 28::[]):=by rw[←e1];exact hs41
 refine c12 hs41.tail ⟨_,rfl,br_ne (fun h=>absurd rfl h) fun _=>⟨A,hA,rowIn_whole (hs41.block 2 rfl),e.id,hs41.get 5 rfl (j:=1) rfl,?_⟩⟩
 refine find_g hs41 (hs41.doc 3 rfl) hD fun B H50 hB hs50 _=>⟨_,_,rfl,hs50.alc fun b53 H54 hs54=>⟨hB.size,hs54.putAll 0 rfl hB.size hB.one fun H55 hs55=>?_⟩⟩
 have hs55:St H H55 (.cell b53 B 45:: .cell bo (ints (picL (regP D 0 0 24 20) D.ks)).toArray 3::lvRs lb ⟨D,lvK4,4⟩:: .cell b14 A 33::docRs A D:: .cell b98 (edL e s).toArray 28:: .cell b3 (edL e s).toArray 28::[]):=hs55
 intro J56 hJ56
 have main: ∀hid:Bool,(hid=true→ ∃l,findL D.ks e.id=some l∧l.f.hidden=true∧e.kind≠6∧4≤e.kind)→J56 [.bool hid] H55:=by
  intro hid hhid
  refine hJ56 _ _ ⟨(edL e s).toArray,rfl,rowIn_whole (hs55.block 6 rfl),c14 (hs55.front 2 rfl) ok1 (by show D.next≤_;omega) (hedH hs55.ext) fun H61 hs61=>⟨_,rfl,?_⟩⟩
  obtain⟨d1,d2,d3,_⟩:=doE_D ⟨D,lvK4,4⟩ e
  have ok2:=ok1.doE e
  have hd2:=nxt_size (D:=D) e
  have hks:((doD D e).1≠0→(LvS.doE ⟨D,lvK4,4⟩ e).2.ks=lvK4)∧((doD D e).1=0→(LvS.doE ⟨D,lvK4,4⟩ e).2.ks=keptL D (doD D e).2 e lvK4):=doE_ks ⟨D,lvK4,4⟩ e
  rw[d1]
  generalize (LvS.doE ⟨D,lvK4,4⟩ e).2=s2 at hs61 d2 d3 ok2 hks
  have hw2:s2.D.w=24:=by rw[d2];exact hd2.1.trans hwD
  have hh2:s2.D.h=20:=by rw[d2];exact hd2.2.trans hhD
  have hn2:s2.n=4:=d3
  refine c11 hs61 ok2 (by omega) (by decide) (fun _ bo2 H64 hs64=>⟨_,_,_,_,rfl,?_⟩) fun hn=>absurd (regOk_whole ok2.inv hw2 hh2) hn
  obtain⟨N,hN,hNn,hNm⟩:=saves_new (D:=s2.D) ok2.nodup
  have hcnt:(s2.rd (regP s2.D 0 0 24 20) (regP s2.D 0 0 24 20).n).n=4+(N.length:Int):=by rw[rd_n,hN,List.length_append];omega
  generalize s2.rd (regP s2.D 0 0 24 20) (regP s2.D 0 0 24 20).n=s3 at hs64 hcnt
  have h64:St H H64 (.cell bo2 (ints (picL (regP s2.D 0 0 24 20) s2.D.ks)).toArray 3::lvRs lb s3:: .cell b53 B 45:: .cell bo (ints (picL (regP D 0 0 24 20) D.ks)).toArray 3:: .cell b14 A 33::docRs A D:: .cell b98 (edL e s).toArray 28:: .cell b3 (edL e s).toArray 28::[]):=hs64
  refine c12 h64.tail ⟨_,rfl,?_⟩
  have h4:N.length≤4:=by have:=sub_len hNn (B:=lvK4) fun x hx=>(hNm x hx).2;rw[lv_k4] at this;exact this
  intro J70 hJ70
  rw[hcnt,wrap_id (n:=4+(N.length:Int)-4) (by omega) (by omega),show 4+(N.length:Int)-4=N.length from by omega] at*
  have none':s2.ks=lvK4→R (.bool ((N.length:Int)==0)) H64:=fun hk=>by
   have:N=[]:=List.eq_nil_iff_forall_not_mem.2 fun x hx=>(hNm x hx).1 (hk▸(hNm x hx).2)
   rw[this];exact hR H64 h64.ext
  have le4:J70 [] H64:=hJ70 H64 (by rw[decide_eq_true (by omega)];exact hR H64 h64.ext)
  refine br_ne (fun hne=>none' (hks.1 hne)) fun h0=>br_i (fun hh=>?_) fun hh=>⟨e.kind,h64.get 7 rfl (j:=0) rfl,br_eq (fun hk=>?_) fun hk=>le4⟩
  ·obtain⟨l,f1,f2,f3⟩:=hhid hh
   exact none' ((hks.2 h0).trans (hidden_kept hD h0 f1 f2 f3 _))
  obtain⟨fr,u,kk,hp,hc,hdo,hf1,hf2⟩:=paint_do hD hk h0
  obtain⟨⟨⟨q1,q2⟩,⟨q3,q4⟩,⟨q5,q6⟩,q7,q8⟩,_,hF⟩:=paint_rng hc
  rw[hf1,Option.getD_some] at hB
  obtain⟨fP,fM,fA,fK,rfl⟩:=lay_cells hB
  have hgd:=hD.good
  rw[←hp] at hgd
  refine⟨_,rfl,cellMap (h64.block 2 rfl),c15 fun H75 he75=>⟨_,rfl,.inl he75,rfl,fr.f.map.l,oneM.l,rfl,rfl,rfl,rfl,br_dec (fun hone=>?_) fun _=>?_⟩⟩
  ·have hone:=M6_l.1 hone
   have h75:=h64.step he75
   refine⟨e.x,h75.get 7 rfl (j:=6) rfl,e.y,h75.get 7 rfl (j:=7) rfl,e.x,h75.get 7 rfl (j:=6) rfl,e.w,h75.get 7 rfl (j:=8) rfl,fr.f.w,h75.get 2 rfl (j:=5) rfl,e.y,h75.get 7 rfl (j:=7) rfl,e.h,h75.get 7 rfl (j:=9) rfl,fr.f.h,h75.get 2 rfl (j:=6) rfl,?_⟩
   have hfw:(0≤fr.f.w∧fr.f.w≤32768)∧0≤fr.f.h∧fr.f.h≤32768:=by
    have hg:=(g_node hgd).2.2.1.1
    have hpo:=ras_pic hg (by assumption)
    exact⟨hpo.hw,hpo.hh⟩
   rw[wrap_id (n:=e.x+e.w) (by omega) (by omega),wrap_id (n:=e.y+e.h) (by omega) (by omega)]
   rw[wrap_id (n:=min (min (e.x+e.w) fr.f.w) 24-max 0 e.x) (by omega) (by omega),wrap_id (n:=min (min (e.y+e.h) fr.f.h) 20-max 0 e.y) (by omega) (by omega)]
   refine c16 (by omega) (by omega) (by omega) (by omega) ⟨_,rfl,?_⟩
   have hle:(N.length:Int)≤tilesN (max 0 e.x) (max 0 e.y) (min (min (e.x+e.w) fr.f.w) 24-max 0 e.x) (min (min (e.y+e.h) fr.f.h) 20-max 0 e.y):=by
    refine tilesN_box hNn fun k hkN=>?_
    obtain⟨k1,k2⟩:=hNm k hkN
    rw[hks.2 h0] at k1
    have ht:tgtL (doD D e).2 e=e.id:=by unfold tgtL;rw[if_neg (by omega)]
    unfold keptL at k1
    rw[ht,hf2] at k1
    by_cases hq:quietB D (doD D e).2 e.id=true
    ·rw[if_pos hq] at k1;exact absurd k2 k1
    rw[if_neg hq] at k1
    have hg:(paintF e fr.f).2.w=fr.f.w∧(paintF e fr.f).2.h=fr.f.h∧(paintF e fr.f).2.map=fr.f.map:=by rw[hF];exact⟨rfl,rfl,rfl⟩
    obtain⟨g1,g2,g3⟩:=hg
    dsimp only at k1
    rw[if_pos (show e.kind=4∧(Lay.mk (paintF e fr.f).2 kk).f.map=oneM from⟨hk,g3.trans hone⟩),List.mem_filter,not_and] at k1
    have k3:=k1 k2
    rw[Bool.not_eq_true',Bool.not_eq_false] at k3
    have k3:boxE e (paintF e fr.f).2 (doD D e).2 k=true:=k3
    unfold boxE boxB at k3
    have k3:=of_decide_eq_true k3
    have hw3:(doD D e).2.w=24:=(do_next h0).2.2.1.trans hwD
    have hh3:(doD D e).2.h=20:=(do_next h0).2.2.2.trans hhD
    rw[g1,g2,hw3,hh3] at k3
    omega
   rw[decide_eq_true hle]
   exact hR H75 h75.ext
  ·exact hJ70 H75 (by rw[decide_eq_true (by omega)];exact hR H75 (h64.step he75).ext)
 cases hf:findL D.ks e.id with
 |none=>exact br_f rfl (main false fun h=>by cases h)
 |some l=>
  rw[hf,Option.getD_some] at hB
  refine br_t rfl ⟨l.f.hidden,hs55.get 0 rfl (j:=2) (lay_hid hB),br_i (fun hh=>⟨e.kind,hs55.get 6 rfl (j:=0) rfl,br_ne (fun h6=>⟨e.kind,hs55.get 6 rfl (j:=0) rfl,main _ fun hk=>⟨l,hf,hh,h6,of_decide_eq_true hk⟩⟩) fun _=>main false fun h=>by cases h⟩) fun _=>main false fun h=>by cases h⟩
end Go.Proofs
namespace Go.Proofs
open Go.Sh Go.RowKit Go.ChangeShapes Go.WideShapes Go.ChangeAt
end Go.Proofs
namespace Go.Proofs
open Go.Sh Go.RowKit Go.ChangeShapes Go.WideShapes Go.ChangeAt Go.Deep
section
variable {H:Type} {enc:TypeId×Value→H} {W:World}
abbrev TrP(enc:TypeId×Value→H)(W:World)(fuel:Nat)(t:TypeId)(cs:List Value)(x:DataW H×List MemPlace):Prop:=DataW.trod enc Try.prog W 0 (fun _=>true) true fuel t cs=some x
theorem intsAt{fuel:Nat}{a0:Option Addr}{len cap:Nat}{x:DataW H×List MemPlace}(hf:TrP enc W fuel 23 [.slice a0 len cap] x): ∃ls,len≤cap∧IS W.heap a0 len (ints ls):=by
 rcases open_ints Try.underlying23 Try.underlying3 (by kernel_rfl) hf with ⟨hcs,_⟩|⟨a,len2,cap2,zs,hcs,_,hl,_,hz,_,hc,hw⟩
 ·simp at hcs
  obtain⟨rfl,rfl,rfl⟩:=hcs
  exact⟨[],Nat.le_refl _,⟨rfl,fun i v hv=>by simp[ints] at hv⟩⟩
 ·simp at hcs
  obtain⟨rfl,rfl,rfl⟩:=hcs
  have hzl:len≤zs.length:=by rw[hz];simp;omega
  refine⟨zs.take len,hl,⟨by rw[ints_len];simp;omega,fun i v hv=>⟨a,rfl,?_⟩⟩⟩
  have hi:i<len:=by have:=(List.getElem?_eq_some_iff.1 hv).1;rw[ints_len] at this;simp at this;omega
  have:=hc i (by omega)
  rw[cell_eq] at this
  rw[this]
  have hg:(zs.take len)[i]?=some (zs.getD i 0):=by
   rw[List.getElem?_take_of_lt hi,List.getD_eq_getElem?_getD,List.getElem?_eq_getElem (by omega)];rfl
  rw[ints_get hg] at hv
  exact hv
theorem fieldAt{t:TypeId}{fs:Array Field}{fuel:Nat}{cs:List Value}{x:DataW H×List MemPlace}(hs:Try.prog.underlying t=some (.struct fs))(h:TrP enc W fuel t cs x)(i:Nat){f:Field}{o ty c:Nat}(hf:fs[i]?=some f)(ho:f.offset=o)(ht:f.type=ty)(hc:Try.prog.cellsOf ty=c):
 ∃n y,n<fuel∧TrP enc W n ty ((cs.drop o).take c) y:=by
 obtain⟨xs,n,hfu,_,hl,hlen,hg⟩:=DataW.trod_struct hs h
 have:=hg i f hf
 have hi:=(Array.getElem?_eq_some_iff.1 hf).1
 rw[List.getElem?_eq_getElem (by omega),ho,ht,hc] at this
 exact⟨n,_,by omega,this⟩
theorem one_get{cs:List Value}{o:Nat}{v:Value}(h:(cs.drop o).take 1=[v]):cs[o]?=some v:=by
 have h4:((cs.drop o).take 1)[0]?=some v:=by rw[h];rfl
 rw[List.getElem?_take_of_lt (by omega),List.getElem?_drop] at h4
 simpa using h4
theorem intF{n:Nat}{cs:List Value}{o:Nat}{y:DataW H×List MemPlace}(h:TrP enc W n 3 ((cs.drop o).take 1) y): ∃m:Int,cs[o]?=some (.int .i64 m):=by
 obtain⟨m,hm,_,_⟩:=DataW.trod_int Try.underlying3 h
 exact⟨m,one_get hm⟩
theorem slF{t e n:Nat}{cs:List Value}{o:Nat}{y:DataW H×List MemPlace}(ht:Try.prog.underlying t=some (.slice e))(h:TrP enc W n t ((cs.drop o).take 1) y): ∃s:Sl3,cs[o]?=some s.v∧TrP enc W n t [s.v] y:=by
 rcases DataW.trod_slice ht h with ⟨h0,_⟩|⟨a,len,cap,elems,rest,m,_,h0,_⟩
 ·rw[h0] at h;exact⟨.nil,one_get h0,h⟩
 ·rw[h0] at h;exact⟨⟨some a,len,cap⟩,one_get h0,h⟩
theorem list19{α:Type}{l:List α}(h:l.length=19): ∃a b c d e f g i j k m n o p q r s t u,l=[a,b,c,d,e,f,g,i,j,k,m,n,o,p,q,r,s,t,u]:=by
 match l,h with
 |[a,b,c,d,e,f,g,i,j,k,m,n,o,p,q,r,s,t,u],_=>exact⟨a,b,c,d,e,f,g,i,j,k,m,n,o,p,q,r,s,t,u,rfl⟩
theorem sixF{t n:Nat}{cs:List Value}{o:Nat}{y:DataW H×List MemPlace}(ht:Try.prog.underlying t=some (.array 6 3))(h:TrP enc W n t ((cs.drop o).take 6) y):
 ∃m:M6,cs[o]?=some (.int .i64 m.a)∧cs[o+1]?=some (.int .i64 m.b)∧cs[o+2]?=some (.int .i64 m.c)∧cs[o+3]?=some (.int .i64 m.d)∧cs[o+4]?=some (.int .i64 m.e)∧cs[o+5]?=some (.int .i64 m.f):=by
 obtain⟨xs,m,_,_,hl,hlen,hg⟩:=DataW.trod_array ht h
 have hc:Try.prog.cellsOf 3=1:=by kernel_rfl
 have each: ∀i,i<6→ ∃z:Int,cs[o+i]?=some (.int .i64 z):=fun i hi=>by
  have:=hg i hi
  rw[hc,Nat.mul_one,List.getElem?_eq_getElem (by omega)] at this
  obtain⟨z,hz⟩:=intF this
  rw[List.getElem?_take_of_lt hi,List.getElem?_drop] at hz
  exact⟨z,hz⟩
 obtain⟨a,ha⟩:=each 0 (by omega)
 obtain⟨b,hb⟩:=each 1 (by omega)
 obtain⟨c,hc⟩:=each 2 (by omega)
 obtain⟨d,hd⟩:=each 3 (by omega)
 obtain⟨e,he⟩:=each 4 (by omega)
 obtain⟨f,hf⟩:=each 5 (by omega)
 exact⟨⟨a,b,c,d,e,f⟩,ha,hb,hc,hd,he,hf⟩
theorem ptAt{n:Nat}{cs:List Value}{y:DataW H×List MemPlace}(h:TrP enc W n 128 cs y): ∃p:Pt,cs=[.int .i64 p.1,.int .i64 p.2]:=by
 obtain⟨_,_,_,h0⟩:=fieldAt (o:=0) (ty:=3) (c:=1) Try.underlying128 h 0 rfl rfl rfl (by kernel_rfl)
 obtain⟨_,_,_,h1⟩:=fieldAt (o:=1) (ty:=3) (c:=1) Try.underlying128 h 1 rfl rfl rfl (by kernel_rfl)
 obtain⟨x,hx⟩:=intF h0
 obtain⟨y,hy⟩:=intF h1
 obtain⟨xs,m,_,_,hl,_⟩:=DataW.trod_struct Try.underlying128 h
 have hl2:cs.length=2:=by rw[hl];kernel_rfl
 match cs,hl2 with
 |[a,b],_=>
  simp only[List.getElem?_cons_zero,List.getElem?_cons_succ,Option.some.injEq] at hx hy
  subst hx;subst hy
  exact⟨(x,y),rfl⟩
theorem choose_list{α:Type}{P:Nat→α→Prop}{n:Nat}[Inhabited α](h: ∀i,i<n→ ∃x,P i x): ∃l:List α,l.length=n∧ ∀i x,l[i]?=some x→P i x:=by
 obtain⟨f,hf⟩: ∃f:Nat→α,∀i,i<n→P i (f i):=by
  have: ∀i,∃x,i<n→P i x:=fun i=>by
   by_cases hi:i<n
   ·obtain⟨x,hx⟩:=h i hi;exact⟨x,fun _=>hx⟩
   ·exact⟨default,fun h=>absurd h hi⟩
  exact Classical.axiomOfChoice this
 refine⟨(List.range n).map f,by simp,fun i x hx=>?_⟩
 have hi:i<n:=by have:=(List.getElem?_eq_some_iff.1 hx).1;simpa using this
 simp[hi] at hx
 subst hx
 exact hf i hi
theorem ptsAt{fuel:Nat}{s:Sl3}{x:DataW H×List MemPlace}(hf:TrP enc W fuel 24 [s.v] x): ∃pts:List Pt,s.l≤s.c∧IS2 W.heap s.p s.l pts:=by
 rcases open_slice Try.underlying24 hf with ⟨hcs,_⟩|⟨a,len',cap',m,n,D,Pl,hcs,_,hl,hm,hmm,_,hx⟩
 ·obtain⟨p,l,c⟩:=s
  simp only[Sl3.v,List.cons.injEq,Value.slice.injEq,and_true] at hcs
  obtain⟨rfl,rfl,rfl⟩:=hcs
  exact⟨[],Nat.le_refl _,IS2.nil _⟩
 ·obtain⟨p,l,c⟩:=s
  simp only[Sl3.v,List.cons.injEq,Value.slice.injEq,and_true] at hcs
  obtain⟨rfl,rfl,rfl⟩:=hcs
  have hml:l≤m:=by rw[hmm];simp;omega
  obtain⟨pts,hlen,hpts⟩:=choose_list (P:=fun i (p:Pt)=>rowIn W.heap (a.add (i*2)) #[.int .i64 p.1,.int .i64 p.2]) (n:=l) fun i hi=>by
   obtain⟨cs,h1,h2⟩:=hx i (by omega)
   rw[show Try.prog.cellsOf 128=2 from by kernel_rfl] at h1
   obtain⟨p,rfl⟩:=ptAt h2
   obtain⟨_,_,hc⟩:=World.cells?_some h1
   refine⟨p,fun j v hv=>?_⟩
   have hj:j<2:=(Array.getElem?_eq_some_iff.1 hv).1
   have:=hc j hj
   rw[cell_eq] at this
   rw[this]
   simpa using hv
  exact⟨pts,hl,hlen,fun i x y hi=>⟨a,rfl,hpts i (x,y) hi⟩⟩
theorem edAt{fuel:Nat}{cs:List Value}{x:DataW H×List MemPlace}(h:TrP enc W fuel 28 cs x): ∃e s,cs=edL e s∧rdEd W.heap e s:=by
 have hu:=Try.underlying28
 obtain⟨_,_,_,h0⟩:=fieldAt (o:=0) (ty:=3) (c:=1) hu h 0 rfl rfl rfl (by kernel_rfl)
 obtain⟨_,_,_,h1⟩:=fieldAt (o:=1) (ty:=3) (c:=1) hu h 1 rfl rfl rfl (by kernel_rfl)
 obtain⟨_,_,_,h2⟩:=fieldAt (o:=2) (ty:=3) (c:=1) hu h 2 rfl rfl rfl (by kernel_rfl)
 obtain⟨_,_,_,h3⟩:=fieldAt (o:=3) (ty:=3) (c:=1) hu h 3 rfl rfl rfl (by kernel_rfl)
 obtain⟨_,_,_,h4⟩:=fieldAt (o:=4) (ty:=3) (c:=1) hu h 4 rfl rfl rfl (by kernel_rfl)
 obtain⟨_,_,_,h5⟩:=fieldAt (o:=5) (ty:=3) (c:=1) hu h 5 rfl rfl rfl (by kernel_rfl)
 obtain⟨_,_,_,h6⟩:=fieldAt (o:=6) (ty:=3) (c:=1) hu h 6 rfl rfl rfl (by kernel_rfl)
 obtain⟨_,_,_,h7⟩:=fieldAt (o:=7) (ty:=3) (c:=1) hu h 7 rfl rfl rfl (by kernel_rfl)
 obtain⟨_,_,_,h8⟩:=fieldAt (o:=8) (ty:=3) (c:=1) hu h 8 rfl rfl rfl (by kernel_rfl)
 obtain⟨_,_,_,h9⟩:=fieldAt (o:=9) (ty:=3) (c:=1) hu h 9 rfl rfl rfl (by kernel_rfl)
 obtain⟨_,_,_,h10⟩:=fieldAt (o:=10) (ty:=23) (c:=1) hu h 10 rfl rfl rfl (by kernel_rfl)
 obtain⟨_,_,_,h11⟩:=fieldAt (o:=11) (ty:=24) (c:=1) hu h 11 rfl rfl rfl (by kernel_rfl)
 obtain⟨_,_,_,h12⟩:=fieldAt (o:=12) (ty:=26) (c:=6) hu h 12 rfl rfl rfl (by kernel_rfl)
 obtain⟨_,_,_,h13⟩:=fieldAt (o:=18) (ty:=23) (c:=1) hu h 13 rfl rfl rfl (by kernel_rfl)
 obtain⟨v0,g0⟩:=intF h0
 obtain⟨v1,g1⟩:=intF h1
 obtain⟨v2,g2⟩:=intF h2
 obtain⟨v3,g3⟩:=intF h3
 obtain⟨v4,g4⟩:=intF h4
 obtain⟨v5,g5⟩:=intF h5
 obtain⟨v6,g6⟩:=intF h6
 obtain⟨v7,g7⟩:=intF h7
 obtain⟨v8,g8⟩:=intF h8
 obtain⟨v9,g9⟩:=intF h9
 obtain⟨P,g10,t10⟩:=slF Try.underlying23 h10
 obtain⟨S,g11,t11⟩:=slF Try.underlying24 h11
 obtain⟨m,ga,gb,gc,gd,ge,gf⟩:=sixF Try.underlying26 h12
 obtain⟨A,g18,t18⟩:=slF Try.underlying23 h13
 obtain⟨ps,_,hps⟩:=intsAt t10
 obtain⟨pts,_,hpts⟩:=ptsAt t11
 obtain⟨qs,_,hqs⟩:=intsAt t18
 obtain⟨xs,k,_,_,hl,_⟩:=DataW.trod_struct hu h
 have hl2:cs.length=19:=by rw[hl];kernel_rfl
 refine⟨⟨v0,v1,v2,v3,v4,v5,v6,v7,v8,v9,ps,pts,m,qs⟩,⟨P,S,A⟩,?_,⟨hps,hpts,hqs⟩⟩
 obtain⟨a,b,c,d,e,f,g,i,j,k,m',n,o,p,q,r,s,t,u,rfl⟩:=list19 hl2
 simp only[List.getElem?_cons_zero,List.getElem?_cons_succ,Option.some.injEq] at g0 g1 g2 g3 g4 g5 g6 g7 g8 g9 g10 g11 ga gb gc gd ge gf g18
 subst g0 g1 g2 g3 g4 g5 g6 g7 g8 g9 g10 g11 ga gb gc gd ge gf g18
 rfl
instance:Inhabited (Ed×EdS):=⟨⟨0,0,0,0,0,0,0,0,0,0,[],[],⟨0,0,0,0,0,0⟩,[]⟩,⟨.nil,.nil,.nil⟩⟩
theorem editsIn_of{v:Value}{d:DataW H}{ps:List MemPlace}{base:Nat}(hv:Value.okWide Try.prog W .any base 22 v)(h:DataW.Trod enc Try.prog W 0 (fun _=>true) true 22 v d ps):
 ∃a l c es,v= .slice a l c∧l≤c∧EdsR W.heap a l es:=by
 obtain⟨a0,len,cap,rfl⟩:=okWide_slice Try.underlying22 hv
 obtain⟨fuel,hf⟩:=h
 rcases open_slice Try.underlying22 hf with ⟨hcs,_⟩|⟨a,len',cap',m,n,D,Pl,hcs,_,hl,hm,hmm,_,hx⟩
 ·simp only[Value.cells] at hcs
  simp at hcs
  obtain⟨rfl,rfl,rfl⟩:=hcs
  exact⟨none,0,0,[],rfl,Nat.le_refl _,rfl,fun i e s hx=>by simp at hx⟩
 ·simp only[Value.cells] at hcs
  simp at hcs
  obtain⟨rfl,rfl,rfl⟩:=hcs
  have hml:len≤m:=by rw[hmm];simp;omega
  obtain⟨es,hlen,hes⟩:=choose_list (P:=fun i (x:Ed×EdS)=>rowIn W.heap (a.add (i*19)) (edL x.1 x.2).toArray∧rdEd W.heap x.1 x.2) (n:=len) fun i hi=>by
   obtain⟨cs,h1,h2⟩:=hx i (by omega)
   rw[show Try.prog.cellsOf 28=19 from by kernel_rfl] at h1
   obtain⟨e,s,rfl,hrd⟩:=edAt h2
   obtain⟨_,_,hc⟩:=World.cells?_some h1
   refine⟨(e,s),fun j v hv=>?_,hrd⟩
   have hj:j<19:=(Array.getElem?_eq_some_iff.1 hv).1
   have:=hc j hj
   rw[cell_eq] at this
   rw[this]
   simpa using hv
  exact⟨some a,len,cap,es,rfl,hl,hlen,fun i e s hi=>let ⟨h1,h2⟩:=hes i (e,s) hi;⟨a,rfl,h1,h2⟩⟩
theorem editIn_of{v:Value}{d:DataW H}{ps:List MemPlace}{base:Nat}(hv:Value.okWide Try.prog W .any base 28 v)(h:DataW.Trod enc Try.prog W 0 (fun _=>true) true 28 v d ps):
 ∃e s,v= .agg (edL e s).toArray∧rdEd W.heap e s:=by
 obtain⟨cs,rfl,_⟩:=okWide_struct Try.underlying28 hv
 obtain⟨fuel,hf⟩:=h
 obtain⟨e,s,h1,h2⟩:=edAt hf
 have h1:cs.toList=edL e s:=h1
 exact⟨e,s,by rw[←h1],h2⟩
end
end Go.Proofs
