/-
  OWN WORK. Several texts in one: LvF, LvG, OpBytes, OpTree.
-/
import Derived.Test.YtnbelfjfealnhaaMgLiveOrderG
import Derived.Test.YtnbelfjfealnhaaMgLiveOrderE
import Derived.Test.YtnbelfjfealnhaaMgLiveOrderF
import Derived.Test.YtnbelfjfealnhaaRows
import Derived.Test.YtnbelfjfealnhaaMgLiveOrderB
import Derived.ChangeSlices
import Derived.Deep.Slices

set_option linter.unusedVariables false
set_option linter.unusedSimpArgs false
set_option maxRecDepth 10000
namespace Go.Proofs
open Go.Sh
variable {H0 H:Heap} {σ:List Rs} {R:Value→Heap→Prop}
theorem c19{p q:Option Addr}{l m c d:Nat}{xs ys:List Int}(hx:IS H p l (ints xs))(hy:IS H q m (ints ys))(hl:l≤1000000000000)(hR:R (.bool (decide (xs=ys))) H):CallsH Try.prog 19 #[.slice p l c,.slice q m d] H R:=by
 have hxl:=hx.length
 have hyl:=hy.length
 refine Try.s19 ?_
 unfold Try.S19
 refine br_ne (fun hne=>?_) fun heq=>?_
 ·rw[decide_eq_false (fun h=>hne (by rw[←hxl,←hyl,h]))] at hR;exact hR
 intro X3 hX3
 have go: ∀k,k≤xs.length→xs.take k=ys.take k→X3 [.int .i64 (k:Nat)] H:=by
  refine upto fun k hk ih he=>hX3 _ _ (br_dec (fun hlt=>?_) fun hge=>?_)
  ·have hk':k<xs.length:=by omega
   refine rdG (i:=(k:Int)) hx (by omega) hlt (rdG (i:=(k:Int)) hy (by omega) (by omega) (br_ne (fun hne=>?_) fun heq2=>?_))
   ·rw[decide_eq_false (fun h=>hne (by rw[h]))] at hR;exact hR
   ·rw[wrap_id (by omega) (by omega)]
    rw[Int.toNat_natCast] at heq2
    refine ih hk' ?_
    rw[List.take_add_one,List.take_add_one,he,getD_some xs 0 hk',getD_some ys 0 (by omega),heq2]
  ·obtain rfl:k=xs.length:=by omega
   rw[List.take_of_length_le (Nat.le_refl _),List.take_of_length_le (by omega)] at he
   rw[decide_eq_true he] at hR;exact hR
 exact go 0 (Nat.zero_le _) rfl
def lvE1:Ed:=ed0 1 0 0 (-1) 0 0 0 0 40 40
def lvE2:Ed:=⟨4,1,0,0,0,0,3,3,1,1,[255],[],zeroM,[]⟩
def lv0:DocL:=⟨40,40,1,[]⟩
def lv1:DocL:=(doD lv0 lvE1).2
def lv2:DocL:=(doD lv1 lvE2).2
def lvK9:List Ky:=readK (regP lv1 0 0 40 40) [] 1600
theorem lv_ok:(doD lv0 lvE1).1=0∧(doD lv1 lvE2).1=0∧lv1.next=2∧(lv1.w=40∧lv1.h=40)∧lv2.w=40∧lv2.h=40:=by decide+kernel
theorem lv_k9:lvK9.length=9:=by decide+kernel
theorem lv_k8:(keptL lv1 lv2 lvE2 lvK9).length=8∧(readK (regP lv2 0 0 40 40) (keptL lv1 lv2 lvE2 lvK9) 1600).length=9:=by decide+kernel
theorem lv_px:lsPx 40 3 3 lv2.ks 0=255:=by decide+kernel
theorem rd_again{D:DocL}{ks:List Ky}{n:Int}{p:Pn}{m:Nat}(h: ∀j,j<m→keyP p j∈ks):LvS.rd ⟨D,ks,n⟩ p m=⟨D,ks,n⟩:=by
 unfold LvS.rd
 simp only
 rw[readK_all h,Int.sub_self,Int.add_zero]
theorem read_in{p:Pn}{ks:List Ky}{m:Nat}: ∀j,j<m→keyP p j∈readK p ks m:=fun j hj=>readK_mem.2 (.inr ⟨j,hj,rfl⟩)
theorem regOk_whole{D:DocL}(hi:Inv D){w h:Int}(hw:D.w=w)(hh:D.h=h):RegOk D 0 0 w h:=by
 obtain⟨s1,s2⟩:=hi.sides
 exact⟨by decide,by decide,by omega,by omega⟩
theorem lv_doE(ks:List Ky):LvS.doE ⟨lv1,ks,9⟩ lvE2=(0,⟨lv2,keptL lv1 lv2 lvE2 ks,9⟩):=by
 have h:=lv_ok.2.1
 unfold LvS.doE lv2
 simp only
 rw[if_neg (fun hh=>hh h)]
theorem c6(hR: ∀H',Ext H H'→R (.bool true) H'):CallsH Try.prog 6 #[] H R:=by
 obtain⟨x1,x2,n1,⟨w1,h1⟩,w2,h2⟩:=lv_ok
 have i0:Inv lv0:=new_inv (by decide)
 have i1:Inv lv1:=do_inv i0 x1
 have i2:Inv lv2:=do_inv i1 x2
 have p1:(regP lv1 0 0 40 40).n=1600:=rfl
 have p2:(regP lv2 0 0 40 40).n=1600:=rfl
 refine Try.s6 (_u:=()) ?_
 unfold Try.S6
 refine c8 (fun _ H2 he2=>⟨_,_,rfl,?_⟩) fun h=>absurd h (by decide)
 refine(St.of_ext he2).alc fun b5 H6 hs6=>⟨rfl,hs6.putAll 0 rfl rfl (docA_one 40 40 1 .nil) fun H7 hs7=>⟨_,rfl,rowIn_whole (hs7.block 0 rfl),?_⟩⟩
 refine do_st (D:=lv0) (e:=lvE1) (s:=es0) hs7 (DocR.new H7 40 40) i0 (by decide) (ed0_ok H7 ..) fun A1 H10 hd1 hs10=>⟨_,_,rfl,hd1.size,hs10.putAll 1 rfl hd1.size hd1.one fun H13 hs13=>⟨A1,hd1.size,rowIn_whole (hs13.block 1 rfl),?_⟩⟩
 refine c10 hs13 (hs13.doc 0 rfl) i1 fun lb H16 hs16=>⟨_,rfl,br_f rfl ?_⟩
 have ok0:LvOk ⟨lv1,[],0⟩:=LvOk.start i1 (by decide)
 refine c11 (hs16.take 1) ok0 (by decide) (by decide) (fun _ bo H19 hs19=>⟨_,_,_,_,rfl,?_⟩) fun hn=>absurd (regOk_whole i1 w1 h1) hn
 have e1:LvS.rd ⟨lv1,[],0⟩ (regP lv1 0 0 40 40) (regP lv1 0 0 40 40).n=⟨lv1,lvK9,9⟩:=by
  show(⟨lv1,lvK9,0+((lvK9.length:Int)-0)⟩:LvS)=_
  rw[lv_k9];rfl
 have hs19:St H H19 [.cell bo (ints (picL (regP lv1 0 0 40 40) lv1.ks)).toArray 3,lvRs lb ⟨lv1,lvK9,9⟩]:=by rw[←e1];exact hs19
 have ok1:LvOk ⟨lv1,lvK9,9⟩:=e1▸ok0.rd ((regOk_whole i1 w1 h1).pn i1) (Nat.le_refl _)
 refine c12 hs19.tail ⟨_,rfl,?_⟩
 refine c11 hs19.swap ok1 (by decide) (by decide) (fun _ bo2 H26 hs26=>⟨_,_,_,_,rfl,?_⟩) fun hn=>absurd (regOk_whole i1 w1 h1) hn
 have e2:LvS.rd ⟨lv1,lvK9,9⟩ (regP lv1 0 0 40 40) (regP lv1 0 0 40 40).n=⟨lv1,lvK9,9⟩:=rd_again read_in
 have hs26:St H H26 [.cell bo2 (ints (picL (regP lv1 0 0 40 40) lv1.ks)).toArray 3,lvRs lb ⟨lv1,lvK9,9⟩,.cell bo (ints (picL (regP lv1 0 0 40 40) lv1.ks)).toArray 3]:=by rw[←e2];exact hs26.perm (List.Perm.refl _)
 refine c12 hs26.tail ⟨_,rfl,?_⟩
 refine(hs26.tail.take 1).alc fun b32 H33 hs33=>?_
 have hs33:St H H33 [.cell b32 (ints [255]).toArray 3,lvRs lb ⟨lv1,lvK9,9⟩]:=hs33
 have hed:EdOk H33 lvE2 ⟨⟨some ⟨b32,0,none⟩,1,1⟩,.nil,.nil⟩:=⟨⟨hs33.isA 0 rfl rfl,IS2.nil _,⟨rfl,fun i v h=>by simp[lvE2,ints] at h⟩⟩,by decide,by decide⟩
 refine c14 (e:=lvE2) (es:=⟨⟨some ⟨b32,0,none⟩,1,1⟩,.nil,.nil⟩) hs33.swap ok1 (by show lv1.next≤_;rw[n1];decide) hed fun H35 hs35=>⟨_,rfl,?_⟩
 have e4:=lv_doE lvK9
 have ok2:=ok1.doE lvE2
 rw[e4] at hs35 ok2 ⊢
 generalize hks:keptL lv1 lv2 lvE2 lvK9=ks8 at hs35 ok2
 have hs35:St H H35 [lvRs lb ⟨lv2,ks8,9⟩,.cell b32 (ints [255]).toArray 3]:=hs35
 have ok2:LvOk ⟨lv2,ks8,9⟩:=ok2
 refine c11 hs35 ok2 (show(9:Int)≤1000000000000 by decide) (by decide) (fun _ bo3 H38 hs38=>⟨_,_,_,_,rfl,?_⟩) fun hn=>absurd (regOk_whole i2 w2 h2) hn
 obtain⟨k8,k9⟩:=lv_k8
 rw[hks] at k8 k9
 have e3:(LvS.rd ⟨lv2,ks8,9⟩ (regP lv2 0 0 40 40) (regP lv2 0 0 40 40).n).n=10:=by
  show 9+(((readK (regP lv2 0 0 40 40) (ks8) 1600).length:Int)-((ks8).length:Int))=10
  rw[k8,k9];rfl
 have hs38:St H H38 (.cell bo3 (ints (picL (regP lv2 0 0 40 40) lv2.ks)).toArray 3::lvRs lb (LvS.rd ⟨lv2,ks8,9⟩ (regP lv2 0 0 40 40) (regP lv2 0 0 40 40).n)::[.cell b32 (ints [255]).toArray 3]):=hs38
 refine br_t rfl (br_t rfl (br_t rfl (br_t rfl ?_)))
 refine c12 hs38.tail ⟨_,rfl,?_⟩
 rw[e3]
 have hpx:=reg_at (D:=lv2) (x:=0) (y:=0) (w:=40) (h:=40) (i:=3) (j:=3) (by decide) (by decide)
 refine br_t rfl (br_t rfl (rdG (hs38.isA 0 rfl (plL_len _ _)) (by decide) (by rw[p2];decide) ?_))
 rw[show(picL (regP lv2 0 0 40 40) lv2.ks).getD (Int.toNat 123) 0=lsPx lv2.w (0+(3:Nat)) (0+(3:Nat)) lv2.ks 0 from hpx,w2]
 rw[show lsPx 40 (0+((3:Nat):Int)) (0+((3:Nat):Int)) lv2.ks 0=255 from lv_px]
 exact hR H38 hs38.ext
end Go.Proofs
namespace Go.Proofs
open Go.Sh
variable {H0 H:Heap} {σ:List Rs} {R:Value→Heap→Prop}
theorem sub_len: ∀{A B:List Ky},A.Nodup→(∀x∈A,x∈B)→A.length≤B.length
 |[],_,_,_=>Nat.zero_le _
 |x::A,B,hn,h=>by
  rw[List.nodup_cons] at hn
  have h1:=sub_len (A:=A) (B:=B.erase x) hn.2 fun y hy=>(List.mem_erase_of_ne fun he=>hn.1 (by rw[←he];exact hy)).2 (h y (List.mem_cons_of_mem _ hy))
  have hx:=h x List.mem_cons_self
  rw[List.length_erase_of_mem hx] at h1
  have:=List.length_pos_of_mem hx
  rw[List.length_cons];omega
theorem doE_D(s:LvS)(e:Ed):(s.doE e).1=(doD s.D e).1∧(s.doE e).2.D=nxt s.D e∧(s.doE e).2.n=s.n∧(s.ks=[]→(s.doE e).2.ks=[]):=by
 unfold LvS.doE nxt
 by_cases h:(doD s.D e).1=0
 ·rw[if_neg (fun hh=>hh h),if_pos h]
  refine⟨h.symm,rfl,rfl,fun hk=>?_⟩
  have:=kept_sub (D:=s.D) (E:=(doD s.D e).2) (e:=e) (ks:=s.ks)
  rw[hk] at this
  show keptL s.D (doD s.D e).2 e s.ks=[]
  rw[hk]
  exact List.sublist_nil.1 this
 ·rw[if_pos h,if_neg h]
  exact⟨rfl,rfl,rfl,fun h=>h⟩
theorem wrap_rng(n:Int): -9223372036854775808≤IntKind.wrap .i64 n∧IntKind.wrap .i64 n≤9223372036854775807:=by
 simp only[IntKind.wrap,IntKind.bits,IntKind.signed]
 simp
 omega
theorem order_law{p q:Option Addr}{l c m d:Nat}{es:List (Ed×EdS)}{rs:List Int}(hes:EdsR H p l es)(hrs:IS H q m (ints rs))(hR: ∀H',Ext H H'→R (.bool true) H'):CallsH Try.prog 4 #[.slice p l c,.slice q m d] H R:=by
 refine Try.s4 ?_
 unfold Try.S4
 refine c6 fun H4 he4=>⟨_,rfl,br_f rfl ?_⟩
 intro J6 hJ6
 refine c7 (hes.ext he4) (by decide) fun H82 he82=>⟨_,rfl,br_not (fun _=>hR _ (he4.trans he82)) fun hsm=>br_dec (fun _=>hR _ (he4.trans he82)) fun hm=>hJ6 _ ?_⟩
 obtain⟨hmost,hok⟩:=smallB_ok hsm
 have hesl:=hes.len
 have hrsl:=hrs.length
 have hinv:Inv ⟨20,18,1,[]⟩:=new_inv (by decide)
 refine c8 (fun _ H9 he9=>⟨_,_,rfl,?_⟩) fun h=>absurd h (by decide)
 refine(St.of_ext (he4.trans (he82.trans he9))).alc fun b12 H13 hs13=>⟨rfl,hs13.putAll 0 rfl rfl (docA_one 20 18 1 .nil) fun H14 hs14=>⟨_,rfl,rowIn_whole (hs14.block 0 rfl),_,rfl,rowIn_whole (hs14.block 0 rfl),?_⟩⟩
 refine c10 (E:=⟨20,18,1,[]⟩) hs14 (DocR.new H14 20 18) hinv fun ba H18 hs18=>⟨_,rfl,.inr ⟨docA 20 18 1 .nil,rfl,rowIn_whole (hs18.block 1 rfl),rfl⟩,?_⟩
 refine c10 (E:=⟨20,18,1,[]⟩) hs18 (DocR.new H18 20 18) hinv fun bb H21 hs21=>⟨_,rfl,?_⟩
 intro J23 hJ23
 refine br_f rfl (br_f rfl (hJ23 _ ?_))
 intro X25 hX25
 have go: ∀i,i≤es.length→ ∀(a b:LvS) H1,LvOk a→LvOk b→a.D=b.D→(a.D.w=20∧a.D.h=18)→a.D.next≤i+1→a.n≤100*i→b.ks=[]→b.n=0→St H H1 [lvRs ba a,lvRs bb b]→X25 [.int .i64 (i:Nat)] H1:=by
  refine upto fun i hi ih a b H1 oka okb hab hwh hnx hna hbk hbn hs1=>hX25 _ _ (br_dec (fun hlt=>?_) fun hge=>?_)
  ·have hi':i<es.length:=by omega
   have hx:=List.getElem?_eq_getElem hi'
   generalize es[i]=x at hx
   obtain⟨e,s⟩:=x
   obtain⟨ad,hp,hrow,hed⟩:=eds_ok (hes.ext hs1.ext) hok hx
   have hedH: ∀{H':Heap},Ext H H'→EdOk H' e s:=fun he=>let ⟨_,_,_,h3⟩:=eds_ok (hes.ext he) hok hx;h3
   refine⟨ad,hp,by omega,hlt,_,rfl,hrow,hs1.alc fun b30 H31 hs31=>⟨rfl,hs31.putAll 0 rfl rfl (by simpa using edL_one e s) fun H32 hs32=>⟨_,rfl,rowIn_whole (hs32.block 0 rfl),_,rfl,rowIn_whole (hs32.block 0 rfl),?_⟩⟩⟩
   refine c14 hs32.swap oka (by omega) (hedH hs32.ext) fun H36 hs36=>⟨_,rfl,.inr ⟨(edL e s).toArray,rfl,rowIn_whole (hs36.block 1 rfl),rfl⟩,?_⟩
   obtain⟨a1,a2,a3,_⟩:=doE_D a e
   obtain⟨b1,b2,b3,b4⟩:=doE_D b e
   have oka2:=oka.doE e
   have okb2:=okb.doE e
   generalize (a.doE e).2=a' at hs36 a2 a3 oka2
   have h36:St H H36 (lvRs bb b::lvRs ba a':: .cell b30 (edL e s).toArray 28::[]):=hs36.front 2 rfl
   refine c14 h36 okb (by rw[←hab];omega) (hedH h36.ext) fun H39 hs39=>⟨_,rfl,br_ne (fun hne=>absurd (by rw[a1,b1,hab]) hne) fun _=>?_⟩
   generalize (b.doE e).2=b' at hs39 b2 b3 b4 okb2
   have h39:St H H39 [lvRs ba a',lvRs bb b']:=hs39.swap.take 2
   have hab':a'.D=b'.D:=by rw[a2,b2,hab]
   have hsz:=nxt_size (D:=a.D) e
   have hnn:=nxt_next (D:=a.D) e
   rw[←a2] at hsz hnn
   refine br_dec (fun hlt2=>?_) fun hge2=>?_
   ·have hi2:i<rs.length:=by omega
    refine IS.rd (k:= .i64) (hrs.ext h39.ext) (i:=(i:Int)) (by omega) hlt2 (by rw[Int.toNat_natCast];exact getD_some rs 0 hi2) (IS.rd (k:= .i64) (hrs.ext h39.ext) (i:=(i:Int)) (by omega) hlt2 (by rw[Int.toNat_natCast];exact getD_some rs 0 hi2) ⟨by decide,?_⟩)
    have hb:((-9223372036854775808≤andI .i64 (rs.getD i 0) 15∧andI .i64 (rs.getD i 0) 15≤9223372036854775807)∧(-9223372036854775808≤andI .i64 (shrI .i64 (rs.getD i 0) 4) 15∧andI .i64 (shrI .i64 (rs.getD i 0) 4) 15≤9223372036854775807)):=⟨wrap_rng _,wrap_rng _⟩
    generalize andI .i64 (rs.getD i 0) 15=x at*
    generalize andI .i64 (shrI .i64 (rs.getD i 0) 4) 15=y at*
    have hstep: ∀(a2:LvS) (H1:Heap),LvOk a2→a2.D=a'.D→a2.n≤a'.n+100→St H H1 [lvRs ba a2,lvRs bb b']→X25 [.int .i64 (IntKind.wrap .i64 ((i:Int)+1))] H1:=fun a2 H1 h1 h2 h3 h4=>by
     rw[wrap_id (by omega) (by omega)]
     exact ih hi' a2 b' H1 h1 okb2 (h2.trans hab') ⟨by rw[h2];exact hsz.1.trans hwh.1,by rw[h2];exact hsz.2.trans hwh.2⟩ (by rw[h2];omega) (by omega) (b4 hbk) (by rw[b3,hbn]) h4
    refine c11 h39 oka2 (by omega) hb (fun hreg bo H46 hs46=>⟨_,_,_,_,rfl,?_⟩) fun _=>⟨_,_,_,_,rfl,hstep a' H39 oka2 rfl (by omega) h39⟩
    have h8:(regP a'.D x y 4 2).n=8:=rfl
    have hle:=readK_le (p:=regP a'.D x y 4 2) (ks:=a'.ks) (regP a'.D x y 4 2).n
    have ok46:=oka2.rd (hreg.pn oka2.inv) (Nat.le_refl _)
    have hD46:(a'.rd (regP a'.D x y 4 2) (regP a'.D x y 4 2).n).D=a'.D:=rd_D _ _ _
    have hn46:(a'.rd (regP a'.D x y 4 2) (regP a'.D x y 4 2).n).n≤a'.n+100:=by
     rw[rd_n]
     omega
    generalize a'.rd (regP a'.D x y 4 2) (regP a'.D x y 4 2).n=a2 at ok46 hD46 hn46 hs46
    exact hstep a2 H46 ok46 hD46 hn46 hs46.tail
   ·rw[wrap_id (by omega) (by omega)]
    exact ih hi' a' b' H39 oka2 okb2 hab' ⟨hsz.1.trans hwh.1,hsz.2.trans hwh.2⟩ (by omega) (by omega) (b4 hbk) (by rw[b3,hbn]) h39
  ·have hra:=regOk_whole oka.inv hwh.1 hwh.2
   have hrb:=regOk_whole okb.inv (w:=20) (h:=18) (by rw[←hab];exact hwh.1) (by rw[←hab];exact hwh.2)
   refine c11 hs1 oka (by omega) (by decide) (fun _ bo H51 hs51=>⟨_,_,_,_,rfl,?_⟩) fun hn=>absurd hra hn
   have oka2:=oka.rd (hra.pn oka.inv) (Nat.le_refl _)
   have h51:St H H51 [lvRs bb b,.cell bo (ints (picL (regP a.D 0 0 20 18) a.D.ks)).toArray 3,lvRs ba (a.rd (regP a.D 0 0 20 18) (regP a.D 0 0 20 18).n)]:=hs51.front 2 rfl
   refine c11 h51 okb (by omega) (by decide) (fun _ bo2 H55 hs55=>⟨_,_,_,_,rfl,?_⟩) fun hn=>absurd hrb hn
   have okb2:=okb.rd (hrb.pn okb.inv) (Nat.le_refl _)
   have hlaid:(b.rd (regP b.D 0 0 20 18) (regP b.D 0 0 20 18).n).n≤(a.rd (regP a.D 0 0 20 18) (regP a.D 0 0 20 18).n).n:=by
    rw[rd_n,rd_n]
    have h1:=sub_len (A:=readK (regP b.D 0 0 20 18) b.ks (regP b.D 0 0 20 18).n) (B:=readK (regP a.D 0 0 20 18) a.ks (regP a.D 0 0 20 18).n) (readK_nodup okb.nodup _) fun x hx=>by
     rw[readK_mem,hbk] at hx
     rw[readK_mem]
     obtain⟨j,hj,rfl⟩:=hx.resolve_left (by simp)
     exact .inr ⟨j,hj,rfl⟩
    have h2:=oka.len
    rw[hbn]
    have h3:b.ks.length=0:=by rw[hbk];rfl
    omega
   generalize hea:a.rd (regP a.D 0 0 20 18) (regP a.D 0 0 20 18).n=a2 at hs55 hlaid oka2
   have hD:a2.D=a.D:=by rw[←hea];exact rd_D _ _ _
   generalize b.rd (regP b.D 0 0 20 18) (regP b.D 0 0 20 18).n=b2 at hs55 hlaid okb2
   rw[←hab] at hs55
   have h55:St H H55 (lvRs ba a2:: .cell bo2 (ints (picL (regP a.D 0 0 20 18) a.D.ks)).toArray 3::lvRs bb b2:: .cell bo (ints (picL (regP a.D 0 0 20 18) a.D.ks)).toArray 3::[]):=hs55.front 3 rfl
   refine c18 h55 oka2 fun A H59 hdA hs59=>⟨_,rfl,?_⟩
   rw[hD] at hdA
   refine c17 hdA oka.inv fun bw H62 hs62=>⟨_,rfl,?_⟩
   have hwl:wholeL a.D=picL (regP a.D 0 0 20 18) a.D.ks:=by show picL (regP a.D 0 0 a.D.w a.D.h) a.D.ks=_;rw[hwh.1,hwh.2]
   have hwn:(wholeP a.D).n=(regP a.D 0 0 20 18).n:=by show(regP a.D 0 0 a.D.w a.D.h).n=_;rw[hwh.1,hwh.2]
   rw[hwl] at hs62
   rw[hwn]
   refine(hs59.call hs62).alc fun b64 H65 hs65=>⟨rfl,hs65.putAll 0 rfl rfl one_pic fun H66 hs66=>?_⟩
   have hlen:(picL (regP a.D 0 0 20 18) a.D.ks).length=(regP a.D 0 0 20 18).n:=plL_len _ _
   have h66:St H H66 [.cell b64 #[.int .i64 a.D.w,.int .i64 a.D.h,slV bw (regP a.D 0 0 20 18).n] 54,.cell bw (ints (picL (regP a.D 0 0 20 18) a.D.ks)).toArray 3,docRs A a2.D,lvRs ba a2,.cell bo2 (ints (picL (regP a.D 0 0 20 18) a.D.ks)).toArray 3,lvRs bb b2,.cell bo (ints (picL (regP a.D 0 0 20 18) a.D.ks)).toArray 3]:=hs66
   have hsz:(regP a.D 0 0 20 18).n≤1000000000000:=by show(20*18:Int).toNat≤_;decide
   have hszb:(regP b.D 0 0 20 18).n=(regP a.D 0 0 20 18).n:=rfl
   refine br_t rfl (br_t rfl ?_)
   rw[hszb]
   refine c19 (h66.isA 6 rfl hlen) (h66.isA 4 rfl hlen) hsz ⟨_,rfl,?_⟩
   rw[decide_eq_true rfl]
   refine br_t rfl ⟨_,_,_,h66.get 0 rfl (j:=2) rfl,c19 (h66.isA 6 rfl hlen) (h66.isA 1 rfl hlen) hsz ⟨_,rfl,?_⟩⟩
   rw[decide_eq_true rfl]
   refine br_t rfl (c12 (h66.front 3 rfl) ⟨_,rfl,c12 (h66.front 5 rfl) ⟨_,rfl,?_⟩⟩)
   rw[decide_eq_true hlaid]
   exact hR H66 h66.ext
 have h0:LvOk ⟨⟨20,18,1,[]⟩,[],0⟩:=LvOk.start hinv (by decide)
 exact go 0 (Nat.zero_le _) ⟨⟨20,18,1,[]⟩,[],0⟩ ⟨⟨20,18,1,[]⟩,[],0⟩ H21 h0 h0 rfl ⟨rfl,rfl⟩ (by decide) (by decide) rfl rfl (hs21.swap.take 2)
end Go.Proofs
namespace Go.Proofs
open Go.Sh Go.RowKit Go.ChangeShapes Go.WideShapes Go.ChangeAt
end Go.Proofs
namespace Go.Proofs
open Go.Sh Go.RowKit Go.ChangeShapes Go.WideShapes Go.ChangeAt Go.Deep
section
variable {H:Type} {enc:TypeId×Value→H} {W:World}
abbrev TrP(enc:TypeId×Value→H)(W:World)(fuel:Nat)(t:TypeId)(cs:List Value)(x:DataW H×List MemPlace):Prop:=DataW.trod enc Try.prog W 0 (fun _=>true) true fuel t cs=some x
theorem intsAt{fuel:Nat}{a0:Option Addr}{len cap:Nat}{x:DataW H×List MemPlace}(hf:TrP enc W fuel 23 [.slice a0 len cap] x): ∃ls,len≤cap∧IS W.heap a0 len (ints ls):=by
 rcases open_ints Try.underlying23 Try.underlying3 (by kernel_rfl) hf with ⟨hcs,_⟩|⟨a,len2,cap2,zs,hcs,_,hl,_,hz,_,hc,hw⟩
 ·simp at hcs
  obtain⟨rfl,rfl,rfl⟩:=hcs
  exact⟨[],Nat.le_refl _,⟨rfl,fun i v hv=>by simp[ints] at hv⟩⟩
 ·simp at hcs
  obtain⟨rfl,rfl,rfl⟩:=hcs
  have hzl:len≤zs.length:=by rw[hz];simp;omega
  refine⟨zs.take len,hl,⟨by rw[ints_len];simp;omega,fun i v hv=>⟨a,rfl,?_⟩⟩⟩
  have hi:i<len:=by have:=(List.getElem?_eq_some_iff.1 hv).1;rw[ints_len] at this;simp at this;omega
  have:=hc i (by omega)
  rw[cell_eq] at this
  rw[this]
  have hg:(zs.take len)[i]?=some (zs.getD i 0):=by
   rw[List.getElem?_take_of_lt hi,List.getD_eq_getElem?_getD,List.getElem?_eq_getElem (by omega)];rfl
  rw[ints_get hg] at hv
  exact hv
theorem fieldAt{t:TypeId}{fs:Array Field}{fuel:Nat}{cs:List Value}{x:DataW H×List MemPlace}(hs:Try.prog.underlying t=some (.struct fs))(h:TrP enc W fuel t cs x)(i:Nat){f:Field}{o ty c:Nat}(hf:fs[i]?=some f)(ho:f.offset=o)(ht:f.type=ty)(hc:Try.prog.cellsOf ty=c):
 ∃n y,n<fuel∧TrP enc W n ty ((cs.drop o).take c) y:=by
 obtain⟨xs,n,hfu,_,hl,hlen,hg⟩:=DataW.trod_struct hs h
 have:=hg i f hf
 have hi:=(Array.getElem?_eq_some_iff.1 hf).1
 rw[List.getElem?_eq_getElem (by omega),ho,ht,hc] at this
 exact⟨n,_,by omega,this⟩
theorem one_get{cs:List Value}{o:Nat}{v:Value}(h:(cs.drop o).take 1=[v]):cs[o]?=some v:=by
 have h4:((cs.drop o).take 1)[0]?=some v:=by rw[h];rfl
 rw[List.getElem?_take_of_lt (by omega),List.getElem?_drop] at h4
 simpa using h4
theorem intF{n:Nat}{cs:List Value}{o:Nat}{y:DataW H×List MemPlace}(h:TrP enc W n 3 ((cs.drop o).take 1) y): ∃m:Int,cs[o]?=some (.int .i64 m):=by
 obtain⟨m,hm,_,_⟩:=DataW.trod_int Try.underlying3 h
 exact⟨m,one_get hm⟩
theorem slF{t e n:Nat}{cs:List Value}{o:Nat}{y:DataW H×List MemPlace}(ht:Try.prog.underlying t=some (.slice e))(h:TrP enc W n t ((cs.drop o).take 1) y): ∃s:Sl3,cs[o]?=some s.v∧TrP enc W n t [s.v] y:=by
 rcases DataW.trod_slice ht h with ⟨h0,_⟩|⟨a,len,cap,elems,rest,m,_,h0,_⟩
 ·rw[h0] at h;exact⟨.nil,one_get h0,h⟩
 ·rw[h0] at h;exact⟨⟨some a,len,cap⟩,one_get h0,h⟩
theorem list19{α:Type}{l:List α}(h:l.length=19): ∃a b c d e f g i j k m n o p q r s t u,l=[a,b,c,d,e,f,g,i,j,k,m,n,o,p,q,r,s,t,u]:=by
 match l,h with
 |[a,b,c,d,e,f,g,i,j,k,m,n,o,p,q,r,s,t,u],_=>exact⟨a,b,c,d,e,f,g,i,j,k,m,n,o,p,q,r,s,t,u,rfl⟩
theorem sixF{t n:Nat}{cs:List Value}{o:Nat}{y:DataW H×List MemPlace}(ht:Try.prog.underlying t=some (.array 6 3))(h:TrP enc W n t ((cs.drop o).take 6) y):
 ∃m:M6,cs[o]?=some (.int .i64 m.a)∧cs[o+1]?=some (.int .i64 m.b)∧cs[o+2]?=some (.int .i64 m.c)∧cs[o+3]?=some (.int .i64 m.d)∧cs[o+4]?=some (.int .i64 m.e)∧cs[o+5]?=some (.int .i64 m.f):=by
 obtain⟨xs,m,_,_,hl,hlen,hg⟩:=DataW.trod_array ht h
 have hc:Try.prog.cellsOf 3=1:=by kernel_rfl
 have each: ∀i,i<6→ ∃z:Int,cs[o+i]?=some (.int .i64 z):=fun i hi=>by
  have:=hg i hi
  rw[hc,Nat.mul_one,List.getElem?_eq_getElem (by omega)] at this
  obtain⟨z,hz⟩:=intF this
  rw[List.getElem?_take_of_lt hi,List.getElem?_drop] at hz
  exact⟨z,hz⟩
 obtain⟨a,ha⟩:=each 0 (by omega)
 obtain⟨b,hb⟩:=each 1 (by omega)
 obtain⟨c,hc⟩:=each 2 (by omega)
 obtain⟨d,hd⟩:=each 3 (by omega)
 obtain⟨e,he⟩:=each 4 (by omega)
 obtain⟨f,hf⟩:=each 5 (by omega)
 exact⟨⟨a,b,c,d,e,f⟩,ha,hb,hc,hd,he,hf⟩
theorem ptAt{n:Nat}{cs:List Value}{y:DataW H×List MemPlace}(h:TrP enc W n 128 cs y): ∃p:Pt,cs=[.int .i64 p.1,.int .i64 p.2]:=by
 obtain⟨_,_,_,h0⟩:=fieldAt (o:=0) (ty:=3) (c:=1) Try.underlying128 h 0 rfl rfl rfl (by kernel_rfl)
 obtain⟨_,_,_,h1⟩:=fieldAt (o:=1) (ty:=3) (c:=1) Try.underlying128 h 1 rfl rfl rfl (by kernel_rfl)
 obtain⟨x,hx⟩:=intF h0
 obtain⟨y,hy⟩:=intF h1
 obtain⟨xs,m,_,_,hl,_⟩:=DataW.trod_struct Try.underlying128 h
 have hl2:cs.length=2:=by rw[hl];kernel_rfl
 match cs,hl2 with
 |[a,b],_=>
  simp only[List.getElem?_cons_zero,List.getElem?_cons_succ,Option.some.injEq] at hx hy
  subst hx;subst hy
  exact⟨(x,y),rfl⟩
theorem choose_list{α:Type}{P:Nat→α→Prop}{n:Nat}[Inhabited α](h: ∀i,i<n→ ∃x,P i x): ∃l:List α,l.length=n∧ ∀i x,l[i]?=some x→P i x:=by
 obtain⟨f,hf⟩: ∃f:Nat→α,∀i,i<n→P i (f i):=by
  have: ∀i,∃x,i<n→P i x:=fun i=>by
   by_cases hi:i<n
   ·obtain⟨x,hx⟩:=h i hi;exact⟨x,fun _=>hx⟩
   ·exact⟨default,fun h=>absurd h hi⟩
  exact Classical.axiomOfChoice this
 refine⟨(List.range n).map f,by simp,fun i x hx=>?_⟩
 have hi:i<n:=by have:=(List.getElem?_eq_some_iff.1 hx).1;simpa using this
 simp[hi] at hx
 subst hx
 exact hf i hi
theorem ptsAt{fuel:Nat}{s:Sl3}{x:DataW H×List MemPlace}(hf:TrP enc W fuel 24 [s.v] x): ∃pts:List Pt,s.l≤s.c∧IS2 W.heap s.p s.l pts:=by
 rcases open_slice Try.underlying24 hf with ⟨hcs,_⟩|⟨a,len',cap',m,n,D,Pl,hcs,_,hl,hm,hmm,_,hx⟩
 ·obtain⟨p,l,c⟩:=s
  simp only[Sl3.v,List.cons.injEq,Value.slice.injEq,and_true] at hcs
  obtain⟨rfl,rfl,rfl⟩:=hcs
  exact⟨[],Nat.le_refl _,IS2.nil _⟩
 ·obtain⟨p,l,c⟩:=s
  simp only[Sl3.v,List.cons.injEq,Value.slice.injEq,and_true] at hcs
  obtain⟨rfl,rfl,rfl⟩:=hcs
  have hml:l≤m:=by rw[hmm];simp;omega
  obtain⟨pts,hlen,hpts⟩:=choose_list (P:=fun i (p:Pt)=>rowIn W.heap (a.add (i*2)) #[.int .i64 p.1,.int .i64 p.2]) (n:=l) fun i hi=>by
   obtain⟨cs,h1,h2⟩:=hx i (by omega)
   rw[show Try.prog.cellsOf 128=2 from by kernel_rfl] at h1
   obtain⟨p,rfl⟩:=ptAt h2
   obtain⟨_,_,hc⟩:=World.cells?_some h1
   refine⟨p,fun j v hv=>?_⟩
   have hj:j<2:=(Array.getElem?_eq_some_iff.1 hv).1
   have:=hc j hj
   rw[cell_eq] at this
   rw[this]
   simpa using hv
  exact⟨pts,hl,hlen,fun i x y hi=>⟨a,rfl,hpts i (x,y) hi⟩⟩
theorem edAt{fuel:Nat}{cs:List Value}{x:DataW H×List MemPlace}(h:TrP enc W fuel 28 cs x): ∃e s,cs=edL e s∧rdEd W.heap e s:=by
 have hu:=Try.underlying28
 obtain⟨_,_,_,h0⟩:=fieldAt (o:=0) (ty:=3) (c:=1) hu h 0 rfl rfl rfl (by kernel_rfl)
 obtain⟨_,_,_,h1⟩:=fieldAt (o:=1) (ty:=3) (c:=1) hu h 1 rfl rfl rfl (by kernel_rfl)
 obtain⟨_,_,_,h2⟩:=fieldAt (o:=2) (ty:=3) (c:=1) hu h 2 rfl rfl rfl (by kernel_rfl)
 obtain⟨_,_,_,h3⟩:=fieldAt (o:=3) (ty:=3) (c:=1) hu h 3 rfl rfl rfl (by kernel_rfl)
 obtain⟨_,_,_,h4⟩:=fieldAt (o:=4) (ty:=3) (c:=1) hu h 4 rfl rfl rfl (by kernel_rfl)
 obtain⟨_,_,_,h5⟩:=fieldAt (o:=5) (ty:=3) (c:=1) hu h 5 rfl rfl rfl (by kernel_rfl)
 obtain⟨_,_,_,h6⟩:=fieldAt (o:=6) (ty:=3) (c:=1) hu h 6 rfl rfl rfl (by kernel_rfl)
 obtain⟨_,_,_,h7⟩:=fieldAt (o:=7) (ty:=3) (c:=1) hu h 7 rfl rfl rfl (by kernel_rfl)
 obtain⟨_,_,_,h8⟩:=fieldAt (o:=8) (ty:=3) (c:=1) hu h 8 rfl rfl rfl (by kernel_rfl)
 obtain⟨_,_,_,h9⟩:=fieldAt (o:=9) (ty:=3) (c:=1) hu h 9 rfl rfl rfl (by kernel_rfl)
 obtain⟨_,_,_,h10⟩:=fieldAt (o:=10) (ty:=23) (c:=1) hu h 10 rfl rfl rfl (by kernel_rfl)
 obtain⟨_,_,_,h11⟩:=fieldAt (o:=11) (ty:=24) (c:=1) hu h 11 rfl rfl rfl (by kernel_rfl)
 obtain⟨_,_,_,h12⟩:=fieldAt (o:=12) (ty:=26) (c:=6) hu h 12 rfl rfl rfl (by kernel_rfl)
 obtain⟨_,_,_,h13⟩:=fieldAt (o:=18) (ty:=23) (c:=1) hu h 13 rfl rfl rfl (by kernel_rfl)
 obtain⟨v0,g0⟩:=intF h0
 obtain⟨v1,g1⟩:=intF h1
 obtain⟨v2,g2⟩:=intF h2
 obtain⟨v3,g3⟩:=intF h3
 obtain⟨v4,g4⟩:=intF h4
 obtain⟨v5,g5⟩:=intF h5
 obtain⟨v6,g6⟩:=intF h6
 obtain⟨v7,g7⟩:=intF h7
 obtain⟨v8,g8⟩:=intF h8
 obtain⟨v9,g9⟩:=intF h9
 obtain⟨P,g10,t10⟩:=slF Try.underlying23 h10
 obtain⟨S,g11,t11⟩:=slF Try.underlying24 h11
 obtain⟨m,ga,gb,gc,gd,ge,gf⟩:=sixF Try.underlying26 h12
 obtain⟨A,g18,t18⟩:=slF Try.underlying23 h13
 obtain⟨ps,_,hps⟩:=intsAt t10
 obtain⟨pts,_,hpts⟩:=ptsAt t11
 obtain⟨qs,_,hqs⟩:=intsAt t18
 obtain⟨xs,k,_,_,hl,_⟩:=DataW.trod_struct hu h
 have hl2:cs.length=19:=by rw[hl];kernel_rfl
 refine⟨⟨v0,v1,v2,v3,v4,v5,v6,v7,v8,v9,ps,pts,m,qs⟩,⟨P,S,A⟩,?_,⟨hps,hpts,hqs⟩⟩
 obtain⟨a,b,c,d,e,f,g,i,j,k,m',n,o,p,q,r,s,t,u,rfl⟩:=list19 hl2
 simp only[List.getElem?_cons_zero,List.getElem?_cons_succ,Option.some.injEq] at g0 g1 g2 g3 g4 g5 g6 g7 g8 g9 g10 g11 ga gb gc gd ge gf g18
 subst g0 g1 g2 g3 g4 g5 g6 g7 g8 g9 g10 g11 ga gb gc gd ge gf g18
 rfl
instance:Inhabited (Ed×EdS):=⟨⟨0,0,0,0,0,0,0,0,0,0,[],[],⟨0,0,0,0,0,0⟩,[]⟩,⟨.nil,.nil,.nil⟩⟩
theorem editsIn_of{v:Value}{d:DataW H}{ps:List MemPlace}{base:Nat}(hv:Value.okWide Try.prog W .any base 22 v)(h:DataW.Trod enc Try.prog W 0 (fun _=>true) true 22 v d ps):
 ∃a l c es,v= .slice a l c∧l≤c∧EdsR W.heap a l es:=by
 obtain⟨a0,len,cap,rfl⟩:=okWide_slice Try.underlying22 hv
 obtain⟨fuel,hf⟩:=h
 rcases open_slice Try.underlying22 hf with ⟨hcs,_⟩|⟨a,len',cap',m,n,D,Pl,hcs,_,hl,hm,hmm,_,hx⟩
 ·simp only[Value.cells] at hcs
  simp at hcs
  obtain⟨rfl,rfl,rfl⟩:=hcs
  exact⟨none,0,0,[],rfl,Nat.le_refl _,rfl,fun i e s hx=>by simp at hx⟩
 ·simp only[Value.cells] at hcs
  simp at hcs
  obtain⟨rfl,rfl,rfl⟩:=hcs
  have hml:len≤m:=by rw[hmm];simp;omega
  obtain⟨es,hlen,hes⟩:=choose_list (P:=fun i (x:Ed×EdS)=>rowIn W.heap (a.add (i*19)) (edL x.1 x.2).toArray∧rdEd W.heap x.1 x.2) (n:=len) fun i hi=>by
   obtain⟨cs,h1,h2⟩:=hx i (by omega)
   rw[show Try.prog.cellsOf 28=19 from by kernel_rfl] at h1
   obtain⟨e,s,rfl,hrd⟩:=edAt h2
   obtain⟨_,_,hc⟩:=World.cells?_some h1
   refine⟨(e,s),fun j v hv=>?_,hrd⟩
   have hj:j<19:=(Array.getElem?_eq_some_iff.1 hv).1
   have:=hc j hj
   rw[cell_eq] at this
   rw[this]
   simpa using hv
  exact⟨some a,len,cap,es,rfl,hl,hlen,fun i e s hi=>let ⟨h1,h2⟩:=hes i (e,s) hi;⟨a,rfl,h1,h2⟩⟩
theorem intsIn_of{v:Value}{d:DataW H}{ps:List MemPlace}{base:Nat}(hv:Value.okWide Try.prog W .any base 23 v)(h:DataW.Trod enc Try.prog W 0 (fun _=>true) true 23 v d ps):
 ∃a l c ls,v= .slice a l c∧l≤c∧IS W.heap a l (ints ls):=by
 obtain⟨a0,len,cap,rfl⟩:=okWide_slice Try.underlying23 hv
 obtain⟨fuel,hf⟩:=h
 obtain⟨ls,h1,h2⟩:=intsAt hf
 exact⟨a0,len,cap,ls,rfl,h1,h2⟩
end
end Go.Proofs
