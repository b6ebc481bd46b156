/-
  OWN WORK. Several texts in one: LvF, LvG, RnW, RnX, RnY, RnZ, RoA, RoB, RoC, HsD, HsE, HsF, HsG, HsH.
-/
import Derived.Test.YtnbelfjfealnhaaGreatMgLivePlaysH
import Derived.Test.YtnbelfjfealnhaaGreatMgLivePlaysF
import Derived.Test.YtnbelfjfealnhaaGreatMgLivePlaysG

set_option linter.unusedVariables false
set_option linter.unusedSimpArgs false
set_option maxRecDepth 10000
namespace Go.Proofs
open Go.Sh
variable {H0 H:Heap} {σ:List Rs} {R:Value→Heap→Prop}
theorem c13{p q:Option Addr}{l m c d:Nat}{xs ys:List Int}(hx:IS H p l (ints xs))(hy:IS H q m (ints ys))(hl:l≤1000000000000)(hR:R (.bool (decide (xs=ys))) H):CallsH Tryz.prog 13 #[.slice p l c,.slice q m d] H R:=by
 have hxl:=hx.length
 have hyl:=hy.length
 refine Tryz.s13 ?_
 unfold Tryz.S13
 refine br_ne (fun hne=>?_) fun heq=>?_
 ·rw[decide_eq_false (fun h=>hne (by rw[←hxl,←hyl,h]))] at hR;exact hR
 intro X3 hX3
 have go: ∀k,k≤xs.length→xs.take k=ys.take k→X3 [.int .i64 (k:Nat)] H:=by
  refine upto fun k hk ih he=>hX3 _ _ (br_dec (fun hlt=>?_) fun hge=>?_)
  ·have hk':k<xs.length:=by omega
   refine rdG (i:=(k:Int)) hx (by omega) hlt (rdG (i:=(k:Int)) hy (by omega) (by omega) (br_ne (fun hne=>?_) fun heq2=>?_))
   ·rw[decide_eq_false (fun h=>hne (by rw[h]))] at hR;exact hR
   ·rw[wrap_id (by omega) (by omega)]
    rw[Int.toNat_natCast] at heq2
    refine ih hk' ?_
    rw[List.take_add_one,List.take_add_one,he,getD_some xs 0 hk',getD_some ys 0 (by omega),heq2]
  ·obtain rfl:k=xs.length:=by omega
   rw[List.take_of_length_le (Nat.le_refl _),List.take_of_length_le (by omega)] at he
   rw[decide_eq_true he] at hR;exact hR
 exact go 0 (Nat.zero_le _) rfl
theorem c14{x y w h:Int}(hx:0≤x∧x≤1000000)(hy:0≤y∧y≤1000000)(hw: -1000000≤w∧w≤1000000)(hh: -1000000≤h∧h≤1000000)(hR:R (.int .i64 (tilesN x y w h)) H):CallsH Tryz.prog 14 #[.int .i64 x,.int .i64 y,.int .i64 w,.int .i64 h] H R:=by
 refine Tryz.s14 ?_
 unfold Tryz.S14
 intro J5 hJ5
 unfold tilesN at hR
 refine br_dec (fun c=>?_) fun c1=>br_dec (fun c=>?_) fun c2=>hJ5 _ ?_
 ·rw[if_pos (.inl c)] at hR;exact hR
 ·rw[if_pos (.inr c)] at hR;exact hR
 rw[if_neg (by omega)] at hR
 refine⟨by decide,by decide,by decide,by decide,?_⟩
 have hm:=mul_bd (x:=(x+w-1)/16-x/16+1) (y:=(y+h-1)/16-y/16+1) (A:=1000000) (B:=1000000) (by omega) (by omega)
 rw[wrap_id (n:=x+w) (by omega) (by omega),wrap_id (n:=y+h) (by omega) (by omega),wrap_id (n:=x+w-1) (by omega) (by omega),wrap_id (n:=y+h-1) (by omega) (by omega),Int.tdiv_eq_ediv_of_nonneg (show(0:Int)≤x+w-1 by omega),Int.tdiv_eq_ediv_of_nonneg (show(0:Int)≤y+h-1 by omega),Int.tdiv_eq_ediv_of_nonneg hx.1,Int.tdiv_eq_ediv_of_nonneg hy.1,
  wrap_id (n:=(x+w-1)/16) (by omega) (by omega),wrap_id (n:=x/16) (by omega) (by omega),wrap_id (n:=(y+h-1)/16) (by omega) (by omega),wrap_id (n:=y/16) (by omega) (by omega),wrap_id (n:=(x+w-1)/16-x/16) (by omega) (by omega),wrap_id (n:=(y+h-1)/16-y/16) (by omega) (by omega),
  wrap_id (n:=(x+w-1)/16-x/16+1) (by omega) (by omega),wrap_id (n:=(y+h-1)/16-y/16+1) (by omega) (by omega),wrap_id (by omega) (by omega)]
 exact hR
def lvE1:Ed:=ed0 1 0 0 (-1) 0 0 0 0 40 40
def lvE2:Ed:=⟨4,1,0,0,0,0,3,3,1,1,[255],[],zeroM,[]⟩
def lv0:DocL:=⟨40,40,1,[]⟩
def lv1:DocL:=(doD lv0 lvE1).2
def lv2:DocL:=(doD lv1 lvE2).2
def lvK9:List Ky:=readK (regP lv1 0 0 40 40) [] 1600
theorem lv_ok:(doD lv0 lvE1).1=0∧(doD lv1 lvE2).1=0∧lv1.next=2∧(lv1.w=40∧lv1.h=40)∧lv2.w=40∧lv2.h=40:=by decide+kernel
theorem lv_k9:lvK9.length=9:=by decide+kernel
theorem lv_k8:(keptL lv1 lv2 lvE2 lvK9).length=8∧(readK (regP lv2 0 0 40 40) (keptL lv1 lv2 lvE2 lvK9) 1600).length=9:=by decide+kernel
theorem lv_px:lsPx 40 3 3 lv2.ks 0=255:=by decide+kernel
theorem rd_again{D:DocL}{ks:List Ky}{n:Int}{p:Pn}{m:Nat}(h: ∀j,j<m→keyP p j∈ks):LvS.rd ⟨D,ks,n⟩ p m=⟨D,ks,n⟩:=by
 unfold LvS.rd
 simp only
 rw[readK_all h,Int.sub_self,Int.add_zero]
theorem read_in{p:Pn}{ks:List Ky}{m:Nat}: ∀j,j<m→keyP p j∈readK p ks m:=fun j hj=>readK_mem.2 (.inr ⟨j,hj,rfl⟩)
theorem regOk_whole{D:DocL}(hi:Inv D){w h:Int}(hw:D.w=w)(hh:D.h=h):RegOk D 0 0 w h:=by
 obtain⟨s1,s2⟩:=hi.sides
 exact⟨by decide,by decide,by omega,by omega⟩
theorem lv_doE(ks:List Ky):LvS.doE ⟨lv1,ks,9⟩ lvE2=(0,⟨lv2,keptL lv1 lv2 lvE2 ks,9⟩):=by
 have h:=lv_ok.2.1
 unfold LvS.doE lv2
 simp only
 rw[if_neg (fun hh=>hh h)]
theorem c5(hR: ∀H',Ext H H'→R (.bool true) H'):CallsH Tryz.prog 5 #[] H R:=by
 obtain⟨x1,x2,n1,⟨w1,h1⟩,w2,h2⟩:=lv_ok
 have i0:Inv lv0:=new_inv (by decide)
 have i1:Inv lv1:=do_inv i0 x1
 have i2:Inv lv2:=do_inv i1 x2
 have p1:(regP lv1 0 0 40 40).n=1600:=rfl
 have p2:(regP lv2 0 0 40 40).n=1600:=rfl
 refine Tryz.s5 (_u:=()) ?_
 unfold Tryz.S5
 refine c6 (fun _ H2 he2=>⟨_,_,rfl,?_⟩) fun h=>absurd h (by decide)
 refine(St.of_ext he2).alc fun b5 H6 hs6=>⟨rfl,hs6.putAll 0 rfl rfl (docA_one 40 40 1 .nil) fun H7 hs7=>⟨_,rfl,rowIn_whole (hs7.block 0 rfl),?_⟩⟩
 refine do_st (D:=lv0) (e:=lvE1) (s:=es0) hs7 (DocR.new H7 40 40) i0 (by decide) (ed0_ok H7 ..) fun A1 H10 hd1 hs10=>⟨_,_,rfl,hd1.size,hs10.putAll 1 rfl hd1.size hd1.one fun H13 hs13=>⟨A1,hd1.size,rowIn_whole (hs13.block 1 rfl),?_⟩⟩
 refine c8 hs13 (hs13.doc 0 rfl) i1 fun lb H16 hs16=>⟨_,rfl,br_f rfl ?_⟩
 have ok0:LvOk ⟨lv1,[],0⟩:=LvOk.start i1 (by decide)
 refine c11 (hs16.take 1) ok0 (by decide) (fun _ bo H19 hs19=>⟨_,_,_,_,rfl,?_⟩) fun hn=>absurd (regOk_whole i1 w1 h1) hn
 have e1:LvS.rd ⟨lv1,[],0⟩ (regP lv1 0 0 40 40) (regP lv1 0 0 40 40).n=⟨lv1,lvK9,9⟩:=by
  show(⟨lv1,lvK9,0+((lvK9.length:Int)-0)⟩:LvS)=_
  rw[lv_k9];rfl
 have hs19:St H H19 [.cell bo (ints (picL (regP lv1 0 0 40 40) lv1.ks)).toArray 3,lvRs lb ⟨lv1,lvK9,9⟩]:=by rw[←e1];exact hs19
 have ok1:LvOk ⟨lv1,lvK9,9⟩:=e1▸ok0.rd ((regOk_whole i1 w1 h1).pn i1) (Nat.le_refl _)
 refine c10 hs19.tail ⟨_,rfl,?_⟩
 refine c11 hs19.swap ok1 (by decide) (fun _ bo2 H26 hs26=>⟨_,_,_,_,rfl,?_⟩) fun hn=>absurd (regOk_whole i1 w1 h1) hn
 have e2:LvS.rd ⟨lv1,lvK9,9⟩ (regP lv1 0 0 40 40) (regP lv1 0 0 40 40).n=⟨lv1,lvK9,9⟩:=rd_again read_in
 have hs26:St H H26 [.cell bo2 (ints (picL (regP lv1 0 0 40 40) lv1.ks)).toArray 3,lvRs lb ⟨lv1,lvK9,9⟩,.cell bo (ints (picL (regP lv1 0 0 40 40) lv1.ks)).toArray 3]:=by rw[←e2];exact hs26.perm (List.Perm.refl _)
 refine c10 hs26.tail ⟨_,rfl,?_⟩
 refine(hs26.tail.take 1).alc fun b32 H33 hs33=>?_
 have hs33:St H H33 [.cell b32 (ints [255]).toArray 3,lvRs lb ⟨lv1,lvK9,9⟩]:=hs33
 have hed:EdOk H33 lvE2 ⟨⟨some ⟨b32,0,none⟩,1,1⟩,.nil,.nil⟩:=⟨⟨hs33.isA 0 rfl rfl,IS2.nil _,⟨rfl,fun i v h=>by simp[lvE2,ints] at h⟩⟩,by decide,by decide⟩
 refine c18 (e:=lvE2) (es:=⟨⟨some ⟨b32,0,none⟩,1,1⟩,.nil,.nil⟩) hs33.swap ok1 (by show lv1.next≤_;rw[n1];decide) hed fun H35 hs35=>⟨_,rfl,?_⟩
 have e4:=lv_doE lvK9
 have ok2:=ok1.doE lvE2
 rw[e4] at hs35 ok2 ⊢
 generalize hks:keptL lv1 lv2 lvE2 lvK9=ks8 at hs35 ok2
 have hs35:St H H35 [lvRs lb ⟨lv2,ks8,9⟩,.cell b32 (ints [255]).toArray 3]:=hs35
 have ok2:LvOk ⟨lv2,ks8,9⟩:=ok2
 refine c11 hs35 ok2 (show(9:Int)≤1000000000000 by decide) (fun _ bo3 H38 hs38=>⟨_,_,_,_,rfl,?_⟩) fun hn=>absurd (regOk_whole i2 w2 h2) hn
 obtain⟨k8,k9⟩:=lv_k8
 rw[hks] at k8 k9
 have e3:(LvS.rd ⟨lv2,ks8,9⟩ (regP lv2 0 0 40 40) (regP lv2 0 0 40 40).n).n=10:=by
  show 9+(((readK (regP lv2 0 0 40 40) (ks8) 1600).length:Int)-((ks8).length:Int))=10
  rw[k8,k9];rfl
 have hs38:St H H38 (.cell bo3 (ints (picL (regP lv2 0 0 40 40) lv2.ks)).toArray 3::lvRs lb (LvS.rd ⟨lv2,ks8,9⟩ (regP lv2 0 0 40 40) (regP lv2 0 0 40 40).n)::[.cell b32 (ints [255]).toArray 3]):=hs38
 refine br_t rfl (br_t rfl (br_t rfl (br_t rfl ?_)))
 refine c10 hs38.tail ⟨_,rfl,?_⟩
 rw[e3]
 have hpx:=reg_at (D:=lv2) (x:=0) (y:=0) (w:=40) (h:=40) (i:=3) (j:=3) (by decide) (by decide)
 refine br_t rfl (br_t rfl (rdG (hs38.isA 0 rfl (plL_len _ _)) (by decide) (by rw[p2];decide) ?_))
 rw[show(picL (regP lv2 0 0 40 40) lv2.ks).getD (Int.toNat 123) 0=lsPx lv2.w (0+(3:Nat)) (0+(3:Nat)) lv2.ks 0 from hpx,w2]
 rw[show lsPx 40 (0+((3:Nat):Int)) (0+((3:Nat):Int)) lv2.ks 0=255 from lv_px]
 exact hR H38 hs38.ext
end Go.Proofs
namespace Go.Proofs
open Go.Sh
variable {H0 H:Heap} {σ:List Rs} {R:Value→Heap→Prop}
theorem doE_D(s:LvS)(e:Ed):(s.doE e).1=(doD s.D e).1∧(s.doE e).2.D=nxt s.D e∧(s.doE e).2.n=s.n∧(s.ks=[]→(s.doE e).2.ks=[]):=by
 unfold LvS.doE nxt
 by_cases h:(doD s.D e).1=0
 ·rw[if_neg (fun hh=>hh h),if_pos h]
  refine⟨h.symm,rfl,rfl,fun hk=>?_⟩
  have:=kept_sub (D:=s.D) (E:=(doD s.D e).2) (e:=e) (ks:=s.ks)
  rw[hk] at this
  show keptL s.D (doD s.D e).2 e s.ks=[]
  rw[hk]
  exact List.sublist_nil.1 this
 ·rw[if_pos h,if_neg h]
  exact⟨rfl,rfl,rfl,fun h=>h⟩
end Go.Proofs
namespace Go.Proofs
open Go.Sh
variable {H0 H:Heap} {σ:List Rs} {R:Value→Heap→Prop}
theorem c82{a b:Int}(h:0≤a*b∧a*b≤1000000000000)(hR:R (.int .i64 (mulP a b)) H):CallsH Tryz.prog 82 #[.int .i64 a,.int .i64 b] H R:=by
 refine Tryz.s82 ⟨by decide,?_⟩
 unfold mulP at hR
 generalize a*b=x at*
 have hq:x/255*255≤x∧x<(x/255+1)*255:=by omega
 rw[wrap_id (n:=x) (by omega) (by omega),Int.tdiv_eq_ediv_of_nonneg h.1,wrap_id (n:=x/255) (by omega) (by omega),wrap_id (n:=255*(x/255)) (by omega) (by omega),wrap_id (n:=x-255*(x/255)) (by omega) (by omega),wrap_id (n:=2*(x-255*(x/255))) (by omega) (by omega),wrap_id (n:=x/255+1) (by omega) (by omega)]
 refine br_dec (fun hg=>?_) fun hg=>?_
 ·rw[show(x+127)/255=x/255+1 from by omega] at hR;exact hR
 ·rw[show(x+127)/255=x/255 from by omega] at hR;exact hR
theorem rmul_call{a b:Int}(ha:0≤a∧a≤1000000)(hb:0≤b∧b≤1000000)(hR:R (.int .i64 (mulP a b)) H):CallsH Tryz.prog 82 #[.int .i64 a,.int .i64 b] H R:=by
 have h1:=Int.mul_nonneg ha.1 hb.1
 have h2:=Int.mul_le_mul_of_nonneg_left hb.2 ha.1
 exact c82 ⟨h1,by omega⟩ hR
theorem c83{c a:Int}(hc:0≤c∧c≤1000000)(ha:0≤a∧a≤1000000)(hR:R (.int .i64 (bareP c a)) H):CallsH Tryz.prog 83 #[.int .i64 c,.int .i64 a] H R:=by
 refine Tryz.s83 (br_eq (fun h0=>?_) fun h0=>⟨by decide,h0,?_⟩)
 ·rw[show bareP c a=0 from by unfold bareP;rw[if_pos h0]] at hR;exact hR
 ·have hq:0≤(255*c+a/2)/a:=Int.ediv_nonneg (by omega) ha.1
  have hq2:(255*c+a/2)/a≤255*c+a/2:=Int.ediv_le_self _ (by omega)
  rw[Int.tdiv_eq_ediv_of_nonneg ha.1,wrap_id (n:=a/2) (by omega) (by omega),wrap_id (n:=255*c) (by omega) (by omega),wrap_id (n:=255*c+a/2) (by omega) (by omega),Int.tdiv_eq_ediv_of_nonneg (by omega),wrap_id (by omega) (by omega)]
  rw[show bareP c a=min 255 ((255*c+a/2)/a) from by unfold bareP;rw[if_neg h0]] at hR
  refine br_dec (fun hg=>?_) fun hg=>?_
  ·rw[show min 255 ((255*c+a/2)/a)=255 from by omega] at hR;exact hR
  ·rw[show min 255 ((255*c+a/2)/a)=(255*c+a/2)/a from by omega] at hR;exact hR
theorem c88{a b:Int}(hR:R (.int .i64 (min a b)) H):CallsH Tryz.prog 88 #[.int .i64 a,.int .i64 b] H R:=by
 refine Tryz.s88 (br_dec (fun hg=>?_) fun hg=>?_)
 ·rw[show min a b=a from by omega] at hR;exact hR
 ·rw[show min a b=b from by omega] at hR;exact hR
theorem c118{a b:Int}(hR:R (.int .i64 (max a b)) H):CallsH Tryz.prog 118 #[.int .i64 a,.int .i64 b] H R:=by
 refine Tryz.s118 (br_dec (fun hg=>?_) fun hg=>?_)
 ·rw[show max a b=a from by omega] at hR;exact hR
 ·rw[show max a b=b from by omega] at hR;exact hR
theorem b2_call{x y:Int}(hx:byte x)(hy:byte y)(hR:R (.int .i64 (screenP x y)) H):CallsH Tryz.prog 87 #[.int .i64 2,.int .i64 x,.int .i64 y] H R:=by
 have hb:=mulP_bd hx hy
 unfold byte at hx hy
 unfold screenP at hR
 refine Tryz.s87 (rmul_call (by omega) (by omega) ⟨_,rfl,br_eq (fun h=>absurd h (by decide)) fun _=>br_eq (fun _=>?_) fun h=>absurd rfl h⟩)
 rw[wrap_id (n:=x+y) (by omega) (by omega),wrap_id (by omega) (by omega)]
 exact hR
theorem b8_call{x y:Int}(hx:byte x)(hy:byte y)(hR:R (.int .i64 (hardP x y)) H):CallsH Tryz.prog 87 #[.int .i64 8,.int .i64 x,.int .i64 y] H R:=by
 have hx':=hx
 have hy':=hy
 unfold byte at hx' hy'
 refine Tryz.s87 (rmul_call (by omega) (by omega) ⟨_,rfl,br_eq (fun h=>absurd h (by decide)) fun _=>br_eq (fun h=>absurd h (by decide)) fun _=>br_eq (fun h=>absurd h (by decide)) fun _=>br_eq (fun h=>absurd h (by decide)) fun _=>br_eq (fun h=>absurd h (by decide)) fun _=>br_eq (fun h=>absurd h (by decide)) fun _=>br_eq (fun h=>absurd h (by decide)) fun _=>br_eq (fun _=>?_) fun h=>absurd rfl h⟩)
 unfold hardP at hR
 refine br_dec (fun hg=>?_) fun hg=>?_
 ·rw[if_pos hg] at hR
  rw[wrap_id (n:=2*y) (by omega) (by omega)]
  exact rmul_call (by omega) (by omega) ⟨_,rfl,hR⟩
 ·rw[if_neg hg] at hR
  rw[wrap_id (n:=2*y) (by omega) (by omega),wrap_id (n:=2*y-255) (by omega) (by omega)]
  exact b2_call hx (by unfold byte;omega) ⟨_,rfl,hR⟩
theorem c87{mode x y:Int}(hx:byte x)(hy:byte y)(hR:R (.int .i64 (blP mode x y)) H):CallsH Tryz.prog 87 #[.int .i64 mode,.int .i64 x,.int .i64 y] H R:=by
 have hb:=mulP_bd hx hy
 have hx':=hx
 have hy':=hy
 unfold byte at hx' hy'
 unfold blP at hR
 refine Tryz.s87 (rmul_call (by omega) (by omega) ⟨_,rfl,br_eq (fun h1=>?_) fun h1=>br_eq (fun h2=>?_) fun h2=>br_eq (fun h3=>?_) fun h3=>br_eq (fun h4=>?_) fun h4=>br_eq (fun h5=>?_) fun h5=>br_eq (fun h6=>?_) fun h6=>br_eq (fun h7=>?_) fun h7=>br_eq (fun h8=>?_) fun h8=>br_eq (fun h9=>?_) fun h9=>br_eq (fun h10=>?_) fun h10=>br_eq (fun h11=>?_) fun h11=>?_⟩)
 ·rw[if_pos h1] at hR;exact hR
 ·rw[if_neg h1,if_pos h2] at hR
  unfold screenP at hR
  rw[wrap_id (n:=x+y) (by omega) (by omega),wrap_id (by omega) (by omega)]
  exact hR
 ·rw[if_neg h1,if_neg h2,if_pos h3] at hR
  exact b8_call hy hx ⟨_,rfl,hR⟩
 ·rw[if_neg h1,if_neg h2,if_neg h3,if_pos h4] at hR
  exact c88 ⟨_,rfl,hR⟩
 ·rw[if_neg h1,if_neg h2,if_neg h3,if_neg h4,if_pos h5] at hR
  exact c118 ⟨_,rfl,hR⟩
 ·rw[if_neg h1,if_neg h2,if_neg h3,if_neg h4,if_neg h5,if_pos h6] at hR
  refine br_eq (fun g1=>?_) fun g1=>br_eq (fun g2=>?_) fun g2=>?_
  ·rw[if_pos g1] at hR;exact hR
  ·rw[if_neg g1,if_pos g2] at hR;exact hR
  ·rw[if_neg g1,if_neg g2] at hR
   have q1:0≤255*x/(255-y):=Int.ediv_nonneg (by omega) (by omega)
   have q2:255*x/(255-y)≤255*x:=Int.ediv_le_self _ (by omega)
   rw[wrap_id (n:=255-y) (by omega) (by omega),wrap_id (n:=255*x) (by omega) (by omega),Int.tdiv_eq_ediv_of_nonneg (by omega),wrap_id (n:=255*x/(255-y)) (by omega) (by omega)]
   exact⟨by omega,c88 ⟨_,rfl,hR⟩⟩
 ·rw[if_neg h1,if_neg h2,if_neg h3,if_neg h4,if_neg h5,if_neg h6,if_pos h7] at hR
  refine br_eq (fun g1=>?_) fun g1=>br_eq (fun g2=>?_) fun g2=>⟨g2,?_⟩
  ·rw[if_pos g1] at hR;exact hR
  ·rw[if_neg g1,if_pos g2] at hR;exact hR
  ·rw[if_neg g1,if_neg g2] at hR
   have q1:0≤255*(255-x)/y:=Int.ediv_nonneg (by omega) (by omega)
   have q2:255*(255-x)/y≤255*(255-x):=Int.ediv_le_self _ (by omega)
   rw[wrap_id (n:=255-x) (by omega) (by omega),wrap_id (n:=255*(255-x)) (by omega) (by omega),Int.tdiv_eq_ediv_of_nonneg (by omega),wrap_id (n:=255*(255-x)/y) (by omega) (by omega)]
   refine c88 ⟨_,rfl,?_⟩
   rw[wrap_id (by omega) (by omega)]
   exact hR
 ·rw[if_neg h1,if_neg h2,if_neg h3,if_neg h4,if_neg h5,if_neg h6,if_neg h7,if_pos h8] at hR
  unfold hardP at hR
  refine br_dec (fun hg=>?_) fun hg=>?_
  ·rw[if_pos hg] at hR
   rw[wrap_id (n:=2*y) (by omega) (by omega)]
   exact rmul_call (by omega) (by omega) ⟨_,rfl,hR⟩
  ·rw[if_neg hg] at hR
   rw[wrap_id (n:=2*y) (by omega) (by omega),wrap_id (n:=2*y-255) (by omega) (by omega)]
   exact b2_call hx (by unfold byte;omega) ⟨_,rfl,hR⟩
 ·rw[if_neg h1,if_neg h2,if_neg h3,if_neg h4,if_neg h5,if_neg h6,if_neg h7,if_neg h8,if_pos h9] at hR
  refine c118 ⟨_,rfl,c88 ⟨_,rfl,?_⟩⟩
  rw[wrap_id (by omega) (by omega)]
  rw[show max (x-y) (y-x)=max x y-min x y from by omega] at hR
  exact hR
 ·rw[if_neg h1,if_neg h2,if_neg h3,if_neg h4,if_neg h5,if_neg h6,if_neg h7,if_neg h8,if_neg h9,if_pos h10] at hR
  rw[wrap_id (n:=x+y) (by omega) (by omega),wrap_id (n:=2*mulP x y) (by omega) (by omega),wrap_id (by omega) (by omega)]
  exact hR
 ·rw[if_neg h1,if_neg h2,if_neg h3,if_neg h4,if_neg h5,if_neg h6,if_neg h7,if_neg h8,if_neg h9,if_neg h10,if_pos h11] at hR
  have hxx:=mulP_bd hx hx
  have hxxy:=mulP_bd (mulP_byte hx hx) hy
  refine rmul_call (by omega) (by omega) ⟨_,rfl,rmul_call (by omega) (by omega) ⟨_,rfl,c118 ⟨_,rfl,c88 ⟨_,rfl,?_⟩⟩⟩⟩
  rw[wrap_id (n:=2*mulP x y) (by omega) (by omega),wrap_id (n:=mulP x x+2*mulP x y) (by omega) (by omega),wrap_id (n:=2*mulP (mulP x x) y) (by omega) (by omega),wrap_id (by omega) (by omega)]
  exact hR
 ·rw[if_neg h1,if_neg h2,if_neg h3,if_neg h4,if_neg h5,if_neg h6,if_neg h7,if_neg h8,if_neg h9,if_neg h10,if_neg h11] at hR
  exact hR
theorem partD_spl{v:Int}(hv:0≤v):partL v (partD 0)=(spl v).r∧partL v (partD 1)=(spl v).g∧partL v (partD 2)=(spl v).b∧partL v (partD 3)=(spl v).a:=by
 have e:partD 0=16777216∧partD 1=65536∧partD 2=256∧partD 3=1:=by decide
 obtain⟨e0,e1,e2,e3⟩:=e
 rw[e0,e1,e2,e3,partL_nn hv (by decide),partL_nn hv (by decide),partL_nn hv (by decide),partL_nn hv (by decide)]
 exact⟨rfl,rfl,rfl,by show v/1%256=v%256;omega⟩
theorem c53{v:Int}(hv:0≤v)(hR: ∀H',Ext H H'→R (.agg (ints (spl v).l).toArray) H'):CallsH Tryz.prog 53 #[.int .i64 v] H R:=by
 obtain⟨e0,e1,e2,e3⟩:=partD_spl hv
 refine Tryz.s53 ?_
 unfold Tryz.S53
 refine(St.nil H).alc fun b2 H3 hs3=>c89 (by decide) ⟨_,rfl,c89 (by decide) ⟨_,rfl,c89 (by decide) ⟨_,rfl,c89 (by decide) ⟨_,rfl,?_⟩⟩⟩⟩
 rw[e0,e1,e2,e3]
 exact⟨rfl,hs3.putAllA 0 (l:=(spl v).l) rfl rfl fun H16 hs16=>⟨_,rfl,rowIn_whole (hs16.block 0 rfl),hR H16 hs16.ext⟩⟩
theorem c55{c:C4}(h1:byte c.r)(h2:byte c.g)(h3:byte c.b)(h4:byte c.a)(hR: ∀H',Ext H H'→R (.int .i64 (joinP c)) H'):CallsH Tryz.prog 55 #[.agg (ints c.l).toArray] H R:=by
 refine Tryz.s55 ?_
 unfold Tryz.S55
 refine(St.nil H).alc fun b2 H3 hs3=>⟨by decide,by decide,c.r,hs3.rdA 0 (j:=0) rfl rfl,by decide,by decide,c.g,hs3.rdA 0 (j:=1) rfl rfl,by decide,by decide,c.b,hs3.rdA 0 (j:=2) rfl rfl,by decide,by decide,c.a,hs3.rdA 0 (j:=3) rfl rfl,?_⟩
 unfold byte at h1 h2 h3 h4
 rw[wrap_id (n:=c.r*256) (by omega) (by omega),wrap_id (n:=c.r*256+c.g) (by omega) (by omega),wrap_id (n:=(c.r*256+c.g)*256) (by omega) (by omega),wrap_id (n:=(c.r*256+c.g)*256+c.b) (by omega) (by omega),wrap_id (n:=((c.r*256+c.g)*256+c.b)*256) (by omega) (by omega),wrap_id (by omega) (by omega)]
 have:=hR H3 hs3.ext
 unfold joinP at this
 rw[show c.r*16777216+c.g*65536+c.b*256+c.a=((c.r*256+c.g)*256+c.b)*256+c.a from by omega] at this
 exact this
theorem c54{v f:Int}(hv:0≤v)(hf:byte f)(hR:R (.int .i64 (joinP (fadeP (spl v) f))) H):CallsH Tryz.prog 54 #[.int .i64 v,.int .i64 f] H R:=by
 obtain⟨e0,e1,e2,e3⟩:=partD_spl hv
 obtain⟨s1,s2,s3,s4⟩:=spl_byte v
 have m1:=mulP_byte s1 hf
 have m2:=mulP_byte s2 hf
 have m3:=mulP_byte s3 hf
 have m4:=mulP_byte s4 hf
 have hf':=hf
 unfold byte at s1 s2 s3 s4 hf' m1 m2 m3 m4
 refine Tryz.s54 ?_
 unfold Tryz.S54
 intro X hX
 refine hX _ _ _ (br_y (by decide) (c89 (by decide) ⟨_,rfl,?_⟩))
 rw[e0]
 refine rmul_call (by omega) (by omega) ⟨_,rfl,hX _ _ _ (br_y (by decide) (c89 (by decide) ⟨_,rfl,?_⟩))⟩
 rw[show IntKind.wrap .i64 ((0:Int)+1)=1 from by decide,e1]
 refine rmul_call (by omega) (by omega) ⟨_,rfl,hX _ _ _ (br_y (by decide) (c89 (by decide) ⟨_,rfl,?_⟩))⟩
 rw[show IntKind.wrap .i64 ((1:Int)+1)=2 from by decide,e2]
 refine rmul_call (by omega) (by omega) ⟨_,rfl,hX _ _ _ (br_y (by decide) (c89 (by decide) ⟨_,rfl,?_⟩))⟩
 rw[show IntKind.wrap .i64 ((2:Int)+1)=3 from by decide,e3]
 refine rmul_call (by omega) (by omega) ⟨_,rfl,hX _ _ _ (br_n (by decide) ?_)⟩
 rw[show IntKind.wrap .i64 ((256:Int)*0)=0 from by decide,wrap_id (n:=0+mulP (spl v).r f) (by omega) (by omega),wrap_id (n:=256*(0+mulP (spl v).r f)) (by omega) (by omega),wrap_id (n:=256*(0+mulP (spl v).r f)+mulP (spl v).g f) (by omega) (by omega),wrap_id (n:=256*(256*(0+mulP (spl v).r f)+mulP (spl v).g f)) (by omega) (by omega),wrap_id (n:=256*(256*(0+mulP (spl v).r f)+mulP (spl v).g f)+mulP (spl v).b f) (by omega) (by omega),wrap_id (n:=256*(256*(256*(0+mulP (spl v).r f)+mulP (spl v).g f)+mulP (spl v).b f)) (by omega) (by omega),wrap_id (by omega) (by omega)]
 unfold joinP fadeP at hR
 simp only at hR
 rw[show mulP (spl v).r f*16777216+mulP (spl v).g f*65536+mulP (spl v).b f*256+mulP (spl v).a f=256*(256*(256*(0+mulP (spl v).r f)+mulP (spl v).g f)+mulP (spl v).b f)+mulP (spl v).a f from by omega] at hR
 exact hR
end Go.Proofs
namespace Go.Proofs
open Go.Sh
variable {H0 H:Heap} {σ:List Rs} {R:Value→Heap→Prop}
theorem c52{mode:Int}{s d:C4}(hs:OkC s)(hd:OkC d)(hR: ∀H',Ext H H'→R (.agg (ints (blendP mode s d).l).toArray) H'):CallsH Tryz.prog 52 #[.int .i64 mode,.agg (ints s.l).toArray,.agg (ints d.l).toArray] H R:=by
 obtain⟨s1,s2,s3,s4⟩:=hs.bytes
 obtain⟨d1,d2,d3,d4⟩:=hd.bytes
 have ov:=over_bd s4 d4
 have mv:=mulP_byte s4 d4
 have w255s:IntKind.wrap .i64 (255-s.a)=255-s.a:=by unfold byte at*;exact wrap_id (by omega) (by omega)
 have w255d:IntKind.wrap .i64 (255-d.a)=255-d.a:=by unfold byte at*;exact wrap_id (by omega) (by omega)
 have hsum:IntKind.wrap .i64 (IntKind.wrap .i64 (s.a+d.a)-mulP s.a d.a)=s.a+d.a-mulP s.a d.a:=by
  unfold byte at*
  rw[wrap_id (n:=s.a+d.a) (by omega) (by omega),wrap_id (by omega) (by omega)]
 have bm: ∀{x:Int},byte x→0≤x∧x≤1000000:=fun h=>⟨h.1,by have:=h.2;omega⟩
 have hc: ∀{x:Int},byte x→byte (255-x):=fun h=>by unfold byte at*;omega
 have bb: ∀{x:Int},byte x→byte (bareP x d.a):=fun h=>bareP_byte h.1 d4.1
 have bs: ∀{x:Int},byte x→byte (bareP x s.a):=fun h=>bareP_byte h.1 s4.1
 have w: ∀{si di:Int},byte si→byte di→0≤blP mode (bareP di d.a) (bareP si s.a)∧blP mode (bareP di d.a) (bareP si s.a)≤1000000:=fun h1 h2=>by
  have:=blP_bd mode (bb h2) (bs h1);omega
 have fin: ∀{si di:Int},byte si→byte di→min (IntKind.wrap .i64 (IntKind.wrap .i64 (mulP si (255-d.a)+mulP di (255-s.a))+mulP (mulP s.a d.a) (blP mode (bareP di d.a) (bareP si s.a)))) (s.a+d.a-mulP s.a d.a)=mixP mode s.a d.a si di:=by
  intro si di hsi hdi
  have q1:=mulP_bd (a:=si) (b:=255-d.a) hsi (hc d4)
  have q2:=mulP_bd (a:=di) (b:=255-s.a) hdi (hc s4)
  have q3:=mulP_two mv (b:=blP mode (bareP di d.a) (bareP si s.a)) (by have:=blP_bd mode (bb hdi) (bs hsi);omega)
  unfold byte at*
  rw[wrap_id (n:=mulP si (255-d.a)+mulP di (255-s.a)) (by omega) (by omega),wrap_id (by omega) (by omega)]
  unfold mixP
  exact Int.min_comm _ _
 refine Tryz.s52 ?_
 unfold Tryz.S52
 refine(St.nil H).alc fun b4 H5 hs5=>hs5.alc fun b6 H7 hs7=>hs7.alc fun b8 H9 hs9=>hs9.alc fun b10 H11 hs11=>?_
 have hs11:St H H11 [.cell b10 (ints [0,0,0,0]).toArray 106,.cell b8 (ints [0,0,0,0]).toArray 106,.cell b6 (ints d.l).toArray 106,.cell b4 (ints s.l).toArray 106]:=hs11
 refine⟨by decide,by decide,s.a,hs11.rdA 3 (j:=3) rfl rfl,by decide,by decide,d.a,hs11.rdA 2 (j:=3) rfl rfl,?_⟩
 refine rmul_call (bm s4) (bm d4) ⟨_,rfl,by decide,by decide,s.a,hs11.rdA 3 (j:=3) rfl rfl,by decide,by decide,d.a,hs11.rdA 2 (j:=3) rfl rfl,by decide,by decide,?_⟩
 rw[hsum]
 refine hs11.putA 0 (j:=3) rfl (Nat.le_of_ble_eq_true rfl) fun H19 hs19=>?_
 intro X hX
 refine hX _ _ (br_y (by decide) ⟨by decide,by decide,s.r,hs19.rdA 3 (j:=0) rfl rfl,by decide,by decide,d.a,hs19.rdA 2 (j:=3) rfl rfl,by decide,by decide,d.r,hs19.rdA 2 (j:=0) rfl rfl,by decide,by decide,s.a,hs19.rdA 3 (j:=3) rfl rfl,by decide,by decide,d.r,hs19.rdA 2 (j:=0) rfl rfl,by decide,by decide,d.a,hs19.rdA 2 (j:=3) rfl rfl,by decide,by decide,s.r,hs19.rdA 3 (j:=0) rfl rfl,by decide,by decide,s.a,hs19.rdA 3 (j:=3) rfl rfl,?_⟩)
 rw[w255d,w255s]
 refine rmul_call (bm s1) (bm (hc d4)) ⟨_,rfl,.inl (Ext.refl _),rmul_call (bm d1) (bm (hc s4)) ⟨_,rfl,.inl (Ext.refl _),c83 (bm d1) (bm d4) ⟨_,rfl,.inl (Ext.refl _),c83 (bm s1) (bm s4) ⟨_,rfl,c87 (bb d1) (bs s1) ⟨_,rfl,rmul_call (bm mv) (w s1 d1) ⟨_,rfl,by decide,by decide,_,hs19.rdA 0 (j:=3) rfl rfl,c88 ⟨_,rfl,by decide,by decide,?_⟩⟩⟩⟩⟩⟩⟩
 rw[fin s1 d1]
 refine hs19.putA 0 (j:=0) rfl (Nat.le_of_ble_eq_true rfl) fun H20 hs20=>?_
 refine hX _ _ (br_y (by decide) ⟨by decide,by decide,s.g,hs20.rdA 3 (j:=1) rfl rfl,by decide,by decide,d.a,hs20.rdA 2 (j:=3) rfl rfl,by decide,by decide,d.g,hs20.rdA 2 (j:=1) rfl rfl,by decide,by decide,s.a,hs20.rdA 3 (j:=3) rfl rfl,by decide,by decide,d.g,hs20.rdA 2 (j:=1) rfl rfl,by decide,by decide,d.a,hs20.rdA 2 (j:=3) rfl rfl,by decide,by decide,s.g,hs20.rdA 3 (j:=1) rfl rfl,by decide,by decide,s.a,hs20.rdA 3 (j:=3) rfl rfl,?_⟩)
 rw[w255d,w255s]
 refine rmul_call (bm s2) (bm (hc d4)) ⟨_,rfl,.inl (Ext.refl _),rmul_call (bm d2) (bm (hc s4)) ⟨_,rfl,.inl (Ext.refl _),c83 (bm d2) (bm d4) ⟨_,rfl,.inl (Ext.refl _),c83 (bm s2) (bm s4) ⟨_,rfl,c87 (bb d2) (bs s2) ⟨_,rfl,rmul_call (bm mv) (w s2 d2) ⟨_,rfl,by decide,by decide,_,hs20.rdA 0 (j:=3) rfl rfl,c88 ⟨_,rfl,by decide,by decide,?_⟩⟩⟩⟩⟩⟩⟩
 rw[fin s2 d2]
 refine hs20.putA 0 (j:=1) rfl (Nat.le_of_ble_eq_true rfl) fun H21 hs21=>?_
 refine hX _ _ (br_y (by decide) ⟨by decide,by decide,s.b,hs21.rdA 3 (j:=2) rfl rfl,by decide,by decide,d.a,hs21.rdA 2 (j:=3) rfl rfl,by decide,by decide,d.b,hs21.rdA 2 (j:=2) rfl rfl,by decide,by decide,s.a,hs21.rdA 3 (j:=3) rfl rfl,by decide,by decide,d.b,hs21.rdA 2 (j:=2) rfl rfl,by decide,by decide,d.a,hs21.rdA 2 (j:=3) rfl rfl,by decide,by decide,s.b,hs21.rdA 3 (j:=2) rfl rfl,by decide,by decide,s.a,hs21.rdA 3 (j:=3) rfl rfl,?_⟩)
 rw[w255d,w255s]
 refine rmul_call (bm s3) (bm (hc d4)) ⟨_,rfl,.inl (Ext.refl _),rmul_call (bm d3) (bm (hc s4)) ⟨_,rfl,.inl (Ext.refl _),c83 (bm d3) (bm d4) ⟨_,rfl,.inl (Ext.refl _),c83 (bm s3) (bm s4) ⟨_,rfl,c87 (bb d3) (bs s3) ⟨_,rfl,rmul_call (bm mv) (w s3 d3) ⟨_,rfl,by decide,by decide,_,hs21.rdA 0 (j:=3) rfl rfl,c88 ⟨_,rfl,by decide,by decide,?_⟩⟩⟩⟩⟩⟩⟩
 rw[fin s3 d3]
 refine hs21.putA 0 (j:=2) rfl (Nat.le_of_ble_eq_true rfl) fun H22 hs22=>?_
 exact hX _ _ (br_n (by decide) ⟨_,rfl,rowIn_whole (hs22.block 0 rfl),rfl,hs22.putAllA 1 (l:=(blendP mode s d).l) rfl rfl fun H11 hs11=>⟨_,rfl,rowIn_whole (hs11.block 1 rfl),hR H11 hs11.ext⟩⟩)
theorem c86{w h:Int}{p:Option Addr}{l c:Nat}{P:List Int}{x y:Int}(hp:IS H p l (ints P))(hw:0≤w∧w≤32768)(hh:0≤h∧h≤32768)(hl:(P.length:Int)=w*h)(hR: ∀H',Ext H H'→R (.int .i64 (picAt w h P x y)) H'):CallsH Tryz.prog 86 #[.agg (picA w h p l c),.int .i64 x,.int .i64 y] H R:=by
 refine Tryz.s86 ?_
 unfold Tryz.S86
 refine(St.nil H).alc fun b4 H5 hs5=>?_
 intro J6 hJ6
 have out:(x<0∨x≥w∨y<0∨y≥h)→R (.int .i64 0) H5:=fun ho=>by
  have:=hR H5 hs5.ext
  rw[show picAt w h P x y=0 from by unfold picAt;rw[if_pos ho]] at this;exact this
 refine br_dec (fun h1=>out (.inl h1)) fun h1=>br_dec (fun h3=>out (.inr (.inr (.inl h3)))) fun h3=>⟨w,hs5.get 0 rfl (j:=0) rfl,br_dec (fun h2=>out (.inr (.inl h2))) fun h2=>⟨h,hs5.get 0 rfl (j:=1) rfl,br_dec (fun h4=>out (.inr (.inr (.inr h4)))) fun h4=>hJ6 _ ?_⟩⟩
 have hin:=in_pic hl (x:=x) (y:=y) (by omega) (by omega)
 have hlen:=hp.length
 have hwh:w*h≤32768*32768:=Int.mul_le_mul hw.2 hh.2 hh.1 (by decide)
 refine⟨p,l,c,hs5.get 0 rfl (j:=2) rfl,w,hs5.get 0 rfl (j:=0) rfl,?_⟩
 rw[wrap_id (n:=y*w) (by omega) (by omega),wrap_id (n:=y*w+x) (by omega) (by omega)]
 refine rdG (hp.ext hs5.ext) hin.1 (by omega) ?_
 have:=hR H5 hs5.ext
 rw[show picAt w h P x y=P.getD (y*w+x).toNat 0 from by unfold picAt;rw[if_neg (by omega)]] at this
 exact this
end Go.Proofs
namespace Go.Proofs
open Go.Sh
variable {H0 H:Heap} {σ:List Rs} {R:Value→Heap→Prop}
theorem dsum_eq{x0 x1 x2 x3 s t:Int}(hs:byte s)(ht:byte t)(h0:byte x0)(h1:byte x1)(h2:byte x2)(h3:byte x3):
 IntKind.wrap .i64 (Int.tdiv (IntKind.wrap .i64 (IntKind.wrap .i64 (IntKind.wrap .i64 (IntKind.wrap .i64 (IntKind.wrap .i64 (IntKind.wrap .i64 (x0*IntKind.wrap .i64 (256-s))*IntKind.wrap .i64 (256-t))+IntKind.wrap .i64 (IntKind.wrap .i64 (x1*s)*IntKind.wrap .i64 (256-t)))+IntKind.wrap .i64 (IntKind.wrap .i64 (x2*IntKind.wrap .i64 (256-s))*t))+IntKind.wrap .i64 (IntKind.wrap .i64 (x3*s)*t))+32768)) 65536)=wsum x0 x1 x2 x3 s t:=by
 have hb:=wsum_bd hs ht h0 h1 h2 h3
 unfold byte at hs ht h0 h1 h2 h3 hb
 rw[wrap_id (n:=256-s) (by omega) (by omega),wrap_id (n:=256-t) (by omega) (by omega)]
 have two: ∀{x a b:Int},0≤x∧x≤255→0≤a∧a≤256→0≤b∧b≤256→(0≤x*a∧x*a≤65280)∧0≤x*a*b∧x*a*b≤16711680:=by
  intro x a b hx ha hb
  have q1:=Int.mul_nonneg hx.1 ha.1
  have q2:x*a≤255*256:=Int.mul_le_mul hx.2 ha.2 ha.1 (by decide)
  have q3:=Int.mul_nonneg q1 hb.1
  have q4:x*a*b≤65280*256:=Int.mul_le_mul q2 hb.2 hb.1 (by decide)
  omega
 have p0:=two h0 (a:=256-s) (b:=256-t) (by omega) (by omega)
 have p1:=two h1 (a:=s) (b:=256-t) (by omega) (by omega)
 have p2:=two h2 (a:=256-s) (b:=t) (by omega) (by omega)
 have p3:=two h3 (a:=s) (b:=t) (by omega) (by omega)
 unfold wsum at hb ⊢
 rw[←Int.mul_assoc,←Int.mul_assoc,←Int.mul_assoc,←Int.mul_assoc] at hb ⊢
 rw[wrap_id (n:=x0*(256-s)) (by omega) (by omega),wrap_id (n:=x1*s) (by omega) (by omega),wrap_id (n:=x2*(256-s)) (by omega) (by omega),wrap_id (n:=x3*s) (by omega) (by omega)]
 generalize x0*(256-s)*(256-t)=q0 at*
 generalize x1*s*(256-t)=q1 at*
 generalize x2*(256-s)*t=q2 at*
 generalize x3*s*t=q3 at*
 rw[wrap_id (n:=q0) (by omega) (by omega),wrap_id (n:=q1) (by omega) (by omega),wrap_id (n:=q2) (by omega) (by omega),wrap_id (n:=q3) (by omega) (by omega),wrap_id (n:=q0+q1) (by omega) (by omega),wrap_id (n:=q0+q1+q2) (by omega) (by omega),wrap_id (n:=q0+q1+q2+q3) (by omega) (by omega),wrap_id (n:=q0+q1+q2+q3+32768) (by omega) (by omega),Int.tdiv_eq_ediv_of_nonneg (by omega),wrap_id (by omega) (by omega)]
 congr 1
 omega
theorem c85{w h:Int}{p:Option Addr}{l c:Nat}{P:List Int}{u v:Int}(hp:IS H p l (ints P))(hok:PicOk w h P)(hu: -1000000000000000≤u∧u≤1000000000000000)(hv: -1000000000000000≤v∧v≤1000000000000000)(hR: ∀H',Ext H H'→R (.int .i64 (joinP (smC w h P u v))) H'):CallsH Tryz.prog 85 #[.agg (picA w h p l c),.int .i64 u,.int .i64 v] H R:=by
 refine Tryz.s85 ?_
 unfold Tryz.S85
 refine(St.nil H).alc fun b4 H5 hs5=>?_
 rw[wrap_id (n:=u-32768) (by omega) (by omega),wrap_id (n:=v-32768) (by omega) (by omega)]
 refine c84 (by decide) (by decide) (by omega) ⟨_,rfl,c84 (by decide) (by decide) (by omega) ⟨_,rfl,by decide,by decide,?_⟩⟩
 have hs:byte ((u-32768)/256%256):=by unfold byte;omega
 have ht:byte ((v-32768)/256%256):=by unfold byte;omega
 have es:IntKind.wrap .i64 (Int.tdiv (IntKind.wrap .i64 ((u-32768)-IntKind.wrap .i64 ((65536:Int)*((u-32768)/65536)))) 256)=(u-32768)/256%256:=by
  rw[wrap_id (n:=65536*((u-32768)/65536)) (by omega) (by omega),wrap_id (n:=u-32768-65536*((u-32768)/65536)) (by omega) (by omega),Int.tdiv_eq_ediv_of_nonneg (by omega),wrap_id (by omega) (by omega)]
  omega
 have et:IntKind.wrap .i64 (Int.tdiv (IntKind.wrap .i64 ((v-32768)-IntKind.wrap .i64 ((65536:Int)*((v-32768)/65536)))) 256)=(v-32768)/256%256:=by
  rw[wrap_id (n:=65536*((v-32768)/65536)) (by omega) (by omega),wrap_id (n:=v-32768-65536*((v-32768)/65536)) (by omega) (by omega),Int.tdiv_eq_ediv_of_nonneg (by omega),wrap_id (by omega) (by omega)]
  omega
 intro X hX
 rw[es,et,wrap_id (n:=(u-32768)/65536+1) (by omega) (by omega),wrap_id (n:=(v-32768)/65536+1) (by omega) (by omega)] at hX
 have hsmok:=smC_ok hok u v
 unfold smC at hR hsmok
 generalize (u-32768)/65536=i at*
 generalize (v-32768)/65536=j at*
 generalize (u-32768)/256%256=s at*
 generalize (v-32768)/256%256=t at*
 dsimp only at hR hsmok
 have n0:=fun x y=>(pixelB_iff.1 (hok.at x y)).1.1
 have at_: ∀{H1:Heap} {R1:Value→Heap→Prop} (x y:Int),Ext H H1→(∀H',Ext H1 H'→R1 (.int .i64 (picAt w h P x y)) H')→CallsH Tryz.prog 86 #[.agg (picA w h p l c),.int .i64 x,.int .i64 y] H1 R1:=fun x y he hr=>c86 (hp.ext he) hok.hw hok.hh hok.len hr
 have step: ∀(k:Int) (ou:Int) (H1:Heap),0≤k∧k≤3→St H H1 [.cell b4 (picA w h p l c) 141]→
  (∀H2,St H H2 [.cell b4 (picA w h p l c) 141]→X [.int .i64 (IntKind.wrap .i64 (IntKind.wrap .i64 (256*ou)+wsum (partL (picAt w h P i j) (partD k)) (partL (picAt w h P (i+1) j) (partD k)) (partL (picAt w h P i (j+1)) (partD k)) (partL (picAt w h P (i+1) (j+1)) (partD k)) s t)),.int .i64 (IntKind.wrap .i64 (k+1))] H2)→X [.int .i64 ou,.int .i64 k] H1:=by
  intro k ou H1 hc hs1 hK
  have pb: ∀x y,byte (partL (picAt w h P x y) (partD k)):=fun x y=>by
   obtain⟨e0,e1,e2,e3⟩:=partD_spl (n0 x y)
   obtain⟨s1,s2,s3,s4⟩:=spl_byte (picAt w h P x y)
   obtain rfl|rfl|rfl|rfl:k=0∨k=1∨k=2∨k=3:=by omega
   ·rw[e0];exact s1
   ·rw[e1];exact s2
   ·rw[e2];exact s3
   ·rw[e3];exact s4
  refine hX _ _ _ (br_y (by omega) ⟨_,rfl,rowIn_whole (hs1.block 0 rfl),at_ i j hs1.ext fun H2 he2=>⟨_,rfl,c89 hc ⟨_,rfl,_,rfl,rowIn_whole ((hs1.step he2).block 0 rfl),at_ (i+1) j (hs1.step he2).ext fun H3 he3=>⟨_,rfl,c89 hc ⟨_,rfl,_,rfl,rowIn_whole (((hs1.step he2).step he3).block 0 rfl),at_ i (j+1) ((hs1.step he2).step he3).ext fun H4 he4=>⟨_,rfl,c89 hc ⟨_,rfl,_,rfl,rowIn_whole ((((hs1.step he2).step he3).step he4).block 0 rfl),at_ (i+1) (j+1) (((hs1.step he2).step he3).step he4).ext fun H5 he5=>⟨_,rfl,c89 hc ⟨_,rfl,by decide,?_⟩⟩⟩⟩⟩⟩⟩⟩⟩)
  rw[dsum_eq hs ht (pb i j) (pb (i+1) j) (pb i (j+1)) (pb (i+1) (j+1))]
  exact hK H5 ((((hs1.step he2).step he3).step he4).step he5)
 obtain⟨a0,a1,a2,a3⟩:=partD_spl (n0 i j)
 obtain⟨c0,c1,c2,c3⟩:=partD_spl (n0 (i+1) j)
 obtain⟨d0,d1,d2,d3⟩:=partD_spl (n0 i (j+1))
 obtain⟨f0,f1,f2,f3⟩:=partD_spl (n0 (i+1) (j+1))
 refine step 0 0 H5 (by decide) hs5 fun H6 hs6=>?_
 rw[show IntKind.wrap .i64 ((0:Int)+1)=1 from by decide,a0,c0,d0,f0]
 refine step 1 _ H6 (by decide) hs6 fun H7 hs7=>?_
 rw[show IntKind.wrap .i64 ((1:Int)+1)=2 from by decide,a1,c1,d1,f1]
 refine step 2 _ H7 (by decide) hs7 fun H8 hs8=>?_
 rw[show IntKind.wrap .i64 ((2:Int)+1)=3 from by decide,a2,c2,d2,f2]
 refine step 3 _ H8 (by decide) hs8 fun H9 hs9=>?_
 rw[show IntKind.wrap .i64 ((3:Int)+1)=4 from by decide,a3,c3,d3,f3]
 refine hX _ _ _ (br_n (by decide) ?_)
 have:=hR H9 hs9.ext
 obtain⟨b1,b2,b3,b4'⟩:=hsmok.bytes
 unfold byte at b1 b2 b3 b4'
 unfold joinP at this
 dsimp only at this b1 b2 b3 b4'
 generalize wsum (spl (picAt w h P i j)).r _ _ _ s t=w0 at*
 generalize wsum (spl (picAt w h P i j)).g _ _ _ s t=w1 at*
 generalize wsum (spl (picAt w h P i j)).b _ _ _ s t=w2 at*
 generalize wsum (spl (picAt w h P i j)).a _ _ _ s t=w3 at*
 rw[show IntKind.wrap .i64 ((256:Int)*0)=0 from by decide,wrap_id (n:=0+w0) (by omega) (by omega),wrap_id (n:=256*(0+w0)) (by omega) (by omega),wrap_id (n:=256*(0+w0)+w1) (by omega) (by omega),wrap_id (n:=256*(256*(0+w0)+w1)) (by omega) (by omega),wrap_id (n:=256*(256*(0+w0)+w1)+w2) (by omega) (by omega),wrap_id (n:=256*(256*(256*(0+w0)+w1)+w2)) (by omega) (by omega),wrap_id (by omega) (by omega)]
 rw[show w0*16777216+w1*65536+w2*256+w3=256*(256*(256*(0+w0)+w1)+w2)+w3 from by omega] at this
 exact this
end Go.Proofs
namespace Go.Proofs
open Go.Sh
variable {H0 H:Heap} {σ:List Rs} {R:Value→Heap→Prop}
theorem rcrv_call{p:Option Addr}{n c:Nat}{ps:List Int}{v:Int}(h:IS H p n (ints ps))(hok:CrvOk ps)(hv:0≤v∧v≤255)(hR:R (.int .i64 (crvV ps v)) H):CallsH Tryz.prog 96 #[.slice p n c,.int .i64 v] H R:=by
 refine Tryz.s96 ?_
 unfold Tryz.S96
 have hlen:=h.length
 obtain⟨l1,l2,l3⟩:=hok.len
 refine rdG (i:=0) h (by omega) (by omega) (br_dec (fun h1=>rdG (i:=1) h (by omega) (by omega) ?_) fun h1=>?_)
 ·rw[show crvV ps v=ps.getD 1 0 from by unfold crvV;rw[if_pos (show v≤ps.getD 0 0 from h1)]] at hR
  exact hR
 have h1: ¬v≤ps.getD 0 0:=h1
 intro X hX
 have go: ∀j,j≤16→2*j+2≤n→ps.getD (2*j) 0≤v→crvV ps v=crvG ps v (16-j) (2*j)→X [.int .i64 ((2*j+2:Nat):Int)] H:=by
  refine upto fun j hj ih2 hjn hpj hcv=>hX _ _ (br_dec (fun hlt=>?_) fun hge=>?_)
  ·rw[show 16-j=(16-(j+1))+1 from by omega] at hcv
   unfold crvG at hcv
   rw[if_pos (by omega)] at hcv
   rw[wrap_id (n:=((2*j+2:Nat):Int)-1) (by omega) (by omega),wrap_id (n:=((2*j+2:Nat):Int)+1) (by omega) (by omega),wrap_id (n:=((2*j+2:Nat):Int)-2) (by omega) (by omega),wrap_id (n:=((2*j+2:Nat):Int)+2) (by omega) (by omega)]
   refine rdG (i:=((2*j+2:Nat):Int)) h (by omega) (by omega) ?_
   rw[Int.toNat_natCast]
   refine br_dec (fun hlt2=>?_) fun hle=>?_
   ·rw[if_pos (by omega)] at hcv
    refine rdG (i:=((2*j+2:Nat):Int)-1) h (by omega) (by omega) (rdG (i:=((2*j+2:Nat):Int)+1) h (by omega) (by omega) (rdG (i:=((2*j+2:Nat):Int)-1) h (by omega) (by omega) (rdG (i:=((2*j+2:Nat):Int)-2) h (by omega) (by omega) (rdG (i:=((2*j+2:Nat):Int)) h (by omega) (by omega) (rdG (i:=((2*j+2:Nat):Int)-2) h (by omega) (by omega) ?_)))))
    rw[show Int.toNat (((2*j+2:Nat):Int)-1)=2*j+1 from by omega,show Int.toNat (((2*j+2:Nat):Int)+1)=2*j+3 from by omega,show Int.toNat (((2*j+2:Nat):Int)-2)=2*j from by omega,Int.toNat_natCast]
    have hi:=hok.inc (2*j+2) (by omega) (by omega) (by omega)
    rw[show 2*j+2-2=2*j from by omega] at hi
    have r0:=hok.rng (2*j)
    have r1:=hok.rng (2*j+1)
    have r2:=hok.rng (2*j+2)
    have r3:=hok.rng (2*j+3)
    have hb:=segV_byte hok (v:=v) (j:=2*j) (by omega) (by omega) hpj (by omega)
    rw[hcv] at hR
    unfold segV at hb hR
    unfold byte at hb
    generalize ps.getD (2*j) 0=a at*
    generalize ps.getD (2*j+1) 0=b at*
    generalize ps.getD (2*j+2) 0=cc at*
    generalize ps.getD (2*j+3) 0=d at*
    have hm: -65025≤(d-b)*(v-a)∧(d-b)*(v-a)≤65025:=mul_bd (x:=d-b) (y:=v-a) (A:=255) (B:=255) (by omega) (by omega)
    rw[wrap_id (n:=d-b) (by omega) (by omega),wrap_id (n:=v-a) (by omega) (by omega),wrap_id (n:=cc-a) (by omega) (by omega),wrap_id (n:=(d-b)*(v-a)) (by omega) (by omega)]
    refine⟨by omega,?_⟩
    generalize Int.tdiv ((d-b)*(v-a)) (cc-a)=q at hb hR ⊢
    rw[wrap_id (n:=q) (by omega) (by omega),wrap_id (by omega) (by omega)]
    exact hR
   ·rw[if_neg (by omega)] at hcv
    have:=ih2 (by omega) (by omega) (by rw[show 2*(j+1)=2*j+2 from by omega];omega) (by rw[hcv,show 2*(j+1)=2*j+2 from by omega])
    rw[show((2*(j+1)+2:Nat):Int)=((2*j+2:Nat):Int)+2 from by omega] at this
    exact this
  ·rw[show 16-j=(16-(j+1))+1 from by omega] at hcv
   unfold crvG at hcv
   rw[if_neg (by omega)] at hcv
   rw[wrap_id (n:=(n:Int)-1) (by omega) (by omega)]
   refine rdG (i:=(n:Int)-1) h (by omega) (by omega) ?_
   rw[show Int.toNat ((n:Int)-1)=ps.length-1 from by omega,←hcv]
   exact hR
 exact go 0 (by omega) (by omega) (by rw[Nat.mul_zero];omega) (by unfold crvV;rw[if_neg h1])
theorem tab_put{b:Nat}{H1:Heap}{L:List Int}{k:Nat}{v:Int}{f:Heap→Prop}(hs:St H0 H1 (.cell b (ints (fillA L k)).toArray 3::σ))(hL:L.length=256)(hk:k<256)(hv:v=L.getD k 0)(hf: ∀H2,St H0 H2 (.cell b (ints (fillA L (k+1))).toArray 3::σ)→f H2):
 ∃a11:Addr,(some ⟨b,0,none⟩)=some a11∧0≤(k:Int)∧(k:Int)<(((Int.toNat (256:Int)):Nat):Int)∧stAt H1 (Addr.add a11 (Int.toNat (k:Int)*1)) [Value.int .i64 v] f:=by
 refine⟨_,rfl,by omega,by show(k:Int)<256;omega,?_⟩
 rw[show Int.toNat (k:Int)*1=k from Nat.mul_one k,add_none,Nat.zero_add]
 refine hs.putA 0 rfl (by rw[fillA_len (by omega)];omega) fun H2 hs2=>hf H2 ?_
 have e:=fill_put (L:=L) (k:=k) (v:=v) (by omega) hv
 have hs2:St H0 H2 (.cell b (ints ((fillA L k).set k v)).toArray 3::σ):=hs2
 rw[e] at hs2
 exact hs2
theorem tab_skip{b:Nat}{H1:Heap}{L:List Int}{k:Nat}(hs:St H0 H1 (.cell b (ints (fillA L k)).toArray 3::σ))(hk:k<L.length)(hz:L.getD k 0=0):St H0 H1 (.cell b (ints (fillA L (k+1))).toArray 3::σ):=by
 have e:=fillA_set (L:=L) (s:=k) hk
 rw[hz,fillA_set0 hk] at e
 rw[←e];exact hs
theorem lvl_cases{a b v:Int}(h:a<b)(hv:0≤v∧v≤255)(ha:0≤a∧b≤255):min 255 ((255*max 0 (v-a)+(b-a)/2)/(b-a))=if v≥b then 255 else if v>a then(255*(v-a)+(b-a)/2)/(b-a) else 0:=by
 by_cases h1:v≥b
 ·rw[if_pos h1]
  have:255≤(255*max 0 (v-a)+(b-a)/2)/(b-a):=(Int.le_ediv_iff_mul_le (by omega)).2 (by omega)
  omega
 rw[if_neg h1]
 by_cases h2:v>a
 ·rw[if_pos h2,show max 0 (v-a)=v-a from by omega]
  have:(255*(v-a)+(b-a)/2)/(b-a)<256:=Int.ediv_lt_of_lt_mul (by omega) (by omega)
  omega
 ·rw[if_neg h2,show max 0 (v-a)=0 from by omega]
  have:(255*0+(b-a)/2)/(b-a)=0:=Int.ediv_eq_zero_of_lt (by omega) (by omega)
  rw[this];rfl
theorem rtab_call{kind:Int}{p:Option Addr}{n c:Nat}{ps:List Int}(h:IS H p n (ints ps))(hn:n≤1000000000000)(hb:tabB kind ps=true)
 (hR: ∀b H',St H H' [.cell b (ints (tabL kind ps)).toArray 3]→R (.tuple #[.slice (some ⟨b,0,none⟩) 256 256,.bool true]) H'):CallsH Tryz.prog 64 #[.int .i64 kind,.slice p n c] H R:=by
 refine Tryz.s64 ?_
 unfold Tryz.S64
 have hlen:=h.length
 have hrng:=tabB_rng hb
 have hkind:=tabB_kind hb
 unfold kindP at hkind
 have hL:=tabL_len kind ps
 have full:fillA (tabL kind ps) 256=tabL kind ps:=by have:=fillA_all (tabL kind ps);rw[tabL_len] at this;exact this
 intro X hX
 have go: ∀k,k≤n→X [.int .i64 (k:Nat)] H:=by
  refine upto fun k hk ih=>hX _ _ (br_dec (fun hlt=>?_) fun hge=>?_)
  ·have hk':k<n:=by omega
   have r:=hrng k
   refine rdG (i:=(k:Int)) h (by omega) hlt (br_dec (fun h3=>?_) fun h3=>rdG (i:=(k:Int)) h (by omega) hlt (br_dec (fun h4=>?_) fun h4=>?_))
   ·rw[Int.toNat_natCast] at h3;omega
   ·rw[Int.toNat_natCast] at h4;omega
   ·rw[wrap_id (by omega) (by omega)]
    exact ih hk'
  ·have hkn:k=n:=by omega
   refine⟨by decide,by decide,by decide,by decide,?_⟩
   rw[repsA256]
   refine(St.nil H).alc fun b10 H11 hs11=>?_
   have g0:=h.ext hs11.ext
   have hs11:St H H11 [.cell b10 (ints (fillA (tabL kind ps) 0)).toArray 3]:=by rw[fillA_zero,hL];exact hs11
   refine br_eq (fun k0=>?_) fun k0=>br_eq (fun k1=>?_) fun k1=>br_eq (fun k2=>?_) fun k2=>br_eq (fun k3=>?_) fun k3=>?_
   ·rw[if_pos k0] at hkind
    have hk2:=of_decide_eq_true hkind
    have r0:=hrng 0
    have r1:=hrng 1
    have hv: ∀m:Nat,m<256→(tabL kind ps).getD m 0=if (m:Int)≥ps.getD 1 0 then 255 else if (m:Int)>ps.getD 0 0 then(255*((m:Int)-ps.getD 0 0)+(ps.getD 1 0-ps.getD 0 0)/2)/(ps.getD 1 0-ps.getD 0 0) else 0:=fun m hm=>by
     rw[tabL_at hm]
     unfold tabV
     rw[if_neg (by omega),if_pos k0]
     exact lvl_cases hk2.2 (by omega) (by omega)
    intro J12 hJ12
    refine br_ne (fun hne=>absurd hk2.1 (by omega)) fun he=>rdG (i:=0) g0 (by omega) (by omega) (rdG (i:=1) g0 (by omega) (by omega) (br_dec (fun hge=>absurd hk2.2 (by have:ps.getD 0 0≥ps.getD 1 0:=hge;omega)) fun hlt=>hJ12 _ ?_))
    intro X14 hX14
    have go2: ∀k,k≤256→ ∀H1,St H H1 [.cell b10 (ints (fillA (tabL kind ps) k)).toArray 3]→X14 [.int .i64 (k:Nat)] H1:=by
     refine upto fun k hk ih H1 hs1=>hX14 _ _ (br_dec (fun hlt=>?_) fun hge=>?_)
     ·have hk':k<256:=by have:(k:Int)<256:=hlt;omega
      have g1:=h.ext hs1.ext
      have e:=hv k hk'
      have nx: ∀H2,St H H2 [.cell b10 (ints (fillA (tabL kind ps) (k+1))).toArray 3]→X14 [.int .i64 (IntKind.wrap .i64 ((k:Int)+1))] H2:=fun H2 hs2=>by
       rw[wrap_id (by omega) (by omega)]
       exact ih hk' H2 hs2
      refine rdG (i:=1) g1 (by omega) (by omega) (br_dec (fun h1=>tab_put hs1 hL hk' ?_ nx) fun h1=>rdG (i:=0) g1 (by omega) (by omega) (br_dec (fun h2=>rdG (i:=0) g1 (by omega) (by omega) (rdG (i:=1) g1 (by omega) (by omega) (rdG (i:=0) g1 (by omega) (by omega) ⟨by decide,rdG (i:=1) g1 (by omega) (by omega) (rdG (i:=0) g1 (by omega) (by omega) ⟨?_,tab_put hs1 hL hk' ?_ nx⟩)⟩))) fun h2=>nx H1 (tab_skip hs1 (by omega) ?_)))
      ·rw[e,if_pos (show(k:Int)≥ps.getD 1 0 from h1)]
      ·show IntKind.wrap .i64 (ps.getD 1 0-ps.getD 0 0)≠0
       rw[wrap_id (by omega) (by omega)];omega
      ·rw[e,if_neg (show ¬(k:Int)≥ps.getD 1 0 from h1),if_pos (show(k:Int)>ps.getD 0 0 from h2)]
       show IntKind.wrap .i64 (Int.tdiv (IntKind.wrap .i64 (IntKind.wrap .i64 (255*IntKind.wrap .i64 ((k:Int)-ps.getD 0 0))+IntKind.wrap .i64 (Int.tdiv (IntKind.wrap .i64 (ps.getD 1 0-ps.getD 0 0)) 2))) (IntKind.wrap .i64 (ps.getD 1 0-ps.getD 0 0)))=_
       have h2:(k:Int)>ps.getD 0 0:=h2
       have hlt2:=hk2.2
       generalize ps.getD 0 0=a at*
       generalize ps.getD 1 0=b at*
       have q1:0≤(255*((k:Int)-a)+(b-a)/2)/(b-a):=Int.ediv_nonneg (by omega) (by omega)
       have q2:(255*((k:Int)-a)+(b-a)/2)/(b-a)≤255*((k:Int)-a)+(b-a)/2:=Int.ediv_le_self _ (by omega)
       rw[wrap_id (n:=(k:Int)-a) (by omega) (by omega),wrap_id (n:=b-a) (by omega) (by omega),Int.tdiv_eq_ediv_of_nonneg (a:=b-a) (by omega),wrap_id (n:=(b-a)/2) (by omega) (by omega),wrap_id (n:=255*((k:Int)-a)) (by omega) (by omega),wrap_id (n:=255*((k:Int)-a)+(b-a)/2) (by omega) (by omega),Int.tdiv_eq_ediv_of_nonneg (by omega),wrap_id (by omega) (by omega)]
      ·rw[e,if_neg (show ¬(k:Int)≥ps.getD 1 0 from h1),if_neg (show ¬(k:Int)>ps.getD 0 0 from h2)]
     ·have:k=256:=by have: ¬(k:Int)<256:=hge;omega
      subst this
      rw[full] at hs1
      exact hR b10 H1 hs1
    exact go2 0 (by omega) H11 hs11
   ·subst k1
    have hok:=tabB_crv hb
    obtain⟨l1,l2,l3⟩:=hok.len
    intro J39 hJ39
    refine br_dec (fun hh=>by omega) fun _=>br_dec (fun hh=>by omega) fun _=>⟨by decide,br_eq (fun hh=>by rw[Int.tmod_eq_emod_of_nonneg (by omega)] at hh;omega) fun _=>hJ39 _ ?_⟩
    intro X41 hX41
    have go3: ∀j,j≤16→2*j+2≤n→X41 [.int .i64 ((2*j+2:Nat):Int)] H11:=by
     refine upto fun j hj ih3 hjn=>hX41 _ _ (br_dec (fun hlt=>?_) fun hge=>?_)
     ·rw[wrap_id (n:=((2*j+2:Nat):Int)-2) (by omega) (by omega),wrap_id (n:=((2*j+2:Nat):Int)+2) (by omega) (by omega)]
      refine rdG (i:=((2*j+2:Nat):Int)) g0 (by omega) (by omega) (rdG (i:=((2*j+2:Nat):Int)-2) g0 (by omega) (by omega) (br_dec (fun hle=>?_) fun hgt=>?_))
      ·have hi:=hok.inc (2*j+2) (by omega) (by omega) (by omega)
       rw[Int.toNat_natCast,show Int.toNat (((2*j+2:Nat):Int)-2)=2*j+2-2 from by omega] at hle
       omega
      ·have:=ih3 (by omega) (by omega)
       rw[show((2*(j+1)+2:Nat):Int)=((2*j+2:Nat):Int)+2 from by omega] at this
       exact this
     ·intro X48 hX48
      have go4: ∀k,k≤256→ ∀H1,St H H1 [.cell b10 (ints (fillA (tabL 1 ps) k)).toArray 3]→X48 [.int .i64 (k:Nat)] H1:=by
       refine upto fun k hk ih H1 hs1=>hX48 _ _ (br_dec (fun hlt=>?_) fun hge=>?_)
       ·have hk':k<256:=by have:(k:Int)<256:=hlt;omega
        refine rcrv_call (h.ext hs1.ext) hok (by omega) ⟨_,rfl,tab_put hs1 hL hk' (by rw[tabL_at hk'];rfl) fun H2 hs2=>?_⟩
        rw[wrap_id (by omega) (by omega)]
        exact ih hk' H2 hs2
       ·have:k=256:=by have: ¬(k:Int)<256:=hge;omega
        subst this
        rw[full] at hs1
        exact hR b10 H1 hs1
      exact go4 0 (by omega) H11 hs11
    exact go3 0 (by omega) (by omega)
   ·intro X56 hX56
    have hv: ∀m:Nat,m<256→(tabL kind ps).getD m 0=255-(m:Int):=fun m hm=>by
     rw[tabL_at hm]
     unfold tabV
     rw[if_neg k1,if_neg k0,if_pos k2]
    rw[if_neg k0,if_neg k1,if_pos k2] at hkind
    have hl0:=of_decide_eq_true hkind
    have go2: ∀k,k≤256→ ∀H1,St H H1 [.cell b10 (ints (fillA (tabL kind ps) k)).toArray 3]→X56 [.int .i64 (k:Nat)] H1:=by
     refine upto fun k hk ih H1 hs1=>hX56 _ _ (br_dec (fun hlt=>?_) fun hge=>?_)
     ·have hk':k<256:=by have:(k:Int)<256:=hlt;omega
      refine tab_put hs1 hL hk' (by rw[hv k hk',wrap_id (by omega) (by omega)]) fun H2 hs2=>?_
      rw[wrap_id (by omega) (by omega)]
      exact ih hk' H2 hs2
     ·have:k=256:=by have: ¬(k:Int)<256:=hge;omega
      subst this
      rw[full] at hs1
      have:=hR b10 H1 hs1
      rw[show(((n:Nat):Int)==0)=true from by rw[beq_iff_eq];omega]
      exact this
    exact go2 0 (by omega) H11 hs11
   ·rw[if_neg k0,if_neg k1,if_neg k2,if_pos k3] at hkind
    have hl1:=of_decide_eq_true hkind
    have hv: ∀m:Nat,m<256→(tabL kind ps).getD m 0=if (m:Int)≥ps.getD 0 0 then 255 else 0:=fun m hm=>by
     rw[tabL_at hm]
     unfold tabV
     rw[if_neg k1,if_neg k0,if_neg k2]
    refine br_ne (fun hne=>absurd hl1 (by omega)) fun he=>rdG (i:=0) g0 (by omega) (by omega) ?_
    have r0:=hrng 0
    rw[show Int.toNat 0=0 from rfl]
    generalize ps.getD 0 0=q at r0 hv
    obtain⟨m,rfl⟩: ∃m:Nat,q=m:=⟨q.toNat,by omega⟩
    intro X63 hX63
    have go2: ∀k,k≤256→m≤k→ ∀H1,St H H1 [.cell b10 (ints (fillA (tabL kind ps) k)).toArray 3]→X63 [.int .i64 (k:Nat)] H1:=by
     refine upto fun k hk ih hmk H1 hs1=>hX63 _ _ (br_dec (fun hlt=>?_) fun hge=>?_)
     ·have hk':k<256:=by have:(k:Int)<256:=hlt;omega
      refine tab_put hs1 hL hk' (by rw[hv k hk',if_pos (by omega)]) fun H2 hs2=>?_
      rw[wrap_id (by omega) (by omega)]
      exact ih hk' (by omega) H2 hs2
     ·have:k=256:=by have: ¬(k:Int)<256:=hge;omega
      subst this
      rw[full] at hs1
      exact hR b10 H1 hs1
    have low: ∀k,k≤m→St H H11 [.cell b10 (ints (fillA (tabL kind ps) k)).toArray 3]:=by
     intro k
     induction k with
     |zero=>intro _;exact hs11
     |succ k ih=>intro hk;exact tab_skip (ih (by omega)) (by omega) (by rw[hv k (by omega),if_neg (by omega)])
    exact go2 m (by omega) (Nat.le_refl _) H11 (low m (Nat.le_refl _))
   ·rw[if_neg k0,if_neg k1,if_neg k2,if_neg k3] at hkind
    cases hkind
 exact go 0 (by omega)
end Go.Proofs
namespace Go.Proofs
open Go.Sh
variable {H0 H:Heap} {σ:List Rs} {R:Value→Heap→Prop}
theorem c49{r:RT}{at_:Int}(hr:rdR H r)(hop:byte r.f.opacity)(hmv: ∀c∈r.f.mask,c=0∨c=255)(hat:r.f.mask.length≠0→0≤at_∧at_<r.f.mask.length)(hR: ∀H',Ext H H'→R (.int .i64 (partP r.f at_)) H'):CallsH Tryz.prog 49 #[.agg (cellsR r).toArray,.int .i64 at_] H R:=by
 refine Tryz.s49 ?_
 unfold Tryz.S49
 have hml:=hr.mask.length
 refine(St.nil H).alc fun b3 H4 hs4=>⟨_,_,_,hs4.get 0 rfl (j:=9) rfl,br_eq (fun h0=>⟨_,hs4.get 0 rfl (j:=4) rfl,?_⟩) fun h0=>⟨_,hs4.get 0 rfl (j:=4) rfl,_,_,_,hs4.get 0 rfl (j:=9) rfl,?_⟩⟩
 ·have:=hR H4 hs4.ext
  unfold partP at this
  rw[if_pos (by omega)] at this
  exact this
 ·have hn:r.f.mask.length≠0:=by omega
  obtain⟨a1,a2⟩:=hat hn
  have hv:=getD_some r.f.mask 0 (i:=at_.toNat) (by omega)
  have hc:=hmv _ (List.mem_of_getElem? hv)
  refine(hr.mask.ext hs4.ext).rd (k:= .u8) (i:=at_) a1 (by omega) hv ?_
  have:=hR H4 hs4.ext
  unfold partP at this
  rw[if_neg hn] at this
  unfold byte at hop
  generalize r.f.mask.getD at_.toNat 0=m at hc this
  rw[wrap_id (n:=m) (by omega) (by omega)]
  exact rmul_call (by omega) (by omega) ⟨_,rfl,this⟩
theorem mapR(r:RT): ∀(j:Nat) (v:Value),((ints r.f.map.l).toArray)[j]?=some v→(cellsR r).toArray[10+j]?=some v
 |0,_,h=>h
 |1,_,h=>h
 |2,_,h=>h
 |3,_,h=>h
 |4,_,h=>h
 |5,_,h=>h
 |n+6,_,h=>by simp[ints,M6.l] at h
theorem atD_eq{b0 b1 b4 x y:Int}(h0: -16777216≤b0∧b0≤16777216)(h1: -16777216≤b1∧b1≤16777216)(h4: -68719476736≤b4∧b4≤68719476736)(hx:0≤x∧x≤65536)(hy:0≤y∧y≤65536):
 IntKind.wrap .i64 (IntKind.wrap .i64 (b0*IntKind.wrap .i64 (IntKind.wrap .i64 (2*x)+1))+IntKind.wrap .i64 (b1*IntKind.wrap .i64 (IntKind.wrap .i64 (2*y)+1)))=b0*(2*x+1)+b1*(2*y+1)∧(-10000000000000≤b0*(2*x+1)+b1*(2*y+1)∧b0*(2*x+1)+b1*(2*y+1)≤10000000000000)∧IntKind.wrap .i64 ((b0*(2*x+1)+b1*(2*y+1))/2+b4)=atU b0 b1 b4 x y∧ -1000000000000000≤atU b0 b1 b4 x y∧atU b0 b1 b4 x y≤1000000000000000:=by
 have p0:=mul_bd (x:=b0) (y:=2*x+1) (A:=16777216) (B:=131073) h0 (by omega)
 have p1:=mul_bd (x:=b1) (y:=2*y+1) (A:=16777216) (B:=131073) h1 (by omega)
 unfold atU
 rw[wrap_id (n:=2*x) (by omega) (by omega),wrap_id (n:=2*y) (by omega) (by omega),wrap_id (n:=2*x+1) (by omega) (by omega),wrap_id (n:=2*y+1) (by omega) (by omega)]
 generalize b0*(2*x+1)=q0 at*
 generalize b1*(2*y+1)=q1 at*
 rw[wrap_id (n:=q0) (by omega) (by omega),wrap_id (n:=q1) (by omega) (by omega),wrap_id (n:=q0+q1) (by omega) (by omega),wrap_id (by omega) (by omega)]
 exact⟨rfl,by omega,rfl,by omega,by omega⟩
theorem c51{r:RT}{x y:Int}(hr:rdR H r)(hok:PicOk r.f.w r.f.h r.f.p)(hx:0≤x∧x≤65536)(hy:0≤y∧y≤65536)(hR: ∀H',Ext H H'→R (.int .i64 (seenP r.f x y)) H'):CallsH Tryz.prog 51 #[.agg (cellsR r).toArray,.int .i64 x,.int .i64 y] H R:=by
 obtain⟨m0,m1,m2,m3,m4,m5⟩:=(backM_ok r.f.map).ok
 refine Tryz.s51 ?_
 unfold Tryz.S51
 unfold seenP atP at hR
 refine(St.nil H).alc fun b4 H5 hs5=>⟨(ints r.f.map.l).toArray,rfl,rowIn_block (hs5.block 0 rfl) (mapR r),c63 fun H8 he8=>⟨_,_,rfl,?_⟩⟩
 generalize (backM r.f.map).2=m at*
 obtain⟨eu,du,fu,bu⟩:=atD_eq m0 m1 m4 hx hy
 obtain⟨ev,dv,fv,bv⟩:=atD_eq m2 m3 m5 hx hy
 refine(hs5.step he8).alc fun b11 H12 hs12=>⟨rfl,hs12.putAllA 0 (l:=m.l) rfl rfl fun H13 hs13=>?_⟩
 have hs13:St H H13 [.cell b11 (ints m.l).toArray 59,.cell b4 (cellsR r).toArray 82]:=hs13
 refine⟨_,hs13.get 1 rfl (j:=6) rfl,_,hs13.get 1 rfl (j:=7) rfl,_,_,_,hs13.get 1 rfl (j:=8) rfl,hs13.alc fun b17 H18 hs18=>⟨rfl,hs18.putAll 0 rfl rfl (by simp[Value.oneCell']) fun H19 hs19=>?_⟩⟩
 have hs19:St H H19 [.cell b17 (picA r.f.w r.f.h r.P.p r.P.l r.P.c) 141,.cell b11 (ints m.l).toArray 59,.cell b4 (cellsR r).toArray 82]:=hs19
 refine⟨by decide,by decide,m.a,hs19.rdA 1 (j:=0) rfl rfl,by decide,by decide,m.b,hs19.rdA 1 (j:=1) rfl rfl,by decide,by decide,m.e,hs19.rdA 1 (j:=4) rfl rfl,?_⟩
 rw[eu]
 refine c84 (by decide) (by decide) (by omega) ⟨_,rfl,.inl (Ext.refl _),by decide,by decide,m.c,hs19.rdA 1 (j:=2) rfl rfl,by decide,by decide,m.d,hs19.rdA 1 (j:=3) rfl rfl,by decide,by decide,m.f,hs19.rdA 1 (j:=5) rfl rfl,?_⟩
 rw[ev]
 refine c84 (by decide) (by decide) (by omega) ⟨_,rfl,.inl (Ext.refl _),r.f.smooth,hs19.get 2 rfl (j:=16) rfl,?_⟩
 rw[fu,fv]
 have hp:=hr.p.ext hs19.ext
 refine br_i (fun hsm=>?_) fun hsm=>?_
 ·rw[if_pos hsm] at hR
  exact⟨_,rfl,rowIn_whole (hs19.block 0 rfl),c85 hp hok bu bv fun H35 he35=>⟨_,rfl,hR H35 (hs19.step he35).ext⟩⟩
 ·rw[if_neg (by rw[hsm];decide)] at hR
  refine⟨_,rfl,rowIn_whole (hs19.block 0 rfl),c84 (by decide) (by decide) (by omega) ⟨_,rfl,.inl (Ext.refl _),c84 (by decide) (by decide) (by omega) ⟨_,rfl,.inl (Ext.refl _),c86 hp hok.hw hok.hh hok.len fun H35 he35=>⟨_,rfl,hR H35 (hs19.step he35).ext⟩⟩⟩⟩
theorem c50{r:RT}{c:C4}{f:Int}(hr:rdR H r)(hn:r.A.l≤1000000000000)(ht:tabB r.f.table r.f.params=true)(hc:OkC c)(hf:byte f)(hR: ∀H',Ext H H'→R (.agg (ints (adjP (tabL r.f.table r.f.params) f c).l).toArray) H'):CallsH Tryz.prog 50 #[.agg (cellsR r).toArray,.agg (ints c.l).toArray,.int .i64 f] H R:=by
 obtain⟨c1,c2,c3,c4⟩:=hc.bytes
 have hok:=tabL_ok ht
 refine Tryz.s50 ?_
 unfold Tryz.S50
 refine(St.nil H).alc fun b4 H5 hs5=>hs5.alc fun b6 H7 hs7=>hs7.alc fun b8 H9 hs9=>⟨_,hs9.get 2 rfl (j:=17) rfl,_,_,_,hs9.get 2 rfl (j:=18) rfl,?_⟩
 refine rtab_call (hr.params.ext hs9.ext) hn ht fun bt H13 hs13=>⟨_,_,_,_,rfl,?_⟩
 have hs13:St H H13 [.cell bt (ints (tabL r.f.table r.f.params)).toArray 3,.cell b8 (ints [0,0,0,0]).toArray 106,.cell b6 (ints c.l).toArray 106,.cell b4 (cellsR r).toArray 82]:=hs9.call hs13
 have hL:=tabL_len r.f.table r.f.params
 generalize tabL r.f.table r.f.params=t at*
 intro X hX
 have bm: ∀{x:Int},byte x→0≤x∧x≤1000000:=fun h=>⟨h.1,by have:=h.2;omega⟩
 have w255:IntKind.wrap .i64 (255-f)=255-f:=by unfold byte at hf;exact wrap_id (by omega) (by omega)
 have hc255:byte (255-f):=by unfold byte at*;omega
 have one: ∀{v:Int} {K:Int→Prop},byte v→(∀q,q=mulP (mapP1 t v c.a) f+mulP v (255-f)→IntKind.wrap .i64 q=q):=fun{v K} hv q hq=>by
  have h1:=mapP1_bd (c:=v) hok c4
  have h2:=mulP_bd (a:=mapP1 t v c.a) (b:=f) (by unfold byte at*;omega) hf
  have h3:=mulP_bd hv hc255
  unfold byte at*
  exact wrap_id (by omega) (by omega)
 have step: ∀(k:Nat) (v:Int) (P:List Int) (H1:Heap),P.length=4→k<3→P[k]?=some v→P[3]?=some c.a→byte v→
  St H H1 [.cell bt (ints t).toArray 3,.cell b8 (ints [0,0,0,0]).toArray 106,.cell b6 (ints P).toArray 106,.cell b4 (cellsR r).toArray 82]→
  (∀H2,St H H2 [.cell bt (ints t).toArray 3,.cell b8 (ints [0,0,0,0]).toArray 106,.cell b6 (ints (P.set k (adjP1 t f v c.a))).toArray 106,.cell b4 (cellsR r).toArray 82]→X [.int .i64 ((k+1:Nat):Int)] H2)→X [.int .i64 (k:Nat)] H1:=by
  intro k v P H1 hP hk hv ha hvb hs1 hK
  have rk:Sh.cell H1 (Addr.add ⟨b6,0,none⟩ (Int.toNat (k:Int)*1))=some (.int .i64 v):=by simpa using hs1.rdA 2 rfl hv
  have ra:Sh.cell H1 (Addr.add ⟨b6,0,none⟩ (Int.toNat (3:Int)*1))=some (.int .i64 c.a):=hs1.rdA 2 (j:=3) rfl ha
  have hbb:=bareP_byte hvb.1 c4.1
  have hm1:=mapP1_bd (c:=v) hok c4
  have hmb:byte (mapP1 t v c.a):=by unfold byte at*;omega
  have htv:=hok (bareP v c.a).toNat
  have hin:=hbb
  unfold byte at hin
  refine hX _ _ (br_y (by omega) ⟨by omega,by omega,v,rk,by decide,by decide,c.a,ra,by decide,by decide,c.a,ra,c83 (bm hvb) (bm c4) ⟨_,rfl,.inl (Ext.refl _),rdG (i:=bareP v c.a) (hs1.isA 0 rfl hL) hin.1 (by omega) (rmul_call (bm htv) (bm c4) ⟨_,rfl,by omega,by omega,v,rk,rmul_call (bm hmb) (bm hf) ⟨_,rfl,.inl (Ext.refl _),?_⟩⟩)⟩⟩)
  rw[w255]
  refine rmul_call (bm hvb) (bm hc255) ⟨_,rfl,by decide,by decide,c.a,ra,?_⟩
  rw[show mulP (t.getD (bareP v c.a).toNat 0) c.a=mapP1 t v c.a from rfl,one (K:=fun _=>True) hvb _ rfl]
  have fin: ∀z,z=adjP1 t f v c.a→0≤(k:Int)∧(k:Int)<((4:Nat):Int)∧stAt H1 (Addr.add ⟨b6,0,none⟩ (Int.toNat (k:Int)*1)) [.int .i64 z] fun H39=>X [.int .i64 (IntKind.wrap .i64 ((k:Int)+1))] H39:=by
   intro z hz
   refine⟨by omega,by omega,?_⟩
   rw[show Int.toNat (k:Int)*1=k from Nat.mul_one k,add_none,Nat.zero_add,hz]
   refine hs1.putA 2 rfl (by omega) fun H2 hs2=>?_
   rw[wrap_id (by omega) (by omega)]
   exact hK H2 hs2
  refine br_dec (fun hg=>⟨by decide,by decide,c.a,ra,fin _ ?_⟩) fun hg=>fin _ ?_
  ·unfold adjP1
   have hg:mulP (mapP1 t v c.a) f+mulP v (255-f)>c.a:=hg
   omega
  ·unfold adjP1
   have hg: ¬mulP (mapP1 t v c.a) f+mulP v (255-f)>c.a:=hg
   show mulP (mapP1 t v c.a) f+mulP v (255-f)=_
   omega
 refine step 0 c.r c.l H13 rfl (by decide) rfl rfl c1 hs13 fun H14 hs14=>?_
 refine step 1 c.g _ H14 rfl (by decide) rfl rfl c2 hs14 fun H15 hs15=>?_
 refine step 2 c.b _ H15 rfl (by decide) rfl rfl c3 hs15 fun H16 hs16=>?_
 have hs16:St H H16 [.cell bt (ints t).toArray 3,.cell b8 (ints [0,0,0,0]).toArray 106,.cell b6 (ints (adjP t f c).l).toArray 106,.cell b4 (cellsR r).toArray 82]:=hs16
 exact hX _ _ (br_n (by decide) ⟨_,rfl,rowIn_whole (hs16.block 2 rfl),rfl,hs16.putAllA 1 (l:=(adjP t f c).l) rfl rfl fun H17 hs17=>⟨_,rfl,rowIn_whole (hs17.block 1 rfl),hR H17 hs17.ext⟩⟩)
end Go.Proofs
namespace Go.Proofs
open Go.Sh
variable {H0 H:Heap} {σ:List Rs} {R:Value→Heap→Prop}
def zeroC:C4:=⟨0,0,0,0⟩
theorem blend_zero(mode:Int){d:C4}(hd:OkC d):blendP mode zeroC d=d:=by
 have one: ∀{di:Int},di≤d.a→mixP mode 0 d.a 0 di=di:=fun{di} h=>by
  unfold mixP
  rw[mul0P,mul0P,mul0P,show(255:Int)-0=255 from rfl,mulP_255]
  omega
 refine C4.ext' (one hd.r.2) (one hd.g.2) (one hd.b.2) ?_
 show 0+d.a-mulP 0 d.a=d.a
 rw[mul0P];omega
theorem fade_none(c:C4):fadeP c 0=zeroC:=C4.ext' (mulP_0 _) (mulP_0 _) (mulP_0 _) (mulP_0 _)
theorem fade_zero(g:Int):fadeP (spl 0) g=zeroC:=C4.ext' (mul0P _) (mul0P _) (mul0P _) (mul0P _)
def layC(W x y:Int)(f:LayF)(ks:List Lay)(c:C4):C4:=
 if f.hidden=true then c else if f.kind=2 then adjP (tabL f.table f.params) (partP f (y*W+x)) c else blendP f.mode (fadeP (spl (if f.kind=0 then seenP f x y else lsPx W x y ks 0)) (partP f (y*W+x))) c
theorem lay_c{W x y:Int}{f:LayF}{ks:List Lay}{c:C4}(hc:OkC c)(hp:byte (partP f (y*W+x))):layPx W x y (.mk f ks) (joinP c)=joinP (layC W x y f ks c):=by
 obtain⟨c1,c2,c3,c4⟩:=hc.bytes
 rw[layPx]
 unfold layC
 split
 ·rfl
 split
 ·unfold adjustP
  rw[spl_join c1 c2 c3 c4]
 ·unfold overP
  rw[spl_join c1 c2 c3 c4]
  generalize (if f.kind=0 then seenP f x y else lsPx W x y ks 0)=s
  by_cases h2:s≠0∧partP f (y*W+x)>0
  ·rw[if_pos h2]
  ·rw[if_neg h2]
   unfold byte at hp
   by_cases h0:s=0
   ·rw[h0,fade_zero,blend_zero _ hc]
   ·have:partP f (y*W+x)=0:=by
     have: ¬partP f (y*W+x)>0:=fun hh=>h2 ⟨h0,hh⟩
     omega
    rw[this,fade_none,blend_zero _ hc]
def AtOk(rs:List RT)(w h next:Int)(Kd:Sl3)(x y g:Int)(ks:List Lay):Prop:= ∀(H:Heap) (R:Value→Heap→Prop),RD H Kd rs→(∀H',Ext H H'→R (.int .i64 (lsPx w x y ks 0)) H')→
 CallsH Tryz.prog 24 #[.agg (docA w h next Kd),.int .i64 g,.int .i64 x,.int .i64 y] H R
theorem at_of{rs:List RT}{w h next:Int}{Kd:Sl3}{x y g:Int}{ks:List Lay}(hw:0≤w∧w≤32768)(hh:0≤h∧h≤32768)(hx:0≤x∧x<w)(hy:0≤y∧y<h)(hof:ofG g (rwS rs)=ks.map (rowG g))(hgd:gKs (goodF w h next) ks)
 (hpar: ∀r∈rs,r.A.l≤1000000000000)(ih: ∀t∈ks,t.f.kind=1→AtOk rs w h next Kd x y t.f.id t.kids):AtOk rs w h next Kd x y g ks:=by
 intro H R hd hR
 refine Tryz.s24 ?_
 unfold Tryz.S24
 have hdl:=hd.l.len
 have hfew:=hd.l.few
 refine(St.nil H).alc fun b5 H6 hs6=>hs6.alc fun b7 H8 hs8=>⟨docA w h next Kd,rfl,rowIn_whole (hs8.block 1 rfl),c48 (hd.l.ext hs8.ext) fun q H11 hq=>⟨q.p,q.l,q.c,rfl,?_⟩⟩
 have hs11:=hs8.callR hq
 have hqi:=hq.is 0 rfl
 have hql:q.l=ks.length:=by have:=hqi.len;rw[ints_len,kidsZ_len,hof,List.length_map] at this;exact this.symm
 have hle:=kidsZ_le g (rwS rs)
 rw[kidsZ_len,rwS_len,hof,List.length_map] at hle
 have hs11:St H H11 [.cell b7 (ints zeroC.l).toArray 106,.cell b5 (docA w h next Kd) 32,.sl q.p q.l q.c 3 1 (ints (kidsZ g (rwS rs)))]:=hs11
 have hyx:0≤y*w∧y*w≤32768*32768:=⟨Int.mul_nonneg hy.1 hw.1,Int.mul_le_mul (by omega) hw.2 hw.1 (by decide)⟩
 have hyw:y*w+x<w*h:=by
  have h1:(y+1)*w≤h*w:=Int.mul_le_mul_of_nonneg_right (by omega) hw.1
  rw[Int.add_mul,Int.one_mul,Int.mul_comm h w] at h1
  omega
 intro X13 hX13
 have go: ∀k,k≤ks.length→ ∀(c:C4) H1,OkC c→lsPx w x y (ks.take k) 0=joinP c→St H H1 [.cell b7 (ints c.l).toArray 106,.cell b5 (docA w h next Kd) 32,.sl q.p q.l q.c 3 1 (ints (kidsZ g (rwS rs)))]→X13 [.int .i64 (k:Nat)] H1:=by
  refine upto fun k hk ih2 c H1 hc hpx hs1=>hX13 _ _ (br_dec (fun hlt=>?_) fun hge=>?_)
  ·have hk':k<ks.length:=by omega
   have ht:=List.getElem?_eq_getElem hk'
   have htm:=List.getElem_mem hk'
   generalize ks[k]=t at ht htm
   have hkz:k<(kidsZ g (rwS rs)).length:=by rw[kidsZ_len,hof,List.length_map];exact hk'
   have hz:=List.getElem?_eq_getElem hkz
   generalize (kidsZ g (rwS rs))[k]=z at hz
   obtain⟨m,rfl,hml,hrow⟩:=kidsZ_row hz
   rw[rwS_len] at hml
   have hr:=List.getElem?_eq_getElem hml
   generalize rs[m]=r at hr
   rw[rws_get hr,hof,List.getElem?_map,ht] at hrow
   have hrw:r.rw=rowG g t:=Option.some.inj hrow
   have hrf:r.f=t.f:=congrArg Rw.f hrw
   have hrm:=List.mem_of_getElem? hr
   obtain⟨f,sub⟩:=t
   have hrf:r.f=f:=hrf
   have hgt:=gKs_iff.1 hgd _ htm
   obtain⟨hgf,hkk,hgs⟩:=hgt
   have hpart:=part_byte hgf (y*w+x)
   have htk:ks.take (k+1)=ks.take k++[.mk f sub]:=by rw[List.take_add_one,ht];rfl
   have hnext:lsPx w x y (ks.take (k+1)) 0=joinP (layC w x y f sub c):=by rw[htk,lsPx_app,lsPx,lsPx,hpx,lay_c hc hpart]
   obtain⟨ad,hap,hac⟩:=(hs1.is 2 rfl).get _ _ (ints_get hz)
   obtain⟨blk,hpk,hrwi⟩:=(hd.l.ext hs1.ext).row hr
   refine⟨_,_,_,hs1.get 1 rfl (docA_3 _ _ _ _),ad,hap,by omega,hlt,(m:Int),by rw[Int.toNat_natCast,Nat.mul_one];exact hac,_,hpk,by omega,by omega,(cellsR r).toArray,rfl,rowR0 hrwi,?_⟩
   refine hs1.alcE fun b21 H22 he22 hs22=>⟨.inl he22,rfl,hs22.putAll 0 rfl rfl (by simpa using cellsR_one r) fun H23 hs23=>?_⟩
   have hs23:St H H23 [.cell b21 (cellsR r).toArray 82,.cell b7 (ints c.l).toArray 106,.cell b5 (docA w h next Kd) 32,.sl q.p q.l q.c 3 1 (ints (kidsZ g (rwS rs)))]:=by simpa using hs23
   have hwr:IntKind.wrap .i64 ((k:Int)+1)=((k+1:Nat):Int):=by rw[wrap_id (by omega) (by omega)];rfl
   refine⟨_,hs23.get 0 rfl (j:=3) rfl,br_i (fun hhid=>?_) fun hhid=>?_⟩
   ·rw[hwr]
    rw[hrf] at hhid
    refine ih2 hk' c H23 hc ?_ hs23.tail
    rw[hnext]
    unfold layC
    rw[if_pos hhid]
   have hhid: ¬f.hidden=true:=by rw[hrf] at hhid;rw[hhid];decide
   have hrd:=hd.rd r hrm
   refine⟨(cellsR r).toArray,rfl,rowIn_whole (hs23.block 0 rfl),w,hs23.get 2 rfl (j:=0) rfl,?_⟩
   rw[wrap_id (n:=y*w) (by omega) (by omega),wrap_id (n:=y*w+x) (by omega) (by omega)]
   refine c49 (hrd.ext hs23.ext) (by rw[hrf];exact hgf.opacity) (by rw[hrf];exact hgf.maskV) (by
    rw[hrf]
    intro hne
    rcases hgf.maskLen with hm|hm
    ·rw[hm] at hne;exact absurd rfl hne
    ·exact⟨by omega,by omega⟩) fun H28 he28=>⟨_,rfl,_,(hs23.step he28).get 0 rfl (j:=1) rfl,?_⟩
   have hs28:=hs23.step he28
   rw[hrf]
   refine br_eq (fun hk2=>?_) fun hk2=>?_
   ·refine⟨(cellsR r).toArray,rfl,rowIn_whole (hs28.block 0 rfl),(ints c.l).toArray,rfl,rowIn_whole (hs28.block 1 rfl),?_⟩
    refine c50 (hrd.ext hs28.ext) (hpar r hrm) (by rw[hrf];exact hgf.tab) hc hpart fun H34 he34=>⟨_,rfl,rfl,?_⟩
    rw[hrf]
    refine(hs28.step he34).putAllA 1 (l:=(adjP (tabL f.table f.params) (partP f (y*w+x)) c).l) rfl rfl fun H36 hs36=>?_
    rw[hwr]
    refine ih2 hk' _ H36 (adjP_ok (tabL_ok hgf.tab) hpart hc) ?_ hs36.tail
    rw[hnext]
    unfold layC
    rw[if_neg hhid,if_pos hk2]
   ·intro J37 hJ37
    have main: ∀(s:Int) (H39:Heap),pixelB s=true→s=(if f.kind=0 then seenP f x y else lsPx w x y sub 0)→St H H39 [.cell b21 (cellsR r).toArray 82,.cell b7 (ints c.l).toArray 106,.cell b5 (docA w h next Kd) 32,.sl q.p q.l q.c 3 1 (ints (kidsZ g (rwS rs)))]→J37 [.int .i64 s] H39:=by
     intro s H39 hs hse hs39
     have hso:=(pixelB_iff.1 hs)
     have hfo:=fadeP_ok hso.2 hpart
     obtain⟨q1,q2,q3,q4⟩:=hfo.bytes
     have hfp:=(pixelB_iff.1 (ok_join hfo)).1
     refine hJ37 _ _ ⟨r.f.mode,hs39.get 0 rfl (j:=5) rfl,(ints c.l).toArray,rfl,rowIn_whole (hs39.block 1 rfl),?_⟩
     refine c54 hso.1.1 hpart ⟨_,rfl,.inl (Ext.refl _),c53 hfp.1 fun H46 he46=>⟨_,rfl,.inl he46,?_⟩⟩
     rw[spl_join q1 q2 q3 q4,hrf]
     refine c52 hfo hc fun H49 he49=>⟨_,rfl,rfl,((hs39.step he46).step he49).putAllA 1 (l:=(blendP f.mode (fadeP (spl s) (partP f (y*w+x))) c).l) rfl rfl fun H51 hs51=>?_⟩
     rw[hwr]
     refine ih2 hk' _ H51 (blendP_ok _ hfo hc) ?_ hs51.tail
     rw[hnext]
     unfold layC
     rw[if_neg hhid,if_neg hk2,←hse]
    refine⟨_,hs28.get 0 rfl (j:=1) rfl,?_⟩
    rw[hrf]
    refine br_eq (fun hk0=>?_) fun hk0=>?_
    ·have hpo:=ras_pic hgf hk0
     refine⟨(cellsR r).toArray,rfl,rowIn_whole (hs28.block 0 rfl),c51 (hrd.ext hs28.ext) (by rw[hrf];exact hpo) (by omega) (by omega) fun H59 he59=>⟨_,rfl,main _ H59 ?_ ?_ (hs28.step he59)⟩⟩
     ·rw[hrf];exact atP_ok hpo _ _ _ _
     ·rw[hrf,if_pos hk0]
    ·have hk1:f.kind=1:=by have:=hgf.kind;omega
     refine⟨docA w h next Kd,rfl,rowIn_whole (hs28.block 2 rfl),f.id,by rw[←hrf];exact hs28.get 0 rfl (j:=0) rfl,ih _ htm hk1 _ _ (hd.ext hs28.ext) fun H64 he64=>⟨_,rfl,main _ H64 ?_ ?_ (hs28.step he64)⟩⟩
     ·exact ls_px w x y hgs pixZ0
     ·rw[if_neg hk0];rfl
  ·have:k=ks.length:=by omega
   subst this
   rw[List.take_of_length_le (Nat.le_refl _)] at hpx
   obtain⟨c1,c2,c3,c4⟩:=hc.bytes
   refine⟨(ints c.l).toArray,rfl,rowIn_whole (hs1.block 0 rfl),c55 c1 c2 c3 c4 fun H71 he71=>⟨_,rfl,?_⟩⟩
   rw[←hpx]
   exact hR H71 (hs1.step he71).ext
 exact go 0 (Nat.zero_le _) zeroC H11 ⟨by decide,by decide,by decide,by decide⟩ (by rw[List.take_zero,lsPx];rfl) hs11
theorem at_all{rs:List RT}{w h next:Int}{Kd:Sl3}{x y:Int}{D:List Lay}(hw:0≤w∧w≤32768)(hh:0≤h∧h≤32768)(hx:0≤x∧x<w)(hy:0≤y∧y<h)(hrel:Rel D (rwS rs))(hids:Ids D)
 (hpar: ∀r∈rs,r.A.l≤1000000000000): ∀t:Lay,gT (goodF w h next) t→ ∀v,plugL v t.kids=D→gid v=t.f.id→AtOk rs w h next Kd x y t.f.id t.kids:=by
 refine Lay.ind fun f ks ih hg v hv hgv=>?_
 have hv:plugL v ks=D:=hv
 have hgv:gid v=f.id:=hgv
 refine at_of (g:=f.id) (ks:=ks) hw hh hx hy ?_ hg.2.2 hpar fun t ht _=>?_
 ·rw[hrel,←hgv,←hv]
  exact ofG_at (by rw[hv];exact hids)
 ·obtain⟨pre,post,hpp⟩:=List.append_of_mem ht
  refine ih t ht (gKs_iff.1 hg.2.2 t ht) (⟨pre,t.f,post⟩::v) ?_ rfl
  rw[plugL]
  show plugL v (pre++ .mk t.f t.kids::post)=D
  rw[show(Lay.mk t.f t.kids)=t from by cases t;rfl,←hpp];exact hv
theorem at_root{rs:List RT}{w h next:Int}{Kd:Sl3}{x y:Int}{D:List Lay}(hw:0≤w∧w≤32768)(hh:0≤h∧h≤32768)(hx:0≤x∧x<w)(hy:0≤y∧y<h)(hrel:Rel D (rwS rs))(hids:Ids D)
 (hpar: ∀r∈rs,r.A.l≤1000000000000)(hg:gKs (goodF w h next) D):AtOk rs w h next Kd x y 0 D:=by
 refine at_of (g:=0) (ks:=D) hw hh hx hy ?_ hg hpar fun t ht _=>?_
 ·rw[hrel]
  exact ofG_at (v:=[]) (kh:=D) hids
 ·obtain⟨pre,post,hpp⟩:=List.append_of_mem ht
  refine at_all hw hh hx hy hrel hids hpar t (gKs_iff.1 hg t ht) [⟨pre,t.f,post⟩] ?_ rfl
  show pre++ .mk t.f t.kids::post=D
  rw[show(Lay.mk t.f t.kids)=t from by cases t;rfl,←hpp]
end Go.Proofs
namespace Go.Proofs
open Go.Sh
variable {H0 H:Heap} {σ:List Rs} {R:Value→Heap→Prop}
theorem par_len{D:DocL}(hi:Inv D){rs:List RT}(hr:Rel D.ks (rwS rs)){Kd:Sl3}(hd:RD H Kd rs): ∀r∈rs,r.A.l≤1000000000000:=fun r hm=>by
 have h1:=(Rel.okM hi hr r hm).2.1
 have h2:=(hd.rd r hm).params.length
 omega
theorem c12{D:DocL}{rs:List RT}{Kd:Sl3}{x y w h:Int}(hd:RD H Kd rs)(hi:Inv D)(hrel:Rel D.ks (rwS rs))
 (h1:RegOk D x y w h→ ∀(Q:Sl3) H',St H H' [.sl Q.p Q.l Q.c 3 1 (ints (picL (regP D x y w h) D.ks))]→R (.tuple #[.slice Q.p Q.l Q.c,.int .i64 0]) H')
 (h0: ¬RegOk D x y w h→ ∀H',Ext H H'→R (.tuple #[.slice none 0 0,.int .i64 12]) H'):CallsH Tryz.prog 12 #[.agg (docA D.w D.h D.next Kd),.int .i64 x,.int .i64 y,.int .i64 w,.int .i64 h] H R:=by
 obtain⟨s1,s2⟩:=hi.sides
 have hpar:=par_len hi hrel hd
 refine Tryz.s12 ?_
 unfold Tryz.S12
 refine(St.nil H).alc fun b6 H7 hs7=>?_
 intro J8 hJ8
 have bad: ¬RegOk D x y w h→R (.tuple #[.slice none 0 0,.int .i64 12]) H7:=fun hn=>h0 hn H7 hs7.ext
 refine br_dec (fun g=>bad fun hh=>by have:=hh.hx;omega) fun g1=>br_dec (fun g=>bad fun hh=>by have:=hh.hy;omega) fun g2=>br_dec (fun g=>bad fun hh=>by have:=hh.hw;omega) fun g3=>br_dec (fun g=>bad fun hh=>by have:=hh.hh;omega) fun g4=>⟨D.w,hs7.get 0 rfl (j:=0) rfl,br_dec (fun g=>bad fun hh=>by have:=hh.hw;omega) fun g5=>⟨D.h,hs7.get 0 rfl (j:=1) rfl,br_dec (fun g=>bad fun hh=>by have:=hh.hh;omega) fun g6=>⟨D.w,hs7.get 0 rfl (j:=0) rfl,?_⟩⟩⟩
 rw[wrap_id (n:=D.w-x) (by omega) (by omega)]
 refine br_dec (fun g=>bad fun hh=>by have:=hh.hw;omega) fun g7=>⟨D.h,hs7.get 0 rfl (j:=1) rfl,?_⟩
 rw[wrap_id (n:=D.h-y) (by omega) (by omega)]
 refine br_dec (fun g=>bad fun hh=>by have:=hh.hh;omega) fun g8=>hJ8 _ ?_
 have hok:RegOk D x y w h:=⟨by omega,by omega,by omega,by omega⟩
 obtain⟨wn,rfl⟩: ∃wn:Nat,w=wn:=⟨w.toNat,by omega⟩
 obtain⟨hn,rfl⟩: ∃hn:Nat,h=hn:=⟨h.toNat,by omega⟩
 have hw32:wn≤32768:=by omega
 have hh32:hn≤32768:=by omega
 have hL:(picL (regP D x y wn hn) D.ks).length=wn*hn:=by
  show(plL _ _).length=_
  rw[plL_len]
  show((wn:Int)*(hn:Int)).toNat=_
  rw[←Int.natCast_mul,Int.toNat_natCast]
 have hat: ∀i j,i<wn→j<hn→(picL (regP D x y wn hn) D.ks).getD (j*wn+i) 0=lsPx D.w (x+i) (y+j) D.ks 0:=fun i j h1 h2=>reg_at h1 h2
 have k1:=h1 hok
 clear h1
 generalize picL (regP D x y wn hn) D.ks=P at hL hat k1
 have harea:wn*hn≤32768*32768:=Nat.mul_le_mul hw32 hh32
 intro X10 hX10
 have go: ∀j,j≤hn→ ∀(Q:Sl3) H1,Q.l=j*wn→St H H1 [.sl Q.p Q.l Q.c 3 1 (ints (P.take (j*wn))),.cell b6 (docA D.w D.h D.next Kd) 32]→X10 [.slice Q.p Q.l Q.c,.int .i64 (j:Nat)] H1:=by
  refine upto fun j hj ih Q H1 hQ hs1=>hX10 _ _ _ _ _ (br_dec (fun hlt=>?_) fun hge=>?_)
  ·have hj':j<hn:=by omega
   have hrow:(j+1)*wn≤wn*hn:=by rw[Nat.mul_comm wn hn];exact Nat.mul_le_mul_right _ hj'
   rw[Nat.add_mul,Nat.one_mul] at hrow
   intro X14 hX14
   have go2: ∀i,i≤wn→ ∀(Q:Sl3) H1,Q.l=j*wn+i→St H H1 [.sl Q.p Q.l Q.c 3 1 (ints (P.take (j*wn+i))),.cell b6 (docA D.w D.h D.next Kd) 32]→X14 [.slice Q.p Q.l Q.c,.int .i64 (i:Nat)] H1:=by
    refine upto fun i hi2 ih2 Q H1 hQ hs1=>hX14 _ _ _ _ _ (br_dec (fun hlt2=>?_) fun hge2=>?_)
    ·have hi':i<wn:=by omega
     refine⟨docA D.w D.h D.next Kd,rfl,rowIn_whole (hs1.block 1 rfl),?_⟩
     rw[wrap_id (n:=x+(i:Int)) (by omega) (by omega),wrap_id (n:=y+(j:Int)) (by omega) (by omega)]
     refine at_root (by omega) (by omega) (by omega) (by omega) hrel hi.ids' hpar hi.good _ _ (hd.ext hs1.ext) fun H20 he20=>⟨_,rfl,?_⟩
     have htk:P.take (j*wn+(i+1))=P.take (j*wn+i)++[lsPx D.w (x+i) (y+j) D.ks 0]:=by
      rw[←hat i j hi' hj',show j*wn+(i+1)=(j*wn+i)+1 from by omega,List.take_add_one,getD_some P 0 (by omega)];rfl
     refine(hs1.step he20).alc fun b22 H23 hs23=>hs23.appC 1 0 rfl rfl rfl (by simp[Value.oneCell']) (by decide) rfl (by omega) (by omega) fun p' c' H25 hs25=>?_
     rw[wrap_id (by omega) (by omega)]
     refine ih2 hi' ⟨p',Q.l+1,c'⟩ H25 (by show Q.l+1=_;omega) ?_
     rw[htk,ints_append]
     exact hs25.tail
    ·obtain rfl:i=wn:=by omega
     rw[wrap_id (by omega) (by omega)]
     refine ih hj' Q H1 (by rw[hQ,Nat.add_mul,Nat.one_mul]) ?_
     rw[Nat.add_mul,Nat.one_mul]
     exact hs1
   exact go2 0 (Nat.zero_le _) Q H1 (by omega) (by rw[Nat.add_zero];exact hs1)
  ·obtain rfl:j=hn:=by omega
   rw[List.take_of_length_le (by rw[hL,Nat.mul_comm];exact Nat.le_refl _)] at hs1
   exact k1 Q H1 (hs1.take 1)
 exact go 0 (Nat.zero_le _) .nil H7 (by rw[Nat.zero_mul];rfl) (by rw[Nat.zero_mul,List.take_zero];exact hs7.nilSl 3 1)
end Go.Proofs
namespace Go.Proofs
open Go.Sh
variable {H0 H:Heap} {σ:List Rs} {R:Value→Heap→Prop}
theorem elemD{A:Array Value}(h:A.size=4):(List.toArray (setL [Value.int .i64 0,.int .i64 0,.int .i64 0,.slice none 0 0] 0 A.toList))=A:=by
 rw[setL_all (by simpa using h)]
theorem _root_.Go.Sh.St.pdOne{x:PD}(hs:St H0 H (docRs (arrP x) x.2::σ)):St H0 H (pdRs [x]::σ):=
 St.persOf (τ:=[docRs (arrP x) x.2]) hs fun H' h' y hy=>by
  rw[List.mem_singleton] at hy;subst hy
  exact h'.doc 0 rfl
end Go.Proofs
namespace Go.Proofs
open Go.Sh
variable {H0 H:Heap} {σ:List Rs} {R:Value→Heap→Prop}
def hA(u:Bool)(x:PD)(P F:Sl3):Array Value:=if u then histA x P F else histA x F P
end Go.Proofs
namespace Go.Proofs
open Go.Sh
variable {H0 H:Heap} {σ:List Rs} {R:Value→Heap→Prop}
end Go.Proofs
namespace Go.Proofs
open Go.Sh
variable {H0 H:Heap} {σ:List Rs} {R:Value→Heap→Prop}
end Go.Proofs
namespace Go.Proofs
open Go.Sh
variable {H0 H:Heap} {σ:List Rs} {R:Value→Heap→Prop}
def stL(k:Int)(e:Ed)(s:EdS):List Value:= .int .i64 k::edL e s
abbrev SE:=Int×Ed×EdS
structure StepsR(H:Heap)(p:Option Addr)(l:Nat)(ss:List SE):Prop where
 len:ss.length=l
 get: ∀(i:Nat) k e s,ss[i]?=some (k,e,s)→ ∃a,p=some a∧rowIn H (a.add (i*20)) (stL k e s).toArray∧rdEd H e s
theorem StepsR.ext{H H':Heap}{p:Option Addr}{l:Nat}{ss:List SE}(h:StepsR H p l ss)(he:Ext H H'):StepsR H' p l ss:=⟨h.len,fun i k e s hi=>let ⟨a,h1,h2,h3⟩:=h.get i k e s hi;⟨a,h1,rowAt_ext he h2,h3.ext he⟩⟩
def hnE:Ed:=ed0 1 0 0 (-1) 1 0 0 0 0 0
def hn0:DocL:=⟨2,2,1,[]⟩
def hn1:DocL:=(doD hn0 hnE).2
def hn2:DocL:=(doD hn1 hnE).2
end Go.Proofs
