/-
  OWN WORK. Several texts in one: PnO, PnP, PnQ, PnR, OpBytes.
-/
import Derived.Test.YtdnfhenncjhenaaGreatMgPngRightG
import Derived.Test.YtdnfhenncjhenaaGreatRows
import Derived.Test.YtdnfhenncjhenaaGreatMgPngRightB
import Derived.Test.YtdnfhenncjhenaaGreatMgPngRightC
import Derived.ChangeSlices

set_option linter.unusedVariables false
set_option linter.unusedSimpArgs false
namespace Go.Proofs
open Go.Sh
open Go.IntKind (wrap)
variable {H:Heap} {R:Value→Heap→Prop}
theorem chu_take{B:List Int}(hb:Bys B){n:Nat}(hn:num4 B=n)(hl:n+12≤B.length):
 (chuP ((B.drop 4).take 4) ((B.drop 8).take n)=B.take (n+12))↔num4 (B.drop (8+n))=(crcS ((B.drop 4).take 4++(B.drop 8).take n):Nat):=by
 have e4:B.take 4=big4 n:=by
  have h1:B=B.take 4++B.drop 4:=(List.take_append_drop 4 B).symm
  have h2:num4 (B.take 4++B.drop 4)=num4 (big4 n++[]):=by
   rw[←h1,num4_app (by have:=num4_nn hb;omega),hn]
  exact num4_eq (by simp;omega) rfl (hb.take 4) (big4_bys _) h2
 have hk:((B.drop 4).take 4).length=4:=by simp;omega
 have hd:((B.drop 8).take n).length=n:=by simp;omega
 have hkb:Bys ((B.drop 4).take 4++(B.drop 8).take n):=fun x hx=>(List.mem_append.1 hx).elim ((hb.drop 4).take 4 x) ((hb.drop 8).take n x)
 have hc:=crcS_lt hkb
 have split:B.take (n+12)=big4 n++(B.drop 4).take 4++(B.drop 8).take n++(B.drop (8+n)).take 4:=by
  rw[←e4,show n+12=4+(4+(n+4)) from by omega,List.take_add,List.take_add,List.take_add,List.drop_drop,List.drop_drop]
  simp only[List.append_assoc]
 rw[split]
 unfold chuP
 rw[hd]
 constructor
 ·intro h
  have h:=List.append_cancel_left h
  have h2:=big4_num (s:=(crcS ((B.drop 4).take 4++(B.drop 8).take n):Nat)) (by omega)
  rw[h] at h2
  have e:num4 ((B.drop (8+n)).take 4)=num4 (B.drop (8+n)):=by
   unfold num4
   simp only[List.getD_eq_getElem?_getD]
   rw[List.getElem?_take_of_lt (by omega),List.getElem?_take_of_lt (by omega),List.getElem?_take_of_lt (by omega),List.getElem?_take_of_lt (by omega)]
  rw[←e,h2]
 ·intro h
  congr 1
  have h1:B.drop (8+n)=(B.drop (8+n)).take 4++(B.drop (8+n)).drop 4:=(List.take_append_drop 4 _).symm
  rw[h1] at h
  have h2:num4 ((B.drop (8+n)).take 4++(B.drop (8+n)).drop 4)=num4 (big4 (crcS ((B.drop 4).take 4++(B.drop 8).take n):Nat)++[]):=by
   rw[num4_app (by omega)];exact h
  exact(num4_eq (by simp;omega) rfl ((hb.drop _).take 4) (big4_bys _) h2).symm
set_option maxHeartbeats 1000000 in
theorem c41{p:Option Addr}{l c:Nat}{B:List Int}(hB:IS H p l (kints .u8 B))(hlc:l≤c)(hx:Bys B)(hl:l≤10000000)
 (hno:nxtP B=none→ ∀H' ks (dq:Option Addr) (dl dc:Nat) (m:Int),Ext H H'→R (.tuple #[.string ks,.slice dq dl dc,.int .i64 m,.bool false]) H')
 (hok: ∀k d B',nxtP B=some (k,d,B')→ ∀dq dc H',IS H dq d.length (kints .u8 d)→d.length≤dc→d.length+12+B'.length=l→B.drop (d.length+12)=B'→Ext H H'→R (.tuple #[.string (textOf k),.slice dq d.length dc,.int .i64 (d.length+12:Nat),.bool true]) H'):
 CallsH Tryz.prog 41 #[.slice p l c] H R:=by
 have hBl:=hB.length
 refine Tryz.s41 ?_
 unfold Tryz.S41
 unfold nxtP at hno hok
 refine br_dec (fun hlt=>hno (by rw[if_pos (by omega)]) H _ _ _ _ _ (Ext.refl _)) (fun hge=>?_)
 rw[if_neg (show ¬B.length<12 by omega)] at hno hok
 have h4:=hB.cut hlc (i:=0) (j:=4) (by omega) (by omega)
 rw[List.drop_zero] at h4
 have n4:num4 (B.take 4)=num4 B:=by
  unfold num4
  simp only[List.getD_eq_getElem?_getD]
  rw[List.getElem?_take_of_lt (by omega),List.getElem?_take_of_lt (by omega),List.getElem?_take_of_lt (by omega),List.getElem?_take_of_lt (by omega)]
 refine⟨by decide,by omega,c11 h4 (hx.take 4) rfl ⟨_,rfl,?_⟩⟩
 rw[Nat.sub_zero,n4]
 obtain⟨n0,n1⟩:=num4_nn hx
 obtain⟨n,hn⟩:=Int.eq_ofNat_of_zero_le n0
 rw[hn] at hno hok ⊢
 rw[Int.toNat_natCast] at hno hok
 intro J hJ
 have w12n:wrap .i64 (((n:Nat):Int)+12)=((n+12:Nat):Int):=by rw[wrap_id (by omega) (by omega)];omega
 rw[w12n]
 have fin:n+12≤l→J [] H:=fun hnl=>by
  rw[if_neg (by omega)] at hno hok
  have w8n:wrap .i64 ((8:Int)+(n:Nat))=((8+n:Nat):Int):=by rw[wrap_id (by omega) (by omega)];omega
  have hk:=hB.cut hlc (i:=4) (j:=8) (by omega) (by omega)
  have hd:=hB.cut hlc (i:=8) (j:=8+n) (by omega) (by omega)
  have ht:=hB.cut hlc (i:=0) (j:=n+12) (by omega) (by omega)
  have hct:=chu_take hx hn (by omega)
  have hkb:=(hx.drop 4).take 4
  have hdb:=(hx.drop 8).take n
  refine hJ H ⟨by decide,by omega,by decide,by decide,(B.drop 4).take 4,is_bsOf hk,?_⟩
  rw[w8n,w12n]
  rw[show 8+n-8=n from by omega] at hd
  rw[List.drop_zero,Nat.sub_zero] at ht
  have e4:((B.drop 4).take 4).length=4:=by simp;omega
  have edl:((B.drop 8).take n).length=n:=by simp;omega
  have erl:(B.drop (12+n)).length=l-(12+n):=by rw[List.length_drop,hBl]
  generalize hkk:(B.drop 4).take 4=k at*
  generalize hdd:(B.drop 8).take n=d at*
  rw[Int.toNat_natCast,Int.toNat_natCast,show(Int.toNat (8:Int))=8 from rfl,show 8+n-8=n from by omega,Nat.sub_zero,Nat.sub_zero]
  intro X hX
  have chars: ∀t,t≤4→(∀x∈k.take t,letP x)→X [.int .i64 (t:Nat)] H:=upto fun t ht4 ih hpre=>by
   refine hX _ H (br_dec (fun hlt=>?_) (fun hge=>?_))
   ·have hlt:t<4:=by omega
    have hg:=get_gD k 0 (i:=t) (by omega)
    have hv:=hkb.getD t
    have bad: ¬letP (k.getD t 0)→ ∀ks (dq:Option Addr) (dl dc:Nat) (m:Int),R (.tuple #[.string ks,.slice dq dl dc,.int .i64 m,.bool false]) H:=fun hnl ks dq dl dc m=>hno (by rw[if_pos ⟨_,List.mem_of_getElem? hg,hnl⟩]) H ks dq dl dc m (Ext.refl _)
    intro J2 hJ2
    have go:letP (k.getD t 0)→J2 [] H:=fun hlp=>hJ2 H (by
     have:=ih hlt (fun x hx=>by
      rw[List.take_add_one,hg,Option.toList_some] at hx
      rcases List.mem_append.1 hx with h|h
      ·exact hpre x h
      ·rw[List.mem_singleton.1 h];exact hlp)
     rw[wrap_id (by omega) (by omega)]
     exact this)
    refine⟨_,by omega,by rw[Int.toNat_natCast];exact ba_get (by omega),?_⟩
    rw[show((UInt8.toNat (UInt8.ofNat (k.getD t 0).toNat):Nat):Int)=k.getD t 0 from by rw[UInt8.toNat_ofNat'];omega]
    refine br_dec (fun h97=>br_dec (fun h65=>bad (fun hlp=>?_) _ _ _ _ _) (fun h65=>br_dec (fun h90=>bad (fun hlp=>?_) _ _ _ _ _) (fun h90=>go (.inr ⟨by omega,by omega⟩)))) (fun h97=>br_dec (fun h122=>br_dec (fun h65=>bad (fun hlp=>?_) _ _ _ _ _) (fun h65=>br_dec (fun h90=>bad (fun hlp=>?_) _ _ _ _ _) (fun h90=>go (.inr ⟨by omega,by omega⟩)))) (fun h122=>go (.inl ⟨by omega,by omega⟩)))
    all_goals (unfold letP at hlp;omega)
   ·have:t=4:=by omega
    subst this
    rw[List.take_of_length_le (by omega)] at hpre
    rw[if_neg (show ¬ ∃x∈k,¬letP x from fun⟨x,h1,h2⟩=>h2 (hpre x h1))] at hno hok
    refine⟨by omega,by omega,by decide,by omega,by omega,by omega,?_⟩
    refine c14 hd hdb (by omega) (by rw[tx_size];omega) fun q1 m1 H15 hs15=>⟨_,_,_,rfl,?_⟩
    rw[tx_sB hkb] at hs15 ⊢
    have hcl:(chuP k d).length≤1000000000000:=by rw[chuP_len];omega
    refine c10 (hs15.is 0 rfl) (ht.ext hs15.ext) hcl ⟨_,rfl,?_⟩
    by_cases hcc:num4 (B.drop (8+n))=(crcS (k++d):Nat)
    ·rw[decide_eq_true (hct.2 hcc)]
     rw[if_neg (fun h=>h hcc)] at hok
     have hok:=hok k d (B.drop (12+n)) rfl
     rw[edl,erl] at hok
     exact hok _ _ H15 hd (by omega) (by omega) (by rw[Nat.add_comm]) hs15.ext
    ·rw[decide_eq_false fun h=>hcc (hct.1 h)]
     exact hno (by rw[if_pos hcc]) H15 _ _ _ _ _ hs15.ext
  exact chars 0 (by omega) (fun x hx=>by simp at hx)
 refine br_dec (fun hbig=>hno (by rw[if_pos (by omega)]) H _ _ _ _ _ (Ext.refl _)) (fun hsm=>?_)
 exact br_dec (fun hgt=>hno (by rw[if_pos (by omega)]) H _ _ _ _ _ (Ext.refl _)) (fun hle=>fin (by omega))
end Go.Proofs
namespace Go.Proofs
open Go.Sh
open Go.IntKind (wrap)
variable {H:Heap} {R:Value→Heap→Prop}
theorem num4_take(B:List Int):num4 (B.take 4)=num4 B:=by
 unfold num4
 simp only[List.getD_eq_getElem?_getD]
 rw[List.getElem?_take_of_lt (by omega),List.getElem?_take_of_lt (by omega),List.getElem?_take_of_lt (by omega),List.getElem?_take_of_lt (by omega)]
set_option maxHeartbeats 2000000 in
theorem c24{p:Option Addr}{l c:Nat}{B:List Int}(hB:IS H p l (kints .u8 B))(hlc:l≤c)(hx:Bys B)(hl:l≤10000000)
 (hno:prtP B=none→ ∀H' (q:Option Addr) (l c:Nat) (w h:Int),Ext H H'→R (.tuple #[.slice q l c,.int .i64 w,.int .i64 h,.bool false]) H')
 (hok: ∀hd z,prtP B=some (hd,z)→ ∀q c H',Bys z→z.length≤10000000→St H H' [.sl q z.length c 5 1 (kints .u8 z)]→R (.tuple #[.slice q z.length c,.int .i64 (num4 hd),.int .i64 (num4 (hd.drop 4)),.bool true]) H'):
 CallsH Tryz.prog 24 #[.slice p l c] H R:=by
 have hBl:=hB.length
 refine Tryz.s24 ?_
 unfold Tryz.S24
 unfold prtP at hno hok
 refine c41 hB hlc hx hl (fun hn H3 ks dq dl dc m e3=>⟨_,_,_,_,_,_,rfl,fun J hJ=>br_t rfl (hno (by rw[hn]) H3 _ _ _ _ _ e3)⟩) (fun k hd B' hn dq dc H3 hdi hdc hsum hdrop e3=>⟨_,_,_,_,_,_,rfl,?_⟩)
 obtain⟨g1,g2,g3,g4,g5⟩:=nxtP_some hn
 obtain⟨hkb,hdb,hxB'⟩:=g4 hx
 rw[hn] at hno hok
 simp only at hno hok
 intro J hJ
 refine br_f rfl ?_
 rw[←tHDR,tx_beq hkb bHDR]
 refine br_not (fun hk=>hno (by rw[if_neg fun h=>of_decide_eq_false hk h.1]) H3 _ _ _ _ _ e3) (fun hk=>?_)
 have hk:=of_decide_eq_true hk
 refine br_ne (fun hne=>hno (by rw[if_neg fun h=>by have:=h.2.1;omega]) H3 _ _ _ _ _ e3) (fun he=>?_)
 have he:hd.length=13:=by omega
 refine⟨by decide,by omega,(St.of_ext e3).alc fun b34 H35 hs35=>?_⟩
 have hcut:=hdi.cut hdc (i:=8) (j:=hd.length) (by omega) (Nat.le_refl _)
 rw[List.take_of_length_le (by rw[List.length_drop];omega)] at hcut
 refine c10 (ys:=[8,6,0,0,0]) (hcut.ext hs35.ext) (IS.of_block (hs35.block 0 rfl) rfl) (by omega) ⟨_,rfl,?_⟩
 refine br_not (fun hq=>hno (by rw[if_neg fun h=>of_decide_eq_false hq h.2.2]) H35 _ _ _ _ _ hs35.ext) (fun hq=>?_)
 have hq:=of_decide_eq_true hq
 rw[if_pos ⟨hk,he,hq⟩] at hno hok
 have h04:=hdi.cut hdc (i:=0) (j:=4) (by omega) (by omega)
 have h48:=hdi.cut hdc (i:=4) (j:=8) (by omega) (by omega)
 rw[List.drop_zero] at h04
 refine hJ H35 ⟨by decide,by omega,c11 (h04.ext hs35.ext) (hdb.take 4) rfl ⟨_,rfl,by decide,by omega,by decide,by decide,c11 (h48.ext hs35.ext) ((hdb.drop 4).take 4) rfl ⟨_,rfl,by omega,by omega,?_⟩⟩⟩
 have nt1:num4 (hd.take (4-0))=num4 hd:=num4_take hd
 have nt2:num4 ((hd.drop 4).take (8-4))=num4 (hd.drop 4):=num4_take _
 rw[nt1,nt2]
 generalize hF:frmP (B'.length+1) 0 [] (nxtP B')=F at hno hok
 have bad:F=none→ ∀H' (q:Option Addr) (l c:Nat) (w h:Int),Ext H H'→R (.tuple #[.slice q l c,.int .i64 w,.int .i64 h,.bool false]) H':=fun hn=>hno (by rw[hn];rfl)
 have good: ∀z,F=some z→ ∀q c H',Bys z→z.length≤10000000→St H H' [.sl q z.length c 5 1 (kints .u8 z)]→R (.tuple #[.slice q z.length c,.int .i64 (num4 hd),.int .i64 (num4 (hd.drop 4)),.bool true]) H':=fun z hz=>hok hd z (by rw[hz];rfl)
 clear hno hok
 have hs35:=hs35.tail
 rw[Int.toNat_natCast]
 have hrest:=hB.cut hlc (i:=hd.length+12) (j:=l) (by omega) (Nat.le_refl _)
 rw[List.take_of_length_le (by rw[List.length_drop];omega),hdrop,show l-(hd.length+12)=B'.length from by omega] at hrest
 rw[show l-(hd.length+12)=B'.length from by omega]
 intro X hX
 have loop: ∀f st (out B1:List Int) q1 c1 zq zc H1,IS H q1 B1.length (kints .u8 B1)→B1.length≤c1→Bys B1→Bys out→out.length+B1.length≤10000000→B1.length<f→St H H1 [.sl zq out.length zc 5 1 (kints .u8 out)]→frmP f st out (nxtP B1)=F→
  X [.slice q1 B1.length c1,.slice zq out.length zc,.int .i64 (st:Nat)] H1:=by
  intro f
  induction f with
  |zero=>intro st out B1 q1 c1 zq zc H1 _ _ _ _ _ hf;omega
  |succ f ih=>
   intro st out B1 q1 c1 zq zc H1 hi1 hlc1 hxB hob hsz hf hs1 hF
   refine hX _ _ _ _ _ _ _ H1 ?_
   refine c41 (hi1.ext hs1.ext) hlc1 hxB (by omega) (fun hn H3 ks dq dl dc m e3=>⟨_,_,_,_,_,_,rfl,br_t rfl (bad (by rw[←hF,hn];rfl) H3 _ _ _ _ _ (hs1.ext.trans e3))⟩) (fun k d B2 hn dq2 dc2 H3 hdi2 hdc2 hsum2 hdrop2 e3=>⟨_,_,_,_,_,_,rfl,?_⟩)
   obtain⟨g1,g2,g3,g4,g5⟩:=nxtP_some hn
   obtain⟨hkb,hdb2,hxB2⟩:=g4 hxB
   have hs3:=hs1.step e3
   refine br_f rfl ⟨by omega,by omega,?_⟩
   rw[Int.toNat_natCast]
   have hrest:=hi1.cut hlc1 (i:=d.length+12) (j:=B1.length) (by omega) (Nat.le_refl _)
   rw[List.take_of_length_le (by rw[List.length_drop];omega),hdrop2,show B1.length-(d.length+12)=B2.length from by omega] at hrest
   rw[show B1.length-(d.length+12)=B2.length from by omega]
   rw[hn,frmP] at hF
   have hkg:=hkb.getD 0
   intro J2 hJ2
   rw[←tDAT,tx_beq hkb bDAT]
   rw[←tEND,tx_beq hkb bEND] at hJ2
   have other: ¬(k=kDAT∧st<2)→J2 [.slice zq out.length zc,.int .i64 (st:Nat)] H3:=fun hnd=>by
    rw[if_neg hnd] at hF
    refine hJ2 _ _ _ _ H3 ⟨_,by decide,ba_get (i:=0) (by omega),?_⟩
    rw[show((UInt8.toNat (UInt8.ofNat (k.getD 0 0).toNat):Nat):Int)=k.getD 0 0 from by rw[UInt8.toNat_ofNat'];omega]
    refine br_dec (fun hsm=>?_) (fun hsm=>?_)
    ·rw[if_pos (by omega)] at hF
     refine br_eq (fun h1=>?_) (fun h1=>?_)
     ·rw[if_pos (by omega)] at hF
      exact ih 2 out B2 _ _ _ _ H3 hrest (by omega) hxB2 hob (by omega) (by omega) hs3 hF
     ·rw[if_neg (by omega)] at hF
      exact ih st out B2 _ _ _ _ H3 hrest (by omega) hxB2 hob (by omega) (by omega) hs3 hF
    ·rw[if_neg (by omega)] at hF
     refine br_dec (fun hke=>br_dec (fun h0=>br_eq (fun hd0=>?_) (fun hd0=>?_)) (fun h0=>?_)) (fun hke=>?_)
     ·have hd0':d=[]:=List.length_eq_zero_iff.1 (by omega)
      by_cases hB0:B2=[]
      ·rw[if_pos ⟨hke,by omega,hd0',hB0⟩] at hF
       rw[show(((B2.length:Nat):Int)==0)=true from by rw[hB0];rfl]
       exact good out hF.symm zq zc H3 hob (by omega) hs3
      ·rw[if_neg (fun h=>hB0 h.2.2.2)] at hF
       rw[show(((B2.length:Nat):Int)==0)=false from by simp;exact hB0]
       exact bad hF.symm H3 _ _ _ _ _ hs3.ext
     ·rw[if_neg (fun h=>hd0 (by rw[h.2.2.1];rfl))] at hF
      exact bad hF.symm H3 _ _ _ _ _ hs3.ext
     ·rw[if_neg (fun h=>h0 (by have:=h.2.1;omega))] at hF
      exact bad hF.symm H3 _ _ _ _ _ hs3.ext
     ·rw[if_neg (fun h=>hke h.1)] at hF
      exact bad hF.symm H3 _ _ _ _ _ hs3.ext
   refine br_dec (fun hkd=>br_dec (fun h2=>?_) (fun h2=>other fun h=>by omega)) (fun hkd=>other fun h=>hkd h.1)
   rw[if_pos ⟨hkd,by omega⟩] at hF
   refine hs3.appI 0 rfl (hdi2.ext e3) (kints_one _ _) rfl (by omega) (by omega) fun q8 c8 H8 hs8=>?_
   rw[←kints_append] at hs8
   have el:(out++d).length=out.length+d.length:=List.length_append
   rw[←el]
   exact ih 1 (out++d) B2 _ _ _ _ H8 hrest (by omega) hxB2 (fun x hx=>(List.mem_append.1 hx).elim (hob x) (hdb2 x)) (by omega) (by omega) (by rw[el];exact hs8) hF
 exact loop (B'.length+1) 0 [] B' _ _ none 0 H35 hrest (by omega) hxB' (fun x hx=>by cases hx) (by simp;omega) (by omega) (hs35.nilSl 5 1) hF
end Go.Proofs
namespace Go.Proofs
open Go.Sh
open Go.IntKind (wrap)
variable {H:Heap} {R:Value→Heap→Prop}
theorem c42{a b:Int}(ha:0≤a∧a<256)(hb:0≤b∧b<256)(hR:R (.bool (decide (hdrOk a b))) H):CallsH Tryz.prog 42 #[.int .i64 a,.int .i64 b] H R:=by
 have no: ¬hdrOk a b→R (.bool false) H:=fun hn=>by rw[decide_eq_false hn] at hR;exact hR
 have w1:wrap .i64 (wrap .i64 ((256:Int)*a)+b)=256*a+b:=by rw[wrap_id (n:=256*a) (by omega) (by omega),wrap_id (by omega) (by omega)]
 refine Tryz.s42 ⟨by decide,?_⟩
 rw[w1,Int.tmod_eq_emod_of_nonneg (by omega)]
 refine br_eq (fun h1=>⟨by decide,?_⟩) (fun h1=>no fun h=>h1 h.1)
 rw[Int.tmod_eq_emod_of_nonneg (by omega)]
 refine br_eq (fun h2=>⟨by decide,?_⟩) (fun h2=>no fun h=>h2 h.2.1)
 rw[Int.tdiv_eq_ediv_of_nonneg (by omega),wrap_id (by omega) (by omega)]
 refine br_dec (fun h3=>⟨by decide,by decide,?_⟩) (fun h3=>no fun h=>h3 h.2.2.1)
 rw[Int.tdiv_eq_ediv_of_nonneg (by omega),wrap_id (by omega) (by omega),Int.tmod_eq_emod_of_nonneg (by omega)]
 have e:((b/32%2:Int)==0)=decide (hdrOk a b):=by
  by_cases h4:b/32%2=0
  ·rw[decide_eq_true ⟨h1,h2,h3,h4⟩,h4];rfl
  ·rw[decide_eq_false fun h=>h4 h.2.2.2];simpa using h4
 rw[e]
 exact hR
theorem c44{p:Option Addr}{l c:Nat}{xs:List Int}(h:IS H p l (kints .u8 xs))(hx:Bys xs)(hl:l≤1000000000000)(hR:R (.int .i64 (adlS xs)) H):CallsH Tryz.prog 44 #[.slice p l c] H R:=by
 have e1:=h.length
 refine Tryz.s44 ?_
 intro X hX
 have go: ∀k,k≤l→X [.int .i64 (adlF (xs.take k) 1 0).1,.int .i64 (adlF (xs.take k) 1 0).2,.int .i64 (k:Nat)] H:=upto fun k hk ih=>by
  obtain⟨⟨a0,a1⟩,b0,b1⟩:=adlF_rng (xs.take k) 1 0 (fun y hy=>hx y (List.mem_of_mem_take hy)) (by decide) (by decide)
  refine hX _ _ _ H (br_dec (fun hlt=>?_) (fun hge=>?_))
  ·have hlt:k<l:=by omega
   have hg:=get_gD xs 0 (i:=k) (by omega)
   have hb:=hx.getD k
   refine h.rd (by omega) (by omega) (by rw[Int.toNat_natCast];exact hg) ⟨by decide,by decide,?_⟩
   rw[w8 hb,wrap_id (n:=(adlF (xs.take k) 1 0).1+_) (by omega) (by omega),Int.tmod_eq_emod_of_nonneg (by omega),wrap_id (n:=(adlF (xs.take k) 1 0).2+_) (by omega) (by omega),Int.tmod_eq_emod_of_nonneg (by omega),wrap_id (by omega) (by omega)]
   have:=ih hlt
   rw[List.take_add_one,hg,Option.toList_some,adlF_snoc] at this
   exact this
  ·have:k=l:=by omega
   subst this
   rw[List.take_of_length_le (by omega)] at a0 a1 b0 b1 ⊢
   have e:wrap .i64 (wrap .i64 ((65536:Int)*(adlF xs 1 0).2)+(adlF xs 1 0).1)=adlS xs:=by
    rw[wrap_id (n:=65536*_) (by omega) (by omega),wrap_id (by omega) (by omega)];unfold adlS;omega
   rw[e]
   exact hR
 exact go 0 (by omega)
theorem c25{p:Option Addr}{l c:Nat}{B:List Int}{most:Int}(h:IS H p l (kints .u8 B))(hr:Bys B)(hlc:l≤c)(hl:l≤1000000000)(hm:most≤1000000000)
 (hbad: ∀k,k≠0→unzM B most= .error k→ ∀H',Ext H H'→R (.tuple #[.slice none 0 0,.int .i64 k]) H')
 (hR: ∀out,unzM B most= .ok out→ ∀H' q m,Bys out→St H H' [.sl q out.length m 5 1 (kints .u8 out)]→R (.tuple #[.slice q out.length m,.int .i64 0]) H'):
 CallsH Tryz.prog 25 #[.slice p l c,.int .i64 most] H R:=by
 have hBl:=h.length
 refine Tryz.s25 ?_
 unfold Tryz.S25
 unfold unzM at hbad hR
 refine br_dec (fun hlt=>hbad 20 (by decide) (by rw[if_pos (by omega)]) H (Ext.refl _)) (fun hge=>?_)
 rw[if_neg (by omega)] at hbad hR
 have r0:=hr.getD 0
 have r1:=hr.getD 1
 refine h.rd (i:=0) (by omega) (by omega) (get_gD B 0 (by omega)) (h.rd (i:=1) (by omega) (by omega) (get_gD B 0 (by omega)) ?_)
 rw[show B.getD (Int.toNat 0) 0=B.getD 0 0 from rfl,show B.getD (Int.toNat 1) 0=B.getD 1 0 from rfl,w8 r0,w8 r1]
 refine c42 r0 r1 ⟨_,rfl,br_not (fun hn=>hbad 25 (by decide) (by rw[if_pos (of_decide_eq_false hn)]) H (Ext.refl _)) (fun hh=>?_)⟩
 rw[if_neg (fun h=>h (of_decide_eq_true hh))] at hbad hR
 have h2:=h.cut hlc (i:=2) (j:=l) (by omega) (Nat.le_refl _)
 rw[List.take_of_length_le (by rw[List.length_drop];omega)] at h2
 refine⟨by decide,by omega,?_⟩
 refine c43 h2 (hr.drop 2) (by omega) hm (fun k hk he H11 e11=>⟨_,_,_,_,_,rfl,br_t (by simpa using hk) (hbad k hk (by rw[he]) H11 e11)⟩) (fun out n he H11 q m hob hs11=>⟨_,_,_,_,_,rfl,br_f rfl ?_⟩)
 rw[he] at hbad hR
 simp only at hbad hR
 have hle:=infl_le he
 rw[List.length_drop] at hle
 have hol:=(hs11.is 0 rfl).length
 have w:wrap .i64 ((2:Int)+((n:Nat):Int))=((2+n:Nat):Int):=by rw[wrap_id (by omega) (by omega)];omega
 rw[w,Int.toNat_natCast]
 refine⟨by omega,by omega,br_dec (fun hlt=>hbad 20 (by decide) (by rw[if_pos (by omega)]) H11 hs11.ext) (fun hge4=>?_)⟩
 rw[if_neg (by omega)] at hbad hR
 have h3:=h.cut hlc (i:=2+n) (j:=l) (by omega) (Nat.le_refl _)
 rw[List.take_of_length_le (by rw[List.length_drop];omega)] at h3
 have h4:=h3.cut (c:=c-(2+n)) (by omega) (i:=0) (j:=4) (by omega) (by omega)
 rw[List.drop_zero] at h4
 refine⟨by decide,by omega,c11 (h4.ext hs11.ext) ((hr.drop _).take 4) rfl ⟨_,rfl,?_⟩⟩
 have nt:num4 ((B.drop (2+n)).take (4-0))=num4 (B.drop (2+n)):=num4_take _
 rw[nt]
 refine c44 (hs11.is 0 rfl) hob (by have:=infl_out he;omega) ⟨_,rfl,?_⟩
 refine br_ne (fun hne=>hbad 23 (by decide) (by rw[if_pos hne]) H11 hs11.ext) (fun heq=>?_)
 rw[if_neg (fun hn=>hn heq)] at hbad hR
 refine br_dec (fun hgt=>hbad 25 (by decide) (by rw[if_pos (by omega)]) H11 hs11.ext) (fun hle=>?_)
 rw[if_neg (by omega)] at hR
 exact hR out rfl H11 q m hob hs11
set_option maxHeartbeats 4000000 in
theorem c9{p:Option Addr}{l c:Nat}{B:List Int}(hB:IS H p l (kints .u8 B))(hlc:l≤c)(hx:Bys B)(hl:l≤10000000)
 (hno:decP B=none→ ∀H',Ext H H'→R (.tuple #[.int .i64 0,.int .i64 0,.slice none 0 0,.bool false]) H')
 (hok: ∀w h out,decP B=some (w,h,out)→ ∀q c' H',St H H' [.sl q out.length c' 5 1 (kints .u8 out)]→R (.tuple #[.int .i64 w,.int .i64 h,.slice q out.length c',.bool true]) H'):
 CallsH Tryz.prog 9 #[.slice p l c] H R:=by
 have hBl:=hB.length
 refine Tryz.s9 ?_
 unfold Tryz.S9
 unfold decP at hno hok
 intro J hJ
 refine br_dec (fun hlt=>hno (by rw[if_pos (.inl (by omega))]) H (Ext.refl _)) (fun hge=>?_)
 have hcut:=hB.cut hlc (i:=0) (j:=8) (by omega) (by omega)
 rw[List.drop_zero] at hcut
 refine⟨by decide,by omega,c13 fun b1 H36 hs36=>⟨_,_,_,rfl,?_⟩⟩
 refine c10 (hcut.ext hs36.ext) (IS.of_block (hs36.block 0 rfl) rfl) (by decide) ⟨_,rfl,?_⟩
 rw[show B.take (8-0)=B.take 8 from rfl]
 refine br_not (fun hn=>hno (by rw[if_pos (.inr (of_decide_eq_false hn))]) H36 hs36.ext) (fun hy=>?_)
 have hmk:=of_decide_eq_true hy
 rw[if_neg (by rintro(h|h);omega;exact h hmk)] at hno hok
 have h8:=hB.cut hlc (i:=8) (j:=l) (by omega) (Nat.le_refl _)
 rw[List.take_of_length_le (by rw[List.length_drop];omega)] at h8
 refine hJ H36 ⟨by decide,by omega,c24 (h8.ext hs36.ext) (by omega) (hx.drop 8) (by omega) (fun hp H5 q l5 c5 w h e5=>⟨_,_,_,_,_,_,rfl,fun J2 hJ2=>br_t rfl (hno (by rw[hp]) H5 (hs36.ext.trans e5))⟩) (fun hd z hp q c5 H5 hzb hzl hs5=>⟨_,_,_,_,_,_,rfl,?_⟩)⟩
 rw[hp] at hno hok
 simp only at hno hok
 have hs5:St H H5 [.sl q z.length c5 5 1 (kints .u8 z)]:=(hs36.call hs5).take 1
 generalize num4 hd=w at hno hok ⊢
 generalize num4 (hd.drop 4)=h at hno hok ⊢
 intro J2 hJ2
 refine br_f rfl (c7 ⟨_,rfl,br_not (fun hn=>hno (by rw[pixP,if_neg (of_decide_eq_false hn)]) H5 hs5.ext) (fun hsz=>?_)⟩)
 have hsz:=of_decide_eq_true hsz
 have hsz2:=hsz
 obtain⟨hw1,hh1,hw2,hh2,hwh⟩:=hsz2
 rw[pixP,if_pos hsz] at hno hok
 obtain⟨w4,hw4⟩: ∃w4:Nat,(4*w).toNat=w4:=⟨_,rfl⟩
 obtain⟨hN,hhN⟩: ∃hN:Nat,h=hN:=⟨h.toNat,by omega⟩
 subst hhN
 have hw4':4*w=(w4:Int):=by omega
 rw[hw4,Int.toNat_natCast,hw4'] at hno hok
 have hmul:(hN:Int)*((w4:Int)+1)=((hN*(w4+1):Nat):Int):=by simp
 have hwl:hN*w4≤16777216:=by
  have e:(4*w)*(hN:Int)=4*(w*(hN:Int)):=Int.mul_assoc 4 w _
  rw[hw4',←Int.natCast_mul,Nat.mul_comm] at e
  omega
 have hnl:hN*(w4+1)≤16809984:=by rw[Nat.mul_add,Nat.mul_one];omega
 have W4:wrap .i64 (4*w)=(w4:Int):=by rw[wrap_id (by omega) (by omega)];omega
 have W5:wrap .i64 ((w4:Int)+1)=((w4+1:Nat):Int):=by rw[wrap_id (by omega) (by omega)];omega
 have W6:wrap .i64 ((hN:Int)*((w4+1:Nat):Int))=((hN*(w4+1):Nat):Int):=by rw[←Int.natCast_mul,wrap_id (by omega) (by omega)]
 rw[W4,W5,W6] at hJ2
 rw[hmul] at hno hok
 refine hJ2 H5 (c25 (hs5.is 0 rfl) hzb ((hs5.fs 0 rfl).le) (by omega) (by omega) (fun k hk hu H13 e13=>⟨_,_,_,_,rfl,fun J3 hJ3=>br_t (by simpa using hk) (hno (by rw[hu]) H13 (hs5.ext.trans e13))⟩) (fun lines hu H13 lq lc hlb hs13=>⟨_,_,_,_,rfl,?_⟩))
 have hs13:St H H13 [.sl lq lines.length lc 5 1 (kints .u8 lines)]:=(hs5.call hs13).take 1
 rw[hu] at hno hok
 simp only at hno hok
 intro J3 hJ3
 refine br_f rfl (br_ne (fun hne=>hno (by rw[if_neg hne]) H13 hs13.ext) (fun hel=>?_))
 rw[if_pos hel] at hno hok
 have hel:lines.length=hN*(w4+1):=by omega
 rw[Int.toNat_natCast] at hJ3
 refine hJ3 H13 ⟨by omega,by omega,by omega,by omega,?_⟩
 refine hs13.alc fun b18 H19 hs19=>?_
 have e57:(List.toArray (reps w4 (Array.toList #[Value.int .u8 0]))).toList=kints .u8 (List.replicate w4 0):=by simp[reps_rep,kints]
 have hs19:=hs19.toSl 0 rfl (l:=w4) (k:=1) (by simp[reps_rep]) e57 (kints_one _ _)
 intro X hX
 have rows: ∀y,y≤hN→ ∀(out ab:List Int) oq oc aq ac H1,rowP w4 lines y=some (out,ab)→St H H1 [.sl aq w4 ac 5 1 (kints .u8 ab),.sl lq lines.length lc 5 1 (kints .u8 lines),.sl oq out.length oc 5 1 (kints .u8 out)]→
  X [.slice oq out.length oc,.slice aq w4 ac,.int .i64 (y:Nat)] H1:=upto fun y hy ih out ab oq oc aq ac H1 hrow hs1=>by
  obtain⟨rl1,rl2,rb1,rb2⟩:=rowP_len hel hy hrow
  have hob:out.length≤16777216:=by
   have h2:y*w4≤hN*w4:=Nat.mul_le_mul_right _ hy
   omega
  refine hX _ _ _ _ _ _ _ H1 (br_dec (fun hlt=>?_) (fun hge=>?_))
  ·have hlt:y<hN:=by omega
   have hfull:(y+1)*(w4+1)≤hN*(w4+1):=Nat.mul_le_mul_right _ hlt
   rw[Nat.add_mul,Nat.one_mul] at hfull
   have Wy:wrap .i64 (((y:Nat):Int)*((w4+1:Nat):Int))=((y*(w4+1):Nat):Int):=by rw[←Int.natCast_mul,wrap_id (by omega) (by omega)]
   have Wz:wrap .i64 (((y*(w4+1):Nat):Int)+((w4+1:Nat):Int))=((y*(w4+1)+(w4+1):Nat):Int):=by rw[wrap_id (by omega) (by omega)];omega
   have Wo:wrap .i64 (((y*(w4+1):Nat):Int)+1)=((y*(w4+1)+1:Nat):Int):=by rw[wrap_id (by omega) (by omega)];omega
   rw[Wy,Wz,Wo]
   have his:=hs1.is 1 rfl
   have hk0:=hlb.getD (y*(w4+1))
   have g0:=get_gD lines 0 (i:=y*(w4+1)) (by omega)
   refine his.rd (by omega) (by omega) (by rw[Int.toNat_natCast];exact g0) ?_
   rw[w8 hk0]
   refine br_dec (fun hbig=>?_) (fun hsm=>?_)
   ·refine hno ?_ H1 hs1.ext
    have:rowP w4 lines (y+1)=none:=by
     rw[rowP,hrow]
     simp only
     rw[if_pos hbig]
    rw[rowP_none this hN hlt]
    rfl
   ·have hcap:=(hs1.fs 1 rfl).le
    refine⟨by omega,by omega,by omega,by omega,?_⟩
    rw[Int.toNat_natCast,Int.toNat_natCast]
    have hcut1:=his.cut hcap (i:=y*(w4+1)+1) (j:=y*(w4+1)+(w4+1)) (by omega) (by omega)
    rw[show y*(w4+1)+(w4+1)-(y*(w4+1)+1)=w4 from by omega] at hcut1 ⊢
    refine c26 hcut1 (hs1.is 0 rfl) ((hlb.drop _).take _) rb2 (by omega) rfl fun q' m' H28 hs28=>⟨_,_,_,rfl,?_⟩
    have htl:((lines.drop (y*(w4+1)+1)).take w4).length=w4:=by simp;omega
    have hul:=unfP_len (lines.getD (y*(w4+1)) 0) ((lines.drop (y*(w4+1)+1)).take w4) ab
    have hs28:=hs1.call hs28
    have hrow':rowP w4 lines (y+1)=some (out++unfP (lines.getD (y*(w4+1)) 0) ((lines.drop (y*(w4+1)+1)).take w4) ab,unfP (lines.getD (y*(w4+1)) 0) ((lines.drop (y*(w4+1)+1)).take w4) ab):=by
     rw[rowP,hrow]
     simp only
     rw[if_neg hsm]
    generalize unfP (lines.getD (y*(w4+1)) 0) ((lines.drop (y*(w4+1)+1)).take w4) ab=rr at*
    refine hs28.appI 3 rfl (hs28.is 0 rfl) (kints_one _ _) rfl (by omega) (by omega) fun q19 c19 H31 hs31=>?_
    rw[←kints_append] at hs31
    have el:(out++rr).length=out.length+w4:=by rw[List.length_append,hul,htl]
    rw[wrap_id (by omega) (by omega)]
    have:=ih hlt (out++rr) rr q19 c19 q' m' H31 hrow' (by rw[el];exact hs31.del 1)
    rw[el] at this
    exact this
  ·have:y=hN:=by omega
   subst this
   exact hok w y out (by rw[hrow];rfl) oq oc H1 ((hs1.front 2 rfl).take 1)
 have:=rows 0 (Nat.zero_le _) [] (List.replicate w4 0) none 0 _ w4 H19 rfl ((hs19.nilSl 5 1).perm (List.perm_append_comm (l₁:=[_]) (l₂:=[_,_])))
 exact this
end Go.Proofs
namespace Go.Proofs
open Go.Sh
open Go.IntKind (wrap)
variable {H:Heap} {R:Value→Heap→Prop}
set_option maxHeartbeats 1000000 in
theorem plawRight{w h part:Int}{p:Option Addr}{l c:Nat}{rgba:List Int}(hi:IS H p l (kints .u8 rgba))(hx:Bys rgba)(hlc:l≤c)(hpart:part≤9223372036854775807):
 CallsH Tryz.prog 3 #[.int .i64 w,.int .i64 h,.slice p l c,.int .i64 part] H (fun u H'=>u= .bool true∧Ext H H'):=by
 have e1:=hi.length
 refine Tryz.s3 ?_
 unfold Tryz.S3
 refine c6 fun H6 e6=>⟨_,rfl,br_f rfl ?_⟩
 intro J hJ
 refine br_dec (fun _=>⟨rfl,e6⟩) (fun hl=>c7 ⟨_,rfl,br_not (fun _=>⟨rfl,e6⟩) (fun hsz=>br_ne (fun _=>⟨rfl,e6⟩) (fun hel0=>hJ H6 ?_))⟩)
 have hsz:=of_decide_eq_true hsz
 have hsz2:=hsz
 obtain⟨hw1,hh1,hw2,hh2,hwh⟩:=hsz2
 have W0:wrap .i64 (wrap .i64 (4*w)*h)=4*w*h:=by
  have:=mulSz hw1 hh1 hw2 hh2
  have hmm:4*w*h=4*(w*h):=Int.mul_assoc 4 w h
  rw[wrap_id (n:=4*w) (by omega) (by omega),wrap_id (by omega) (by omega)]
 rw[W0] at hel0
 refine encodeC (hi.ext e6) hx (by omega) hlc hpart (fun hn=>absurd hsz hn) (fun _ hne=>absurd hel0 hne) fun _ hel z m n q c' H11 hzb hzl hz0 hn1 hm1 hm2 hnp hd hle hs11=>⟨_,_,_,_,rfl,?_⟩
 have hlcE:=(hs11.fs 0 rfl).le
 have heb:=enc_bys (w:=w) (h:=h) (n:=n) (m:=m) hzb
 refine c9 (hs11.is 0 rfl) hlcE heb (by omega) (fun hn=>by rw[hd] at hn;cases hn) (fun w' h' out' hd' q2 c2 H15 hs15=>⟨_,_,_,_,_,_,rfl,?_⟩)
 rw[hd] at hd'
 cases hd'
 have hs15:=hs11.call hs15
 intro J2 hJ2
 have hx15:=e6.trans hs15.ext
 refine br_f rfl (br_f (by simp) (br_f (by simp) ?_))
 refine c10 (hs15.is 0 rfl) (hi.ext hx15) (by omega) ⟨_,rfl,br_f (by simp) (hJ2 H15 ?_)⟩
 -- the chunks,one behind the other
 intro X hX
 have hisE:=hs15.is 1 rfl
 have hEl:(encP w h z n m).length≤1400000:=hle
 have step: ∀(at_:Nat) (k d T:List Int),(encP w h z n m).drop at_=chuP k d++T→k.length=4→Bys k→Bys d→(k=kDAT→1≤part→(d.length:Int)≤part)→X [.int .i64 (at_+(d.length+12):Nat)] H15→X [.int .i64 (at_:Nat)] H15:=fun at_ k d T hdr hk hkb hdb hkd hnx=>by
  have hlen:=congrArg List.length hdr
  rw[List.length_drop,List.length_append,chuP_len,hk] at hlen
  have W12:wrap .i64 ((at_:Int)+12)=((at_+12:Nat):Int):=by rw[wrap_id (by omega) (by omega)];omega
  have W4:wrap .i64 ((at_:Int)+4)=((at_+4:Nat):Int):=by rw[wrap_id (by omega) (by omega)];omega
  have W8:wrap .i64 ((at_:Int)+8)=((at_+8:Nat):Int):=by rw[wrap_id (by omega) (by omega)];omega
  refine hX _ H15 ?_
  rw[W12,W4,W8]
  refine br_y (by omega) ?_
  intro J3 hJ3
  refine⟨by omega,by omega,by omega,by omega,?_⟩
  have h4:=hisE.cut hlcE (i:=at_) (j:=at_+4) (by omega) (by omega)
  have h8:=hisE.cut hlcE (i:=at_+4) (j:=at_+8) (by omega) (by omega)
  rw[Nat.add_sub_cancel_left] at h4
  rw[show at_+8-(at_+4)=4 from by omega] at h8
  rw[Int.toNat_natCast,Int.toNat_natCast,Int.toNat_natCast,Nat.add_sub_cancel_left,show at_+8-(at_+4)=4 from by omega]
  refine c11 h4 ((heb.drop _).take 4) rfl ⟨_,rfl,by omega,by omega,by omega,by omega,_,is_bsOf h8,?_⟩
  have en:num4 (((encP w h z n m).drop at_).take 4)=(d.length:Int):=by
   rw[num4_take,hdr]
   have e:chuP k d++T=big4 d.length++(k++(d++(big4 (crcS (k++d):Nat)++T))):=by simp[chuP]
   rw[e,num4_app (by omega)]
  have ek:((encP w h z n m).drop (at_+4)).take 4=k:=by
   rw[←List.drop_drop,hdr]
   have e:chuP k d++T=big4 d.length++(k++(d++(big4 (crcS (k++d):Nat)++T))):=by simp[chuP]
   rw[e]
   show(k++_).take 4=k
   exact List.take_left' hk
  rw[en,ek,←tDAT,tx_beq hkb bDAT]
  have go:J3 [.int .i64 (d.length:Nat)] H15:=hJ3 _ H15 (by
   have Wd:wrap .i64 (((d.length:Nat):Int)+12)=((d.length+12:Nat):Int):=by rw[wrap_id (by omega) (by omega)];omega
   have We:wrap .i64 ((at_:Int)+((d.length+12:Nat):Int))=((at_+(d.length+12):Nat):Int):=by rw[wrap_id (by omega) (by omega)];omega
   rw[Wd,We]
   exact hnx)
  exact br_dec (fun hkk=>br_dec (fun hp=>br_n (by have:=hkd hkk (by omega);omega) go) (fun _=>go)) (fun _=>go)
 have hsp:=enc_split w h z n m
 have hEnd:X [.int .i64 ((encP w h z n m).length:Nat)] H15:=hX _ H15 (br_n (by rw[wrap_id (by omega) (by omega)];omega) ⟨rfl,hx15⟩)
 have body: ∀(j i:Nat) (at_:Nat),(encP w h z n m).drop at_=sufB n z i j++chuP kEND []→X [.int .i64 (at_:Nat)] H15:=by
  intro j
  induction j with
  |zero=>
   intro i at_ hdr
   rw[sufB,List.nil_append] at hdr
   have hlen:=congrArg List.length hdr
   rw[List.length_drop] at hlen
   have h12:(chuP kEND []).length=12:=rfl
   refine step at_ kEND [] [] (by rw[hdr,List.append_nil]) rfl bEND (fun x hx=>by cases hx) (fun h=>absurd h (by decide)) ?_
   have:at_+(([]:List Int).length+12)=(encP w h z n m).length:=by simp;omega
   rw[this]
   exact hEnd
  |succ j ih=>
   intro i at_ hdr
   rw[sufB,List.append_assoc] at hdr
   refine step at_ kDAT (cutP n z i) _ hdr rfl bDAT (cut_bys hzb n i) (fun _ hp=>?_) (ih (i+1) _ ?_)
   ·have:=hnp hp
    have:(cutP n z i).length≤n:=by unfold cutP;simp;omega
    omega
   ·rw[←List.drop_drop,hdr]
    have:(chuP kDAT (cutP n z i)).length=(cutP n z i).length+12:=by rw[chuP_len];show 4+_+8=_;omega
    rw[←this,List.drop_left]
 refine step 8 kHDR (hdrP w h) (sufB n z 0 m++chuP kEND []) (by rw[hsp];rfl) rfl bHDR (hdr_bys w h) (fun hh=>absurd hh (by decide)) (body m 0 _ ?_)
 rw[hdr13,show 8+(13+12)=8+25 from rfl,←List.drop_drop,hsp,show(markP++(chuP kHDR (hdrP w h)++(sufB n z 0 m++chuP kEND []))).drop 8=chuP kHDR (hdrP w h)++(sufB n z 0 m++chuP kEND []) from rfl]
 have:(chuP kHDR (hdrP w h)).length=25:=by rw[chuP_len];rfl
 rw[←this,List.drop_left]
end Go.Proofs
namespace Go.Proofs
open Go.Sh Go.RowKit Go.ChangeShapes Go.WideShapes Go.ChangeAt
theorem wf_range8{a:Int}(h:(Lit.int .u8 a).wf=true):0≤a∧a<256:=by
 have:0≤a∧a≤255:=by simpa[Lit.wf,IntKind.min,IntKind.max,IntKind.signed,IntKind.bits] using h
 omega
theorem bytesAt{H:Type}{enc:TypeId×Value→H}{W:World}{fuel:Nat}{a0:Option Addr}{len cap:Nat}{x:DataW H×List MemPlace}(hf:DataW.trod enc Tryz.prog W 0 (fun _=>true) true fuel 22 [.slice a0 len cap]=some x):
 ∃ls,len≤cap∧IS W.heap a0 len (kints .u8 ls)∧ ∀n∈ls,0≤n∧n<256:=by
 rcases open_ints Tryz.underlying22 Tryz.underlying5 (by kernel_rfl) hf with ⟨hcs,_⟩|⟨a,len2,cap2,zs,hcs,_,hl,_,hz,_,hc,hw⟩
 ·simp at hcs
  obtain⟨rfl,rfl,rfl⟩:=hcs
  exact⟨[],Nat.le_refl _,⟨rfl,fun i v hv=>by simp[kints] at hv⟩,fun n hn=>by simp at hn⟩
 ·simp at hcs
  obtain⟨rfl,rfl,rfl⟩:=hcs
  have hzl:len≤zs.length:=by rw[hz];simp;omega
  refine⟨zs.take len,hl,⟨by rw[kints_len];simp;omega,fun i v hv=>⟨a,rfl,?_⟩⟩,fun n hn=>wf_range8 (hw n (List.mem_of_mem_take hn))⟩
  have hi:i<len:=by have:=(List.getElem?_eq_some_iff.1 hv).1;rw[kints_len] at this;simp at this;omega
  have:=hc i (by omega)
  rw[cell_eq] at this
  rw[this]
  have hg:(zs.take len)[i]?=some (zs.getD i 0):=by
   rw[List.getElem?_take_of_lt hi,List.getD_eq_getElem?_getD,List.getElem?_eq_getElem (by omega)];rfl
  rw[kints_get hg] at hv
  exact hv
set_option maxRecDepth 100000 in
theorem bytesIn_of{H:Type}{enc:TypeId×Value→H}{W:World}{v:Value}{d:DataW H}{ps:List MemPlace}{base:Nat}(hv:Value.okWide Tryz.prog W .any base 22 v)(h:DataW.Trod enc Tryz.prog W 0 (fun _=>true) true 22 v d ps):
 ∃a l c ls,v= .slice a l c∧l≤c∧IS W.heap a l (kints .u8 ls)∧ ∀n∈ls,0≤n∧n<256:=by
 obtain⟨a0,len,cap,rfl⟩:=okWide_slice Tryz.underlying22 hv
 obtain⟨fuel,hf⟩:=h
 obtain⟨ls,h1,h2,h3⟩:=bytesAt hf
 exact⟨a0,len,cap,ls,rfl,h1,h2,h3⟩
end Go.Proofs
