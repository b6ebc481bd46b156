/-
  OWN WORK. Several texts in one: PnO, PnP, PnQ, PnR, OpBytes, OpPiece, PnS.
-/
import Derived.Test.YtdnfhenncjhenaaGreatMgPngChunksG
import Derived.Test.YtdnfhenncjhenaaGreatRows
import Derived.Test.YtdnfhenncjhenaaGreatMgPngChunksB
import Derived.Test.YtdnfhenncjhenaaGreatMgPngChunksC
import Derived.ChangeSlices
import Derived.Deep.Slices

set_option linter.unusedVariables false
set_option linter.unusedSimpArgs false
set_option maxRecDepth 10000
namespace Go.Proofs
open Go.Sh
open Go.IntKind (wrap)
variable {H:Heap} {R:Value→Heap→Prop}
theorem chu_take{B:List Int}(hb:Bys B){n:Nat}(hn:num4 B=n)(hl:n+12≤B.length):
 (chuP ((B.drop 4).take 4) ((B.drop 8).take n)=B.take (n+12))↔num4 (B.drop (8+n))=(crcS ((B.drop 4).take 4++(B.drop 8).take n):Nat):=by
 have e4:B.take 4=big4 n:=by
  have h1:B=B.take 4++B.drop 4:=(List.take_append_drop 4 B).symm
  have h2:num4 (B.take 4++B.drop 4)=num4 (big4 n++[]):=by
   rw[←h1,num4_app (by have:=num4_nn hb;omega),hn]
  exact num4_eq (by simp;omega) rfl (hb.take 4) (big4_bys _) h2
 have hk:((B.drop 4).take 4).length=4:=by simp;omega
 have hd:((B.drop 8).take n).length=n:=by simp;omega
 have hkb:Bys ((B.drop 4).take 4++(B.drop 8).take n):=fun x hx=>(List.mem_append.1 hx).elim ((hb.drop 4).take 4 x) ((hb.drop 8).take n x)
 have hc:=crcS_lt hkb
 have split:B.take (n+12)=big4 n++(B.drop 4).take 4++(B.drop 8).take n++(B.drop (8+n)).take 4:=by
  rw[←e4,show n+12=4+(4+(n+4)) from by omega,List.take_add,List.take_add,List.take_add,List.drop_drop,List.drop_drop]
  simp only[List.append_assoc]
 rw[split]
 unfold chuP
 rw[hd]
 constructor
 ·intro h
  have h:=List.append_cancel_left h
  have h2:=big4_num (s:=(crcS ((B.drop 4).take 4++(B.drop 8).take n):Nat)) (by omega)
  rw[h] at h2
  have e:num4 ((B.drop (8+n)).take 4)=num4 (B.drop (8+n)):=by
   unfold num4
   simp only[List.getD_eq_getElem?_getD]
   rw[List.getElem?_take_of_lt (by omega),List.getElem?_take_of_lt (by omega),List.getElem?_take_of_lt (by omega),List.getElem?_take_of_lt (by omega)]
  rw[←e,h2]
 ·intro h
  congr 1
  have h1:B.drop (8+n)=(B.drop (8+n)).take 4++(B.drop (8+n)).drop 4:=(List.take_append_drop 4 _).symm
  rw[h1] at h
  have h2:num4 ((B.drop (8+n)).take 4++(B.drop (8+n)).drop 4)=num4 (big4 (crcS ((B.drop 4).take 4++(B.drop 8).take n):Nat)++[]):=by
   rw[num4_app (by omega)];exact h
  exact(num4_eq (by simp;omega) rfl ((hb.drop _).take 4) (big4_bys _) h2).symm
set_option maxHeartbeats 1000000 in
theorem c41{p:Option Addr}{l c:Nat}{B:List Int}(hB:IS H p l (kints .u8 B))(hlc:l≤c)(hx:Bys B)(hl:l≤10000000)
 (hno:nxtP B=none→ ∀H' ks (dq:Option Addr) (dl dc:Nat) (m:Int),Ext H H'→R (.tuple #[.string ks,.slice dq dl dc,.int .i64 m,.bool false]) H')
 (hok: ∀k d B',nxtP B=some (k,d,B')→ ∀dq dc H',IS H dq d.length (kints .u8 d)→d.length≤dc→d.length+12+B'.length=l→B.drop (d.length+12)=B'→Ext H H'→R (.tuple #[.string (textOf k),.slice dq d.length dc,.int .i64 (d.length+12:Nat),.bool true]) H'):
 CallsH Tryz.prog 41 #[.slice p l c] H R:=by
 have hBl:=hB.length
 refine Tryz.s41 ?_
 unfold Tryz.S41
 unfold nxtP at hno hok
 refine br_dec (fun hlt=>hno (by rw[if_pos (by omega)]) H _ _ _ _ _ (Ext.refl _)) (fun hge=>?_)
 rw[if_neg (show ¬B.length<12 by omega)] at hno hok
 have h4:=hB.cut hlc (i:=0) (j:=4) (by omega) (by omega)
 rw[List.drop_zero] at h4
 have n4:num4 (B.take 4)=num4 B:=by
  unfold num4
  simp only[List.getD_eq_getElem?_getD]
  rw[List.getElem?_take_of_lt (by omega),List.getElem?_take_of_lt (by omega),List.getElem?_take_of_lt (by omega),List.getElem?_take_of_lt (by omega)]
 refine⟨by decide,by omega,c11 h4 (hx.take 4) rfl ⟨_,rfl,?_⟩⟩
 rw[Nat.sub_zero,n4]
 obtain⟨n0,n1⟩:=num4_nn hx
 obtain⟨n,hn⟩:=Int.eq_ofNat_of_zero_le n0
 rw[hn] at hno hok ⊢
 rw[Int.toNat_natCast] at hno hok
 intro J hJ
 have w12n:wrap .i64 (((n:Nat):Int)+12)=((n+12:Nat):Int):=by rw[wrap_id (by omega) (by omega)];omega
 rw[w12n]
 have fin:n+12≤l→J [] H:=fun hnl=>by
  rw[if_neg (by omega)] at hno hok
  have w8n:wrap .i64 ((8:Int)+(n:Nat))=((8+n:Nat):Int):=by rw[wrap_id (by omega) (by omega)];omega
  have hk:=hB.cut hlc (i:=4) (j:=8) (by omega) (by omega)
  have hd:=hB.cut hlc (i:=8) (j:=8+n) (by omega) (by omega)
  have ht:=hB.cut hlc (i:=0) (j:=n+12) (by omega) (by omega)
  have hct:=chu_take hx hn (by omega)
  have hkb:=(hx.drop 4).take 4
  have hdb:=(hx.drop 8).take n
  refine hJ H ⟨by decide,by omega,by decide,by decide,(B.drop 4).take 4,is_bsOf hk,?_⟩
  rw[w8n,w12n]
  rw[show 8+n-8=n from by omega] at hd
  rw[List.drop_zero,Nat.sub_zero] at ht
  have e4:((B.drop 4).take 4).length=4:=by simp;omega
  have edl:((B.drop 8).take n).length=n:=by simp;omega
  have erl:(B.drop (12+n)).length=l-(12+n):=by rw[List.length_drop,hBl]
  generalize hkk:(B.drop 4).take 4=k at*
  generalize hdd:(B.drop 8).take n=d at*
  rw[Int.toNat_natCast,Int.toNat_natCast,show(Int.toNat (8:Int))=8 from rfl,show 8+n-8=n from by omega,Nat.sub_zero,Nat.sub_zero]
  intro X hX
  have chars: ∀t,t≤4→(∀x∈k.take t,letP x)→X [.int .i64 (t:Nat)] H:=upto fun t ht4 ih hpre=>by
   refine hX _ H (br_dec (fun hlt=>?_) (fun hge=>?_))
   ·have hlt:t<4:=by omega
    have hg:=get_gD k 0 (i:=t) (by omega)
    have hv:=hkb.getD t
    have bad: ¬letP (k.getD t 0)→ ∀ks (dq:Option Addr) (dl dc:Nat) (m:Int),R (.tuple #[.string ks,.slice dq dl dc,.int .i64 m,.bool false]) H:=fun hnl ks dq dl dc m=>hno (by rw[if_pos ⟨_,List.mem_of_getElem? hg,hnl⟩]) H ks dq dl dc m (Ext.refl _)
    intro J2 hJ2
    have go:letP (k.getD t 0)→J2 [] H:=fun hlp=>hJ2 H (by
     have:=ih hlt (fun x hx=>by
      rw[List.take_add_one,hg,Option.toList_some] at hx
      rcases List.mem_append.1 hx with h|h
      ·exact hpre x h
      ·rw[List.mem_singleton.1 h];exact hlp)
     rw[wrap_id (by omega) (by omega)]
     exact this)
    refine⟨_,by omega,by rw[Int.toNat_natCast];exact ba_get (by omega),?_⟩
    rw[show((UInt8.toNat (UInt8.ofNat (k.getD t 0).toNat):Nat):Int)=k.getD t 0 from by rw[UInt8.toNat_ofNat'];omega]
    refine br_dec (fun h97=>br_dec (fun h65=>bad (fun hlp=>?_) _ _ _ _ _) (fun h65=>br_dec (fun h90=>bad (fun hlp=>?_) _ _ _ _ _) (fun h90=>go (.inr ⟨by omega,by omega⟩)))) (fun h97=>br_dec (fun h122=>br_dec (fun h65=>bad (fun hlp=>?_) _ _ _ _ _) (fun h65=>br_dec (fun h90=>bad (fun hlp=>?_) _ _ _ _ _) (fun h90=>go (.inr ⟨by omega,by omega⟩)))) (fun h122=>go (.inl ⟨by omega,by omega⟩)))
    all_goals (unfold letP at hlp;omega)
   ·have:t=4:=by omega
    subst this
    rw[List.take_of_length_le (by omega)] at hpre
    rw[if_neg (show ¬ ∃x∈k,¬letP x from fun⟨x,h1,h2⟩=>h2 (hpre x h1))] at hno hok
    refine⟨by omega,by omega,by decide,by omega,by omega,by omega,?_⟩
    refine c14 hd hdb (by omega) (by rw[tx_size];omega) fun q1 m1 H15 hs15=>⟨_,_,_,rfl,?_⟩
    rw[tx_sB hkb] at hs15 ⊢
    have hcl:(chuP k d).length≤1000000000000:=by rw[chuP_len];omega
    refine c10 (hs15.is 0 rfl) (ht.ext hs15.ext) hcl ⟨_,rfl,?_⟩
    by_cases hcc:num4 (B.drop (8+n))=(crcS (k++d):Nat)
    ·rw[decide_eq_true (hct.2 hcc)]
     rw[if_neg (fun h=>h hcc)] at hok
     have hok:=hok k d (B.drop (12+n)) rfl
     rw[edl,erl] at hok
     exact hok _ _ H15 hd (by omega) (by omega) (by rw[Nat.add_comm]) hs15.ext
    ·rw[decide_eq_false fun h=>hcc (hct.1 h)]
     exact hno (by rw[if_pos hcc]) H15 _ _ _ _ _ hs15.ext
  exact chars 0 (by omega) (fun x hx=>by simp at hx)
 refine br_dec (fun hbig=>hno (by rw[if_pos (by omega)]) H _ _ _ _ _ (Ext.refl _)) (fun hsm=>?_)
 exact br_dec (fun hgt=>hno (by rw[if_pos (by omega)]) H _ _ _ _ _ (Ext.refl _)) (fun hle=>fin (by omega))
end Go.Proofs
namespace Go.Proofs
open Go.Sh
open Go.IntKind (wrap)
variable {H:Heap} {R:Value→Heap→Prop}
theorem num4_take(B:List Int):num4 (B.take 4)=num4 B:=by
 unfold num4
 simp only[List.getD_eq_getElem?_getD]
 rw[List.getElem?_take_of_lt (by omega),List.getElem?_take_of_lt (by omega),List.getElem?_take_of_lt (by omega),List.getElem?_take_of_lt (by omega)]
set_option maxHeartbeats 2000000 in
theorem c24{p:Option Addr}{l c:Nat}{B:List Int}(hB:IS H p l (kints .u8 B))(hlc:l≤c)(hx:Bys B)(hl:l≤10000000)
 (hno:prtP B=none→ ∀H' (q:Option Addr) (l c:Nat) (w h:Int),Ext H H'→R (.tuple #[.slice q l c,.int .i64 w,.int .i64 h,.bool false]) H')
 (hok: ∀hd z,prtP B=some (hd,z)→ ∀q c H',Bys z→z.length≤10000000→St H H' [.sl q z.length c 5 1 (kints .u8 z)]→R (.tuple #[.slice q z.length c,.int .i64 (num4 hd),.int .i64 (num4 (hd.drop 4)),.bool true]) H'):
 CallsH Tryz.prog 24 #[.slice p l c] H R:=by
 have hBl:=hB.length
 refine Tryz.s24 ?_
 unfold Tryz.S24
 unfold prtP at hno hok
 refine c41 hB hlc hx hl (fun hn H3 ks dq dl dc m e3=>⟨_,_,_,_,_,_,rfl,fun J hJ=>br_t rfl (hno (by rw[hn]) H3 _ _ _ _ _ e3)⟩) (fun k hd B' hn dq dc H3 hdi hdc hsum hdrop e3=>⟨_,_,_,_,_,_,rfl,?_⟩)
 obtain⟨g1,g2,g3,g4,g5⟩:=nxtP_some hn
 obtain⟨hkb,hdb,hxB'⟩:=g4 hx
 rw[hn] at hno hok
 simp only at hno hok
 intro J hJ
 refine br_f rfl ?_
 rw[←tHDR,tx_beq hkb bHDR]
 refine br_not (fun hk=>hno (by rw[if_neg fun h=>of_decide_eq_false hk h.1]) H3 _ _ _ _ _ e3) (fun hk=>?_)
 have hk:=of_decide_eq_true hk
 refine br_ne (fun hne=>hno (by rw[if_neg fun h=>by have:=h.2.1;omega]) H3 _ _ _ _ _ e3) (fun he=>?_)
 have he:hd.length=13:=by omega
 refine⟨by decide,by omega,(St.of_ext e3).alc fun b34 H35 hs35=>?_⟩
 have hcut:=hdi.cut hdc (i:=8) (j:=hd.length) (by omega) (Nat.le_refl _)
 rw[List.take_of_length_le (by rw[List.length_drop];omega)] at hcut
 refine c10 (ys:=[8,6,0,0,0]) (hcut.ext hs35.ext) (IS.of_block (hs35.block 0 rfl) rfl) (by omega) ⟨_,rfl,?_⟩
 refine br_not (fun hq=>hno (by rw[if_neg fun h=>of_decide_eq_false hq h.2.2]) H35 _ _ _ _ _ hs35.ext) (fun hq=>?_)
 have hq:=of_decide_eq_true hq
 rw[if_pos ⟨hk,he,hq⟩] at hno hok
 have h04:=hdi.cut hdc (i:=0) (j:=4) (by omega) (by omega)
 have h48:=hdi.cut hdc (i:=4) (j:=8) (by omega) (by omega)
 rw[List.drop_zero] at h04
 refine hJ H35 ⟨by decide,by omega,c11 (h04.ext hs35.ext) (hdb.take 4) rfl ⟨_,rfl,by decide,by omega,by decide,by decide,c11 (h48.ext hs35.ext) ((hdb.drop 4).take 4) rfl ⟨_,rfl,by omega,by omega,?_⟩⟩⟩
 have nt1:num4 (hd.take (4-0))=num4 hd:=num4_take hd
 have nt2:num4 ((hd.drop 4).take (8-4))=num4 (hd.drop 4):=num4_take _
 rw[nt1,nt2]
 generalize hF:frmP (B'.length+1) 0 [] (nxtP B')=F at hno hok
 have bad:F=none→ ∀H' (q:Option Addr) (l c:Nat) (w h:Int),Ext H H'→R (.tuple #[.slice q l c,.int .i64 w,.int .i64 h,.bool false]) H':=fun hn=>hno (by rw[hn];rfl)
 have good: ∀z,F=some z→ ∀q c H',Bys z→z.length≤10000000→St H H' [.sl q z.length c 5 1 (kints .u8 z)]→R (.tuple #[.slice q z.length c,.int .i64 (num4 hd),.int .i64 (num4 (hd.drop 4)),.bool true]) H':=fun z hz=>hok hd z (by rw[hz];rfl)
 clear hno hok
 have hs35:=hs35.tail
 rw[Int.toNat_natCast]
 have hrest:=hB.cut hlc (i:=hd.length+12) (j:=l) (by omega) (Nat.le_refl _)
 rw[List.take_of_length_le (by rw[List.length_drop];omega),hdrop,show l-(hd.length+12)=B'.length from by omega] at hrest
 rw[show l-(hd.length+12)=B'.length from by omega]
 intro X hX
 have loop: ∀f st (out B1:List Int) q1 c1 zq zc H1,IS H q1 B1.length (kints .u8 B1)→B1.length≤c1→Bys B1→Bys out→out.length+B1.length≤10000000→B1.length<f→St H H1 [.sl zq out.length zc 5 1 (kints .u8 out)]→frmP f st out (nxtP B1)=F→
  X [.slice q1 B1.length c1,.slice zq out.length zc,.int .i64 (st:Nat)] H1:=by
  intro f
  induction f with
  |zero=>intro st out B1 q1 c1 zq zc H1 _ _ _ _ _ hf;omega
  |succ f ih=>
   intro st out B1 q1 c1 zq zc H1 hi1 hlc1 hxB hob hsz hf hs1 hF
   refine hX _ _ _ _ _ _ _ H1 ?_
   refine c41 (hi1.ext hs1.ext) hlc1 hxB (by omega) (fun hn H3 ks dq dl dc m e3=>⟨_,_,_,_,_,_,rfl,br_t rfl (bad (by rw[←hF,hn];rfl) H3 _ _ _ _ _ (hs1.ext.trans e3))⟩) (fun k d B2 hn dq2 dc2 H3 hdi2 hdc2 hsum2 hdrop2 e3=>⟨_,_,_,_,_,_,rfl,?_⟩)
   obtain⟨g1,g2,g3,g4,g5⟩:=nxtP_some hn
   obtain⟨hkb,hdb2,hxB2⟩:=g4 hxB
   have hs3:=hs1.step e3
   refine br_f rfl ⟨by omega,by omega,?_⟩
   rw[Int.toNat_natCast]
   have hrest:=hi1.cut hlc1 (i:=d.length+12) (j:=B1.length) (by omega) (Nat.le_refl _)
   rw[List.take_of_length_le (by rw[List.length_drop];omega),hdrop2,show B1.length-(d.length+12)=B2.length from by omega] at hrest
   rw[show B1.length-(d.length+12)=B2.length from by omega]
   rw[hn,frmP] at hF
   have hkg:=hkb.getD 0
   intro J2 hJ2
   rw[←tDAT,tx_beq hkb bDAT]
   rw[←tEND,tx_beq hkb bEND] at hJ2
   have other: ¬(k=kDAT∧st<2)→J2 [.slice zq out.length zc,.int .i64 (st:Nat)] H3:=fun hnd=>by
    rw[if_neg hnd] at hF
    refine hJ2 _ _ _ _ H3 ⟨_,by decide,ba_get (i:=0) (by omega),?_⟩
    rw[show((UInt8.toNat (UInt8.ofNat (k.getD 0 0).toNat):Nat):Int)=k.getD 0 0 from by rw[UInt8.toNat_ofNat'];omega]
    refine br_dec (fun hsm=>?_) (fun hsm=>?_)
    ·rw[if_pos (by omega)] at hF
     refine br_eq (fun h1=>?_) (fun h1=>?_)
     ·rw[if_pos (by omega)] at hF
      exact ih 2 out B2 _ _ _ _ H3 hrest (by omega) hxB2 hob (by omega) (by omega) hs3 hF
     ·rw[if_neg (by omega)] at hF
      exact ih st out B2 _ _ _ _ H3 hrest (by omega) hxB2 hob (by omega) (by omega) hs3 hF
    ·rw[if_neg (by omega)] at hF
     refine br_dec (fun hke=>br_dec (fun h0=>br_eq (fun hd0=>?_) (fun hd0=>?_)) (fun h0=>?_)) (fun hke=>?_)
     ·have hd0':d=[]:=List.length_eq_zero_iff.1 (by omega)
      by_cases hB0:B2=[]
      ·rw[if_pos ⟨hke,by omega,hd0',hB0⟩] at hF
       rw[show(((B2.length:Nat):Int)==0)=true from by rw[hB0];rfl]
       exact good out hF.symm zq zc H3 hob (by omega) hs3
      ·rw[if_neg (fun h=>hB0 h.2.2.2)] at hF
       rw[show(((B2.length:Nat):Int)==0)=false from by simp;exact hB0]
       exact bad hF.symm H3 _ _ _ _ _ hs3.ext
     ·rw[if_neg (fun h=>hd0 (by rw[h.2.2.1];rfl))] at hF
      exact bad hF.symm H3 _ _ _ _ _ hs3.ext
     ·rw[if_neg (fun h=>h0 (by have:=h.2.1;omega))] at hF
      exact bad hF.symm H3 _ _ _ _ _ hs3.ext
     ·rw[if_neg (fun h=>hke h.1)] at hF
      exact bad hF.symm H3 _ _ _ _ _ hs3.ext
   refine br_dec (fun hkd=>br_dec (fun h2=>?_) (fun h2=>other fun h=>by omega)) (fun hkd=>other fun h=>hkd h.1)
   rw[if_pos ⟨hkd,by omega⟩] at hF
   refine hs3.appI 0 rfl (hdi2.ext e3) (kints_one _ _) rfl (by omega) (by omega) fun q8 c8 H8 hs8=>?_
   rw[←kints_append] at hs8
   have el:(out++d).length=out.length+d.length:=List.length_append
   rw[←el]
   exact ih 1 (out++d) B2 _ _ _ _ H8 hrest (by omega) hxB2 (fun x hx=>(List.mem_append.1 hx).elim (hob x) (hdb2 x)) (by omega) (by omega) (by rw[el];exact hs8) hF
 exact loop (B'.length+1) 0 [] B' _ _ none 0 H35 hrest (by omega) hxB' (fun x hx=>by cases hx) (by simp;omega) (by omega) (hs35.nilSl 5 1) hF
end Go.Proofs
namespace Go.Proofs
open Go.Sh
open Go.IntKind (wrap)
variable {H:Heap} {R:Value→Heap→Prop}
theorem c42{a b:Int}(ha:0≤a∧a<256)(hb:0≤b∧b<256)(hR:R (.bool (decide (hdrOk a b))) H):CallsH Tryz.prog 42 #[.int .i64 a,.int .i64 b] H R:=by
 have no: ¬hdrOk a b→R (.bool false) H:=fun hn=>by rw[decide_eq_false hn] at hR;exact hR
 have w1:wrap .i64 (wrap .i64 ((256:Int)*a)+b)=256*a+b:=by rw[wrap_id (n:=256*a) (by omega) (by omega),wrap_id (by omega) (by omega)]
 refine Tryz.s42 ⟨by decide,?_⟩
 rw[w1,Int.tmod_eq_emod_of_nonneg (by omega)]
 refine br_eq (fun h1=>⟨by decide,?_⟩) (fun h1=>no fun h=>h1 h.1)
 rw[Int.tmod_eq_emod_of_nonneg (by omega)]
 refine br_eq (fun h2=>⟨by decide,?_⟩) (fun h2=>no fun h=>h2 h.2.1)
 rw[Int.tdiv_eq_ediv_of_nonneg (by omega),wrap_id (by omega) (by omega)]
 refine br_dec (fun h3=>⟨by decide,by decide,?_⟩) (fun h3=>no fun h=>h3 h.2.2.1)
 rw[Int.tdiv_eq_ediv_of_nonneg (by omega),wrap_id (by omega) (by omega),Int.tmod_eq_emod_of_nonneg (by omega)]
 have e:((b/32%2:Int)==0)=decide (hdrOk a b):=by
  by_cases h4:b/32%2=0
  ·rw[decide_eq_true ⟨h1,h2,h3,h4⟩,h4];rfl
  ·rw[decide_eq_false fun h=>h4 h.2.2.2];simpa using h4
 rw[e]
 exact hR
theorem c44{p:Option Addr}{l c:Nat}{xs:List Int}(h:IS H p l (kints .u8 xs))(hx:Bys xs)(hl:l≤1000000000000)(hR:R (.int .i64 (adlS xs)) H):CallsH Tryz.prog 44 #[.slice p l c] H R:=by
 have e1:=h.length
 refine Tryz.s44 ?_
 intro X hX
 have go: ∀k,k≤l→X [.int .i64 (adlF (xs.take k) 1 0).1,.int .i64 (adlF (xs.take k) 1 0).2,.int .i64 (k:Nat)] H:=upto fun k hk ih=>by
  obtain⟨⟨a0,a1⟩,b0,b1⟩:=adlF_rng (xs.take k) 1 0 (fun y hy=>hx y (List.mem_of_mem_take hy)) (by decide) (by decide)
  refine hX _ _ _ H (br_dec (fun hlt=>?_) (fun hge=>?_))
  ·have hlt:k<l:=by omega
   have hg:=get_gD xs 0 (i:=k) (by omega)
   have hb:=hx.getD k
   refine h.rd (by omega) (by omega) (by rw[Int.toNat_natCast];exact hg) ⟨by decide,by decide,?_⟩
   rw[w8 hb,wrap_id (n:=(adlF (xs.take k) 1 0).1+_) (by omega) (by omega),Int.tmod_eq_emod_of_nonneg (by omega),wrap_id (n:=(adlF (xs.take k) 1 0).2+_) (by omega) (by omega),Int.tmod_eq_emod_of_nonneg (by omega),wrap_id (by omega) (by omega)]
   have:=ih hlt
   rw[List.take_add_one,hg,Option.toList_some,adlF_snoc] at this
   exact this
  ·have:k=l:=by omega
   subst this
   rw[List.take_of_length_le (by omega)] at a0 a1 b0 b1 ⊢
   have e:wrap .i64 (wrap .i64 ((65536:Int)*(adlF xs 1 0).2)+(adlF xs 1 0).1)=adlS xs:=by
    rw[wrap_id (n:=65536*_) (by omega) (by omega),wrap_id (by omega) (by omega)];unfold adlS;omega
   rw[e]
   exact hR
 exact go 0 (by omega)
theorem c25{p:Option Addr}{l c:Nat}{B:List Int}{most:Int}(h:IS H p l (kints .u8 B))(hr:Bys B)(hlc:l≤c)(hl:l≤1000000000)(hm:most≤1000000000)
 (hbad: ∀k,k≠0→unzM B most= .error k→ ∀H',Ext H H'→R (.tuple #[.slice none 0 0,.int .i64 k]) H')
 (hR: ∀out,unzM B most= .ok out→ ∀H' q m,Bys out→St H H' [.sl q out.length m 5 1 (kints .u8 out)]→R (.tuple #[.slice q out.length m,.int .i64 0]) H'):
 CallsH Tryz.prog 25 #[.slice p l c,.int .i64 most] H R:=by
 have hBl:=h.length
 refine Tryz.s25 ?_
 unfold Tryz.S25
 unfold unzM at hbad hR
 refine br_dec (fun hlt=>hbad 20 (by decide) (by rw[if_pos (by omega)]) H (Ext.refl _)) (fun hge=>?_)
 rw[if_neg (by omega)] at hbad hR
 have r0:=hr.getD 0
 have r1:=hr.getD 1
 refine h.rd (i:=0) (by omega) (by omega) (get_gD B 0 (by omega)) (h.rd (i:=1) (by omega) (by omega) (get_gD B 0 (by omega)) ?_)
 rw[show B.getD (Int.toNat 0) 0=B.getD 0 0 from rfl,show B.getD (Int.toNat 1) 0=B.getD 1 0 from rfl,w8 r0,w8 r1]
 refine c42 r0 r1 ⟨_,rfl,br_not (fun hn=>hbad 25 (by decide) (by rw[if_pos (of_decide_eq_false hn)]) H (Ext.refl _)) (fun hh=>?_)⟩
 rw[if_neg (fun h=>h (of_decide_eq_true hh))] at hbad hR
 have h2:=h.cut hlc (i:=2) (j:=l) (by omega) (Nat.le_refl _)
 rw[List.take_of_length_le (by rw[List.length_drop];omega)] at h2
 refine⟨by decide,by omega,?_⟩
 refine c43 h2 (hr.drop 2) (by omega) hm (fun k hk he H11 e11=>⟨_,_,_,_,_,rfl,br_t (by simpa using hk) (hbad k hk (by rw[he]) H11 e11)⟩) (fun out n he H11 q m hob hs11=>⟨_,_,_,_,_,rfl,br_f rfl ?_⟩)
 rw[he] at hbad hR
 simp only at hbad hR
 have hle:=infl_le he
 rw[List.length_drop] at hle
 have hol:=(hs11.is 0 rfl).length
 have w:wrap .i64 ((2:Int)+((n:Nat):Int))=((2+n:Nat):Int):=by rw[wrap_id (by omega) (by omega)];omega
 rw[w,Int.toNat_natCast]
 refine⟨by omega,by omega,br_dec (fun hlt=>hbad 20 (by decide) (by rw[if_pos (by omega)]) H11 hs11.ext) (fun hge4=>?_)⟩
 rw[if_neg (by omega)] at hbad hR
 have h3:=h.cut hlc (i:=2+n) (j:=l) (by omega) (Nat.le_refl _)
 rw[List.take_of_length_le (by rw[List.length_drop];omega)] at h3
 have h4:=h3.cut (c:=c-(2+n)) (by omega) (i:=0) (j:=4) (by omega) (by omega)
 rw[List.drop_zero] at h4
 refine⟨by decide,by omega,c11 (h4.ext hs11.ext) ((hr.drop _).take 4) rfl ⟨_,rfl,?_⟩⟩
 have nt:num4 ((B.drop (2+n)).take (4-0))=num4 (B.drop (2+n)):=num4_take _
 rw[nt]
 refine c44 (hs11.is 0 rfl) hob (by have:=infl_out he;omega) ⟨_,rfl,?_⟩
 refine br_ne (fun hne=>hbad 23 (by decide) (by rw[if_pos hne]) H11 hs11.ext) (fun heq=>?_)
 rw[if_neg (fun hn=>hn heq)] at hbad hR
 refine br_dec (fun hgt=>hbad 25 (by decide) (by rw[if_pos (by omega)]) H11 hs11.ext) (fun hle=>?_)
 rw[if_neg (by omega)] at hR
 exact hR out rfl H11 q m hob hs11
set_option maxHeartbeats 4000000 in
theorem c9{p:Option Addr}{l c:Nat}{B:List Int}(hB:IS H p l (kints .u8 B))(hlc:l≤c)(hx:Bys B)(hl:l≤10000000)
 (hno:decP B=none→ ∀H',Ext H H'→R (.tuple #[.int .i64 0,.int .i64 0,.slice none 0 0,.bool false]) H')
 (hok: ∀w h out,decP B=some (w,h,out)→ ∀q c' H',St H H' [.sl q out.length c' 5 1 (kints .u8 out)]→R (.tuple #[.int .i64 w,.int .i64 h,.slice q out.length c',.bool true]) H'):
 CallsH Tryz.prog 9 #[.slice p l c] H R:=by
 have hBl:=hB.length
 refine Tryz.s9 ?_
 unfold Tryz.S9
 unfold decP at hno hok
 intro J hJ
 refine br_dec (fun hlt=>hno (by rw[if_pos (.inl (by omega))]) H (Ext.refl _)) (fun hge=>?_)
 have hcut:=hB.cut hlc (i:=0) (j:=8) (by omega) (by omega)
 rw[List.drop_zero] at hcut
 refine⟨by decide,by omega,c13 fun b1 H36 hs36=>⟨_,_,_,rfl,?_⟩⟩
 refine c10 (hcut.ext hs36.ext) (IS.of_block (hs36.block 0 rfl) rfl) (by decide) ⟨_,rfl,?_⟩
 rw[show B.take (8-0)=B.take 8 from rfl]
 refine br_not (fun hn=>hno (by rw[if_pos (.inr (of_decide_eq_false hn))]) H36 hs36.ext) (fun hy=>?_)
 have hmk:=of_decide_eq_true hy
 rw[if_neg (by rintro(h|h);omega;exact h hmk)] at hno hok
 have h8:=hB.cut hlc (i:=8) (j:=l) (by omega) (Nat.le_refl _)
 rw[List.take_of_length_le (by rw[List.length_drop];omega)] at h8
 refine hJ H36 ⟨by decide,by omega,c24 (h8.ext hs36.ext) (by omega) (hx.drop 8) (by omega) (fun hp H5 q l5 c5 w h e5=>⟨_,_,_,_,_,_,rfl,fun J2 hJ2=>br_t rfl (hno (by rw[hp]) H5 (hs36.ext.trans e5))⟩) (fun hd z hp q c5 H5 hzb hzl hs5=>⟨_,_,_,_,_,_,rfl,?_⟩)⟩
 rw[hp] at hno hok
 simp only at hno hok
 have hs5:St H H5 [.sl q z.length c5 5 1 (kints .u8 z)]:=(hs36.call hs5).take 1
 generalize num4 hd=w at hno hok ⊢
 generalize num4 (hd.drop 4)=h at hno hok ⊢
 intro J2 hJ2
 refine br_f rfl (c7 ⟨_,rfl,br_not (fun hn=>hno (by rw[pixP,if_neg (of_decide_eq_false hn)]) H5 hs5.ext) (fun hsz=>?_)⟩)
 have hsz:=of_decide_eq_true hsz
 have hsz2:=hsz
 obtain⟨hw1,hh1,hw2,hh2,hwh⟩:=hsz2
 rw[pixP,if_pos hsz] at hno hok
 obtain⟨w4,hw4⟩: ∃w4:Nat,(4*w).toNat=w4:=⟨_,rfl⟩
 obtain⟨hN,hhN⟩: ∃hN:Nat,h=hN:=⟨h.toNat,by omega⟩
 subst hhN
 have hw4':4*w=(w4:Int):=by omega
 rw[hw4,Int.toNat_natCast,hw4'] at hno hok
 have hmul:(hN:Int)*((w4:Int)+1)=((hN*(w4+1):Nat):Int):=by simp
 have hwl:hN*w4≤16777216:=by
  have e:(4*w)*(hN:Int)=4*(w*(hN:Int)):=Int.mul_assoc 4 w _
  rw[hw4',←Int.natCast_mul,Nat.mul_comm] at e
  omega
 have hnl:hN*(w4+1)≤16809984:=by rw[Nat.mul_add,Nat.mul_one];omega
 have W4:wrap .i64 (4*w)=(w4:Int):=by rw[wrap_id (by omega) (by omega)];omega
 have W5:wrap .i64 ((w4:Int)+1)=((w4+1:Nat):Int):=by rw[wrap_id (by omega) (by omega)];omega
 have W6:wrap .i64 ((hN:Int)*((w4+1:Nat):Int))=((hN*(w4+1):Nat):Int):=by rw[←Int.natCast_mul,wrap_id (by omega) (by omega)]
 rw[W4,W5,W6] at hJ2
 rw[hmul] at hno hok
 refine hJ2 H5 (c25 (hs5.is 0 rfl) hzb ((hs5.fs 0 rfl).le) (by omega) (by omega) (fun k hk hu H13 e13=>⟨_,_,_,_,rfl,fun J3 hJ3=>br_t (by simpa using hk) (hno (by rw[hu]) H13 (hs5.ext.trans e13))⟩) (fun lines hu H13 lq lc hlb hs13=>⟨_,_,_,_,rfl,?_⟩))
 have hs13:St H H13 [.sl lq lines.length lc 5 1 (kints .u8 lines)]:=(hs5.call hs13).take 1
 rw[hu] at hno hok
 simp only at hno hok
 intro J3 hJ3
 refine br_f rfl (br_ne (fun hne=>hno (by rw[if_neg hne]) H13 hs13.ext) (fun hel=>?_))
 rw[if_pos hel] at hno hok
 have hel:lines.length=hN*(w4+1):=by omega
 rw[Int.toNat_natCast] at hJ3
 refine hJ3 H13 ⟨by omega,by omega,by omega,by omega,?_⟩
 refine hs13.alc fun b18 H19 hs19=>?_
 have e57:(List.toArray (reps w4 (Array.toList #[Value.int .u8 0]))).toList=kints .u8 (List.replicate w4 0):=by simp[reps_rep,kints]
 have hs19:=hs19.toSl 0 rfl (l:=w4) (k:=1) (by simp[reps_rep]) e57 (kints_one _ _)
 intro X hX
 have rows: ∀y,y≤hN→ ∀(out ab:List Int) oq oc aq ac H1,rowP w4 lines y=some (out,ab)→St H H1 [.sl aq w4 ac 5 1 (kints .u8 ab),.sl lq lines.length lc 5 1 (kints .u8 lines),.sl oq out.length oc 5 1 (kints .u8 out)]→
  X [.slice oq out.length oc,.slice aq w4 ac,.int .i64 (y:Nat)] H1:=upto fun y hy ih out ab oq oc aq ac H1 hrow hs1=>by
  obtain⟨rl1,rl2,rb1,rb2⟩:=rowP_len hel hy hrow
  have hob:out.length≤16777216:=by
   have h2:y*w4≤hN*w4:=Nat.mul_le_mul_right _ hy
   omega
  refine hX _ _ _ _ _ _ _ H1 (br_dec (fun hlt=>?_) (fun hge=>?_))
  ·have hlt:y<hN:=by omega
   have hfull:(y+1)*(w4+1)≤hN*(w4+1):=Nat.mul_le_mul_right _ hlt
   rw[Nat.add_mul,Nat.one_mul] at hfull
   have Wy:wrap .i64 (((y:Nat):Int)*((w4+1:Nat):Int))=((y*(w4+1):Nat):Int):=by rw[←Int.natCast_mul,wrap_id (by omega) (by omega)]
   have Wz:wrap .i64 (((y*(w4+1):Nat):Int)+((w4+1:Nat):Int))=((y*(w4+1)+(w4+1):Nat):Int):=by rw[wrap_id (by omega) (by omega)];omega
   have Wo:wrap .i64 (((y*(w4+1):Nat):Int)+1)=((y*(w4+1)+1:Nat):Int):=by rw[wrap_id (by omega) (by omega)];omega
   rw[Wy,Wz,Wo]
   have his:=hs1.is 1 rfl
   have hk0:=hlb.getD (y*(w4+1))
   have g0:=get_gD lines 0 (i:=y*(w4+1)) (by omega)
   refine his.rd (by omega) (by omega) (by rw[Int.toNat_natCast];exact g0) ?_
   rw[w8 hk0]
   refine br_dec (fun hbig=>?_) (fun hsm=>?_)
   ·refine hno ?_ H1 hs1.ext
    have:rowP w4 lines (y+1)=none:=by
     rw[rowP,hrow]
     simp only
     rw[if_pos hbig]
    rw[rowP_none this hN hlt]
    rfl
   ·have hcap:=(hs1.fs 1 rfl).le
    refine⟨by omega,by omega,by omega,by omega,?_⟩
    rw[Int.toNat_natCast,Int.toNat_natCast]
    have hcut1:=his.cut hcap (i:=y*(w4+1)+1) (j:=y*(w4+1)+(w4+1)) (by omega) (by omega)
    rw[show y*(w4+1)+(w4+1)-(y*(w4+1)+1)=w4 from by omega] at hcut1 ⊢
    refine c26 hcut1 (hs1.is 0 rfl) ((hlb.drop _).take _) rb2 (by omega) rfl fun q' m' H28 hs28=>⟨_,_,_,rfl,?_⟩
    have htl:((lines.drop (y*(w4+1)+1)).take w4).length=w4:=by simp;omega
    have hul:=unfP_len (lines.getD (y*(w4+1)) 0) ((lines.drop (y*(w4+1)+1)).take w4) ab
    have hs28:=hs1.call hs28
    have hrow':rowP w4 lines (y+1)=some (out++unfP (lines.getD (y*(w4+1)) 0) ((lines.drop (y*(w4+1)+1)).take w4) ab,unfP (lines.getD (y*(w4+1)) 0) ((lines.drop (y*(w4+1)+1)).take w4) ab):=by
     rw[rowP,hrow]
     simp only
     rw[if_neg hsm]
    generalize unfP (lines.getD (y*(w4+1)) 0) ((lines.drop (y*(w4+1)+1)).take w4) ab=rr at*
    refine hs28.appI 3 rfl (hs28.is 0 rfl) (kints_one _ _) rfl (by omega) (by omega) fun q19 c19 H31 hs31=>?_
    rw[←kints_append] at hs31
    have el:(out++rr).length=out.length+w4:=by rw[List.length_append,hul,htl]
    rw[wrap_id (by omega) (by omega)]
    have:=ih hlt (out++rr) rr q19 c19 q' m' H31 hrow' (by rw[el];exact hs31.del 1)
    rw[el] at this
    exact this
  ·have:y=hN:=by omega
   subst this
   exact hok w y out (by rw[hrow];rfl) oq oc H1 ((hs1.front 2 rfl).take 1)
 have:=rows 0 (Nat.zero_le _) [] (List.replicate w4 0) none 0 _ w4 H19 rfl ((hs19.nilSl 5 1).perm (List.perm_append_comm (l₁:=[_]) (l₂:=[_,_])))
 exact this
end Go.Proofs
namespace Go.Proofs
open Go.Sh
open Go.IntKind (wrap)
variable {H:Heap} {R:Value→Heap→Prop}
theorem decP_len{B out:List Int}{w h:Int}(hd:decP B=some (w,h,out)):out.length≤16777216:=by
 unfold decP at hd
 split at hd
 ·cases hd
 ·split at hd
  ·cases hd
  ·rename_i hd' z _
   generalize num4 hd'=w' at hd
   generalize num4 (hd'.drop 4)=h' at hd
   unfold pixP at hd
   split at hd
   ·rename_i hsz
    obtain⟨hw1,hh1,hw2,hh2,hwh⟩:=hsz
    split at hd
    ·cases hd
    ·rename_i lines _
     split at hd
     ·rename_i hel
      obtain⟨w4,hw4⟩: ∃w4:Nat,(4*w').toNat=w4:=⟨_,rfl⟩
      obtain⟨hN,hhN⟩: ∃hN:Nat,h'=hN:=⟨h'.toNat,by omega⟩
      subst hhN
      have hw4':4*w'=(w4:Int):=by omega
      rw[hw4,Int.toNat_natCast] at hd
      rw[hw4'] at hel
      have hel:lines.length=hN*(w4+1):=by
       have:(lines.length:Int)=((hN*(w4+1):Nat):Int):=by rw[hel];simp
       omega
      cases hr:rowP w4 lines hN with
      |none=>rw[hr] at hd;cases hd
      |some x=>
       obtain⟨o,a⟩:=x
       rw[hr] at hd
       cases hd
       have h1:=(rowP_len hel (Nat.le_refl _) hr).1
       have e:(4*w)*(hN:Int)=4*(w*(hN:Int)):=Int.mul_assoc 4 w _
       rw[hw4',←Int.natCast_mul,Nat.mul_comm] at e
       show o.length≤_
       omega
     ·cases hd
   ·cases hd
end Go.Proofs
namespace Go.Proofs
open Go.Sh Go.RowKit Go.ChangeShapes Go.WideShapes Go.ChangeAt
theorem wf_range8{a:Int}(h:(Lit.int .u8 a).wf=true):0≤a∧a<256:=by
 have:0≤a∧a≤255:=by simpa[Lit.wf,IntKind.min,IntKind.max,IntKind.signed,IntKind.bits] using h
 omega
theorem bytesAt{H:Type}{enc:TypeId×Value→H}{W:World}{fuel:Nat}{a0:Option Addr}{len cap:Nat}{x:DataW H×List MemPlace}(hf:DataW.trod enc Tryz.prog W 0 (fun _=>true) true fuel 22 [.slice a0 len cap]=some x):
 ∃ls,len≤cap∧IS W.heap a0 len (kints .u8 ls)∧ ∀n∈ls,0≤n∧n<256:=by
 rcases open_ints Tryz.underlying22 Tryz.underlying5 (by kernel_rfl) hf with ⟨hcs,_⟩|⟨a,len2,cap2,zs,hcs,_,hl,_,hz,_,hc,hw⟩
 ·simp at hcs
  obtain⟨rfl,rfl,rfl⟩:=hcs
  exact⟨[],Nat.le_refl _,⟨rfl,fun i v hv=>by simp[kints] at hv⟩,fun n hn=>by simp at hn⟩
 ·simp at hcs
  obtain⟨rfl,rfl,rfl⟩:=hcs
  have hzl:len≤zs.length:=by rw[hz];simp;omega
  refine⟨zs.take len,hl,⟨by rw[kints_len];simp;omega,fun i v hv=>⟨a,rfl,?_⟩⟩,fun n hn=>wf_range8 (hw n (List.mem_of_mem_take hn))⟩
  have hi:i<len:=by have:=(List.getElem?_eq_some_iff.1 hv).1;rw[kints_len] at this;simp at this;omega
  have:=hc i (by omega)
  rw[cell_eq] at this
  rw[this]
  have hg:(zs.take len)[i]?=some (zs.getD i 0):=by
   rw[List.getElem?_take_of_lt hi,List.getD_eq_getElem?_getD,List.getElem?_eq_getElem (by omega)];rfl
  rw[kints_get hg] at hv
  exact hv
set_option maxRecDepth 100000 in
theorem bytesIn_of{H:Type}{enc:TypeId×Value→H}{W:World}{v:Value}{d:DataW H}{ps:List MemPlace}{base:Nat}(hv:Value.okWide Tryz.prog W .any base 22 v)(h:DataW.Trod enc Tryz.prog W 0 (fun _=>true) true 22 v d ps):
 ∃a l c ls,v= .slice a l c∧l≤c∧IS W.heap a l (kints .u8 ls)∧ ∀n∈ls,0≤n∧n<256:=by
 obtain⟨a0,len,cap,rfl⟩:=okWide_slice Tryz.underlying22 hv
 obtain⟨fuel,hf⟩:=h
 obtain⟨ls,h1,h2,h3⟩:=bytesAt hf
 exact⟨a0,len,cap,ls,rfl,h1,h2,h3⟩
end Go.Proofs
namespace Go.Proofs
open Go.Sh Go.RowKit Go.ChangeShapes Go.WideShapes Go.ChangeAt Go.Deep
structure PcS(H:Heap)(p:Option Addr)(l:Nat)(ps:List (ByteArray×List Int)):Prop where
 len:ps.length=l
 get: ∀(i:Nat) x,ps[i]?=some x→ ∃a q n c,p=some a∧rowIn H (a.add (i*2)) #[.string x.1,.slice q n c]∧n≤c∧IS H q n (kints .u8 x.2)∧Bys x.2
section
variable {H:Type} {enc:TypeId×Value→H} {W:World}
theorem pieceAt{fuel:Nat}{cs:List Value}{x:DataW H×List MemPlace}(h:DataW.trod enc Tryz.prog W 0 (fun _=>true) true fuel 40 cs=some x):
 ∃(s:ByteArray) (q:Option Addr) (n c:Nat) (ls:List Int),cs=[.string s,.slice q n c]∧n≤c∧IS W.heap q n (kints .u8 ls)∧Bys ls:=by
 have hu:=Tryz.underlying40
 obtain⟨xs,m,hfu,_,hl,hlen,hg⟩:=DataW.trod_struct hu h
 have hl2:cs.length=2:=by rw[hl];kernel_rfl
 match cs,hl2 with
 |[v,u],_=>
  have h0:=hg 0 _ rfl
  have h1:=hg 1 _ rfl
  have hx2:xs.length=2:=by simpa using hlen
  rw[List.getElem?_eq_getElem (by omega)] at h0 h1
  have h0:DataW.trod enc Tryz.prog W 0 (fun _=>true) true m 9 [v]=some _:=h0
  have h1:DataW.trod enc Tryz.prog W 0 (fun _=>true) true m 22 [u]=some _:=h1
  obtain⟨s,hs,_,_⟩:=DataW.trod_string Tryz.underlying9 h0
  have hsl: ∃q n c,u= .slice q n c:=by
   rcases DataW.trod_slice Tryz.underlying22 h1 with ⟨h0,_⟩|⟨a',len',cap',elems,rest,n',_,h0,_⟩
   ·simp at h0;exact⟨_,_,_,h0⟩
   ·simp at h0;exact⟨_,_,_,h0⟩
  obtain⟨q,n,c,rfl⟩:=hsl
  obtain⟨ls,h3,h4,h5⟩:=bytesAt h1
  simp at hs
  subst hs
  exact⟨s,q,n,c,ls,rfl,h3,h4,h5⟩
theorem piecesIn_of{v:Value}{d:DataW H}{ps:List MemPlace}{base:Nat}(hv:Value.okWide Tryz.prog W .any base 36 v)(h:DataW.Trod enc Tryz.prog W 0 (fun _=>true) true 36 v d ps):
 ∃a l c ss,v= .slice a l c∧l≤c∧PcS W.heap a l ss:=by
 obtain⟨a0,len,cap,rfl⟩:=okWide_slice Tryz.underlying36 hv
 obtain⟨fuel,hf⟩:=h
 rcases open_slice Tryz.underlying36 hf with ⟨hcs,_⟩|⟨a,len',cap',m,n,D,Pl,hcs,_,hl,hm,hmm,_,hx⟩
 ·simp only[Value.cells] at hcs
  simp at hcs
  obtain⟨rfl,rfl,rfl⟩:=hcs
  exact⟨none,0,0,[],rfl,Nat.le_refl _,rfl,fun i x hx=>by simp at hx⟩
 ·simp only[Value.cells] at hcs
  simp at hcs
  obtain⟨rfl,rfl,rfl⟩:=hcs
  have hml:len≤m:=by rw[hmm];simp;omega
  have each: ∀i,∃x:ByteArray×List Int,i<len→ ∃q n c,rowIn W.heap (a.add (i*2)) #[.string x.1,.slice q n c]∧n≤c∧IS W.heap q n (kints .u8 x.2)∧Bys x.2:=fun i=>by
   by_cases hi:i<len
   ·obtain⟨cs,h1,h2⟩:=hx i (by omega)
    rw[show Tryz.prog.cellsOf 40=2 from by kernel_rfl] at h1
    obtain⟨s,q,n,c,ls,rfl,h3,h4,h5⟩:=pieceAt h2
    obtain⟨_,_,hc⟩:=World.cells?_some h1
    refine⟨(s,ls),fun _=>⟨q,n,c,fun j v hv=>?_,h3,h4,h5⟩⟩
    have hj:j<2:=(Array.getElem?_eq_some_iff.1 hv).1
    have:=hc j hj
    rw[cell_eq] at this
    rw[this]
    simpa using hv
   ·exact⟨(ByteArray.empty,[]),fun h=>absurd h hi⟩
  obtain⟨f,hf⟩:=Classical.axiomOfChoice each
  refine⟨some a,len,cap,(List.range len).map f,rfl,hl,by simp,fun i x hx=>?_⟩
  have hi:i<len:=by have:=(List.getElem?_eq_some_iff.1 hx).1;simpa using this
  simp[hi] at hx
  subst hx
  obtain⟨q,n,c,h1,h2,h3,h4⟩:=hf i hi
  exact⟨a,q,n,c,rfl,h1,h2,h3,h4⟩
end
end Go.Proofs
namespace Go.Proofs
open Go.Sh
open Go.IntKind (wrap)
variable {H0 H:Heap} {R:Value→Heap→Prop}
abbrev bufR(b:Nat)(q:Option Addr)(c:Nat)(bs:List Int):List Rs:=[.cell b #[.slice q bs.length c] 22,.sl q bs.length c 5 1 (kints .u8 bs)]
theorem c15{b:Nat}{q p:Option Addr}{c l pc:Nat}{bs:List Int}{ps:List (ByteArray×List Int)}{τ:List Rs}(hs:St H0 H (bufR b q c bs++τ))(hp:PcS H0 p l ps)(hl:l≤4)(hb:Bys bs)(hbl:bs.length≤1000000)
 (hR: ∀q' c' bs' H',Bys bs'→bs'.length≤bs.length+l*200→St H0 H' (bufR b q' c' bs'++τ)→R (.tuple #[]) H'):CallsH Tryz.prog 15 #[.slice p l pc,.pointer (some ⟨b,0,none⟩)] H R:=by
 have hpl:=hp.len
 refine Tryz.s15 ?_
 unfold Tryz.S15
 intro X hX
 have go: ∀t,t≤l→ ∀q1 c1 bs1 H1,Bys bs1→bs1.length≤bs.length+t*200→St H0 H1 (bufR b q1 c1 bs1++τ)→X [.int .i64 (t:Nat)] H1:=upto fun t ht ih q1 c1 bs1 H1 hb1 hl1 hs1=>by
  refine hX _ H1 (br_dec (fun hlt=>?_) (fun hge=>?_))
  ·have hlt:t<l:=by omega
   obtain⟨x,hx⟩: ∃x,ps[t]?=some x:=⟨_,List.getElem?_eq_getElem (by omega)⟩
   obtain⟨a,dq,dn,dc,rfl,hrow,hdc,hdi,hdb⟩:=hp.get t x hx
   have ih:=ih hlt
   intro J hJ
   have next: ∀q2 c2 bs2 H2,Bys bs2→bs2.length≤bs1.length+200→St H0 H2 (bufR b q2 c2 bs2++τ)→J [] H2:=fun q2 c2 bs2 H2 h1 h2 h3=>hJ H2 (by
    rw[wrap_id (by omega) (by omega)]
    exact ih q2 c2 bs2 H2 h1 (by omega) h3)
   refine⟨a,rfl,by omega,by omega,#[.string x.1,.slice dq dn dc],rfl,fun j v hv=>hs1.ext.cell (by rw[Int.toNat_natCast];exact hrow j v hv),?_⟩
   refine hs1.alc fun b10 H11 hs11=>⟨rfl,hs11.putAll 0 rfl rfl (by simp[Value.oneCell']) fun H12 hs12=>?_⟩
   have stay:J [] H12:=next q1 c1 bs1 H12 hb1 (by omega) hs12.tail
   refine⟨x.1,by rw[add_none];exact cell_get (hs12.block 0 rfl) rfl,br_eq (fun h4=>?_) (fun _=>stay)⟩
   refine⟨dq,dn,dc,by rw[add_none];exact cell_get (hs12.block 0 rfl) rfl,br_dec (fun h100=>?_) (fun _=>stay)⟩
   refine⟨q1,_,c1,cell_get (hs12.block 1 rfl) rfl,x.1,by rw[add_none];exact cell_get (hs12.block 0 rfl) rfl,dq,dn,dc,by rw[add_none];exact cell_get (hs12.block 0 rfl) rfl,?_⟩
   have hdn:=hdi.length
   refine c14 (hdi.ext hs12.ext) hdb (by omega) (by omega) fun q19 c19 H19 hs19=>⟨_,_,_,rfl,.inl hs19.ext,?_⟩
   have hs19:=hs12.call hs19
   have hcl:(chuP (sB x.1) x.2).length≤112:=by rw[chuP_len,sB_len];omega
   refine hs19.appI 3 rfl (hs19.is 0 rfl) (kints_one _ _) rfl (by omega) (by omega) fun q22 c22 H22 hs22=>?_
   rw[←kints_append] at hs22
   refine hs22.put 2 rfl (by simp) rfl fun H23 hs23=>?_
   have hs23:=hs23.tail.tail
   have el:(bs1++chuP (sB x.1) x.2).length=bs1.length+(chuP (sB x.1) x.2).length:=List.length_append
   refine next q22 c22 (bs1++chuP (sB x.1) x.2) H23 (fun y hy=>(List.mem_append.1 hy).elim (hb1 y) (chuP_bys (sB_bys x.1) hdb y)) (by omega) ?_
   unfold bufR
   rw[el]
   exact hs23
  ·have:t=l:=by omega
   subst this
   exact hR q1 c1 bs1 H1 hb1 hl1 hs1
 exact go 0 (by omega) q c bs H hb (by omega) hs
set_option maxHeartbeats 4000000 in
theorem plawChunks{hp ap lp bp kp ep:Option Addr}{hl hc al ac ll lc bl bc kl kc el ec:Nat}{cut:Int}{head lines end_:List Int}{ahead between behind:List (ByteArray×List Int)}(hh:IS H hp hl (kints .u8 head))(hhb:Bys head)(hA:PcS H ap al ahead)(hL:IS H lp ll (kints .u8 lines))(hLb:Bys lines)(hLc:ll≤lc)
 (hB:PcS H bp bl between)(hK:PcS H kp kl behind)(hE:IS H ep el (kints .u8 end_))(hEb:Bys end_):
 CallsH Tryz.prog 5 #[.slice hp hl hc,.slice ap al ac,.slice lp ll lc,.int .i64 cut,.slice bp bl bc,.slice kp kl kc,.slice ep el ec] H (fun u H'=>u= .bool true∧Ext H H'):=by
 have ehl:=hh.length
 have ell:=hL.length
 have eel:=hE.length
 refine Tryz.s5 ?_
 unfold Tryz.S5
 refine c6 fun H9 e9=>⟨_,rfl,br_f rfl ?_⟩
 intro J hJ
 refine br_dec (fun _=>⟨rfl,e9⟩) (fun g1=>br_dec (fun _=>⟨rfl,e9⟩) (fun g2=>br_dec (fun _=>⟨rfl,e9⟩) (fun g3=>br_dec (fun _=>⟨rfl,e9⟩) (fun g4=>br_dec (fun _=>⟨rfl,e9⟩) (fun g5=>br_dec (fun _=>⟨rfl,e9⟩) (fun g6=>hJ H9 ?_))))))
 refine c13 fun b1 H14 hs14=>⟨_,_,_,rfl,?_⟩
 have hs14:St H H14 [.cell b1 (kints .u8 markP).toArray 5]:=⟨e9.trans hs14.ext,by
  obtain⟨_,fps,h1,h2,h3⟩:=hs14
  exact⟨fps,h1,h2,fun x hx=>Nat.le_trans e9.size (h3 x hx)⟩⟩
 have hs14:=hs14.toSl 0 rfl (l:=8) (k:=1) (fs:=kints .u8 markP) rfl rfl (kints_one _ _)
 refine c14 (hh.ext hs14.ext) hhb (by omega) (by decide) fun q3 c3 H17 hs17=>⟨_,_,_,rfl,?_⟩
 have hs17:=hs14.call hs17
 have hcl3:(chuP (sB (ByteArray.mk #[73,72,68,82])) head).length≤50:=by rw[chuP_len,sHDR];show 4+_+8≤50;omega
 refine hs17.appI 1 rfl (hs17.is 0 rfl) (kints_one _ _) rfl (by omega) (by omega) fun q20 c20 H20 hs20=>?_
 rw[←kints_append] at hs20
 have hs20:=hs20.tail
 have hb0:Bys (markP++chuP (sB (ByteArray.mk #[73,72,68,82])) head):=fun x hx=>(List.mem_append.1 hx).elim (fun h=>(show Bys markP by unfold markP Bys;decide) x h) (chuP_bys (sB_bys _) hhb x)
 have hl0:(markP++chuP (sB (ByteArray.mk #[73,72,68,82])) head).length=8+(chuP (sB (ByteArray.mk #[73,72,68,82])) head).length:=List.length_append
 rw[←hl0] at hs20 ⊢
 generalize markP++chuP (sB (ByteArray.mk #[73,72,68,82])) head=F0 at*
 refine hs20.alc fun b H22 hs22=>hs22.put 0 rfl (by decide) rfl fun H23 hs23=>?_
 refine c15 (τ:=[]) hs23 hA (by omega) hb0 (by omega) fun q25 c25 F1 H25 hb1 hl1 hs25=>⟨rfl,?_⟩
 refine c16 (hL.ext hs25.ext) hLb hLc (by omega) fun zq zc B H27 ok hs27=>⟨_,_,_,rfl,?_⟩
 have hs27:=hs25.call hs27
 have hzb:=zip_bys (b:=lines) ok.rng
 have hzl:(zipB lines B).length≤100000:=by
  have:=ok.nby
  have:=(nby_def lines 2).1
  simp[zipB,big4];omega
 generalize zipB lines B=z at*
 obtain⟨n,hn,hnz⟩: ∃n:Nat,max 0 (min cut ((z.length:Nat):Int))=n∧n≤z.length:=⟨(max 0 (min cut ((z.length:Nat):Int))).toNat,by omega,by omega⟩
 rw[hn]
 have hzis:=hs27.is 0 rfl
 have hzc:=(hs27.fs 0 rfl).le
 refine⟨q25,_,c25,cell_get (hs27.block 1 rfl) rfl,by omega,by omega,?_⟩
 rw[Int.toNat_natCast,Nat.sub_zero,Nat.sub_zero]
 have hz1:=hzis.cut hzc (i:=0) (j:=n) (by omega) hnz
 rw[List.drop_zero,Nat.sub_zero] at hz1
 refine c14 hz1 (hzb.take n) (by omega) (by decide) fun q31 c31 H31 hs31=>⟨_,_,_,rfl,.inl hs31.ext,?_⟩
 have hs31:=hs27.call hs31
 have hcb1:=chuP_bys (sB_bys (ByteArray.mk #[73,68,65,84])) (hzb.take n)
 have hcl1:(chuP (sB (ByteArray.mk #[73,68,65,84])) (z.take n)).length≤100020:=by rw[chuP_len,sDAT,List.length_take];show 4+_+8≤_;omega
 generalize chuP (sB (ByteArray.mk #[73,68,65,84])) (z.take n)=C1 at*
 refine hs31.appI 3 rfl (hs31.is 0 rfl) (kints_one _ _) rfl (by omega) (by omega) fun q34 c34 H34 hs34=>?_
 rw[←kints_append] at hs34
 refine hs34.put 2 rfl (by simp) rfl fun H35 hs35=>?_
 have hb2:Bys (F1++C1):=fun x hx=>(List.mem_append.1 hx).elim (hb1 x) (hcb1 x)
 have hl2:(F1++C1).length=F1.length+C1.length:=List.length_append
 have hs35:St H H35 (bufR b q34 c34 (F1++C1)++[.sl zq z.length zc 5 1 (kints .u8 z)]):=by
  unfold bufR
  rw[hl2]
  exact(hs35.tail).perm (List.perm_append_comm (l₁:=[_]) (l₂:=[_,_]))
 refine c15 hs35 hB (by omega) hb2 (by omega) fun q37 c37 F3 H37 hb3 hl3 hs37=>⟨rfl,?_⟩
 refine⟨q37,_,c37,cell_get (hs37.block 0 rfl) rfl,by omega,by omega,?_⟩
 have hz2:=(hs37.is 2 rfl).cut ((hs37.fs 2 rfl).le) (i:=n) (j:=z.length) hnz (Nat.le_refl _)
 rw[List.take_of_length_le (by rw[List.length_drop];omega)] at hz2
 refine c14 hz2 (hzb.drop n) (by omega) (by decide) fun q40 c40 H40 hs40=>⟨_,_,_,rfl,.inl hs40.ext,?_⟩
 have hs40:=hs37.call hs40
 have hcb2:=chuP_bys (sB_bys (ByteArray.mk #[73,68,65,84])) (hzb.drop n)
 have hcl2:(chuP (sB (ByteArray.mk #[73,68,65,84])) (z.drop n)).length≤100020:=by rw[chuP_len,sDAT,List.length_drop];show 4+_+8≤_;omega
 generalize chuP (sB (ByteArray.mk #[73,68,65,84])) (z.drop n)=C2 at*
 refine hs40.appI 2 rfl (hs40.is 0 rfl) (kints_one _ _) rfl (by omega) (by omega) fun q43 c43 H43 hs43=>?_
 rw[←kints_append] at hs43
 refine hs43.put 1 rfl (by simp) rfl fun H44 hs44=>?_
 have hb4:Bys (F3++C2):=fun x hx=>(List.mem_append.1 hx).elim (hb3 x) (hcb2 x)
 have hl4:(F3++C2).length=F3.length+C2.length:=List.length_append
 have hs44:St H H44 (bufR b q43 c43 (F3++C2)++[.sl zq z.length zc 5 1 (kints .u8 z)]):=by
  unfold bufR
  rw[hl4]
  exact hs44.tail
 refine c15 hs44 hK (by omega) hb4 (by omega) fun q46 c46 F5 H46 hb5 hl5 hs46=>⟨rfl,?_⟩
 refine⟨q46,_,c46,cell_get (hs46.block 0 rfl) rfl,?_⟩
 refine c14 (xs:=[]) (p:=none) (l:=0) (c:=0) ⟨rfl,fun i v hv=>by simp[kints] at hv⟩ (fun x hx=>by cases hx) (by omega) (by decide) fun q49 c49 H49 hs49=>⟨_,_,_,rfl,.inl hs49.ext,?_⟩
 have hs49:=hs46.call hs49
 have hcb3:=chuP_bys (sB_bys (ByteArray.mk #[73,69,78,68])) (data:=[]) (fun x hx=>by cases hx)
 have hcl3:(chuP (sB (ByteArray.mk #[73,69,78,68])) []).length=12:=rfl
 generalize chuP (sB (ByteArray.mk #[73,69,78,68])) []=C3 at*
 refine hs49.appI 2 rfl (hs49.is 0 rfl) (kints_one _ _) rfl (by omega) (by omega) fun q52 c52 H52 hs52=>?_
 rw[←kints_append] at hs52
 refine hs52.appI 2 rfl (hE.ext hs52.ext) (kints_one _ _) rfl (by omega) (by omega) fun q54 c54 H54 hs54=>?_
 rw[←kints_append] at hs54
 refine hs54.put 1 rfl (by simp) rfl fun H55 hs55=>?_
 have hb6:Bys (F5++C3++end_):=fun x hx=>(List.mem_append.1 hx).elim (fun hx=>(List.mem_append.1 hx).elim (hb5 x) (hcb3 x)) (hEb x)
 have hl6:(F5++C3++end_).length=F5.length+C3.length+el:=by rw[List.length_append,List.length_append,eel]
 refine⟨q54,_,c54,cell_get (hs55.block 1 rfl) rfl,?_⟩
 have hs55:St H H55 [.cell b #[.slice q54 (F5++C3++end_).length c54] 22,.sl q54 (F5++C3++end_).length c54 5 1 (kints .u8 (F5++C3++end_))]:=by
  rw[hl6]
  exact hs55.tail.take 2
 rw[←hl6]
 have hfl:(F5++C3++end_).length≤10000000:=by omega
 generalize F5++C3++end_=F at*
 refine c12 (hs55.is 1 rfl) ((hs55.fs 1 rfl).le) hb6 hfl (fun hn H58 e58=>⟨_,_,_,_,_,_,rfl,?_⟩) (fun w h out hd q c' H58 hs58=>⟨_,_,_,_,_,_,rfl,?_⟩)
 ·have hs58:=hs55.step e58
  refine⟨q54,_,c54,cell_get (hs58.block 0 rfl) rfl,?_⟩
  refine c9 (hs58.is 1 rfl) ((hs58.fs 1 rfl).le) hb6 hfl (fun _ H65 e65=>⟨_,_,_,_,_,_,rfl,br_t rfl (br_t rfl (br_t rfl ?_))⟩) (fun w h out hd=>by rw[hn] at hd;cases hd)
  have nil0: ∀H',IS H' none 0 (kints .u8 []):=fun H'=>⟨rfl,fun i v hv=>by simp[kints] at hv⟩
  exact c10 (nil0 _) (nil0 _) (by omega) ⟨_,rfl,rfl,hs58.ext.trans e65⟩
 ·have hs58:=hs55.call hs58
  refine⟨q54,_,c54,cell_get (hs58.block 1 rfl) rfl,?_⟩
  refine c9 (hs58.is 2 rfl) ((hs58.fs 2 rfl).le) hb6 hfl (fun hn=>by rw[hd] at hn;cases hn) (fun w' h' out' hd' q2 c2 H65 hs65=>⟨_,_,_,_,_,_,rfl,?_⟩)
  rw[hd] at hd'
  cases hd'
  have hs65:=hs58.call hs65
  have hol:=decP_len hd
  refine br_t rfl (br_t (by simp) (br_t (by simp) ?_))
  refine c10 (hs65.is 1 rfl) (hs65.is 0 rfl) (by omega) ⟨_,rfl,?_,hs65.ext⟩
  rw[decide_eq_true rfl]
end Go.Proofs
