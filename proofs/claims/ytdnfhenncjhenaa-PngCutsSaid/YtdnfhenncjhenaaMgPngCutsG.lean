/-
  OWN WORK. Several texts in one: PnJ, PnK, PnL, PnM, OpBytes.
-/
import Derived.Test.YtdnfhenncjhenaaMgPngCutsF
import Derived.Test.YtdnfhenncjhenaaRows
import Derived.Test.YtdnfhenncjhenaaMgPngCutsB
import Derived.Test.YtdnfhenncjhenaaMgPngCutsC
import Derived.ChangeSlices

set_option linter.unusedVariables false
set_option linter.unusedSimpArgs false
namespace Go.Proofs
open Go.Sh
theorem num4_app{s:Int}(h:0≤s∧s<4294967296)(X:List Int):num4 (big4 s++X)=s:=by
 have:num4 (big4 s++X)=num4 (big4 s):=rfl
 rw[this,big4_num h]
theorem big4_len(s:Int):(big4 s).length=4:=rfl
theorem nxt_chu{k d X:List Int}(hk:k.length=4)(hl: ∀x∈k,letP x)(hkb:Bys k)(hdb:Bys d)(hd:d.length<2147483648):nxtP (chuP k d++X)=some (k,d,X):=by
 have e:chuP k d++X=big4 d.length++(k++(d++(big4 (crcS (k++d):Nat)++X))):=by simp[chuP]
 have hc:=crcS_lt (l:=k++d) fun x hx=>(List.mem_append.1 hx).elim (hkb x) (hdb x)
 have hlen:(chuP k d++X).length=d.length+X.length+12:=by rw[List.length_append,chuP_len];omega
 have n0:num4 (chuP k d++X)=d.length:=by rw[e,num4_app (by omega)]
 have d4:(chuP k d++X).drop 4=k++(d++(big4 (crcS (k++d):Nat)++X)):=by rw[e];rfl
 have d8:(chuP k d++X).drop 8=d++(big4 (crcS (k++d):Nat)++X):=by
  rw[show 8=4+4 from rfl,←List.drop_drop,d4,←hk,List.drop_left]
 have k4:((chuP k d++X).drop 4).take 4=k:=by rw[d4,←hk,List.take_left]
 have dd:((chuP k d++X).drop 8).take d.length=d:=by rw[d8,List.take_left]
 have d8n:(chuP k d++X).drop (8+d.length)=big4 (crcS (k++d):Nat)++X:=by rw[←List.drop_drop,d8,List.drop_left]
 have d12:(chuP k d++X).drop (12+d.length)=X:=by
  rw[show 12+d.length=(8+d.length)+4 from by omega,←List.drop_drop,d8n];rfl
 unfold nxtP
 rw[n0,Int.toNat_natCast,k4,dd,d8n,d12,if_neg (by omega),if_neg (by omega),if_neg (fun⟨x,h1,h2⟩=>h2 (hl x h1)),num4_app (by omega),if_neg (fun h=>h rfl)]
def sufB(n:Nat)(z:List Int):Nat→Nat→List Int
 |_,0=>[]
 |i,j+1=>chuP kDAT (cutP n z i)++sufB n z (i+1) j
theorem bod_suf(n:Nat)(z:List Int): ∀(j i:Nat),bodP n z (i+j)=bodP n z i++sufB n z i j
 |0,i=>by simp[sufB]
 |j+1,i=>by
  rw[show i+(j+1)=(i+1)+j from by omega,bod_suf n z j (i+1),bodP,sufB,List.append_assoc]
theorem lDAT: ∀x∈kDAT,letP x:=by unfold kDAT letP;decide
theorem lEND: ∀x∈kEND,letP x:=by unfold kEND letP;decide
theorem lHDR: ∀x∈kHDR,letP x:=by unfold kHDR letP;decide
theorem cut_take(n:Nat)(z:List Int)(i:Nat):z.take (i*n)++cutP n z i=z.take ((i+1)*n):=by
 unfold cutP
 rw[Nat.add_mul,Nat.one_mul,List.take_add]
theorem cut_bys{z:List Int}(h:Bys z)(n i:Nat):Bys (cutP n z i):=(h.drop _).take _
theorem cut_len(n:Nat)(z:List Int)(i:Nat):(cutP n z i).length≤z.length:=by unfold cutP;simp;omega
theorem frm_suf{n:Nat}{z:List Int}(hz:Bys z)(hzl:z.length<2147483648): ∀(j i f st:Nat),j<f→st<2→(0<st∨0<j)→frmP f st (z.take (i*n)) (nxtP (sufB n z i j++chuP kEND []))=some (z.take ((i+j)*n))
 |0,i,f+1,st,hf,hst,h0=>by
  have e:nxtP (sufB n z i 0++chuP kEND [])=some (kEND,[],[]):=by
   have:=nxt_chu (k:=kEND) (d:=[]) (X:=[]) rfl lEND bEND (fun x hx=>by cases hx) (by decide)
   rw[List.append_nil] at this
   exact this
  rw[e,frmP,if_neg (fun h=>absurd h.1 (by decide)),if_neg (by decide),if_pos ⟨rfl,by omega,rfl,rfl⟩]
  rfl
 |j+1,i,f+1,st,hf,hst,h0=>by
  have e:nxtP (sufB n z i (j+1)++chuP kEND [])=some (kDAT,cutP n z i,sufB n z (i+1) j++chuP kEND []):=by
   rw[sufB,List.append_assoc]
   have:=cut_len n z i
   exact nxt_chu rfl lDAT bDAT (cut_bys hz n i) (by omega)
  rw[e,frmP,if_pos ⟨rfl,hst⟩,cut_take,frm_suf hz hzl j (i+1) f 1 (by omega) (by omega) (.inl (by omega)),show i+1+j=i+(j+1) from by omega]
theorem bod_12(n:Nat)(z:List Int): ∀m,12*m≤(bodP n z m).length
 |0=>by simp
 |m+1=>by
  have:=bod_12 n z m
  rw[bodP,List.length_append,chuP_len,show kDAT.length=4 from rfl];omega
theorem prt_enc{w h:Int}{z:List Int}{n m:Nat}(hz:Bys z)(hzl:z.length<2147483648)(hz0:0<z.length)(hm:z.length≤m*n):prtP (chuP kHDR (hdrP w h)++bodP n z m++chuP kEND [])=some (hdrP w h,z):=by
 have hm0:0<m:=by
  rcases Nat.eq_zero_or_pos m with h|h
  ·subst h;omega
  ·exact h
 have hhb:Bys (hdrP w h):=fun x hx=>by
  unfold hdrP at hx
  simp only[List.mem_append] at hx
  rcases hx with (hx|hx)|hx
  ·exact big4_bys _ x hx
  ·exact big4_bys _ x hx
  ·simp at hx;rcases hx with rfl|rfl|rfl<;>omega
 unfold prtP
 rw[List.append_assoc,nxt_chu rfl lHDR bHDR hhb (by show 13<_;decide)]
 have h1:=bod_12 n z m
 have e:=bod_suf n z m 0
 rw[Nat.zero_add] at e
 have h2:=frm_suf (n:=n) hz hzl m 0 ((bodP n z m++chuP kEND []).length+1) 0 (by rw[List.length_append];omega) (by omega) (.inr hm0)
 rw[Nat.zero_mul,List.take_zero,Nat.zero_add,List.take_of_length_le hm] at h2
 rw[show bodP n z 0=[] from rfl,List.nil_append] at e
 simp only
 rw[if_pos ⟨trivial,rfl,rfl⟩]
 rw[e] at h2 ⊢
 rw[h2]
 rfl
theorem lns_pre(w4:Nat)(rgba:List Int){y:Nat}: ∀{h:Nat},y≤h→ ∃t,lnsP w4 rgba h=lnsP w4 rgba y++t
 |0,hy=>⟨[],by
  have:y=0:=by omega
  subst this;simp⟩
 |h+1,hy=>by
  rcases Nat.eq_or_lt_of_le hy with he|hlt
  ·exact⟨[],by rw[he];simp⟩
  ·obtain⟨t,ht⟩:=lns_pre w4 rgba (y:=y) (h:=h) (by omega)
   rw[lnsP,ht]
   exact⟨_,by rw[List.append_assoc,List.append_assoc]⟩
theorem row_lns{w4 h:Nat}{rgba:List Int}(hb:Bys rgba)(hl:rgba.length=w4*h): ∀y,y≤h→rowP w4 (lnsP w4 rgba h) y=some (rgba.take (w4*y),aboP w4 rgba y)
 |0,_=>by simp[rowP,aboP]
 |y+1,hy=>by
  rw[rowP,row_lns hb hl y (by omega)]
  simp only
  obtain⟨t,ht⟩:=lns_pre w4 rgba (y:=y+1) (h:=h) hy
  have hll:=lnsP_len hl (y:=y) (by omega)
  obtain⟨j,hj,hbst⟩:=bstP_of (linP w4 rgba y) (aboP w4 rgba y) 4
  have hll2:=linP_len hl (show y<h by omega)
  rw[lnsP,hbst] at ht
  simp only at ht
  have g0:(lnsP w4 rgba h).getD (y*(w4+1)) 0=(j:Int):=by
   rw[ht,List.getD_eq_getElem?_getD,List.append_assoc,List.append_assoc,←hll,List.getElem?_append_right (Nat.le_refl _),Nat.sub_self]
   rfl
  have g1:((lnsP w4 rgba h).drop (y*(w4+1)+1)).take w4=filP j (linP w4 rgba y) (aboP w4 rgba y):=by
   rw[ht,←hll,←List.drop_drop,List.append_assoc,List.append_assoc,List.drop_left]
   show(List.take w4 (filP j (linP w4 rgba y) (aboP w4 rgba y)++t))=_
   have:(filP j (linP w4 rgba y) (aboP w4 rgba y)).length=w4:=by rw[filP_len,hll2]
   exact List.take_left' this
  rw[g0,g1,if_neg (by omega),unf_fil (linP_bys hb y)]
  congr 1
  have:w4*(y+1)=w4*y+w4:=by rw[Nat.mul_add,Nat.mul_one]
  rw[this,List.take_add]
  rfl
theorem zip_bys{b B:List Int}(hB: ∀x∈B,0≤x∧x<256):Bys (zipB b B):=fun x hx=>by
 unfold zipB at hx
 rcases List.mem_append.1 hx with hx|hx
 ·rcases List.mem_append.1 hx with hx|hx
  ·simp at hx;rcases hx with rfl|rfl<;>omega
  ·exact hB x hx
 ·exact big4_bys _ x hx
theorem unz_zip{b B:List Int}{eff:Int}(ok:WOk false (defB b eff) B)(hb: ∀x∈b,0≤x∧x<256)(hl:b.length≤100000000):unzM (zipB b B) b.length= .ok b:=by
 have:=frame_ok ok hb hl (big4 (adlS b))
 obtain⟨_,s0,s1⟩:=adlM_eq hb
 rw[zipB,this,if_neg (by rw[big4_len];omega),if_neg (fun h=>h (big4_num ⟨s0,s1⟩)),if_neg (by rw[big4_len];omega)]
theorem dec_enc{w h:Int}{rgba B:List Int}{n m:Nat}(hsz:SzP w h)(hb:Bys rgba)(hl:(rgba.length:Int)=4*w*h)(hrl:rgba.length≤20000)(ok:WOk false (defB (lnsP (4*w).toNat rgba h.toNat) 4) B)
 (hm:(zipB (lnsP (4*w).toNat rgba h.toNat) B).length≤m*n):decP (encP w h (zipB (lnsP (4*w).toNat rgba h.toNat) B) n m)=some (w,h,rgba):=by
 have hsz2:=hsz
 obtain⟨hw1,hh1,hw2,hh2,hwh⟩:=hsz2
 obtain⟨w4,hw4⟩: ∃w4:Nat,(4*w).toNat=w4:=⟨_,rfl⟩
 obtain⟨hN,hhN⟩: ∃hN:Nat,h=hN:=⟨h.toNat,by omega⟩
 subst hhN
 have hw4':4*w=(w4:Int):=by omega
 have hlw:rgba.length=w4*hN:=by
  have:(rgba.length:Int)=((w4*hN:Nat):Int):=by rw[hl,hw4'];simp
  omega
 rw[hw4,Int.toNat_natCast] at ok hm ⊢
 have hll:=lnsP_len hlw (Nat.le_refl hN)
 have hlb:=lnsP_bys (w4:=w4) (rgba:=rgba) hN
 have hh3:hN≤w4*hN:=Nat.le_mul_of_pos_left _ (by omega)
 have hll2:(lnsP w4 rgba hN).length≤40000:=by
  rw[hll,Nat.mul_add,Nat.mul_one,Nat.mul_comm];omega
 have hzl:(zipB (lnsP w4 rgba hN) B).length≤10000000:=by
  have:=ok.nby
  have:=(nby_def (lnsP w4 rgba hN) 4).1
  simp[zipB,big4];omega
 have hz0:0<(zipB (lnsP w4 rgba hN) B).length:=by simp[zipB,big4]
 have hzb:=zip_bys (b:=lnsP w4 rgba hN) ok.rng
 have huz:=unz_zip ok hlb (by omega)
 generalize zipB (lnsP w4 rgba hN) B=z at*
 have e8:(encP w (hN:Int) z n m).drop 8=chuP kHDR (hdrP w (hN:Int))++bodP n z m++chuP kEND []:=by
  unfold encP
  rw[List.append_assoc,List.append_assoc,List.append_assoc]
  rfl
 have t8:(encP w (hN:Int) z n m).take 8=markP:=by
  unfold encP
  rw[List.append_assoc,List.append_assoc]
  rfl
 have l8: ¬(encP w (hN:Int) z n m).length<8:=by
  unfold encP
  simp only[List.length_append,show markP.length=8 from rfl]
  omega
 unfold decP
 rw[if_neg (by rintro(h|h);exact l8 h;exact h t8),e8,prt_enc hzb (by omega) hz0 hm]
 simp only
 have n1:num4 (hdrP w (hN:Int))=w:=by
  unfold hdrP;rw[List.append_assoc];exact num4_app (by omega) _
 have n2:num4 ((hdrP w (hN:Int)).drop 4)=(hN:Int):=by
  show num4 (big4 (hN:Int)++[8,6,0,0,0])=_
  exact num4_app (by omega) _
 rw[n1,n2,pixP,if_pos hsz]
 have hmul:(hN:Int)*(4*w+1)=((lnsP w4 rgba hN).length:Int):=by rw[hll,hw4'];simp
 rw[hmul,huz]
 simp only
 rw[if_pos (by trivial),hw4,Int.toNat_natCast,row_lns hb hlw hN (Nat.le_refl _),List.take_of_length_le (by omega)]
 rfl
end Go.Proofs
namespace Go.Proofs
open Go.Sh
open Go.IntKind (wrap)
variable {H:Heap} {R:Value→Heap→Prop}
theorem c13{w h:Int}(hR:R (.bool (decide (SzP w h))) H):CallsH Try.prog 13 #[.int .i64 w,.int .i64 h] H R:=by
 have no: ¬SzP w h→R (.bool false) H:=fun hn=>by rw[decide_eq_false hn] at hR;exact hR
 refine Try.s13 (br_dec (fun h1=>br_dec (fun h2=>br_dec (fun h3=>br_dec (fun h4=>?_) (fun h4=>no fun hs=>by unfold SzP at hs;omega)) (fun h3=>no fun hs=>by unfold SzP at hs;omega)) (fun h2=>no fun hs=>by unfold SzP at hs;omega)) (fun h1=>no fun hs=>by unfold SzP at hs;omega))
 have:=mulSz (w:=w) (h:=h) (by omega) (by omega) (by omega) (by omega)
 rw[wrap_id (by omega) (by omega)]
 have e:decide (w*h≤4194304)=decide (SzP w h):=by unfold SzP;congr 1;apply propext;constructor<;>intro hh<;>omega
 rw[e];exact hR
theorem enc_len{w h:Int}{z:List Int}{n m:Nat}(hn:1≤n)(hm:m=0∨(m-1)*n<z.length):(encP w h z n m).length≤13*z.length+45:=by
 have h1:=bodP_total hm
 have h2:=m_le hn hm
 have h3:(chuP kHDR (hdrP w h)).length=25:=by rw[chuP_len];rfl
 have h4:(chuP kEND []).length=12:=rfl
 unfold encP
 simp only[List.length_append,h3,h4,show markP.length=8 from rfl]
 omega
theorem hdr_bys(w h:Int):Bys (hdrP w h):=fun x hx=>by
 unfold hdrP at hx
 simp only[List.mem_append] at hx
 rcases hx with (hx|hx)|hx
 ·exact big4_bys _ x hx
 ·exact big4_bys _ x hx
 ·simp at hx;rcases hx with rfl|rfl|rfl<;>omega
theorem enc_bys{w h:Int}{z:List Int}{n m:Nat}(hz:Bys z):Bys (encP w h z n m):=fun x hx=>by
 unfold encP at hx
 simp only[List.mem_append] at hx
 rcases hx with ((hx|hx)|hx)|hx
 ·have:Bys markP:=by unfold markP Bys;decide
  exact this x hx
 ·exact chuP_bys bHDR (hdr_bys w h) x hx
 ·exact bodP_bys hz m x hx
 ·exact chuP_bys bEND (fun y hy=>by cases hy) x hx
theorem zl_len{w h:Int}{rgba B:List Int}(hsz:SzP w h)(hl:(rgba.length:Int)=4*w*h)(hrl:rgba.length≤4000)(ok:WOk false (defB (lnsP (4*w).toNat rgba h.toNat) 4) B):(zipB (lnsP (4*w).toNat rgba h.toNat) B).length≤100000:=by
 obtain⟨hw1,hh1,hw2,hh2,hwh⟩:=hsz
 obtain⟨w4,hw4⟩: ∃w4:Nat,(4*w).toNat=w4:=⟨_,rfl⟩
 obtain⟨hN,hhN⟩: ∃hN:Nat,h=hN:=⟨h.toNat,by omega⟩
 subst hhN
 have hw4':4*w=(w4:Int):=by omega
 have hlw:rgba.length=w4*hN:=by
  have:(rgba.length:Int)=((w4*hN:Nat):Int):=by rw[hl,hw4'];simp
  omega
 rw[hw4,Int.toNat_natCast] at ok ⊢
 have hll:=lnsP_len hlw (Nat.le_refl hN)
 have hh3:hN≤w4*hN:=Nat.le_mul_of_pos_left _ (by omega)
 have hll2:(lnsP w4 rgba hN).length≤8000:=by
  rw[hll,Nat.mul_add,Nat.mul_one,Nat.mul_comm];omega
 have:=ok.nby
 have:=(nby_def (lnsP w4 rgba hN) 4).1
 simp[zipB,big4];omega
theorem encodeC{p:Option Addr}{l c:Nat}{rgba:List Int}{w h part:Int}(hi:IS H p l (kints .u8 rgba))(hx:Bys rgba)(hl:l≤4000)(hlc:l≤c)(hpart:part≤9223372036854775807)
 (hlim: ¬SzP w h→R (.tuple #[.slice none 0 0,.int .i64 31]) H)(hform:SzP w h→(l:Int)≠4*w*h→R (.tuple #[.slice none 0 0,.int .i64 25]) H)
 (hR:SzP w h→(l:Int)=4*w*h→ ∀(z:List Int) (m n:Nat) q c' H',Bys z→z.length≤100000→0<z.length→1≤n→z.length≤m*n→(m=0∨(m-1)*n<z.length)→(1≤part→(n:Int)=part)→decP (encP w h z n m)=some (w,h,rgba)→
  (encP w h z n m).length≤1400000→St H H' [.sl q (encP w h z n m).length c' 5 1 (kints .u8 (encP w h z n m))]→R (.tuple #[.slice q (encP w h z n m).length c',.int .i64 0]) H'):
 CallsH Try.prog 12 #[.int .i64 w,.int .i64 h,.slice p l c,.int .i64 part] H R:=by
 have hrl:=hi.length
 refine c12 hi hx (by omega) hlc hpart hlim hform fun hsz hel B z m n q c' H' ok hz hn hm1 hm2 hs=>?_
 have hzl:=zl_len hsz (by omega) (by omega) ok
 have hzb:=zip_bys (b:=lnsP (4*w).toNat rgba h.toNat) ok.rng
 have hz0:0<(zipB (lnsP (4*w).toNat rgba h.toNat) B).length:=by simp[zipB,big4]
 have hd:=dec_enc (n:=n) (m:=m) hsz hx (by omega) (by omega) ok (hz▸hm1)
 rw[←hz] at hzl hzb hz0 hd
 have hn1:1≤n:=by rw[hn];split<;>omega
 have hel2:=enc_len (w:=w) (h:=h) hn1 hm2
 exact hR hsz hel z m n q c' H' hzb hzl hz0 hn1 hm1 hm2 (fun hp=>by rw[hn,if_neg (by omega)];omega) hd (by omega) hs
theorem decodeE{p:Option Addr}{c:Nat}{B:List Int}(hB:IS H p B.length (kints .u8 B))(hlc:B.length≤c)(hx:Bys B)(hl:B.length≤10000000){w h:Int}{out:List Int}(hd:decP B=some (w,h,out))
 (hR: ∀q c' H',St H H' [.sl q out.length c' 5 1 (kints .u8 out)]→R (.tuple #[.int .i64 w,.int .i64 h,.slice q out.length c',.int .i64 0]) H'):CallsH Try.prog 14 #[.slice p B.length c] H R:=
 c14 hB hlc hx hl (fun hn=>by rw[hd] at hn;cases hn) fun w' h' out' hd'=>by rw[hd] at hd';cases hd';exact hR
theorem decodeN{p:Option Addr}{l c:Nat}{B:List Int}(hB:IS H p l (kints .u8 B))(hlc:l≤c)(hx:Bys B)(hl:l≤10000000)(hd:decP B=none)
 (hR: ∀H',Ext H H'→R (.tuple #[.int .i64 0,.int .i64 0,.slice none 0 0,.int .i64 50]) H'):CallsH Try.prog 14 #[.slice p l c] H R:=
 c14 hB hlc hx hl (fun _=>hR) fun w' h' out' hd'=>by rw[hd] at hd';cases hd'
theorem c6(hR: ∀H',Ext H H'→R (.bool true) H'):CallsH Try.prog 6 #[] H R:=by
 refine Try.s6 (_u:=()) ?_
 unfold Try.S6
 refine(St.nil H).alc fun b1 H2 hs2=>?_
 have h4:Bys [1,2,3,4]:=by unfold Bys;decide
 have hsz:SzP 1 1:=by unfold SzP;decide
 refine encodeC (rgba:=[1,2,3,4]) (IS.of_block (hs2.block 0 rfl) rfl) h4 (by decide) (by decide) (by decide) (fun hn=>absurd hsz hn) (fun _ hn=>absurd (by decide) hn)
  fun _ _ z m n q c' H4 hzb hzl hz0 hn1 hm1 hm2 _ hd hel hs4=>⟨_,_,_,_,rfl,?_⟩
 have hs4:=hs2.call hs4
 refine decodeE (hs4.is 0 rfl) ((hs4.fs 0 rfl).le) (enc_bys hzb) (by omega) hd fun q2 c2 H8 hs8=>⟨_,_,_,_,_,_,rfl,?_⟩
 have hs8:=hs4.call hs8
 refine decodeN (B:=[]) ⟨rfl,fun i v hv=>by simp[kints] at hv⟩ (Nat.le_refl _) (fun x hx=>by cases hx) (by decide) (by unfold decP;rw[if_pos (.inl (by decide))]) fun H14 e14=>⟨_,_,_,_,_,_,rfl,?_⟩
 have hs14:=hs8.step e14
 refine br_t rfl (br_t rfl (br_t rfl (br_t rfl (hs14.alc fun b19 H20 hs20=>?_))))
 refine c9 (xs:=[1,2,3,4]) (ys:=[1,2,3,4]) (hs20.is 1 rfl) (IS.of_block (hs20.block 0 rfl) rfl) (by decide) ⟨_,rfl,br_t (by decide) (hR H20 hs20.ext)⟩
end Go.Proofs
namespace Go.Proofs
open Go.Sh
theorem xor_cancel{a b p:Nat}(h:a ^^^ p=b ^^^ p):a=b:=by
 have:=congrArg (· ^^^ p) h
 simpa[Nat.xor_assoc] using this
theorem crcB_top{c:Nat}(h:c<4294967296):(crcB c).testBit 31=decide (c%2=1):=by
 have hlt:(c/2).testBit 31=false:=Nat.testBit_lt_two_pow (by omega)
 unfold crcB
 split
 ·rename_i h1
  rw[Nat.testBit_xor,hlt,decide_eq_true h1]
  decide
 ·rename_i h1
  rw[hlt,decide_eq_false h1]
theorem crcB_inj{a b:Nat}(ha:a<4294967296)(hb:b<4294967296)(h:crcB a=crcB b):a=b:=by
 have h1:=crcB_top ha
 have h2:=crcB_top hb
 rw[h,h2] at h1
 have hp:(b%2=1)↔(a%2=1):=by simpa using h1
 unfold crcB at h
 by_cases hx:a%2=1
 ·have hy:=hp.2 hx
  rw[if_pos hx,if_pos hy] at h
  have:=xor_cancel h
  omega
 ·have hy: ¬b%2=1:=fun hh=>hx (hp.1 hh)
  rw[if_neg hx,if_neg hy] at h
  omega
theorem crcI_inj: ∀(n:Nat) {a b:Nat},a<4294967296→b<4294967296→crcI n a=crcI n b→a=b
 |0,_,_,_,_,h=>h
 |n+1,_,_,ha,hb,h=>crcB_inj ha hb (crcI_inj n (crcB_lt ha) (crcB_lt hb) h)
theorem crcF_inj: ∀(l:List Int) {a b:Nat},Bys l→a<4294967296→b<4294967296→crcF a l=crcF b l→a=b
 |[],_,_,_,_,_,h=>h
 |x::l,a,b,hl,ha,hb,h=>by
  have hx:=hl x (by simp)
  have:=crcF_inj l (fun y hy=>hl y (List.mem_cons_of_mem _ hy)) (crcX_lt ha hx) (crcX_lt hb hx) h
  exact xor_cancel (crcI_inj 8 (xor_lt32 ha (by omega)) (xor_lt32 hb (by omega)) this)
theorem crc_set{l:List Int}(hl:Bys l){i:Nat}(hi:i<l.length){v:Int}(hv:0≤v∧v<256)(hne:v≠l.getD i 0):crcS (l.set i v)≠crcS l:=by
 intro h
 have h:=xor_cancel h
 have e1:l=l.take i++(l.getD i 0::l.drop (i+1)):=by
  have:l.getD i 0=l[i]:=by rw[List.getD_eq_getElem?_getD,List.getElem?_eq_getElem hi];rfl
  rw[this,←List.drop_eq_getElem_cons hi,List.take_append_drop]
 have e2:l.set i v=l.take i++(v::l.drop (i+1)):=by rw[List.set_eq_take_append_cons_drop,if_pos hi]
 have hx:=hl.getD i
 rw[e2] at h
 rw[e1,crcF_app,List.take_left' (by simp;omega)] at h
 rw[show(l.take i++l.getD i 0::l.drop (i+1)).drop (i+1)=l.drop (i+1) from by rw[←e1],crcF_app] at h
 have hp:=crcF_lt (l.take i) (show 4294967295<4294967296 by omega) (hl.take i)
 have h:=crcF_inj (l.drop (i+1)) (hl.drop _) (crcX_lt hp hv) (crcX_lt hp hx) h
 have h:=crcI_inj 8 (xor_lt32 hp (by omega)) (xor_lt32 hp (by omega)) h
 rw[Nat.xor_comm,Nat.xor_comm _ (l.getD i 0).toNat] at h
 have:=xor_cancel h
 omega
theorem nxt_none_of_len{B:List Int}(h:B.length<12):nxtP B=none:=by unfold nxtP;rw[if_pos h]
theorem nxt_cut{k d X:List Int}(hk:k.length=4)(hd:d.length<2147483648){j:Nat}(hj:j<(chuP k d).length):nxtP ((chuP k d++X).take j)=none:=by
 rw[chuP_len,hk] at hj
 have hl:((chuP k d++X).take j).length=j:=by
  rw[List.length_take,List.length_append,chuP_len,hk];omega
 by_cases h12:j<12
 ·exact nxt_none_of_len (by omega)
 ·have n0:num4 ((chuP k d++X).take j)=d.length:=by
   have e:(chuP k d++X).take j=big4 d.length++(k++(d++(big4 (crcS (k++d):Nat)++X))).take (j-4):=by
    have e0:chuP k d++X=big4 d.length++(k++(d++(big4 (crcS (k++d):Nat)++X))):=by simp[chuP]
    rw[e0,List.take_append,List.take_of_length_le (by rw[big4_len];omega),big4_len]
   rw[e,num4_app (by omega)]
  unfold nxtP
  rw[hl,n0,if_neg h12,if_pos (by omega)]
theorem frm_none(f st:Nat)(out:List Int):frmP f st out none=none:=by cases f<;>rfl
theorem frm_end{n:Nat}{z:List Int}(hz:Bys z)(hzl:z.length<2147483648){E:List Int}(hE: ∀f st out,frmP f st out (nxtP E)=none): ∀(j i f st:Nat) (out:List Int),frmP f st out (nxtP (sufB n z i j++E))=none
 |0,i,f,st,out=>hE f st out
 |j+1,i,f,st,out=>by
  have e:nxtP (sufB n z i (j+1)++E)=some (kDAT,cutP n z i,sufB n z (i+1) j++E):=by
   rw[sufB,List.append_assoc]
   have:=cut_len n z i
   exact nxt_chu rfl lDAT bDAT (cut_bys hz n i) (by omega)
  rw[e]
  cases f with
  |zero=>rfl
  |succ f=>
   rw[frmP]
   split
   ·exact frm_end hz hzl hE j (i+1) f _ _
   ·rw[if_neg (by decide),if_neg (fun h=>absurd h.1 (by decide))]
theorem frm_cut{n:Nat}{z:List Int}(hz:Bys z)(hzl:z.length<2147483648): ∀(j i f st:Nat) (out:List Int) (t:Nat),t<(sufB n z i j++chuP kEND []).length→frmP f st out (nxtP ((sufB n z i j++chuP kEND []).take t))=none
 |0,i,f,st,out,t,ht=>by
  have:=nxt_cut (k:=kEND) (d:=[]) (X:=[]) rfl (by decide) (j:=t) (by simpa[sufB] using ht)
  rw[List.append_nil] at this
  rw[sufB,List.nil_append,this,frm_none]
 |j+1,i,f,st,out,t,ht=>by
  have hcl:=cut_len n z i
  rw[sufB,List.append_assoc] at ht ⊢
  by_cases h:t<(chuP kDAT (cutP n z i)).length
  ·rw[nxt_cut rfl (by omega) h,frm_none]
  ·rw[List.take_append,List.take_of_length_le (by omega),nxt_chu rfl lDAT bDAT (cut_bys hz n i) (by omega)]
   cases f with
   |zero=>rfl
   |succ f=>
    rw[List.length_append] at ht
    rw[frmP]
    split
    ·exact frm_cut hz hzl j (i+1) f _ _ _ (by omega)
    ·rw[if_neg (by decide),if_neg (fun h=>absurd h.1 (by decide))]
theorem enc_split(w h:Int)(z:List Int)(n m:Nat):encP w h z n m=markP++(chuP kHDR (hdrP w h)++(sufB n z 0 m++chuP kEND [])):=by
 have e:=bod_suf n z m 0
 rw[Nat.zero_add,show bodP n z 0=[] from rfl,List.nil_append] at e
 unfold encP
 rw[e]
 simp only[List.append_assoc]
theorem hdr13(w h:Int):(hdrP w h).length=13:=rfl
theorem prt_none{w h:Int}{X:List Int}(hX: ∀f,frmP f 0 [] (nxtP X)=none):prtP (chuP kHDR (hdrP w h)++X)=none:=by
 unfold prtP
 have hhb:Bys (hdrP w h):=fun x hx=>by
  unfold hdrP at hx
  simp only[List.mem_append] at hx
  rcases hx with (hx|hx)|hx
  ·exact big4_bys _ x hx
  ·exact big4_bys _ x hx
  ·simp at hx;rcases hx with rfl|rfl|rfl<;>omega
 rw[nxt_chu rfl lHDR bHDR hhb (by rw[hdr13];decide)]
 simp only
 split
 ·rw[hX];rfl
 ·rfl
theorem dec_mark{X:List Int}(h:prtP X=none):decP (markP++X)=none:=by
 unfold decP
 split
 ·rfl
 ·rw[show(markP++X).drop 8=X from rfl,h]
theorem dec_cut8{w h:Int}{z:List Int}{n m:Nat}(hz:Bys z)(hzl:z.length<2147483648){t:Nat}(ht:t<(encP w h z n m).length):decP ((encP w h z n m).take t)=none:=by
 rw[enc_split] at ht ⊢
 by_cases h8:t<8
 ·unfold decP
  rw[if_pos (.inl (by rw[List.length_take];omega))]
 ·rw[List.take_append,List.take_of_length_le (show markP.length≤t by show 8≤t;omega)]
  rw[List.length_append] at ht
  refine dec_mark ?_
  generalize hu:t-markP.length=u
  have hu8:markP.length=8:=rfl
  have ht:u<(chuP kHDR (hdrP w h)++(sufB n z 0 m++chuP kEND [])).length:=by omega
  by_cases h25:u<(chuP kHDR (hdrP w h)).length
  ·unfold prtP
   rw[nxt_cut rfl (by rw[hdr13];decide) h25]
  ·rw[List.take_append,List.take_of_length_le (by omega)]
   rw[List.length_append] at ht
   exact prt_none fun f=>frm_cut hz hzl m 0 f 0 [] _ (by omega)
theorem dec_more8{w h:Int}{z:List Int}{n m:Nat}(hz:Bys z)(hzl:z.length<2147483648){more:List Int}(hm:more≠[]):decP (encP w h z n m++more)=none:=by
 rw[enc_split,List.append_assoc,List.append_assoc,List.append_assoc]
 refine dec_mark (prt_none fun f=>frm_end hz hzl (fun f st out=>?_) m 0 f 0 [])
 rw[nxt_chu rfl lEND bEND (fun x hx=>by cases hx) (by decide)]
 cases f with
 |zero=>rfl
 |succ f=>rw[frmP,if_neg (fun h=>absurd h.1 (by decide)),if_neg (by decide),if_neg (fun h=>hm h.2.2.2)]
theorem num4_eq{x y X Y:List Int}(hx:x.length=4)(hy:y.length=4)(bx:Bys x)(by_:Bys y)(h:num4 (x++X)=num4 (y++Y)):x=y:=by
 match x,y,hx,hy with
 |[a,b,c,d],[a',b',c',d'],_,_=>
  have h1:=bx a (by simp);have h2:=bx b (by simp);have h3:=bx c (by simp);have h4:=bx d (by simp)
  have g1:=by_ a' (by simp);have g2:=by_ b' (by simp);have g3:=by_ c' (by simp);have g4:=by_ d' (by simp)
  simp[num4] at h
  have:a=a'∧b=b'∧c=c'∧d=d':=by omega
  obtain⟨rfl,rfl,rfl,rfl⟩:=this
  rfl
theorem set_ne{l:List Int}{i:Nat}(hi:i<l.length){v:Int}(hne:v≠l.getD i 0):l.set i v≠l:=fun h=>by
 have:=congrArg (fun l=>l.getD i 0) h
 simp only[List.getD_eq_getElem?_getD,List.getElem?_set_self hi,Option.getD_some] at this
 rw[List.getD_eq_getElem?_getD] at hne
 exact hne this
theorem set_bys{l:List Int}(hl:Bys l)(i:Nat){v:Int}(hv:0≤v∧v<256):Bys (l.set i v):=fun x hx=>by
 rcases List.mem_or_eq_of_mem_set hx with h|h
 ·exact hl x h
 ·rw[h];exact hv
theorem end_bad{i:Nat}(hi:i<4){v:Int}(hv:0≤v∧v<256)(hne:v≠(chuP kEND []).getD (8+i) 0):nxtP ((chuP kEND []).set (8+i) v)=none:=by
 have hc:=crcS_lt bEND
 have e:(chuP kEND []).set (8+i) v=big4 0++(kEND++(big4 (crcS kEND:Nat)).set i v):=by
  show(big4 0++kEND++[]++big4 (crcS (kEND++[]):Nat)).set (8+i) v=_
  rw[List.append_nil,List.append_nil,List.set_append_right _ _ (by show 8≤8+i;omega),show 8+i-(big4 0++kEND).length=i from by show 8+i-8=i;omega,List.append_assoc]
 have hg:(chuP kEND []).getD (8+i) 0=(big4 (crcS kEND:Nat)).getD i 0:=by
  show(big4 0++kEND++[]++big4 (crcS (kEND++[]):Nat)).getD (8+i) 0=_
  rw[List.append_nil,List.append_nil,List.getD_eq_getElem?_getD,List.getElem?_append_right (by show 8≤8+i;omega),show 8+i-(big4 0++kEND).length=i from by show 8+i-8=i;omega,←List.getD_eq_getElem?_getD]
 rw[hg] at hne
 rw[e]
 unfold nxtP
 have hlen:(big4 0++(kEND++(big4 (crcS kEND:Nat)).set i v)).length=12:=by simp[big4_len,kEND]
 rw[hlen,num4_app (by decide),if_neg (by decide),if_neg (by decide)]
 split
 ·rfl
 ·rw[if_pos ?_]
  intro h
  have h:num4 ((big4 (crcS kEND:Nat)).set i v)=(crcS kEND:Nat):=h
  have h2:=big4_num (s:=(crcS kEND:Nat)) (by omega)
  rw[←h2] at h
  have h3:=num4_eq (X:=[]) (Y:=[]) (by rw[List.length_set];rfl) rfl (set_bys (big4_bys _) i hv) (big4_bys _) (by rw[List.append_nil,List.append_nil];exact h)
  exact set_ne (by rw[big4_len];exact hi) hne h3
theorem nxtP_inv{B k d B':List Int}(h:nxtP B=some (k,d,B')):k=(B.drop 4).take 4∧d=(B.drop 8).take (num4 B).toNat∧d.length=(num4 B).toNat∧num4 (B.drop (8+(num4 B).toNat))=(crcS (k++d):Nat):=by
 unfold nxtP at h
 split at h
 ·cases h
 ·split at h
  ·cases h
  ·split at h
   ·cases h
   ·split at h
    ·cases h
    ·rename_i hc
     cases h
     refine⟨rfl,rfl,?_,Classical.byContradiction hc⟩
     rw[List.length_take,List.length_drop];omega
theorem hdr_bad{w h:Int}{X:List Int}{i:Nat}(hi:i<25){v:Int}(hv:0≤v∧v<256)(hne:v≠(chuP kHDR (hdrP w h)).getD i 0)(hX:Bys X):prtP ((chuP kHDR (hdrP w h)).set i v++X)=none:=by
 unfold prtP
 cases hn:nxtP ((chuP kHDR (hdrP w h)).set i v++X) with
 |none=>rfl
 |some x=>
  obtain⟨k,d,B'⟩:=x
  simp only
  split
  ·rename_i hh
   obtain⟨h1,h2,_⟩:=hh
   exfalso
   obtain⟨i1,i2,i3,i4⟩:=nxtP_inv hn
   have hnn:(num4 ((chuP kHDR (hdrP w h)).set i v++X)).toNat=13:=by omega
   rw[hnn] at i2 i4
   subst h1
   have hCl:(chuP kHDR (hdrP w h)).length=25:=by rw[chuP_len];rfl
   have hCb:Bys (chuP kHDR (hdrP w h)):=chuP_bys bHDR (fun x hx=>by
    unfold hdrP at hx
    simp only[List.mem_append] at hx
    rcases hx with (hx|hx)|hx
    ·exact big4_bys _ x hx
    ·exact big4_bys _ x hx
    ·simp at hx;rcases hx with rfl|rfl|rfl<;>omega)
   have hYb:Bys ((chuP kHDR (hdrP w h)).set i v):=set_bys hCb i hv
   have hYl:((chuP kHDR (hdrP w h)).set i v).length=25:=by rw[List.length_set,hCl]
   have c1:(chuP kHDR (hdrP w h)).take 4=big4 13:=rfl
   have c2:((chuP kHDR (hdrP w h)).drop 4).take 4=kHDR:=rfl
   have c3:((chuP kHDR (hdrP w h)).drop 8).take 13=hdrP w h:=rfl
   have c4:(chuP kHDR (hdrP w h)).drop 21=big4 (crcS (kHDR++hdrP w h):Nat):=rfl
   generalize hC:chuP kHDR (hdrP w h)=C at*
   -- where the two are alike
   have same: ∀a b,((C.set i v).drop a).take b=(C.drop a).take b→a≤i→i<a+b→False:=fun a b he ha hb=>by
    have:=congrArg (fun l:List Int=>l[i-a]?) he
    simp only[List.getElem?_take_of_lt (show i-a<b by omega),List.getElem?_drop,show a+(i-a)=i from by omega] at this
    rw[List.getElem?_set_self (by omega)] at this
    apply hne
    rw[List.getD_eq_getElem?_getD,←this];rfl
   have away: ∀a b,(i<a∨a+b≤i)→((C.set i v).drop a).take b=(C.drop a).take b:=fun a b hab=>by
    refine List.ext_getElem? fun j=>?_
    by_cases hj:j<b
    ·rw[List.getElem?_take_of_lt hj,List.getElem?_take_of_lt hj,List.getElem?_drop,List.getElem?_drop,List.getElem?_set_ne (by omega)]
    ·rw[List.getElem?_eq_none (by rw[List.length_take];omega),List.getElem?_eq_none (by rw[List.length_take];omega)]
   have p1:(C.set i v).take 4=big4 13:=by
    have e:num4 (C.set i v++X)=num4 (big4 13++[]):=by
     have:0≤num4 (C.set i v++X):=(num4_nn fun x hx=>(List.mem_append.1 hx).elim (hYb x) (hX x)).1
     rw[num4_app (by decide)];omega
    have e2:C.set i v++X=(C.set i v).take 4++((C.set i v).drop 4++X):=by rw[←List.append_assoc,List.take_append_drop]
    rw[e2] at e
    exact num4_eq (by simp;omega) rfl (hYb.take 4) (big4_bys _) e
   have p2:((C.set i v).drop 4).take 4=kHDR:=by
    rw[i1,List.drop_append_of_le_length (by omega),List.take_append_of_le_length (by rw[List.length_drop];omega)]
   have p3:d=((C.set i v).drop 8).take 13:=by
    rw[i2,List.drop_append_of_le_length (by omega),List.take_append_of_le_length (by rw[List.length_drop];omega)]
   have p4:(C.set i v).drop 21=big4 (crcS (kHDR++d):Nat):=by
    have hdb:Bys (kHDR++d):=fun x hx=>(List.mem_append.1 hx).elim (bHDR x) (fun hx=>by rw[p3] at hx;exact(hYb.drop 8).take 13 x hx)
    have hcl:=crcS_lt hdb
    rw[List.drop_append_of_le_length (by omega)] at i4
    have e:=big4_num (s:=(crcS (kHDR++d):Nat)) (by omega)
    have e2:num4 ((C.set i v).drop 21++X)=num4 (big4 (crcS (kHDR++d):Nat)++[]):=by rw[List.append_nil,e];exact i4
    exact num4_eq (by rw[List.length_drop];omega) rfl (hYb.drop 21) (big4_bys _) e2
   have full:((C.set i v).drop 21).take 4=(C.set i v).drop 21:=List.take_of_length_le (by rw[List.length_drop];omega)
   have full2:(C.drop 21).take 4=C.drop 21:=List.take_of_length_le (by rw[List.length_drop];omega)
   by_cases q1:i<4
   ·exact same 0 4 (by rw[List.drop_zero,List.drop_zero,p1,c1]) (by omega) (by omega)
   by_cases q2:i<8
   ·exact same 4 4 (by rw[p2,c2]) (by omega) (by omega)
   by_cases q3:i<21
   ·have a4:=away 21 4 (.inl (by omega))
    rw[full,full2,p4,c4] at a4
    have hdb:Bys (kHDR++d):=fun x hx=>(List.mem_append.1 hx).elim (bHDR x) (fun hx=>by rw[p3] at hx;exact(hYb.drop 8).take 13 x hx)
    have hhb:Bys (kHDR++hdrP w h):=fun x hx=>(List.mem_append.1 hx).elim (bHDR x) (fun hx=>by rw[←c3] at hx;exact(hCb.drop 8).take 13 x hx)
    have b1:=crcS_lt hdb
    have b2:=crcS_lt hhb
    have e1:=big4_num (s:=(crcS (kHDR++d):Nat)) (by omega)
    have e2:=big4_num (s:=(crcS (kHDR++hdrP w h):Nat)) (by omega)
    have e3:crcS (kHDR++d)=crcS (kHDR++hdrP w h):=by
     rw[a4,e2] at e1;omega
    have e4:kHDR++d=(kHDR++hdrP w h).set (i-4) v:=by
     rw[List.set_append_right _ _ (by show 4≤i-4;omega),p3,←c3]
     congr 1
     refine List.ext_getElem? fun j=>?_
     have hk4:i-4-kHDR.length=i-8:=by show i-4-4=i-8;omega
     rw[hk4]
     by_cases hj:j<13
     ·rw[List.getElem?_take_of_lt hj,List.getElem?_drop]
      by_cases hji:i-8=j
      ·rw[show 8+j=i from by omega,List.getElem?_set_self (by omega),hji,List.getElem?_set_self (by rw[List.length_take,List.length_drop];omega)]
      ·rw[List.getElem?_set_ne (by omega),List.getElem?_set_ne hji,List.getElem?_take_of_lt hj,List.getElem?_drop]
     ·rw[List.getElem?_eq_none (by rw[List.length_take];omega),List.getElem?_eq_none (by rw[List.length_set,List.length_take];omega)]
    rw[e4] at e3
    refine crc_set hhb (by show i-4<17;omega) hv (fun hh=>hne ?_) e3
    rw[hh]
    have:(kHDR++hdrP w h)=(C.drop 4).take 17:=by rw[←hC];rfl
    rw[this,List.getD_eq_getElem?_getD,List.getD_eq_getElem?_getD,List.getElem?_take_of_lt (by omega),List.getElem?_drop,show 4+(i-4)=i from by omega]
   ·have a3:=away 8 13 (.inr (by omega))
    rw[←p3,c3] at a3
    rw[a3] at p4
    exact same 21 4 (by rw[full,full2,p4,c4]) (by omega) (by omega)
  ·rfl
theorem dec_hdr{w h:Int}{z:List Int}{n m:Nat}(hz:Bys z){i:Nat}(hi:i<25){v:Int}(hv:0≤v∧v<256)(hne:v≠(encP w h z n m).getD (8+i) 0):decP ((encP w h z n m).set (8+i) v)=none:=by
 have hCl:(chuP kHDR (hdrP w h)).length=25:=by rw[chuP_len];rfl
 rw[enc_split] at hne ⊢
 have e1:(markP++(chuP kHDR (hdrP w h)++(sufB n z 0 m++chuP kEND []))).getD (8+i) 0=(chuP kHDR (hdrP w h)).getD i 0:=by
  rw[List.getD_eq_getElem?_getD,List.getElem?_append_right (by show 8≤8+i;omega),show 8+i-markP.length=i from by show 8+i-8=i;omega,List.getElem?_append_left (by omega),←List.getD_eq_getElem?_getD]
 rw[e1] at hne
 rw[List.set_append_right _ _ (by show 8≤8+i;omega),show 8+i-markP.length=i from by show 8+i-8=i;omega,List.set_append_left _ _ (by omega)]
 refine dec_mark (hdr_bad hi hv hne fun x hx=>?_)
 rcases List.mem_append.1 hx with hx|hx
 ·have:=bod_suf n z m 0
  rw[Nat.zero_add,show bodP n z 0=[] from rfl,List.nil_append] at this
  rw[←this] at hx
  exact bodP_bys hz m x hx
 ·exact chuP_bys bEND (fun y hy=>by cases hy) x hx
theorem dec_end{w h:Int}{z:List Int}{n m:Nat}(hz:Bys z)(hzl:z.length<2147483648){i:Nat}(hi:i<4){v:Int}(hv:0≤v∧v<256)(hne:v≠(encP w h z n m).getD ((encP w h z n m).length-1-i) 0):
 decP ((encP w h z n m).set ((encP w h z n m).length-1-i) v)=none:=by
 have hEl:(chuP kEND []).length=12:=rfl
 have hCl:(chuP kHDR (hdrP w h)).length=25:=by rw[chuP_len];rfl
 rw[enc_split] at hne ⊢
 have hln:(markP++(chuP kHDR (hdrP w h)++(sufB n z 0 m++chuP kEND []))).length-1-i=8+(25+((sufB n z 0 m).length+(8+(3-i)))):=by
  simp only[List.length_append,hEl,hCl,show markP.length=8 from rfl];omega
 rw[hln] at hne ⊢
 have e1:(markP++(chuP kHDR (hdrP w h)++(sufB n z 0 m++chuP kEND []))).getD (8+(25+((sufB n z 0 m).length+(8+(3-i))))) 0=(chuP kEND []).getD (8+(3-i)) 0:=by
  rw[List.getD_eq_getElem?_getD,List.getElem?_append_right (by show 8≤_;omega),show 8+(25+((sufB n z 0 m).length+(8+(3-i))))-markP.length=25+((sufB n z 0 m).length+(8+(3-i))) from by show _-8=_;omega,
   List.getElem?_append_right (by omega),hCl,Nat.add_sub_cancel_left,List.getElem?_append_right (by omega),Nat.add_sub_cancel_left,←List.getD_eq_getElem?_getD]
 rw[e1] at hne
 rw[List.set_append_right _ _ (by show 8≤_;omega),show 8+(25+((sufB n z 0 m).length+(8+(3-i))))-markP.length=25+((sufB n z 0 m).length+(8+(3-i))) from by show _-8=_;omega,
  List.set_append_right _ _ (by omega),hCl,Nat.add_sub_cancel_left,List.set_append_right _ _ (by omega),Nat.add_sub_cancel_left]
 refine dec_mark (prt_none fun f=>frm_end hz hzl (fun f st out=>?_) m 0 f 0 [])
 rw[end_bad (by omega) hv hne,frm_none]
end Go.Proofs
namespace Go.Proofs
open Go.Sh
open Go.IntKind (wrap)
variable {H:Heap} {R:Value→Heap→Prop}
theorem turnB{x:Int}(hx:0≤x∧x<256)(a:Nat):xorI .u8 x (shlI .u8 (1:Int) ((a%8:Nat):Int))≠x∧0≤xorI .u8 x (shlI .u8 (1:Int) ((a%8:Nat):Int))∧xorI .u8 x (shlI .u8 (1:Int) ((a%8:Nat):Int))<256:=by
 obtain⟨n,rfl⟩:=Int.eq_ofNat_of_zero_le hx.1
 exact turn_bit ⟨n,by omega⟩ ⟨a%8,Nat.mod_lt _ (by omega)⟩
set_option maxHeartbeats 2000000 in
theorem plawCuts{w h part at_:Int}{p mp:Option Addr}{l c ml mc:Nat}{rgba more:List Int}(hi:IS H p l (kints .u8 rgba))(hx:Bys rgba)(hlc:l≤c)(hpart:part≤9223372036854775807)(hm:IS H mp ml (kints .u8 more))(hmb:Bys more)(hmlc:ml≤mc)(hat:at_≤9223372036854775807):
 CallsH Try.prog 5 #[.int .i64 w,.int .i64 h,.slice p l c,.int .i64 part,.int .i64 at_,.slice mp ml mc] H (fun u H'=>u= .bool true∧Ext H H'):=by
 have e1:=hi.length
 have e2:=hm.length
 refine Try.s5 ?_
 unfold Try.S5
 refine c6 fun H8 e8=>⟨_,rfl,br_f rfl ?_⟩
 intro J hJ
 refine br_dec (fun _=>⟨rfl,e8⟩) (fun hl=>br_dec (fun _=>⟨rfl,e8⟩) (fun hat0=>br_dec (fun _=>⟨rfl,e8⟩) (fun hm1=>br_dec (fun _=>⟨rfl,e8⟩) (fun hm2=>hJ H8 ?_))))
 obtain⟨a,rfl⟩:=Int.eq_ofNat_of_zero_le (show 0≤at_ by omega)
 refine encodeC (hi.ext e8) hx (by omega) hlc hpart (fun hn=>⟨_,_,_,_,rfl,fun J2 hJ2=>br_t rfl ⟨rfl,e8⟩⟩) (fun hsz hne=>⟨_,_,_,_,rfl,fun J2 hJ2=>br_t rfl ⟨rfl,e8⟩⟩) fun hsz hel z m n q c' H13 hzb hzl hz0 hn1 hm1' hm2' _ hd hle hs13=>⟨_,_,_,_,rfl,?_⟩
 intro J2 hJ2
 have hge:45≤(encP w h z n m).length:=by
  unfold encP
  have h3:(chuP kHDR (hdrP w h)).length=25:=by rw[chuP_len];rfl
  have h4:(chuP kEND []).length=12:=rfl
  simp only[List.length_append,h3,h4,show markP.length=8 from rfl]
  omega
 refine br_f rfl (br_n (by omega) (hJ2 H13 ?_))
 have hcutd:=fun t ht=>dec_cut8 (w:=w) (h:=h) (n:=n) (m:=m) hzb (by omega) (t:=t) ht
 have hmore:=dec_more8 (w:=w) (h:=h) (z:=z) (n:=n) (m:=m) hzb (by omega) (more:=more) (fun hh=>by rw[hh] at e2;simp at e2;omega)
 have hhdr:=fun i hi v hv hne=>dec_hdr (w:=w) (h:=h) (n:=n) (m:=m) hzb (i:=i) hi (v:=v) hv hne
 have hend:=fun i hi v hv hne=>dec_end (w:=w) (h:=h) (n:=n) (m:=m) hzb (by omega) (i:=i) hi (v:=v) hv hne
 have heb:=enc_bys (w:=w) (h:=h) (n:=n) (m:=m) hzb
 clear hd hm1' hm2'
 generalize encP w h z n m=E at*
 have hEl:0<E.length:=by omega
 have t1:Int.tmod ((a:Nat):Int) ((E.length:Nat):Int)=((a%E.length:Nat):Int):=by rw[Int.tmod_eq_emod_of_nonneg (by omega)];simp
 have t2:Int.tmod ((a:Nat):Int) 25=((a%25:Nat):Int):=by rw[Int.tmod_eq_emod_of_nonneg (by omega)];omega
 have t3:Int.tmod ((a:Nat):Int) 8=((a%8:Nat):Int):=by rw[Int.tmod_eq_emod_of_nonneg (by omega)];omega
 have t4:Int.tmod ((a:Nat):Int) 4=((a%4:Nat):Int):=by rw[Int.tmod_eq_emod_of_nonneg (by omega)];omega
 rw[t1,t2,t3,t4,Int.toNat_natCast]
 have hmod:=Nat.mod_lt a hEl
 have hisE:=hs13.is 0 rfl
 have hlcE:=(hs13.fs 0 rfl).le
 refine⟨by omega,by omega,by omega,?_⟩
 have hcut:=hisE.cut hlcE (i:=0) (j:=a%E.length) (by omega) (by omega)
 rw[List.drop_zero,Nat.sub_zero] at hcut
 rw[Nat.sub_zero,Nat.sub_zero]
 refine decodeN hcut (by omega) (heb.take _) (by omega) (hcutd _ hmod) fun H19 e19=>⟨_,_,_,_,_,_,rfl,?_⟩
 have hs19:=hs13.step e19
 refine c15 (hs19.is 0 rfl) (hm.ext (e8.trans hs19.ext)) (by omega) fun q25 c25 H25 hs25=>⟨_,_,_,rfl,?_⟩
 have hs25:=hs19.call hs25
 have hml:(E++more).length≤10000000:=by rw[List.length_append];omega
 refine decodeN (hs25.is 0 rfl) ((hs25.fs 0 rfl).le) (fun x hx=>(List.mem_append.1 hx).elim (heb x) (hmb x)) hml hmore fun H28 e28=>⟨_,_,_,_,_,_,rfl,?_⟩
 have hs28:=(hs25.step e28).tail
 -- a bit of the sizes
 refine hs28.alc fun b33 H34 hs34=>?_
 have hs34:=hs34.toSl 0 rfl (l:=0) (k:=1) (fs:=[]) rfl rfl (by simp)
 refine hs34.appI 0 rfl (hs34.is 1 rfl) (kints_one _ _) rfl (by omega) (by omega) fun q36 c36 H36 hs36=>?_
 rw[List.nil_append,Nat.zero_add] at hs36
 rw[Nat.zero_add]
 have w25:wrap .i64 ((8:Int)+((a%25:Nat):Int))=((8+a%25:Nat):Int):=by rw[wrap_id (by omega) (by omega)];omega
 rw[w25,Int.toNat_natCast,Nat.mul_one]
 have hj:8+a%25<E.length:=by omega
 have hgj:=get_gD E 0 hj
 have hvb:=heb.getD (8+a%25)
 obtain⟨tb1,tb2,tb3⟩:=turnB hvb a
 obtain⟨bq,hbq⟩:=hs36.slSome 0 rfl (j:=8+a%25) (by rw[kints_len];exact hj)
 subst hbq
 refine⟨by decide,_,rfl,by omega,by omega,E.getD (8+a%25) 0,?_,by decide,by omega,_,rfl,by omega,by omega,?_⟩
 ·rw[add_none]
  have:=(hs36.is 0 rfl).cell (kints_get hgj)
  obtain⟨ad,h1,h2⟩:=this
  cases h1
  rw[add_none] at h2
  exact h2
 rw[add_none,Nat.zero_add]
 refine hs36.slPut 0 rfl (by rw[kints_len];exact hj) rfl fun H40 hs40=>?_
 rw[kints_set] at hs40
 generalize hv1:xorI .u8 (E.getD (8+a%25) 0) (shlI .u8 (1:Int) ((a%8:Nat):Int))=v1 at*
 have el1:(E.set (8+a%25) v1).length=E.length:=List.length_set
 refine decodeN (hs40.is 0 rfl) ((hs40.fs 0 rfl).le) (set_bys heb _ ⟨tb2,tb3⟩) (by omega) (hhdr _ (by omega) _ ⟨tb2,tb3⟩ tb1) fun H42 e42=>⟨_,_,_,_,_,_,rfl,?_⟩
 have hs42:=(hs40.step e42).tail
 -- a bit of the last sum
 refine hs42.alc fun b47 H48 hs48=>?_
 have hs48:=hs48.toSl 0 rfl (l:=0) (k:=1) (fs:=[]) rfl rfl (by simp)
 refine hs48.appI 0 rfl (hs48.is 1 rfl) (kints_one _ _) rfl (by omega) (by omega) fun q50 c50 H50 hs50=>?_
 rw[List.nil_append,Nat.zero_add] at hs50
 rw[Nat.zero_add]
 have w4:wrap .i64 (wrap .i64 (((E.length:Nat):Int)-1)-((a%4:Nat):Int))=((E.length-1-a%4:Nat):Int):=by
  rw[wrap_id (n:=((E.length:Nat):Int)-1) (by omega) (by omega),wrap_id (by omega) (by omega)];omega
 rw[w4,Int.toNat_natCast,Nat.mul_one]
 have hj2:E.length-1-a%4<E.length:=by omega
 have hgj2:=get_gD E 0 hj2
 have hvb2:=heb.getD (E.length-1-a%4)
 obtain⟨ub1,ub2,ub3⟩:=turnB hvb2 a
 obtain⟨bq2,hbq2⟩:=hs50.slSome 0 rfl (j:=E.length-1-a%4) (by rw[kints_len];exact hj2)
 subst hbq2
 refine⟨by decide,_,rfl,by omega,by omega,E.getD (E.length-1-a%4) 0,?_,by decide,by omega,_,rfl,by omega,by omega,?_⟩
 ·rw[add_none]
  have:=(hs50.is 0 rfl).cell (kints_get hgj2)
  obtain⟨ad,h1,h2⟩:=this
  cases h1
  rw[add_none] at h2
  exact h2
 rw[add_none,Nat.zero_add]
 refine hs50.slPut 0 rfl (by rw[kints_len];exact hj2) rfl fun H54 hs54=>?_
 rw[kints_set] at hs54
 generalize hv2:xorI .u8 (E.getD (E.length-1-a%4) 0) (shlI .u8 (1:Int) ((a%8:Nat):Int))=v2 at*
 have el2:(E.set (E.length-1-a%4) v2).length=E.length:=List.length_set
 refine decodeN (hs54.is 0 rfl) ((hs54.fs 0 rfl).le) (set_bys heb _ ⟨ub2,ub3⟩) (by omega) (hend _ (by omega) _ ⟨ub2,ub3⟩ ub1) fun H56 e56=>⟨_,_,_,_,_,_,rfl,?_⟩
 have hx56:=(e8.trans hs54.ext).trans e56
 exact br_t rfl (br_t rfl (br_t rfl (br_t rfl (br_t rfl (br_t rfl ⟨rfl,hx56⟩)))))
end Go.Proofs
namespace Go.Proofs
open Go.Sh Go.RowKit Go.ChangeShapes Go.WideShapes Go.ChangeAt
theorem wf_range8{a:Int}(h:(Lit.int .u8 a).wf=true):0≤a∧a<256:=by
 have:0≤a∧a≤255:=by simpa[Lit.wf,IntKind.min,IntKind.max,IntKind.signed,IntKind.bits] using h
 omega
theorem bytesAt{H:Type}{enc:TypeId×Value→H}{W:World}{fuel:Nat}{a0:Option Addr}{len cap:Nat}{x:DataW H×List MemPlace}(hf:DataW.trod enc Try.prog W 0 (fun _=>true) true fuel 22 [.slice a0 len cap]=some x):
 ∃ls,len≤cap∧IS W.heap a0 len (kints .u8 ls)∧ ∀n∈ls,0≤n∧n<256:=by
 rcases open_ints Try.underlying22 Try.underlying5 (by kernel_rfl) hf with ⟨hcs,_⟩|⟨a,len2,cap2,zs,hcs,_,hl,_,hz,_,hc,hw⟩
 ·simp at hcs
  obtain⟨rfl,rfl,rfl⟩:=hcs
  exact⟨[],Nat.le_refl _,⟨rfl,fun i v hv=>by simp[kints] at hv⟩,fun n hn=>by simp at hn⟩
 ·simp at hcs
  obtain⟨rfl,rfl,rfl⟩:=hcs
  have hzl:len≤zs.length:=by rw[hz];simp;omega
  refine⟨zs.take len,hl,⟨by rw[kints_len];simp;omega,fun i v hv=>⟨a,rfl,?_⟩⟩,fun n hn=>wf_range8 (hw n (List.mem_of_mem_take hn))⟩
  have hi:i<len:=by have:=(List.getElem?_eq_some_iff.1 hv).1;rw[kints_len] at this;simp at this;omega
  have:=hc i (by omega)
  rw[cell_eq] at this
  rw[this]
  have hg:(zs.take len)[i]?=some (zs.getD i 0):=by
   rw[List.getElem?_take_of_lt hi,List.getD_eq_getElem?_getD,List.getElem?_eq_getElem (by omega)];rfl
  rw[kints_get hg] at hv
  exact hv
set_option maxRecDepth 100000 in
theorem bytesIn_of{H:Type}{enc:TypeId×Value→H}{W:World}{v:Value}{d:DataW H}{ps:List MemPlace}{base:Nat}(hv:Value.okWide Try.prog W .any base 22 v)(h:DataW.Trod enc Try.prog W 0 (fun _=>true) true 22 v d ps):
 ∃a l c ls,v= .slice a l c∧l≤c∧IS W.heap a l (kints .u8 ls)∧ ∀n∈ls,0≤n∧n<256:=by
 obtain⟨a0,len,cap,rfl⟩:=okWide_slice Try.underlying22 hv
 obtain⟨fuel,hf⟩:=h
 obtain⟨ls,h1,h2,h3⟩:=bytesAt hf
 exact⟨a0,len,cap,ls,rfl,h1,h2,h3⟩
end Go.Proofs
