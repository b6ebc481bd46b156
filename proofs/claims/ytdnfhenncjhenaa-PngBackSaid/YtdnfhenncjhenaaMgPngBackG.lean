/-
  OWN WORK. Several texts in one: PnJ, PnK, OpBytes.
-/
import Derived.Test.YtdnfhenncjhenaaMgPngBackF
import Derived.Test.YtdnfhenncjhenaaRows
import Derived.Test.YtdnfhenncjhenaaMgPngBackB
import Derived.Test.YtdnfhenncjhenaaMgPngBackC
import Derived.ChangeSlices

set_option linter.unusedVariables false
set_option linter.unusedSimpArgs false
namespace Go.Proofs
open Go.Sh
theorem num4_app{s:Int}(h:0≤s∧s<4294967296)(X:List Int):num4 (big4 s++X)=s:=by
 have:num4 (big4 s++X)=num4 (big4 s):=rfl
 rw[this,big4_num h]
theorem big4_len(s:Int):(big4 s).length=4:=rfl
theorem nxt_chu{k d X:List Int}(hk:k.length=4)(hl: ∀x∈k,letP x)(hkb:Bys k)(hdb:Bys d)(hd:d.length<2147483648):nxtP (chuP k d++X)=some (k,d,X):=by
 have e:chuP k d++X=big4 d.length++(k++(d++(big4 (crcS (k++d):Nat)++X))):=by simp[chuP]
 have hc:=crcS_lt (l:=k++d) fun x hx=>(List.mem_append.1 hx).elim (hkb x) (hdb x)
 have hlen:(chuP k d++X).length=d.length+X.length+12:=by rw[List.length_append,chuP_len];omega
 have n0:num4 (chuP k d++X)=d.length:=by rw[e,num4_app (by omega)]
 have d4:(chuP k d++X).drop 4=k++(d++(big4 (crcS (k++d):Nat)++X)):=by rw[e];rfl
 have d8:(chuP k d++X).drop 8=d++(big4 (crcS (k++d):Nat)++X):=by
  rw[show 8=4+4 from rfl,←List.drop_drop,d4,←hk,List.drop_left]
 have k4:((chuP k d++X).drop 4).take 4=k:=by rw[d4,←hk,List.take_left]
 have dd:((chuP k d++X).drop 8).take d.length=d:=by rw[d8,List.take_left]
 have d8n:(chuP k d++X).drop (8+d.length)=big4 (crcS (k++d):Nat)++X:=by rw[←List.drop_drop,d8,List.drop_left]
 have d12:(chuP k d++X).drop (12+d.length)=X:=by
  rw[show 12+d.length=(8+d.length)+4 from by omega,←List.drop_drop,d8n];rfl
 unfold nxtP
 rw[n0,Int.toNat_natCast,k4,dd,d8n,d12,if_neg (by omega),if_neg (by omega),if_neg (fun⟨x,h1,h2⟩=>h2 (hl x h1)),num4_app (by omega),if_neg (fun h=>h rfl)]
def sufB(n:Nat)(z:List Int):Nat→Nat→List Int
 |_,0=>[]
 |i,j+1=>chuP kDAT (cutP n z i)++sufB n z (i+1) j
theorem bod_suf(n:Nat)(z:List Int): ∀(j i:Nat),bodP n z (i+j)=bodP n z i++sufB n z i j
 |0,i=>by simp[sufB]
 |j+1,i=>by
  rw[show i+(j+1)=(i+1)+j from by omega,bod_suf n z j (i+1),bodP,sufB,List.append_assoc]
theorem lDAT: ∀x∈kDAT,letP x:=by unfold kDAT letP;decide
theorem lEND: ∀x∈kEND,letP x:=by unfold kEND letP;decide
theorem lHDR: ∀x∈kHDR,letP x:=by unfold kHDR letP;decide
theorem cut_take(n:Nat)(z:List Int)(i:Nat):z.take (i*n)++cutP n z i=z.take ((i+1)*n):=by
 unfold cutP
 rw[Nat.add_mul,Nat.one_mul,List.take_add]
theorem cut_bys{z:List Int}(h:Bys z)(n i:Nat):Bys (cutP n z i):=(h.drop _).take _
theorem cut_len(n:Nat)(z:List Int)(i:Nat):(cutP n z i).length≤z.length:=by unfold cutP;simp;omega
theorem frm_suf{n:Nat}{z:List Int}(hz:Bys z)(hzl:z.length<2147483648): ∀(j i f st:Nat),j<f→st<2→(0<st∨0<j)→frmP f st (z.take (i*n)) (nxtP (sufB n z i j++chuP kEND []))=some (z.take ((i+j)*n))
 |0,i,f+1,st,hf,hst,h0=>by
  have e:nxtP (sufB n z i 0++chuP kEND [])=some (kEND,[],[]):=by
   have:=nxt_chu (k:=kEND) (d:=[]) (X:=[]) rfl lEND bEND (fun x hx=>by cases hx) (by decide)
   rw[List.append_nil] at this
   exact this
  rw[e,frmP,if_neg (fun h=>absurd h.1 (by decide)),if_neg (by decide),if_pos ⟨rfl,by omega,rfl,rfl⟩]
  rfl
 |j+1,i,f+1,st,hf,hst,h0=>by
  have e:nxtP (sufB n z i (j+1)++chuP kEND [])=some (kDAT,cutP n z i,sufB n z (i+1) j++chuP kEND []):=by
   rw[sufB,List.append_assoc]
   have:=cut_len n z i
   exact nxt_chu rfl lDAT bDAT (cut_bys hz n i) (by omega)
  rw[e,frmP,if_pos ⟨rfl,hst⟩,cut_take,frm_suf hz hzl j (i+1) f 1 (by omega) (by omega) (.inl (by omega)),show i+1+j=i+(j+1) from by omega]
theorem bod_12(n:Nat)(z:List Int): ∀m,12*m≤(bodP n z m).length
 |0=>by simp
 |m+1=>by
  have:=bod_12 n z m
  rw[bodP,List.length_append,chuP_len,show kDAT.length=4 from rfl];omega
theorem prt_enc{w h:Int}{z:List Int}{n m:Nat}(hz:Bys z)(hzl:z.length<2147483648)(hz0:0<z.length)(hm:z.length≤m*n):prtP (chuP kHDR (hdrP w h)++bodP n z m++chuP kEND [])=some (hdrP w h,z):=by
 have hm0:0<m:=by
  rcases Nat.eq_zero_or_pos m with h|h
  ·subst h;omega
  ·exact h
 have hhb:Bys (hdrP w h):=fun x hx=>by
  unfold hdrP at hx
  simp only[List.mem_append] at hx
  rcases hx with (hx|hx)|hx
  ·exact big4_bys _ x hx
  ·exact big4_bys _ x hx
  ·simp at hx;rcases hx with rfl|rfl|rfl<;>omega
 unfold prtP
 rw[List.append_assoc,nxt_chu rfl lHDR bHDR hhb (by show 13<_;decide)]
 have h1:=bod_12 n z m
 have e:=bod_suf n z m 0
 rw[Nat.zero_add] at e
 have h2:=frm_suf (n:=n) hz hzl m 0 ((bodP n z m++chuP kEND []).length+1) 0 (by rw[List.length_append];omega) (by omega) (.inr hm0)
 rw[Nat.zero_mul,List.take_zero,Nat.zero_add,List.take_of_length_le hm] at h2
 rw[show bodP n z 0=[] from rfl,List.nil_append] at e
 simp only
 rw[if_pos ⟨trivial,rfl,rfl⟩]
 rw[e] at h2 ⊢
 rw[h2]
 rfl
theorem lns_pre(w4:Nat)(rgba:List Int){y:Nat}: ∀{h:Nat},y≤h→ ∃t,lnsP w4 rgba h=lnsP w4 rgba y++t
 |0,hy=>⟨[],by
  have:y=0:=by omega
  subst this;simp⟩
 |h+1,hy=>by
  rcases Nat.eq_or_lt_of_le hy with he|hlt
  ·exact⟨[],by rw[he];simp⟩
  ·obtain⟨t,ht⟩:=lns_pre w4 rgba (y:=y) (h:=h) (by omega)
   rw[lnsP,ht]
   exact⟨_,by rw[List.append_assoc,List.append_assoc]⟩
theorem row_lns{w4 h:Nat}{rgba:List Int}(hb:Bys rgba)(hl:rgba.length=w4*h): ∀y,y≤h→rowP w4 (lnsP w4 rgba h) y=some (rgba.take (w4*y),aboP w4 rgba y)
 |0,_=>by simp[rowP,aboP]
 |y+1,hy=>by
  rw[rowP,row_lns hb hl y (by omega)]
  simp only
  obtain⟨t,ht⟩:=lns_pre w4 rgba (y:=y+1) (h:=h) hy
  have hll:=lnsP_len hl (y:=y) (by omega)
  obtain⟨j,hj,hbst⟩:=bstP_of (linP w4 rgba y) (aboP w4 rgba y) 4
  have hll2:=linP_len hl (show y<h by omega)
  rw[lnsP,hbst] at ht
  simp only at ht
  have g0:(lnsP w4 rgba h).getD (y*(w4+1)) 0=(j:Int):=by
   rw[ht,List.getD_eq_getElem?_getD,List.append_assoc,List.append_assoc,←hll,List.getElem?_append_right (Nat.le_refl _),Nat.sub_self]
   rfl
  have g1:((lnsP w4 rgba h).drop (y*(w4+1)+1)).take w4=filP j (linP w4 rgba y) (aboP w4 rgba y):=by
   rw[ht,←hll,←List.drop_drop,List.append_assoc,List.append_assoc,List.drop_left]
   show(List.take w4 (filP j (linP w4 rgba y) (aboP w4 rgba y)++t))=_
   have:(filP j (linP w4 rgba y) (aboP w4 rgba y)).length=w4:=by rw[filP_len,hll2]
   exact List.take_left' this
  rw[g0,g1,if_neg (by omega),unf_fil (linP_bys hb y)]
  congr 1
  have:w4*(y+1)=w4*y+w4:=by rw[Nat.mul_add,Nat.mul_one]
  rw[this,List.take_add]
  rfl
theorem zip_bys{b B:List Int}(hB: ∀x∈B,0≤x∧x<256):Bys (zipB b B):=fun x hx=>by
 unfold zipB at hx
 rcases List.mem_append.1 hx with hx|hx
 ·rcases List.mem_append.1 hx with hx|hx
  ·simp at hx;rcases hx with rfl|rfl<;>omega
  ·exact hB x hx
 ·exact big4_bys _ x hx
theorem unz_zip{b B:List Int}{eff:Int}(ok:WOk false (defB b eff) B)(hb: ∀x∈b,0≤x∧x<256)(hl:b.length≤100000000):unzM (zipB b B) b.length= .ok b:=by
 have:=frame_ok ok hb hl (big4 (adlS b))
 obtain⟨_,s0,s1⟩:=adlM_eq hb
 rw[zipB,this,if_neg (by rw[big4_len];omega),if_neg (fun h=>h (big4_num ⟨s0,s1⟩)),if_neg (by rw[big4_len];omega)]
theorem dec_enc{w h:Int}{rgba B:List Int}{n m:Nat}(hsz:SzP w h)(hb:Bys rgba)(hl:(rgba.length:Int)=4*w*h)(hrl:rgba.length≤20000)(ok:WOk false (defB (lnsP (4*w).toNat rgba h.toNat) 4) B)
 (hm:(zipB (lnsP (4*w).toNat rgba h.toNat) B).length≤m*n):decP (encP w h (zipB (lnsP (4*w).toNat rgba h.toNat) B) n m)=some (w,h,rgba):=by
 have hsz2:=hsz
 obtain⟨hw1,hh1,hw2,hh2,hwh⟩:=hsz2
 obtain⟨w4,hw4⟩: ∃w4:Nat,(4*w).toNat=w4:=⟨_,rfl⟩
 obtain⟨hN,hhN⟩: ∃hN:Nat,h=hN:=⟨h.toNat,by omega⟩
 subst hhN
 have hw4':4*w=(w4:Int):=by omega
 have hlw:rgba.length=w4*hN:=by
  have:(rgba.length:Int)=((w4*hN:Nat):Int):=by rw[hl,hw4'];simp
  omega
 rw[hw4,Int.toNat_natCast] at ok hm ⊢
 have hll:=lnsP_len hlw (Nat.le_refl hN)
 have hlb:=lnsP_bys (w4:=w4) (rgba:=rgba) hN
 have hh3:hN≤w4*hN:=Nat.le_mul_of_pos_left _ (by omega)
 have hll2:(lnsP w4 rgba hN).length≤40000:=by
  rw[hll,Nat.mul_add,Nat.mul_one,Nat.mul_comm];omega
 have hzl:(zipB (lnsP w4 rgba hN) B).length≤10000000:=by
  have:=ok.nby
  have:=(nby_def (lnsP w4 rgba hN) 4).1
  simp[zipB,big4];omega
 have hz0:0<(zipB (lnsP w4 rgba hN) B).length:=by simp[zipB,big4]
 have hzb:=zip_bys (b:=lnsP w4 rgba hN) ok.rng
 have huz:=unz_zip ok hlb (by omega)
 generalize zipB (lnsP w4 rgba hN) B=z at*
 have e8:(encP w (hN:Int) z n m).drop 8=chuP kHDR (hdrP w (hN:Int))++bodP n z m++chuP kEND []:=by
  unfold encP
  rw[List.append_assoc,List.append_assoc,List.append_assoc]
  rfl
 have t8:(encP w (hN:Int) z n m).take 8=markP:=by
  unfold encP
  rw[List.append_assoc,List.append_assoc]
  rfl
 have l8: ¬(encP w (hN:Int) z n m).length<8:=by
  unfold encP
  simp only[List.length_append,show markP.length=8 from rfl]
  omega
 unfold decP
 rw[if_neg (by rintro(h|h);exact l8 h;exact h t8),e8,prt_enc hzb (by omega) hz0 hm]
 simp only
 have n1:num4 (hdrP w (hN:Int))=w:=by
  unfold hdrP;rw[List.append_assoc];exact num4_app (by omega) _
 have n2:num4 ((hdrP w (hN:Int)).drop 4)=(hN:Int):=by
  show num4 (big4 (hN:Int)++[8,6,0,0,0])=_
  exact num4_app (by omega) _
 rw[n1,n2,pixP,if_pos hsz]
 have hmul:(hN:Int)*(4*w+1)=((lnsP w4 rgba hN).length:Int):=by rw[hll,hw4'];simp
 rw[hmul,huz]
 simp only
 rw[if_pos (by trivial),hw4,Int.toNat_natCast,row_lns hb hlw hN (Nat.le_refl _),List.take_of_length_le (by omega)]
 rfl
end Go.Proofs
namespace Go.Proofs
open Go.Sh
open Go.IntKind (wrap)
variable {H:Heap} {R:Value→Heap→Prop}
theorem c13{w h:Int}(hR:R (.bool (decide (SzP w h))) H):CallsH Try.prog 13 #[.int .i64 w,.int .i64 h] H R:=by
 have no: ¬SzP w h→R (.bool false) H:=fun hn=>by rw[decide_eq_false hn] at hR;exact hR
 refine Try.s13 (br_dec (fun h1=>br_dec (fun h2=>br_dec (fun h3=>br_dec (fun h4=>?_) (fun h4=>no fun hs=>by unfold SzP at hs;omega)) (fun h3=>no fun hs=>by unfold SzP at hs;omega)) (fun h2=>no fun hs=>by unfold SzP at hs;omega)) (fun h1=>no fun hs=>by unfold SzP at hs;omega))
 have:=mulSz (w:=w) (h:=h) (by omega) (by omega) (by omega) (by omega)
 rw[wrap_id (by omega) (by omega)]
 have e:decide (w*h≤4194304)=decide (SzP w h):=by unfold SzP;congr 1;apply propext;constructor<;>intro hh<;>omega
 rw[e];exact hR
theorem enc_len{w h:Int}{z:List Int}{n m:Nat}(hn:1≤n)(hm:m=0∨(m-1)*n<z.length):(encP w h z n m).length≤13*z.length+45:=by
 have h1:=bodP_total hm
 have h2:=m_le hn hm
 have h3:(chuP kHDR (hdrP w h)).length=25:=by rw[chuP_len];rfl
 have h4:(chuP kEND []).length=12:=rfl
 unfold encP
 simp only[List.length_append,h3,h4,show markP.length=8 from rfl]
 omega
theorem hdr_bys(w h:Int):Bys (hdrP w h):=fun x hx=>by
 unfold hdrP at hx
 simp only[List.mem_append] at hx
 rcases hx with (hx|hx)|hx
 ·exact big4_bys _ x hx
 ·exact big4_bys _ x hx
 ·simp at hx;rcases hx with rfl|rfl|rfl<;>omega
theorem enc_bys{w h:Int}{z:List Int}{n m:Nat}(hz:Bys z):Bys (encP w h z n m):=fun x hx=>by
 unfold encP at hx
 simp only[List.mem_append] at hx
 rcases hx with ((hx|hx)|hx)|hx
 ·have:Bys markP:=by unfold markP Bys;decide
  exact this x hx
 ·exact chuP_bys bHDR (hdr_bys w h) x hx
 ·exact bodP_bys hz m x hx
 ·exact chuP_bys bEND (fun y hy=>by cases hy) x hx
theorem zl_len{w h:Int}{rgba B:List Int}(hsz:SzP w h)(hl:(rgba.length:Int)=4*w*h)(hrl:rgba.length≤4000)(ok:WOk false (defB (lnsP (4*w).toNat rgba h.toNat) 4) B):(zipB (lnsP (4*w).toNat rgba h.toNat) B).length≤100000:=by
 obtain⟨hw1,hh1,hw2,hh2,hwh⟩:=hsz
 obtain⟨w4,hw4⟩: ∃w4:Nat,(4*w).toNat=w4:=⟨_,rfl⟩
 obtain⟨hN,hhN⟩: ∃hN:Nat,h=hN:=⟨h.toNat,by omega⟩
 subst hhN
 have hw4':4*w=(w4:Int):=by omega
 have hlw:rgba.length=w4*hN:=by
  have:(rgba.length:Int)=((w4*hN:Nat):Int):=by rw[hl,hw4'];simp
  omega
 rw[hw4,Int.toNat_natCast] at ok ⊢
 have hll:=lnsP_len hlw (Nat.le_refl hN)
 have hh3:hN≤w4*hN:=Nat.le_mul_of_pos_left _ (by omega)
 have hll2:(lnsP w4 rgba hN).length≤8000:=by
  rw[hll,Nat.mul_add,Nat.mul_one,Nat.mul_comm];omega
 have:=ok.nby
 have:=(nby_def (lnsP w4 rgba hN) 4).1
 simp[zipB,big4];omega
theorem encodeC{p:Option Addr}{l c:Nat}{rgba:List Int}{w h part:Int}(hi:IS H p l (kints .u8 rgba))(hx:Bys rgba)(hl:l≤4000)(hlc:l≤c)(hpart:part≤9223372036854775807)
 (hlim: ¬SzP w h→R (.tuple #[.slice none 0 0,.int .i64 31]) H)(hform:SzP w h→(l:Int)≠4*w*h→R (.tuple #[.slice none 0 0,.int .i64 25]) H)
 (hR:SzP w h→(l:Int)=4*w*h→ ∀(z:List Int) (m n:Nat) q c' H',Bys z→z.length≤100000→0<z.length→1≤n→z.length≤m*n→(m=0∨(m-1)*n<z.length)→(1≤part→(n:Int)=part)→decP (encP w h z n m)=some (w,h,rgba)→
  (encP w h z n m).length≤1400000→St H H' [.sl q (encP w h z n m).length c' 5 1 (kints .u8 (encP w h z n m))]→R (.tuple #[.slice q (encP w h z n m).length c',.int .i64 0]) H'):
 CallsH Try.prog 12 #[.int .i64 w,.int .i64 h,.slice p l c,.int .i64 part] H R:=by
 have hrl:=hi.length
 refine c12 hi hx (by omega) hlc hpart hlim hform fun hsz hel B z m n q c' H' ok hz hn hm1 hm2 hs=>?_
 have hzl:=zl_len hsz (by omega) (by omega) ok
 have hzb:=zip_bys (b:=lnsP (4*w).toNat rgba h.toNat) ok.rng
 have hz0:0<(zipB (lnsP (4*w).toNat rgba h.toNat) B).length:=by simp[zipB,big4]
 have hd:=dec_enc (n:=n) (m:=m) hsz hx (by omega) (by omega) ok (hz▸hm1)
 rw[←hz] at hzl hzb hz0 hd
 have hn1:1≤n:=by rw[hn];split<;>omega
 have hel2:=enc_len (w:=w) (h:=h) hn1 hm2
 exact hR hsz hel z m n q c' H' hzb hzl hz0 hn1 hm1 hm2 (fun hp=>by rw[hn,if_neg (by omega)];omega) hd (by omega) hs
theorem decodeE{p:Option Addr}{c:Nat}{B:List Int}(hB:IS H p B.length (kints .u8 B))(hlc:B.length≤c)(hx:Bys B)(hl:B.length≤10000000){w h:Int}{out:List Int}(hd:decP B=some (w,h,out))
 (hR: ∀q c' H',St H H' [.sl q out.length c' 5 1 (kints .u8 out)]→R (.tuple #[.int .i64 w,.int .i64 h,.slice q out.length c',.int .i64 0]) H'):CallsH Try.prog 14 #[.slice p B.length c] H R:=
 c14 hB hlc hx hl (fun hn=>by rw[hd] at hn;cases hn) fun w' h' out' hd'=>by rw[hd] at hd';cases hd';exact hR
theorem decodeN{p:Option Addr}{l c:Nat}{B:List Int}(hB:IS H p l (kints .u8 B))(hlc:l≤c)(hx:Bys B)(hl:l≤10000000)(hd:decP B=none)
 (hR: ∀H',Ext H H'→R (.tuple #[.int .i64 0,.int .i64 0,.slice none 0 0,.int .i64 50]) H'):CallsH Try.prog 14 #[.slice p l c] H R:=
 c14 hB hlc hx hl (fun _=>hR) fun w' h' out' hd'=>by rw[hd] at hd';cases hd'
theorem c6(hR: ∀H',Ext H H'→R (.bool true) H'):CallsH Try.prog 6 #[] H R:=by
 refine Try.s6 (_u:=()) ?_
 unfold Try.S6
 refine(St.nil H).alc fun b1 H2 hs2=>?_
 have h4:Bys [1,2,3,4]:=by unfold Bys;decide
 have hsz:SzP 1 1:=by unfold SzP;decide
 refine encodeC (rgba:=[1,2,3,4]) (IS.of_block (hs2.block 0 rfl) rfl) h4 (by decide) (by decide) (by decide) (fun hn=>absurd hsz hn) (fun _ hn=>absurd (by decide) hn)
  fun _ _ z m n q c' H4 hzb hzl hz0 hn1 hm1 hm2 _ hd hel hs4=>⟨_,_,_,_,rfl,?_⟩
 have hs4:=hs2.call hs4
 refine decodeE (hs4.is 0 rfl) ((hs4.fs 0 rfl).le) (enc_bys hzb) (by omega) hd fun q2 c2 H8 hs8=>⟨_,_,_,_,_,_,rfl,?_⟩
 have hs8:=hs4.call hs8
 refine decodeN (B:=[]) ⟨rfl,fun i v hv=>by simp[kints] at hv⟩ (Nat.le_refl _) (fun x hx=>by cases hx) (by decide) (by unfold decP;rw[if_pos (.inl (by decide))]) fun H14 e14=>⟨_,_,_,_,_,_,rfl,?_⟩
 have hs14:=hs8.step e14
 refine br_t rfl (br_t rfl (br_t rfl (br_t rfl (hs14.alc fun b19 H20 hs20=>?_))))
 refine c9 (xs:=[1,2,3,4]) (ys:=[1,2,3,4]) (hs20.is 1 rfl) (IS.of_block (hs20.block 0 rfl) rfl) (by decide) ⟨_,rfl,br_t (by decide) (hR H20 hs20.ext)⟩
theorem plawBack{w h part:Int}{p:Option Addr}{l c:Nat}{rgba:List Int}(hi:IS H p l (kints .u8 rgba))(hx:Bys rgba)(hlc:l≤c)(hpart:part≤9223372036854775807)(hw: -9223372036854775808≤w∧w≤9223372036854775807)(hh: -9223372036854775808≤h∧h≤9223372036854775807):
 CallsH Try.prog 4 #[.int .i64 w,.int .i64 h,.slice p l c,.int .i64 part] H (fun u H'=>u= .bool true∧Ext H H'):=by
 have e1:=hi.length
 refine Try.s4 ?_
 unfold Try.S4
 refine c6 fun H6 e6=>⟨_,rfl,br_f rfl (br_dec (fun _=>⟨rfl,e6⟩) (fun hl=>?_))⟩
 have W0:SzP w h→wrap .i64 (wrap .i64 (4*w)*h)=4*w*h:=fun hsz=>by
  obtain⟨hw1,hh1,hw2,hh2,hwh⟩:=hsz
  have:=mulSz hw1 hh1 hw2 hh2
  have hmm:4*w*h=4*(w*h):=Int.mul_assoc 4 w h
  rw[wrap_id (n:=4*w) (by omega) (by omega),wrap_id (by omega) (by omega)]
 refine encodeC (hi.ext e6) hx (by omega) hlc hpart (fun hn=>⟨_,_,_,_,rfl,?_⟩) (fun hsz hne=>⟨_,_,_,_,rfl,?_⟩) fun hsz hel z m n q c' H9 hzb hzl hz0 hn1 hm1 hm2 _ hd hle hs9=>⟨_,_,_,_,rfl,?_⟩
 ·refine c13 ⟨_,rfl,br_not (fun _=>br_t rfl ⟨rfl,e6⟩) (fun hs=>absurd (of_decide_eq_true hs) hn)⟩
 ·refine c13 ⟨_,rfl,br_not (fun hs=>absurd hsz (of_decide_eq_false hs)) (fun _=>?_)⟩
  rw[W0 hsz]
  exact br_ne (fun _=>br_t rfl ⟨rfl,e6⟩) (fun he=>absurd he hne)
 ·refine c13 ⟨_,rfl,br_not (fun hs=>absurd hsz (of_decide_eq_false hs)) (fun _=>?_)⟩
  rw[W0 hsz]
  refine br_ne (fun hne=>absurd hel hne) (fun _=>?_)
  refine decodeE (hs9.is 0 rfl) ((hs9.fs 0 rfl).le) (enc_bys hzb) (by omega) hd fun q2 c2 H16 hs16=>⟨_,_,_,_,_,_,rfl,?_⟩
  have hx16:=(e6.trans hs9.ext).trans hs16.ext
  refine br_t rfl (br_t rfl (br_t (by simp) (br_t (by simp) ?_)))
  refine c9 (hs16.is 0 rfl) (hi.ext hx16) (by omega) ⟨_,rfl,?_,hx16⟩
  rw[decide_eq_true rfl]
end Go.Proofs
namespace Go.Proofs
open Go.Sh Go.RowKit Go.ChangeShapes Go.WideShapes Go.ChangeAt
theorem wf_range8{a:Int}(h:(Lit.int .u8 a).wf=true):0≤a∧a<256:=by
 have:0≤a∧a≤255:=by simpa[Lit.wf,IntKind.min,IntKind.max,IntKind.signed,IntKind.bits] using h
 omega
theorem bytesAt{H:Type}{enc:TypeId×Value→H}{W:World}{fuel:Nat}{a0:Option Addr}{len cap:Nat}{x:DataW H×List MemPlace}(hf:DataW.trod enc Try.prog W 0 (fun _=>true) true fuel 22 [.slice a0 len cap]=some x):
 ∃ls,len≤cap∧IS W.heap a0 len (kints .u8 ls)∧ ∀n∈ls,0≤n∧n<256:=by
 rcases open_ints Try.underlying22 Try.underlying5 (by kernel_rfl) hf with ⟨hcs,_⟩|⟨a,len2,cap2,zs,hcs,_,hl,_,hz,_,hc,hw⟩
 ·simp at hcs
  obtain⟨rfl,rfl,rfl⟩:=hcs
  exact⟨[],Nat.le_refl _,⟨rfl,fun i v hv=>by simp[kints] at hv⟩,fun n hn=>by simp at hn⟩
 ·simp at hcs
  obtain⟨rfl,rfl,rfl⟩:=hcs
  have hzl:len≤zs.length:=by rw[hz];simp;omega
  refine⟨zs.take len,hl,⟨by rw[kints_len];simp;omega,fun i v hv=>⟨a,rfl,?_⟩⟩,fun n hn=>wf_range8 (hw n (List.mem_of_mem_take hn))⟩
  have hi:i<len:=by have:=(List.getElem?_eq_some_iff.1 hv).1;rw[kints_len] at this;simp at this;omega
  have:=hc i (by omega)
  rw[cell_eq] at this
  rw[this]
  have hg:(zs.take len)[i]?=some (zs.getD i 0):=by
   rw[List.getElem?_take_of_lt hi,List.getD_eq_getElem?_getD,List.getElem?_eq_getElem (by omega)];rfl
  rw[kints_get hg] at hv
  exact hv
set_option maxRecDepth 100000 in
theorem bytesIn_of{H:Type}{enc:TypeId×Value→H}{W:World}{v:Value}{d:DataW H}{ps:List MemPlace}{base:Nat}(hv:Value.okWide Try.prog W .any base 22 v)(h:DataW.Trod enc Try.prog W 0 (fun _=>true) true 22 v d ps):
 ∃a l c ls,v= .slice a l c∧l≤c∧IS W.heap a l (kints .u8 ls)∧ ∀n∈ls,0≤n∧n<256:=by
 obtain⟨a0,len,cap,rfl⟩:=okWide_slice Try.underlying22 hv
 obtain⟨fuel,hf⟩:=h
 obtain⟨ls,h1,h2,h3⟩:=bytesAt hf
 exact⟨a0,len,cap,ls,rfl,h1,h2,h3⟩
end Go.Proofs
