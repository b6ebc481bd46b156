/-
  OWN WORK. Several texts in one: PnG, PnH, PnF, PnI, PnJ, PnK, FlCopies, HuffM, FlX, FlY, FlZ, FmA, PnN, PnL.
-/
import Derived.Test.YtdnfhenncjhenaaGreatMgPngChunksF
import Derived.Test.YtdnfhenncjhenaaGreatMgPngChunksD
import Derived.Test.YtdnfhenncjhenaaGreatMgPngChunksE

set_option linter.unusedVariables false
set_option linter.unusedSimpArgs false
namespace Go.Sh
variable {H0 H:Heap} {σ:List Rs}
theorem IS.cut{p:Option Addr}{l c:Nat}{B:List Int}(h:IS H p l (kints .u8 B))(hlc:l≤c){i j:Nat}(hij:i≤j)(hj:j≤l):
 IS H (if c=i then p else Option.map (fun x=>Addr.add x (i*1)) p) (j-i) (kints .u8 ((B.drop i).take (j-i))):=by
 have hl:=h.length
 rcases Nat.eq_or_lt_of_le hij with he|hlt
 ·subst he
  rw[Nat.sub_self,List.take_zero]
  exact⟨rfl,fun k v hv=>by simp[kints] at hv⟩
 ·rw[if_neg (by omega),Nat.mul_one]
  cases p with
  |none=>
   obtain⟨a,ha,_⟩:=h.cell (kints_get (getD_some B 0 (i:=0) (by omega)))
   cases ha
  |some a=>
   have:=h.part (i:=i) (n:=j-i) (by omega)
   simpa[kints,List.map_drop,List.map_take] using this
end Go.Sh
namespace Go.Proofs
open Go.Sh
open Go.IntKind (wrap)
variable {H0 H:Heap} {σ:List Rs} {R:Value→Heap→Prop}
theorem tx_eq(xs:List Int):textOf xs=⟨(xs.map fun n=>UInt8.ofNat n.toNat).toArray⟩:=by
 have: ∀(xs:List Int) (r:ByteArray),xs.foldl (fun r n=>r.push (UInt8.ofNat n.toNat)) r=⟨r.data++(xs.map fun n=>UInt8.ofNat n.toNat).toArray⟩:=by
  intro xs
  induction xs with
  |nil=>intro r;cases r;simp
  |cons x xs ih=>
   intro r
   rw[List.foldl_cons,ih]
   cases r
   simp[ByteArray.push]
 unfold textOf
 rw[this]
 simp[ByteArray.empty,ByteArray.emptyWithCapacity]
 rfl
theorem tx_beq{xs ys:List Int}(hx: ∀c∈xs,0≤c∧c<256)(hy: ∀c∈ys,0≤c∧c<256):(textOf xs==textOf ys)=decide (xs=ys):=by
 have hbq: ∀a b:ByteArray,(a==b)=(a.data==b.data):=fun a b=>by cases a;cases b;rfl
 rw[hbq,tx_eq,tx_eq]
 by_cases h:xs=ys
 ·subst h
  rw[decide_eq_true rfl]
  exact(beq_self_eq_true _)
 ·rw[decide_eq_false h]
  rw[Bool.eq_false_iff]
  intro hb
  have h2:(xs.map fun n=>UInt8.ofNat n.toNat)=ys.map fun n=>UInt8.ofNat n.toNat:=by
   have:=eq_of_beq hb
   simpa using this
  refine h ?_
  have: ∀(a b:List Int),(∀c∈a,0≤c∧c<256)→(∀c∈b,0≤c∧c<256)→(a.map fun n=>UInt8.ofNat n.toNat)=(b.map fun n=>UInt8.ofNat n.toNat)→a=b:=by
   intro a
   induction a with
   |nil=>intro b _ _ hh;cases b with
    |nil=>rfl
    |cons=>simp at hh
   |cons x a ih=>
    intro b ha hb hh
    cases b with
    |nil=>simp at hh
    |cons y b=>
     simp only[List.map_cons,List.cons.injEq] at hh
     obtain⟨q1,q2⟩:=hh
     have e1:=ih b (fun c hc=>ha c (List.mem_cons_of_mem _ hc)) (fun c hc=>hb c (List.mem_cons_of_mem _ hc)) q2
     have hx1:=ha x List.mem_cons_self
     have hy1:=hb y List.mem_cons_self
     have q3:=congrArg UInt8.toNat q1
     rw[UInt8.toNat_ofNat',UInt8.toNat_ofNat',Nat.mod_eq_of_lt (by omega),Nat.mod_eq_of_lt (by omega)] at q3
     rw[e1,show x=y from by omega]
  exact this xs ys hx hy h2
theorem tx_sB{k:List Int}(h:Bys k):sB (textOf k)=k:=by
 rw[tx_eq]
 unfold sB
 simp only[List.map_map]
 have: ∀l:List Int,Bys l→l.map ((fun b:UInt8=>(b.toNat:Int))∘fun n:Int=>UInt8.ofNat n.toNat)=l:=by
  intro l
  induction l with
  |nil=>intro _;rfl
  |cons x r ih=>
   intro hl
   have hx:=hl x (by simp)
   rw[List.map_cons,ih fun y hy=>hl y (List.mem_cons_of_mem _ hy)]
   congr 1
   simp only[Function.comp,UInt8.toNat_ofNat']
   omega
 simpa using this k h
theorem tx_size(k:List Int):(textOf k).size=k.length:=by
 rw[tx_eq];show((k.map _).toArray).size=_;simp
def letP(x:Int):Prop:=(97≤x∧x≤122)∨(65≤x∧x≤90)
instance(x:Int):Decidable (letP x):=by unfold letP;exact inferInstance
def nxtP(B:List Int):Option (List Int×List Int×List Int):=
 if B.length<12 then none else if num4 B≥2147483648∨num4 B>(B.length:Int)-12 then none
 else if ∃x∈(B.drop 4).take 4,¬letP x then none
 else if num4 (B.drop (8+(num4 B).toNat))≠(crcS ((B.drop 4).take 4++(B.drop 8).take (num4 B).toNat):Nat) then none
 else some ((B.drop 4).take 4,(B.drop 8).take (num4 B).toNat,B.drop (12+(num4 B).toNat))
theorem num4_nn{B:List Int}(h:Bys B):0≤num4 B∧num4 B<4294967296:=by
 have a:=h.getD 0;have b:=h.getD 1;have c:=h.getD 2;have d:=h.getD 3
 unfold num4;omega
theorem Bys.drop{B:List Int}(h:Bys B)(n:Nat):Bys (B.drop n):=fun x hx=>h x (List.mem_of_mem_drop hx)
theorem Bys.take{B:List Int}(h:Bys B)(n:Nat):Bys (B.take n):=fun x hx=>h x (List.mem_of_mem_take hx)
theorem nxtP_some{B k d B':List Int}(h:nxtP B=some (k,d,B')):B'.length+12≤B.length∧k.length=4∧d.length≤B.length∧(Bys B→Bys k∧Bys d∧Bys B')∧(∀x∈k,letP x):=by
 unfold nxtP at h
 split at h
 ·cases h
 ·split at h
  ·cases h
  ·split at h
   ·cases h
   ·rename_i hl
    split at h
    ·cases h
    ·cases h
     refine⟨?_,?_,?_,fun hb=>⟨(hb.drop 4).take 4,(hb.drop 8).take _,hb.drop _⟩,fun x hx=>?_⟩
     ·rw[List.length_drop];omega
     ·simp;omega
     ·simp;omega
     ·exact Classical.byContradiction fun hn=>hl ⟨x,hx,hn⟩
set_option maxHeartbeats 1000000 in
theorem c46{r:Nat}{ty:TypeId}{q:Option Addr}{l c:Nat}{B:List Int}(hs:St H0 H (.cell r #[.slice q l c] ty::σ))(hB:IS H0 q l (kints .u8 B))(hlc:l≤c)(hx:Bys B)(hl:l≤10000000)
 (hno:nxtP B=none→ ∀H',St H0 H' (.cell r #[.slice q l c] ty::σ)→R (.tuple #[.string (ByteArray.mk #[]),.slice none 0 0]) H')
 (hok: ∀k d B',nxtP B=some (k,d,B')→ ∀dq dc q' c' H',IS H0 dq d.length (kints .u8 d)→d.length≤dc→IS H0 q' B'.length (kints .u8 B')→B'.length≤c'→St H0 H' (.cell r #[.slice q' B'.length c'] ty::σ)→R (.tuple #[.string (textOf k),.slice dq d.length dc]) H'):
 CallsH Tryz.prog 46 #[.pointer (some ⟨r,0,none⟩)] H R:=by
 have hBl:=hB.length
 have rd: ∀{H':Heap} {τ:List Rs} {i:Nat},St H0 H' τ→τ[i]?=some (.cell r #[.slice q l c] ty)→cell H' (Addr.add ⟨r,0,none⟩ 0)=some (.slice q l c):=fun hs hi=>by rw[add_none];exact cell_get (hs.block _ hi) rfl
 refine Tryz.s46 ?_
 unfold Tryz.S46
 unfold nxtP at hno hok
 refine⟨_,rfl,q,l,c,rd hs (i:=0) rfl,br_dec (fun hlt=>hno (by rw[if_pos (by omega)]) H hs) (fun hge=>?_)⟩
 rw[if_neg (show ¬B.length<12 by omega)] at hno hok
 refine⟨_,rfl,q,l,c,rd hs (i:=0) rfl,?_⟩
 refine c28 (hB.ext hs.ext) hx (by omega) ⟨_,rfl,?_⟩
 obtain⟨n0,n1⟩:=num4_nn hx
 obtain⟨n,hn⟩:=Int.eq_ofNat_of_zero_le n0
 rw[hn] at hno hok ⊢
 rw[Int.toNat_natCast] at hno hok
 intro J hJ
 have fin:n≤l-12→J [] H:=fun hnl=>by
  rw[if_neg (by omega)] at hno hok
  have w8n:wrap .i64 ((8:Int)+(n:Nat))=((8+n:Nat):Int):=by rw[wrap_id (by omega) (by omega)];omega
  have w12n:wrap .i64 ((12:Int)+(n:Nat))=((12+n:Nat):Int):=by rw[wrap_id (by omega) (by omega)];omega
  refine hJ H ⟨_,rfl,q,l,c,rd hs (i:=0) rfl,by decide,by omega,by decide,by decide,?_⟩
  have hk:=hB.cut hlc (i:=4) (j:=8) (by omega) (by omega)
  have hd:=hB.cut hlc (i:=8) (j:=8+n) (by omega) (by omega)
  have ht:=hB.cut hlc (i:=8+n) (j:=l) (by omega) (by omega)
  have hr:=hB.cut hlc (i:=12+n) (j:=l) (by omega) (by omega)
  have hkb:=(hx.drop 4).take 4
  refine⟨(B.drop 4).take 4,is_bsOf (hk.ext hs.ext),_,rfl,q,l,c,rd hs (i:=0) rfl,?_⟩
  rw[w8n,w12n]
  refine⟨by omega,by omega,by decide,by omega,?_⟩
  rw[show 8+n-8=n from by omega] at hd
  rw[List.take_of_length_le (by rw[List.length_drop];omega)] at ht hr
  have e4:((B.drop 4).take 4).length=4:=by simp;omega
  have edl:((B.drop 8).take n).length=n:=by simp;omega
  have erl:(B.drop (12+n)).length=l-(12+n):=by rw[List.length_drop,hBl]
  generalize hkk:(B.drop 4).take 4=k at*
  generalize hdd:(B.drop 8).take n=d at*
  refine hs.str fun p3 c3 H3 x3 hc3 hs3=>?_
  have hk3:IS H3 p3 (textOf k).size (kints .u8 (sB (textOf k))):=hs3.persGet 0 rfl
  rw[tx_sB hkb,tx_size,e4] at hk3
  rw[tx_size,e4]
  have hs3:=hs3.tail
  rw[Int.toNat_natCast,show(Int.toNat (8:Int))=8 from rfl,show 8+n-8=n from by omega]
  intro X hX
  have chars: ∀t,t≤4→(∀x∈k.take t,letP x)→X [.string (textOf k),.slice (if c=8 then q else Option.map (fun x=>Addr.add x (8*1)) q) n (c-8),.int .i64 (t:Nat)] H3:=upto fun t ht4 ih hpre=>by
   refine hX _ _ _ _ _ H3 (br_dec (fun hlt=>?_) (fun hge=>?_))
   ·have hlt:t<4:=by omega
    have hg:=get_gD k 0 (i:=t) (by omega)
    have hv:=hkb.getD t
    have next:letP (k.getD t 0)→X [.string (textOf k),.slice (if c=8 then q else Option.map (fun x=>Addr.add x (8*1)) q) n (c-8),.int .i64 (wrap .i64 ((t:Int)+1))] H3:=fun hlp=>by
     have:=ih hlt (fun x hx=>by
      rw[List.take_add_one,hg,Option.toList_some] at hx
      rcases List.mem_append.1 hx with h|h
      ·exact hpre x h
      ·rw[List.mem_singleton.1 h];exact hlp)
     rw[wrap_id (by omega) (by omega)]
     exact this
    have bad: ¬letP (k.getD t 0)→R (.tuple #[.string (ByteArray.mk #[]),.slice none 0 0]) H3:=fun hnl=>hno (by rw[if_pos ⟨_,List.mem_of_getElem? hg,hnl⟩]) H3 hs3
    intro J2 hJ2
    have go:letP (k.getD t 0)→J2 [.string (textOf k),.slice (if c=8 then q else Option.map (fun x=>Addr.add x (8*1)) q) n (c-8)] H3:=fun hlp=>hJ2 _ _ _ _ H3 (next hlp)
    refine hk3.rd (by omega) (by omega) (by rw[Int.toNat_natCast];exact hg) ?_
    refine br_dec (fun h97=>br_dec (fun h122=>go (.inl ⟨h97,h122⟩)) (fun h122=>br_dec (fun h65=>br_not (fun h90=>bad fun hlp=>?_) (fun h90=>go (.inr ⟨h65,of_decide_eq_true h90⟩))) (fun h65=>bad fun hlp=>?_))) (fun h97=>br_dec (fun h65=>br_not (fun h90=>bad fun hlp=>?_) (fun h90=>go (.inr ⟨h65,of_decide_eq_true h90⟩))) (fun h65=>bad fun hlp=>?_))
    ·have:=of_decide_eq_false h90;unfold letP at hlp;omega
    ·unfold letP at hlp;omega
    ·have:=of_decide_eq_false h90;unfold letP at hlp;omega
    ·unfold letP at hlp;omega
   ·have:t=4:=by omega
    subst this
    rw[List.take_of_length_le (by omega)] at hpre
    rw[if_neg (show ¬ ∃x∈k,¬letP x from fun⟨x,h1,h2⟩=>h2 (hpre x h1))] at hno hok
    refine⟨_,rfl,q,l,c,rd hs3 (i:=0) rfl,by omega,by omega,?_⟩
    try rw[Int.toNat_natCast]
    refine c28 (ht.ext hs3.ext) (hx.drop _) (by omega) ⟨_,rfl,?_⟩
    refine hs3.str fun p5 c5 H5 x5 hc5 hs5=>hs5.alc fun b6 H6 hs6=>?_
    have hk6:IS H6 p5 (textOf k).size (kints .u8 (sB (textOf k))):=hs6.persGet 1 rfl
    rw[tx_sB hkb] at hk6
    have hdb:Bys d:=hdd▸(hx.drop 8).take n
    refine c39 (hs6.block 0 rfl) hk6 (hd.ext hs6.ext) hkb hdb (by rw[tx_size];omega) (by omega) ⟨_,rfl,?_⟩
    have hs6:=(hs6.drop 2)
    refine br_ne (fun hne=>hno (by rw[if_pos hne]) H6 hs6) (fun he=>?_)
    rw[if_neg (by simpa using he)] at hok
    refine⟨_,rfl,q,l,c,rd hs6 (i:=0) rfl,by omega,by omega,_,rfl,?_⟩
    rw[add_none]
    refine hs6.put 0 rfl (by simp) rfl fun H7 hs7=>?_
    have hok:=hok k d (B.drop (12+n)) rfl
    rw[edl,erl] at hok
    exact hok _ _ _ _ H7 hd (by omega) hr (by omega) hs7
  exact chars 0 (by omega) (fun x hx=>by simp at hx)
 refine br_dec (fun hbig=>hno (by rw[if_pos (by omega)]) H hs) (fun hsm=>⟨_,rfl,q,l,c,rd hs (i:=0) rfl,?_⟩)
 rw[wrap_id (by omega) (by omega)]
 exact br_dec (fun hgt=>hno (by rw[if_pos (by omega)]) H hs) (fun hle=>fin (by omega))
end Go.Proofs
namespace Go.Proofs
open Go.Sh
open Go.IntKind (wrap)
variable {H0 H:Heap} {σ:List Rs} {R:Value→Heap→Prop}
abbrev Chk:=Option (List Int×List Int×List Int)
def frmP:Nat→Nat→List Int→Chk→Option (List Int)
 |_,_,_,none=>none
 |0,_,_,some _=>none
 |f+1,st,out,some (k,d,B)=>if k=kDAT∧st<2 then frmP f 1 (out++d) (nxtP B) else if 97≤k.getD 0 0 then frmP f (if st=1 then 2 else st) out (nxtP B)
  else if k=kEND∧0<st∧d=[]∧B=[] then some out else none
def prtP(B:List Int):Option (List Int×List Int):=
 match nxtP B with
 |some (k,hd,B')=>if k=kHDR∧hd.length=13∧hd.drop 8=[8,6,0,0,0] then(frmP (B'.length+1) 0 [] (nxtP B')).map fun z=>(hd,z) else none
 |none=>none
def CurS(H0:Heap)(s:Chk)(ks:ByteArray)(dq:Option Addr)(dl dc:Nat):Prop:=
 match s with
 |none=>ks=ByteArray.mk #[]
 |some (k,d,_)=>ks=textOf k∧Bys k∧k.length=4∧Bys d∧dl=d.length∧IS H0 dq d.length (kints .u8 d)∧d.length≤dc
def RdS(H0 H:Heap)(r:Nat)(ty:TypeId)(σ:List Rs)(B:List Int):Prop:=Bys B∧B.length≤10000000∧ ∃q c,IS H0 q B.length (kints .u8 B)∧B.length≤c∧St H0 H (.cell r #[.slice q B.length c] ty::σ)
def StS(H0 H:Heap)(r:Nat)(ty:TypeId)(σ:List Rs)(s:Chk)(f:Nat):Prop:=
 match s with
 |none=> ∃B,RdS H0 H r ty σ B
 |some (_,d,B)=>RdS H0 H r ty σ B∧B.length<f∧d.length≤10000000
theorem next_of{r:Nat}{ty:TypeId}{B:List Int}(hs:RdS H0 H r ty σ B){f:Nat}(hf:B.length<f+1)(hR: ∀ks dq dl dc H',CurS H0 (nxtP B) ks dq dl dc→StS H0 H' r ty σ (nxtP B) f→R (.tuple #[.string ks,.slice dq dl dc]) H'):
 CallsH Tryz.prog 46 #[.pointer (some ⟨r,0,none⟩)] H R:=by
 obtain⟨hx,hl,q,c,hi,hlc,hs⟩:=hs
 refine c46 hs hi hlc hx hl (fun hn H' hs'=>?_) (fun k d B' hn dq dc q' c' H' h1 h2 h3 h4 h5=>?_)
 ·rw[hn] at hR
  exact hR _ _ _ _ H' rfl ⟨B,hx,hl,q,c,hi,hlc,hs'⟩
 ·obtain⟨e1,e2,e3,e4,e5⟩:=nxtP_some hn
  obtain⟨b1,b2,b3⟩:=e4 hx
  rw[hn] at hR
  exact hR _ _ _ _ H' ⟨rfl,b1,e2,b2,rfl,h1,h2⟩ ⟨⟨b3,by omega,q',c',h3,h4,h5⟩,by omega,by omega⟩
theorem nxtP_sum{B k d B':List Int}(h:nxtP B=some (k,d,B')):d.length+B'.length≤B.length:=by
 unfold nxtP at h
 split at h
 ·cases h
 ·split at h
  ·cases h
  ·split at h
   ·cases h
   ·split at h
    ·cases h
    ·cases h
     rw[List.length_take,List.length_drop,List.length_drop];omega
def sumS(o:Nat)(s:Chk):Prop:=
 match s with
 |none=>o≤10000000
 |some (_,d,B)=>o+d.length+B.length≤10000000
theorem sumS_next{o:Nat}{B:List Int}(h:o+B.length≤10000000):sumS o (nxtP B):=by
 cases hn:nxtP B with
 |none=>show o≤10000000;omega
 |some x=>
  obtain⟨k,d,B'⟩:=x
  have:=nxtP_sum hn
  show o+d.length+B'.length≤10000000
  omega
theorem tHDR:textOf kHDR=ByteArray.mk #[73,72,68,82]:=by rw[tx_eq];rfl
theorem tDAT:textOf kDAT=ByteArray.mk #[73,68,65,84]:=by rw[tx_eq];rfl
theorem tEND:textOf kEND=ByteArray.mk #[73,69,78,68]:=by rw[tx_eq];rfl
theorem bHDR:Bys kHDR:=by unfold kHDR Bys;decide
theorem bDAT:Bys kDAT:=by unfold kDAT Bys;decide
theorem bEND:Bys kEND:=by unfold kEND Bys;decide
theorem kin_eq{s:Chk}{ks:ByteArray}{dq:Option Addr}{dl dc:Nat}(h:CurS H s ks dq dl dc){K:List Int}{t:ByteArray}(ht:textOf K=t)(hK:Bys K)(hne:K≠[]):
 (ks==t)=match s with|none=>false|some (k,_,_)=>decide (k=K):=by
 cases s with
 |none=>
  have h:ks=ByteArray.mk #[]:=h
  subst h ht
  have:=tx_beq (xs:=[]) (ys:=K) (fun c hc=>by cases hc) hK
  rw[show textOf []=ByteArray.mk #[] from by rw[tx_eq];rfl] at this
  rw[this]
  exact decide_eq_false fun h=>hne h.symm
 |some x=>
  obtain⟨k,d,B⟩:=x
  obtain⟨h1,h2,_⟩:=h
  subst h1 ht
  exact tx_beq h2 hK
def smlS(s:Chk):Bool:=
 match s with
 |none=>false
 |some (k,_,_)=>decide (97≤k.getD 0 0)
theorem c48{s:Chk}{ks:ByteArray}{dq:Option Addr}{dl dc:Nat}(h:CurS H0 s ks dq dl dc)(hR:R (.bool (smlS s)) H):CallsH Tryz.prog 48 #[.string ks] H R:=by
 refine Tryz.s48 ?_
 unfold Tryz.S48
 cases s with
 |none=>
  have h:ks=ByteArray.mk #[]:=h
  subst h
  exact br_f (by rfl) hR
 |some x=>
  obtain⟨k,d,B⟩:=x
  obtain⟨h1,h2,h3,_⟩:=h
  subst h1
  cases k with
  |nil=>cases h3
  |cons x r=>
   have hne:(!(textOf (x::r)==ByteArray.mk #[]))=true:=by
    have:=tx_beq (xs:=x::r) (ys:=[]) h2 (fun c hc=>by cases hc)
    rw[show textOf []=ByteArray.mk #[] from by rw[tx_eq];rfl] at this
    rw[this];simp
   refine br_t hne ⟨UInt8.ofNat x.toNat,by decide,?_,?_⟩
   ·rw[tx_eq];rfl
   ·have hx:=h2 x (by simp)
    have e:((UInt8.toNat (UInt8.ofNat x.toNat):Nat):Int)=x:=by rw[UInt8.toNat_ofNat'];omega
    rw[e]
    exact hR
theorem c47{p q:Option Addr}{l c m d:Nat}{xs ys:List Int}(h1:IS H p l (kints .u8 xs))(h2:IS H q m (kints .u8 ys))(hx:Bys xs)(hy:Bys ys)(hR:R (.bool (decide (xs=ys))) H):
 CallsH Tryz.prog 47 #[.slice p l c,.slice q m d] H R:=by
 refine Tryz.s47 ⟨xs,is_bsOf h1,ys,is_bsOf h2,?_⟩
 rw[tx_beq hx hy]
 exact hR
set_option maxHeartbeats 2000000 in
theorem c27{p:Option Addr}{l c:Nat}{B:List Int}(hB:IS H p l (kints .u8 B))(hlc:l≤c)(hx:Bys B)(h8:8≤l)(hl:l≤10000000)
 (hno:prtP (B.drop 8)=none→ ∀H' (hp:Option Addr) (hl hc:Nat) (zp:Option Addr) (zl zc:Nat),Ext H H'→R (.tuple #[.slice hp hl hc,.slice zp zl zc,.bool false]) H')
 (hok: ∀hd z,prtP (B.drop 8)=some (hd,z)→ ∀hq hc zq zc H',IS H hq 13 (kints .u8 hd)→13≤hc→Bys hd→Bys z→z.length≤10000000→St H H' [.sl zq z.length zc 5 1 (kints .u8 z)]→R (.tuple #[.slice hq 13 hc,.slice zq z.length zc,.bool true]) H'):
 CallsH Tryz.prog 27 #[.slice p l c] H R:=by
 have hBl:=hB.length
 refine Tryz.s27 ?_
 unfold Tryz.S27
 refine⟨by decide,by omega,(St.nil H).alc fun b H3 hs3=>?_⟩
 have h0:=hB.cut hlc (i:=8) (j:=l) h8 (Nat.le_refl _)
 have e0:(B.drop 8).length=l-8:=by rw[List.length_drop,hBl]
 rw[List.take_of_length_le (by omega)] at h0
 have hrd:RdS H H3 b 71 [] (B.drop 8):=⟨hx.drop 8,by omega,_,c-8,e0.symm▸h0,by omega,by rw[e0];exact hs3⟩
 generalize hB8:B.drop 8=B8 at*
 clear hs3
 unfold prtP at hno hok
 refine next_of hrd (f:=B8.length) (by omega) fun ks dq dl dc H5 hc5 hs5=>⟨_,_,_,_,rfl,?_⟩
 generalize hs0:nxtP B8=s at*
 intro J hJ
 rw[kin_eq hc5 tHDR bHDR (by decide)]
 cases s with
 |none=>
  obtain⟨_,_,_,q,c',_,_,hs⟩:=hs5
  exact br_t rfl (hno rfl _ _ _ _ _ _ _ hs.ext)
 |some x=>
  obtain⟨k,hd,B'⟩:=x
  obtain⟨hrd5,hlt5,hdl⟩:=hs5
  have hext5:Ext H H5:=by obtain⟨_,_,_,_,_,_,hs⟩:=hrd5;exact hs.ext
  obtain⟨_,_,_,hdb,rfl,hdi,hdc⟩:=hc5
  simp only at hno hok
  have no1: ¬(k=kHDR∧hd.length=13∧hd.drop 8=[8,6,0,0,0])→ ∀H' (hp:Option Addr) (hl hc:Nat) (zp:Option Addr) (zl zc:Nat),Ext H H'→R (.tuple #[.slice hp hl hc,.slice zp zl zc,.bool false]) H':=fun hn=>hno (by rw[if_neg hn])
  refine br_not (fun hk=>no1 (fun h=>of_decide_eq_false hk h.1) _ _ _ _ _ _ _ hext5) (fun hk=>br_ne (fun hne=>no1 (fun h=>by have:=h.2.1;omega) _ _ _ _ _ _ _ hext5) (fun he=>?_))
  have hk:=of_decide_eq_true hk
  have he:hd.length=13:=by omega
  refine⟨by decide,by omega,?_⟩
  obtain⟨hxB',hlB',q5,c5,hi5,hlc5,hst5⟩:=hrd5
  refine hst5.alc fun b51 H52 hs52=>?_
  have hcut:=hdi.cut hdc (i:=8) (j:=hd.length) (by omega) (Nat.le_refl _)
  rw[List.take_of_length_le (by rw[List.length_drop];omega)] at hcut
  refine c47 (ys:=[8,6,0,0,0]) (hcut.ext hs52.ext) (IS.of_block (hs52.block 0 rfl) rfl) (hdb.drop 8) (by unfold Bys;decide) ⟨_,rfl,?_⟩
  refine br_not (fun hq=>no1 (fun h=>of_decide_eq_false hq h.2.2) _ _ _ _ _ _ _ hs52.ext) (fun hq=>?_)
  have hq:=of_decide_eq_true hq
  rw[if_pos ⟨hk,he,hq⟩] at hno hok
  rw[he] at hdi hdc ⊢
  have hrd6:RdS H H52 b 71 [.sl none 0 0 5 1 (kints .u8 [])] B':=⟨hxB',hlB',q5,c5,hi5,hlc5,(hs52.tail.nilSl 5 1).swap⟩
  clear hs52 hst5 hrd
  generalize hF:frmP (B'.length+1) 0 [] (nxtP B')=F at hno hok
  -- the end:a file,or none
  have bad:F=none→ ∀H' (hp:Option Addr) (hl hc:Nat) (zp:Option Addr) (zl zc:Nat),Ext H H'→R (.tuple #[.slice hp hl hc,.slice zp zl zc,.bool false]) H':=fun hn=>hno (by rw[hn];rfl)
  have good: ∀z,F=some z→ ∀zq zc H',Bys z→z.length≤10000000→St H H' [.sl zq z.length zc 5 1 (kints .u8 z)]→R (.tuple #[.slice dq 13 dc,.slice zq z.length zc,.bool true]) H':=fun z hz zq zc H' hb hl hs=>
   hok hd z (by rw[hz];rfl) dq dc zq zc H' hdi hdc hdb hb hl hs
  clear hno hok no1
  have extS: ∀{H':Heap} {σ:List Rs} {s:Chk} {f:Nat} {ty:TypeId},StS H H' b ty σ s f→Ext H H':=fun{H' σ s f ty} hs=>by
   cases s with
   |none=>obtain⟨_,_,_,_,_,_,_,hs⟩:=hs;exact hs.ext
   |some x=>obtain⟨k,d,B⟩:=x;obtain⟨⟨_,_,_,_,_,_,hs⟩,_⟩:=hs;exact hs.ext
  refine hJ dq 13 dc none 0 0 H52 ?_
  refine next_of hrd6 (f:=B'.length+1) (by omega) fun ks1 dq1 dl1 dc1 H13 hc13 hs13=>⟨_,_,_,_,rfl,?_⟩
  intro X1 hX1
  have loop1: ∀f (s:Chk) ks dq1 dl1 dc1 H',CurS H s ks dq1 dl1 dc1→StS H H' b 71 [.sl none 0 0 5 1 (kints .u8 [])] s f→sumS 0 s→frmP f 0 [] s=F→X1 [.string ks,.slice dq1 dl1 dc1] H':=by
   intro f
   induction f with
   |zero=>
    intro s ks dq1 dl1 dc1 H' hc hs _ hF
    cases s with
    |none=>exact hX1 _ _ _ _ H' (c48 hc ⟨_,rfl,br_f rfl (br_t (by rw[kin_eq hc tDAT bDAT (by decide)];rfl) (bad hF.symm _ _ _ _ _ _ _ (extS hs)))⟩)
    |some x=>obtain⟨k,d,B⟩:=x;exact absurd hs.2.1 (by omega)
   |succ f ih=>
    intro s ks dq1 dl1 dc1 H' hc hs hsum hF
    refine hX1 _ _ _ _ H' (c48 hc ⟨_,rfl,?_⟩)
    rw[kin_eq hc tDAT bDAT (by decide)]
    cases s with
    |none=>exact br_f rfl (br_t rfl (bad (by rw[←hF];cases f<;>rfl) _ _ _ _ _ _ _ (extS hs)))
    |some x=>
     obtain⟨k,d,B⟩:=x
     obtain⟨hrd,hlt,hdl⟩:=hs
     have hsum':0+d.length+B.length≤10000000:=hsum
     show br (decide (97≤k.getD 0 0)) _ _
     refine br_dec (fun hsm=>?_) (fun hsm=>br_not (fun hd=>?_) (fun hd=>?_))
     ·have hnd: ¬(k=kDAT∧0<2):=fun h=>by rw[h.1] at hsm;exact absurd hsm (by decide)
      rw[frmP,if_neg hnd,if_pos hsm,if_neg (by decide)] at hF
      exact next_of hrd (by omega) fun ks2 dq2 dl2 dc2 H2 hc2 hs2=>⟨_,_,_,_,rfl,ih _ _ _ _ _ H2 hc2 hs2 (sumS_next (by omega)) hF⟩
     ·have hd:=of_decide_eq_false hd
      rw[frmP,if_neg (fun h=>hd h.1),if_neg hsm,if_neg (fun h=>by have:=h.2.1;omega)] at hF
      exact bad hF.symm _ _ _ _ _ _ _ (extS (s:=some (k,d,B)) ⟨hrd,hlt,hdl⟩)
     ·have hd:=of_decide_eq_true hd
      intro X2 hX2
      have loop2: ∀f st (out:List Int) (s:Chk) zq zc ks dq1 dl1 dc1 H',CurS H s ks dq1 dl1 dc1→StS H H' b 71 [.sl zq out.length zc 5 1 (kints .u8 out)] s f→sumS out.length s→Bys out→st<2→(st=0→ ∃d B,s=some (kDAT,d,B))→frmP f st out s=F→
       X2 [.slice zq out.length zc,.string ks,.slice dq1 dl1 dc1] H':=by
       have tail: ∀f st (out:List Int) (s:Chk) zq zc ks dq1 dl1 dc1 H',CurS H s ks dq1 dl1 dc1→StS H H' b 71 [.sl zq out.length zc 5 1 (kints .u8 out)] s f→sumS out.length s→Bys out→1≤st→st≤2→(st=1→ ∀d B,s≠some (kDAT,d,B))→frmP f st out s=F→
        ∀X3:List Value→Heap→Prop,(∀(ki39:ByteArray) (da40p:OA) (da40l da40c:Nat) H41,(Tryz.C 48 #[.string ki39] H41 fun r42 H43=> ∃r44,r42= .bool r44∧br r44
         (Tryz.C 46 #[.pointer (some ⟨b,0,none⟩)] H43 fun r45 H46=> ∃r47 r48p r48l r48c,r45= .tuple #[.string r47,.slice r48p r48l r48c]∧X3 [.string r47,.slice r48p r48l r48c] H46)
         (br ((ki39:ByteArray)==(ByteArray.mk #[73,69,78,68])) (br (((da40l:Int):Int)==0) (∃a49,(some ⟨b,0,none⟩)=some a49∧ ∃b50p b50l b50c,cell H43 (.add a49 0)=some (.slice b50p b50l b50c)∧R (.tuple #[.slice dq 13 dc,.slice zq out.length zc,.bool (((b50l:Int):Int)==0)]) H43) (R (.tuple #[.slice dq 13 dc,.slice zq out.length zc,.bool false]) H43)) (R (.tuple #[.slice dq 13 dc,.slice zq out.length zc,.bool false]) H43)))→X3 [.string ki39,.slice da40p da40l da40c] H41)→X3 [.string ks,.slice dq1 dl1 dc1] H':=by
        intro f
        induction f with
        |zero=>
         intro st out s zq zc ks dq1 dl1 dc1 H' hc hs _ _ _ _ _ hF X3 hX3
         cases s with
         |none=>exact hX3 _ _ _ _ H' (c48 hc ⟨_,rfl,br_f rfl (br_f (by rw[kin_eq hc tEND bEND (by decide)]) (bad hF.symm _ _ _ _ _ _ _ (extS hs)))⟩)
         |some x=>obtain⟨k,d,B⟩:=x;exact absurd hs.2.1 (by omega)
        |succ f ih3=>
         intro st out s zq zc ks dq1 dl1 dc1 H' hc hs hsum hob hst1 hst2 hnD hF X3 hX3
         refine hX3 _ _ _ _ H' (c48 hc ⟨_,rfl,?_⟩)
         rw[kin_eq hc tEND bEND (by decide)]
         cases s with
         |none=>exact br_f rfl (br_f rfl (bad (by rw[←hF];cases f<;>rfl) _ _ _ _ _ _ _ (extS hs)))
         |some x=>
          obtain⟨k,d,B⟩:=x
          have hs0:=hs
          obtain⟨hrd,hlt,hdl⟩:=hs
          have hsum':out.length+d.length+B.length≤10000000:=hsum
          have hnd: ¬(k=kDAT∧st<2):=fun h=>hnD (by omega) d B (by rw[h.1])
          show br (decide (97≤k.getD 0 0)) _ _
          refine br_dec (fun hsm=>?_) (fun hsm=>?_)
          ·rw[frmP,if_neg hnd,if_pos hsm,show(if st=1 then 2 else st)=2 from by split<;>omega] at hF
           exact next_of hrd (by omega) fun ks2 dq2 dl2 dc2 H2 hc2 hs2=>⟨_,_,_,_,rfl,ih3 2 out _ _ _ _ _ _ _ H2 hc2 hs2 (sumS_next (by omega)) hob (by omega) (by omega) (fun h=>by omega) hF X3 hX3⟩
          ·rw[frmP,if_neg hnd,if_neg hsm] at hF
           have e5:dl1=d.length:=hc.2.2.2.2.1
           refine br_dec (fun hke=>br_eq (fun hd0=>?_) (fun hd0=>?_)) (fun hke=>?_)
           ·obtain⟨_,_,q,c7,hi7,hlc7,hst7⟩:=hrd
            refine⟨_,rfl,q,B.length,c7,by rw[add_none];exact cell_get (hst7.block 0 rfl) rfl,?_⟩
            have hd0':d=[]:=List.length_eq_zero_iff.1 (by omega)
            by_cases hB0:B=[]
            ·rw[if_pos ⟨hke,by omega,hd0',hB0⟩] at hF
             have:=good out hF.symm zq zc H' hob (by omega) hst7.tail
             rw[show(((B.length:Nat):Int)==0)=true from by rw[hB0];rfl]
             exact this
            ·rw[if_neg (fun h=>hB0 h.2.2.2)] at hF
             have hne:B.length≠0:=fun h=>hB0 (List.length_eq_zero_iff.1 h)
             rw[show(((B.length:Nat):Int)==0)=false from by simp;exact hB0]
             exact bad hF.symm _ _ _ _ _ _ _ hst7.ext
           ·rw[if_neg (fun h=>hd0 (by rw[e5,h.2.2.1];rfl))] at hF
            exact bad hF.symm _ _ _ _ _ _ _ (extS hs0)
           ·rw[if_neg (fun h=>hke h.1)] at hF
            exact bad hF.symm _ _ _ _ _ _ _ (extS hs0)
       intro f
       induction f with
       |zero=>
        intro st out s zq zc ks dq1 dl1 dc1 H' hc hs hsum hob hst h0 hF
        refine hX2 _ _ _ _ _ _ _ H' ?_
        rw[kin_eq hc tDAT bDAT (by decide)]
        cases s with
        |none=>
         have hst1:st=1:=by
          rcases Nat.eq_zero_or_pos st with h|h
          ·obtain⟨_,_,h⟩:=h0 h;cases h
          ·omega
         exact br_f rfl (tail 0 st out none _ _ _ _ _ _ H' hc hs hsum hob (by omega) (by omega) (fun _ _ _ h=>by cases h) hF)
        |some x=>obtain⟨k,d,B⟩:=x;exact absurd hs.2.1 (by omega)
       |succ f ih2=>
        intro st out s zq zc ks dq1 dl1 dc1 H' hc hs hsum hob hst h0 hF
        refine hX2 _ _ _ _ _ _ _ H' ?_
        rw[kin_eq hc tDAT bDAT (by decide)]
        have hst1:(∀d B,s≠some (kDAT,d,B))→st=1:=fun hn=>by
         rcases Nat.eq_zero_or_pos st with h|h
         ·obtain⟨_,_,h⟩:=h0 h;exact absurd h (hn _ _)
         ·omega
        cases s with
        |none=>
         have:=hst1 (fun _ _ h=>by cases h)
         exact br_f rfl (tail (f+1) st out none _ _ _ _ _ _ H' hc hs hsum hob (by omega) (by omega) (fun _ _ _ h=>by cases h) hF)
        |some x=>
         obtain⟨k,d,B⟩:=x
         refine br_dec (fun hk=>?_) (fun hk=>?_)
         ·subst hk
          obtain⟨_,_,_,hdb,rfl,hdi,hdc⟩:=hc
          obtain⟨⟨hxB,hlB,q,c7,hi7,hlc7,hst7⟩,hlt,hdl⟩:=hs
          have hsum':out.length+d.length+B.length≤10000000:=hsum
          rw[frmP,if_pos ⟨rfl,hst⟩] at hF
          refine hst7.appI 1 rfl (hdi.ext hst7.ext) (kints_one _ _) rfl (by omega) (by omega) fun q8 c8 H8 hs8=>?_
          rw[←kints_append] at hs8
          have el:(out++d).length=out.length+d.length:=List.length_append
          have hrd8:RdS H H8 b 71 [.sl q8 (out++d).length c8 5 1 (kints .u8 (out++d))] B:=⟨hxB,hlB,q,c7,hi7,hlc7,by rw[el];exact hs8⟩
          rw[←el]
          refine next_of hrd8 (by omega) fun ks2 dq2 dl2 dc2 H2 hc2 hs2=>⟨_,_,_,_,rfl,?_⟩
          exact ih2 1 (out++d) _ _ _ _ _ _ _ H2 hc2 hs2 (sumS_next (by omega)) (fun x hx=>(List.mem_append.1 hx).elim (hob x) (hdb x)) (by omega) (fun h=>by omega) hF
         ·have hne: ∀d' B',(some (k,d,B):Chk)≠some (kDAT,d',B'):=fun d' B' h=>by cases h;exact hk rfl
          have:=hst1 hne
          exact tail (f+1) st out (some (k,d,B)) _ _ _ _ _ _ H' hc hs hsum hob (by omega) (by omega) (fun _=>hne) hF
      exact loop2 (f+1) 0 [] (some (k,d,B)) none 0 ks dq1 dl1 dc1 H' hc ⟨hrd,hlt,hdl⟩ hsum (fun x hx=>by cases hx) (by omega) (fun _=>⟨d,B,by rw[hd]⟩) hF
  exact loop1 (B'.length+1) _ _ _ _ _ H13 hc13 hs13 (sumS_next (by omega)) hF
end Go.Proofs
namespace Go.Proofs
open Go.Sh
open Go.IntKind (wrap)
variable {H:Heap} {R:Value→Heap→Prop}
set_option maxHeartbeats 4000000 in
theorem c8{p:Option Addr}{l c:Nat}{rgba:List Int}{w h part:Int}(hi:IS H p l (kints .u8 rgba))(hx:Bys rgba)(hl:l≤20000)(hlc:l≤c)(hpart:part≤9223372036854775807)
 (hlim: ¬SzP w h→R (.tuple #[.slice none 0 0,.int .i64 31]) H)(hform:SzP w h→(l:Int)≠4*w*h→R (.tuple #[.slice none 0 0,.int .i64 25]) H)
 (hR:SzP w h→(l:Int)=4*w*h→ ∀(B z:List Int) (m n:Nat) q c' H',WOk false (defB (lnsP (4*w).toNat rgba h.toNat) 4) B→z=zipB (lnsP (4*w).toNat rgba h.toNat) B→n=(if part<1 then z.length else part.toNat)→
  z.length≤m*n→(m=0∨(m-1)*n<z.length)→St H H' [.sl q (encP w h z n m).length c' 5 1 (kints .u8 (encP w h z n m))]→R (.tuple #[.slice q (encP w h z n m).length c',.int .i64 0]) H'):
 CallsH Tryz.prog 8 #[.int .i64 w,.int .i64 h,.slice p l c,.int .i64 part] H R:=by
 have e1:=hi.length
 refine Tryz.s8 ?_
 unfold Tryz.S8
 refine c17 ⟨_,rfl,br_not (fun hn=>hlim (of_decide_eq_false hn)) (fun hsz=>?_)⟩
 have hsz:=of_decide_eq_true hsz
 have hsz':=hsz
 obtain⟨hw1,hh1,hw2,hh2,hwh⟩:=hsz'
 have hm4:=mulSz hw1 hh1 hw2 hh2
 have hmm:4*w*h=4*(w*h):=Int.mul_assoc 4 w h
 have W1:wrap .i64 (4*w)=((4*w).toNat:Nat):=by rw[wrap_id (by omega) (by omega)];omega
 have W0:wrap .i64 (wrap .i64 (4*w)*h)=4*w*h:=by rw[wrap_id (n:=4*w) (by omega) (by omega),wrap_id (by omega) (by omega)]
 rw[W0]
 refine br_ne (fun hne=>hform hsz (by simpa using hne)) (fun heq=>?_)
 have heq:(l:Int)=4*w*h:=by simpa using heq
 have hR:=hR hsz heq
 clear hform hlim
 rw[W1]
 obtain⟨w4,hw4⟩: ∃w4:Nat,(4*w).toNat=w4:=⟨_,rfl⟩
 obtain⟨hN,hhN⟩: ∃hN:Nat,h=hN:=⟨h.toNat,by omega⟩
 subst hhN
 rw[hw4,Int.toNat_natCast] at hR
 rw[hw4]
 have hw4':4*w=(w4:Int):=by omega
 have hlw:l=w4*hN:=by
  have:(l:Int)=((w4*hN:Nat):Int):=by rw[heq,hw4'];simp
  omega
 have hw4p:1≤w4:=by omega
 have hw4l:w4≤l:=by
  rw[hlw];exact Nat.le_mul_of_pos_right _ (by omega)
 have hrl:rgba.length=w4*hN:=by omega
 obtain⟨pa,hpa⟩: ∃pa,p=some pa:=by
  obtain⟨a,h1,_⟩:=hi.cell (kints_get (get_gD rgba 0 (i:=0) (by omega)))
  exact⟨a,h1⟩
 subst hpa
 refine⟨by omega,by omega,by omega,by omega,?_⟩
 rw[Int.toNat_natCast]
 refine(St.nil H).alc fun b8 H9 hs9=>?_
 have e9:(List.toArray (reps w4 (Array.toList #[Value.int .u8 0])))=(kints .u8 (List.replicate w4 0)).toArray:=by simp[reps_rep,kints]
 rw[e9] at hs9
 have hs9:St H H9 [.pers fun H=>IS H (some ⟨b8,0,none⟩) w4 (kints .u8 (List.replicate w4 0))]:=
  hs9.persOf (τ:=[.cell b8 (kints .u8 (List.replicate w4 0)).toArray 5]) (σ:=[]) fun H' hst=>IS.of_block (hst.block 0 rfl) (by rw[kints_len];simp)
 -- the lines
 intro X hX
 have lines: ∀y,y≤hN→ ∀H1 lq lc (abp:Option Addr) (abc:Nat),St H H1 [.pers (fun H=>IS H (some ⟨b8,0,none⟩) w4 (kints .u8 (List.replicate w4 0))),.sl lq (lnsP w4 rgba y).length lc 5 1 (kints .u8 (lnsP w4 rgba y))]→
  ((y=0∧abp=some ⟨b8,0,none⟩)∨(IS H abp w4 (kints .u8 (aboP w4 rgba y))))→X [.slice lq (lnsP w4 rgba y).length lc,.slice abp w4 abc,.int .i64 (y:Nat)] H1:=upto fun y hy ih H1 lq lc abp abc hs1 hab=>by
  have hab1: ∀{H2:Heap} {σ},St H H2 (.pers (fun H=>IS H (some ⟨b8,0,none⟩) w4 (kints .u8 (List.replicate w4 0)))::σ)→IS H2 abp w4 (kints .u8 (aboP w4 rgba y)):=fun hs=>by
   rcases hab with ⟨h0,h1⟩|h1
   ·subst h0 h1;exact hs.persGet 0 rfl
   ·exact h1.ext hs.ext
  have hll:=lnsP_len hrl hy
  have hyb:y*(w4+1)≤40000:=by
   have h1:y*(w4+1)≤hN*(w4+1):=Nat.mul_le_mul_right _ hy
   have h2:hN*(w4+1)=w4*hN+hN:=by rw[Nat.mul_add,Nat.mul_comm hN w4,Nat.mul_one]
   have h3:hN≤w4*hN:=Nat.le_mul_of_pos_left _ hw4p
   omega
  refine hX _ _ _ _ _ _ _ H1 (br_dec (fun hlt=>?_) (fun hge=>?_))
  ·have hlt:y<hN:=by omega
   have a1:w4*(y+1)≤l:=by rw[hlw];exact Nat.mul_le_mul_left _ hlt
   have a2:w4*(y+1)=w4*y+w4:=by rw[Nat.mul_add,Nat.mul_one]
   have Wy:wrap .i64 ((w4:Int)*(y:Nat))=((w4*y:Nat):Int):=by rw[wrap_id (by rw[←Int.natCast_mul];omega) (by rw[←Int.natCast_mul];omega),Int.natCast_mul]
   have Wy1:wrap .i64 ((w4:Int)*wrap .i64 (((y:Nat):Int)+1))=((w4*(y+1):Nat):Int):=by
    rw[show wrap .i64 (((y:Nat):Int)+1)=((y+1:Nat):Int) from by rw[wrap_id (by omega) (by omega)];omega,←Int.natCast_mul,wrap_id (by omega) (by omega)]
   rw[Wy,Wy1,Int.toNat_natCast,Int.toNat_natCast,if_neg (by omega),Nat.mul_one,show w4*(y+1)-w4*y=w4 from by omega]
   refine⟨by omega,by omega,by omega,by omega,?_⟩
   have hline:IS H (some (pa.add (w4*y))) w4 (kints .u8 (linP w4 rgba y)):=by
    have:=hi.part (i:=w4*y) (n:=w4) (by omega)
    unfold linP
    simpa[kints,List.map_drop,List.map_take] using this
   have hlb:=linP_bys (w4:=w4) hx y
   have hab2:=aboP_bys (w4:=w4) hx y
   rw[show Option.map (fun x=>Addr.add x (w4*y)) (some pa)=some (pa.add (w4*y)) from rfl]
   refine c18 (hline.ext hs1.ext) (hab1 hs1) hlb hab2 (by omega) (fun hn=>absurd ⟨by decide,by decide,rfl⟩ hn) fun _ b2 H2 hs2=>⟨_,_,_,rfl,?_⟩
   have hs2:=hs1.call hs2
   have hs2:=hs2.perm (τ:=[.pers (fun H=>IS H (some ⟨b8,0,none⟩) w4 (kints .u8 (List.replicate w4 0))),.sl lq (lnsP w4 rgba y).length lc 5 1 (kints .u8 (lnsP w4 rgba y)),.sl (some ⟨b2,0,none⟩) w4 w4 5 1 (kints .u8 (filP 0 (linP w4 rgba y) (aboP w4 rgba y)))]) (List.perm_append_comm (l₁:=[_]) (l₂:=[_,_]))
   intro Y hY
   have inner: ∀k,k≤4→ ∀H3 bp bc,St H H3 [.pers (fun H=>IS H (some ⟨b8,0,none⟩) w4 (kints .u8 (List.replicate w4 0))),.sl lq (lnsP w4 rgba y).length lc 5 1 (kints .u8 (lnsP w4 rgba y)),.sl bp w4 bc 5 1 (kints .u8 (bstP (linP w4 rgba y) (aboP w4 rgba y) k).2)]→
    Y [.int .i64 (bstP (linP w4 rgba y) (aboP w4 rgba y) k).1,.slice bp w4 bc,.int .i64 (k+1:Nat)] H3:=upto fun k hk ihk H3 bp bc hs3=>by
    have hbb:=bstP_bys (linP w4 rgba y) (aboP w4 rgba y) k
    refine hY _ _ _ _ _ H3 (br_dec (fun hlt4=>?_) (fun hge4=>?_))
    ·have hlt4:k<4:=by omega
     have wk:wrap .i64 (((k+1:Nat):Int)+1)=((k+1+1:Nat):Int):=by rw[wrap_id (by omega) (by omega)];omega
     refine c18 (hline.ext hs3.ext) (hab1 hs3) hlb hab2 (by omega) (fun hn=>absurd ⟨by omega,by omega,rfl⟩ hn) fun _ b4 H4 hs4=>⟨_,_,_,rfl,?_⟩
     have hs4:=hs3.call hs4
     refine c19 (hs4.is 0 rfl) (filP_bys _ _ _) (by omega) ⟨_,rfl,?_⟩
     refine c19 (hs4.is 3 rfl) hbb (by omega) ⟨_,rfl,?_⟩
     rw[wk]
     have ihk:=ihk hlt4
     refine br_dec (fun hc=>?_) (fun hc=>?_)
     ·have e:bstP (linP w4 rgba y) (aboP w4 rgba y) (k+1)=(((k+1:Nat):Int),filP (k+1:Nat) (linP w4 rgba y) (aboP w4 rgba y)):=by rw[bstP,if_pos hc]
      rw[e] at ihk
      refine ihk H4 _ _ ?_
      have:=(hs4.del 3)
      exact this.perm (List.perm_append_comm (l₁:=[_]) (l₂:=[_,_]))
     ·have e:bstP (linP w4 rgba y) (aboP w4 rgba y) (k+1)=bstP (linP w4 rgba y) (aboP w4 rgba y) k:=by rw[bstP,if_neg hc]
      rw[e] at ihk
      exact ihk H4 _ _ hs4.tail
    ·have:k=4:=by omega
     subst this
     have hbl:=bstP_len (linP w4 rgba y) (aboP w4 rgba y) 4
     rw[linP_len hrl hlt] at hbl
     have hbf:=bstP_fst (linP w4 rgba y) (aboP w4 rgba y) 4
     refine hs3.alc fun b5 H5 hs5=>?_
     rw[wrap_u8 (by omega) (by omega)] at hs5
     refine hs5.appC 2 0 (el:=5) (k:=1) rfl rfl rfl (one1 rfl) (by decide) rfl (by omega) (by omega) fun q6 c6 H6 hs6=>?_
     have e6:kints .u8 (lnsP w4 rgba y)++(#[Value.int .u8 (bstP (linP w4 rgba y) (aboP w4 rgba y) 4).1]:Array Value).toList=kints .u8 (lnsP w4 rgba y++[(bstP (linP w4 rgba y) (aboP w4 rgba y) 4).1]):=by
      rw[kints_append];rfl
     rw[e6] at hs6
     refine hs6.appI 2 rfl (hs6.is 3 rfl) (kints_one _ _) rfl (by omega) (by omega) fun q7 c7 H7 hs7=>?_
     rw[←kints_append] at hs7
     have e7:(lnsP w4 rgba (y+1)).length=(lnsP w4 rgba y).length+1+w4:=by
      rw[lnsP_len hrl (y:=y+1) (by omega),hll,Nat.add_mul];omega
     have wy:wrap .i64 (((y:Nat):Int)+1)=((y+1:Nat):Int):=by rw[wrap_id (by omega) (by omega)];omega
     have ih:=ih hlt H7 q7 c7 (some (pa.add (w4*y))) (c-w4*y)
     rw[e7] at ih
     rw[wy]
     refine ih ?_ (.inr hline)
     have:=(hs7.del 3).tail
     exact this
   have:=inner 0 (by omega) H2 _ _ hs2
   exact this
  ·have:y=hN:=by omega
   subst this
   have hlr:=lnsP_bys (w4:=w4) (rgba:=rgba) y
   refine c16 (hs1.is 1 rfl) hlr ((hs1.fs 1 rfl).le) (by omega) fun zq zc B H2 ok hs2=>⟨_,_,_,rfl,?_⟩
   have hs2:=hs1.call hs2
   have hs2:St H H2 [.sl zq (zipB (lnsP w4 rgba y) B).length zc 5 1 (kints .u8 (zipB (lnsP w4 rgba y) B))]:=hs2.take 1
   have hzb:(zipB (lnsP w4 rgba y) B).length≤1000000:=by
    have:=ok.nby
    have:=(nby_def (lnsP w4 rgba y) 4).1
    simp[zipB,big4];omega
   have hz7:6≤(zipB (lnsP w4 rgba y) B).length:=by simp[zipB,big4]
   have hzr:Bys (zipB (lnsP w4 rgba y) B):=fun x hx=>by
    unfold zipB at hx
    rcases List.mem_append.1 hx with hx|hx
    ·rcases List.mem_append.1 hx with hx|hx
     ·simp at hx;rcases hx with rfl|rfl<;>omega
     ·exact ok.rng x hx
    ·exact big4_bys _ x hx
   have hR:=fun m n=>hR B (zipB (lnsP w4 rgba y) B) m n
   generalize hzz:zipB (lnsP w4 rgba y) B=z at*
   intro J hJ
   have fin: ∀n:Nat,n=(if part<1 then z.length else part.toNat)→J [.int .i64 (n:Nat)] H2:=fun n hn=>by
    have hn1:1≤n:=by rw[hn];split<;>omega
    have hn2:n≤9223372036854775807:=by rw[hn];split<;>omega
    refine hJ _ H2 ?_
    refine hs2.alcM fun b3 H3 x3 hs3=>?_
    refine c22 fun b4 H4 hs4=>⟨_,_,_,rfl,?_⟩
    have hs4:=hs3.call hs4
    refine c22 fun b5 H5 hs5=>⟨_,_,_,rfl,?_⟩
    have hs5:=hs4.call hs5
    refine hs5.alc fun b6 H6 hs6=>hs6.alc fun b7 H7 hs7=>?_
    have hpb:PB H7 (some ⟨b7,0,none⟩) 3 [big4 w,big4 (y:Int),[8,6,0,0,0]]:=pb_blk (vs:=[(some ⟨b4,0,none⟩,4,4),(some ⟨b5,0,none⟩,4,4),(some ⟨b6,0,none⟩,5,5)]) (hs7.block 0 rfl)
     ⟨IS.of_block (hs7.block 3 rfl) rfl,IS.of_block (hs7.block 2 rfl) rfl,IS.of_block (hs7.block 1 rfl) rfl,trivial⟩
    have hfl:([big4 w,big4 (y:Int),[8,6,0,0,0]]:List (List Int)).flatten=hdrP w (y:Int):=by simp[hdrP]
    have hhl:(hdrP w (y:Int)).length=13:=rfl
    refine c20 hpb (by omega) (by rw[hfl,hhl];omega) fun q8 c8 H8 hs8=>⟨_,_,_,rfl,?_⟩
    rw[hfl,hhl] at hs8 ⊢
    have hs8:=hs7.call hs8
    have hhb:Bys (hdrP w (y:Int)):=fun x hx=>by
     unfold hdrP at hx
     simp only[List.mem_append] at hx
     rcases hx with (hx|hx)|hx
     ·exact big4_bys _ x hx
     ·exact big4_bys _ x hx
     ·simp at hx;rcases hx with rfl|rfl|rfl<;>omega
    refine c21 (hs8.is 0 rfl) hhb (by omega) (by decide) fun q9 c9 H9' hs9'=>⟨_,_,_,rfl,?_⟩
    rw[sHDR] at hs9' ⊢
    have hcl:(chuP kHDR (hdrP w (y:Int))).length=25:=by rw[chuP_len];rfl
    rw[hcl] at hs9' ⊢
    have hs9':=hs8.call hs9'
    refine hs9'.alc fun b10 H10 hs10=>?_
    have him:IS H10 (some ⟨b3,0,none⟩) 8 (kints .u8 markP):=hs10.persGet 7 rfl
    have hpb:PB H10 (some ⟨b10,0,none⟩) 2 [markP,chuP kHDR (hdrP w (y:Int))]:=pb_blk (vs:=[(some ⟨b3,0,none⟩,8,8),(q9,25,c9)]) (hs10.block 0 rfl) ⟨him,hs10.is 1 rfl,trivial⟩
    have hfl:([markP,chuP kHDR (hdrP w (y:Int))]:List (List Int)).flatten=markP++chuP kHDR (hdrP w (y:Int)):=by simp
    have h33:(markP++chuP kHDR (hdrP w (y:Int))).length=33:=by rw[List.length_append,hcl];rfl
    refine c20 hpb (by omega) (by rw[hfl,h33];omega) fun q11 c11 H11 hs11=>⟨_,_,_,rfl,?_⟩
    rw[hfl,h33] at hs11 ⊢
    have hs11:=hs10.call hs11
    have hs11:=(hs11.front 9 rfl).take 2
    refine hs11.alc fun b12 H12 hs12=>hs12.put 0 rfl (by decide) rfl fun H13 hs13=>?_
    refine c23 (by omega) fun ba bn H14 hs14=>⟨_,_,_,rfl,?_⟩
    have hs14:=hs13.call hs14
    refine hs14.alcO fun D H15 x15 hs15=>?_
    intro lo hlo
    refine hs15.alcO fun L H16 x16 hs16=>?_
    intro hy
    obtain⟨az,haz⟩:=hs16.slSome 5 rfl (j:=0) (by rw[kints_len];omega)
    let pre:=markP++chuP kHDR (hdrP w (y:Int))
    let I:Nat→Heap→Prop:=fun i H'=> ∃q c',St H H' [.obj L (lo .ready none),.obj D (.deferred (some [])),.cell bn #[.int .i64 (n:Nat)] 3,.cell ba #[.slice zq z.length zc] 22,.cell b12 #[.slice q (pre++bodP n z i).length c'] 22,.sl zq z.length zc 5 1 (kints .u8 z),.sl q (pre++bodP n z i).length c' 5 1 (kints .u8 (pre++bodP n z i))]
    have hI0:I 0 H16:=by
     refine⟨q11,c11,?_⟩
     have e0:pre++bodP n z 0=markP++chuP kHDR (hdrP w (y:Int)):=by simp[pre,bodP]
     rw[e0,h33]
     exact hs16
    have hlen: ∀i,(i=0∨(i-1)*n<z.length)→(pre++bodP n z i).length≤14000033∧i≤1000000:=fun i hi=>by
     have h1:=bodP_total (n:=n) (z:=z) hi
     have h2:=m_le hn1 hi
     have:pre.length=33:=h33
     rw[List.length_append]
     omega
    refine(c40 (L:=L) (p:=zq) (c:=zc) hn1 hn2 (by omega) ((hs16.fs 5 rfl).le) (I:=I) (J:=fun _=>False) hI0 ?_ ?_ ?_ (fun _ h=>h.elim)).body Tryz.cal40
    ·rintro i H' ⟨q,c',hs⟩
     exact⟨cell_get (hs.block 3 rfl) rfl,cell_get (hs.block 2 rfl) rfl⟩
    ·rintro i H' hlt ⟨q,c',hs⟩
     obtain⟨hl1,hl2⟩:=hlen (i+1) (.inr (by rw[Nat.add_sub_cancel];exact hlt))
     rw[bodP,←List.append_assoc,List.length_append,chuP_len,show kDAT.length=4 from rfl] at hl1
     have hcl:(cutP n z i).length=min n (z.length-i*n):=by unfold cutP;simp
     have hcb:Bys (cutP n z i):=fun x hx=>hzr x (List.mem_of_mem_drop (List.mem_of_mem_take hx))
     refine hy _ _ _ H' _ (hs.getO 0 rfl) ⟨hs.getO 0 rfl,hs.stoO 0 rfl fun H17 hs17=>⟨q,_,c',cell_get (hs17.block 4 rfl) rfl,?_⟩⟩
     have hisz:IS H17 (Option.map (fun x=>Addr.add x (i*n)) zq) (min n (z.length-i*n)) (kints .u8 (cutP n z i)):=by
      have h1:=hs17.is 5 rfl
      rw[haz] at h1 ⊢
      have h2:=h1.part (i:=i*n) (n:=min n (z.length-i*n)) (by omega)
      have e:((kints .u8 z).drop (i*n)).take (min n (z.length-i*n))=kints .u8 (cutP n z i):=by
       unfold cutP kints
       rw[List.map_take,List.map_drop]
       refine List.take_eq_take_iff.2 ?_
       simp
      rw[e] at h2
      exact h2
     refine c21 hisz hcb (by omega) (by decide) fun q18 c18 H18 hs18=>⟨_,_,_,rfl,.inl hs18.ext,?_⟩
     rw[sDAT] at hs18 ⊢
     have hs18:=hs17.call hs18
     rw[chuP_len,show kDAT.length=4 from rfl] at hs18 ⊢
     refine hs18.appI 7 rfl (hs18.is 0 rfl) (kints_one _ _) rfl (by omega) (by omega) fun q19 c19 H19 hs19=>?_
     rw[←kints_append] at hs19
     refine hs19.put 5 rfl (by simp) rfl fun H20 hs20=>?_
     refine⟨hs20.getO 1 rfl,hs20.stoO 1 rfl fun H21 hs21=>⟨true,rfl,fun _=>⟨q19,c19,?_⟩,fun h=>by cases h⟩⟩
     have hs21:=hs21.tail
     have e:pre++bodP n z (i+1)=pre++bodP n z i++chuP kDAT (cutP n z i):=by rw[bodP];simp only[List.append_assoc]
     have e2:(pre++bodP n z (i+1)).length=(pre++bodP n z i).length+(4+(cutP n z i).length+8):=by rw[e,List.length_append,chuP_len];rfl
     rw[e2,e]
     exact hs21
    ·rintro i H' hge hii ⟨q,c',hs⟩
     obtain⟨hl1,hl2⟩:=hlen i hii
     refine .inl ⟨.ready,(fun h=>by cases h),hs.getO 0 rfl,hs.stoO 0 rfl fun H17 hs17=>⟨q,_,c',cell_get (hs17.block 4 rfl) rfl,?_⟩⟩
     refine c21 (xs:=[]) (p:=none) (l:=0) (c:=0) ⟨rfl,fun i v hv=>by simp[kints] at hv⟩ (fun x hx=>by cases hx) (by omega) (by decide) fun q18 c18 H18 hs18=>⟨_,_,_,rfl,.inl hs18.ext,?_⟩
     rw[sEND] at hs18 ⊢
     have hs18:=hs17.call hs18
     have h12:(chuP kEND []).length=12:=rfl
     rw[h12] at hs18 ⊢
     refine hs18.appI 7 rfl (hs18.is 0 rfl) (kints_one _ _) rfl (by omega) (by omega) fun q19 c19 H19 hs19=>?_
     rw[←kints_append] at hs19
     refine⟨hs19.getO 2 rfl,hs19.stoO 2 rfl fun H20 hs20=>?_⟩
     have hs20:=(hs20.front 7 rfl).take 1
     have e:encP w (y:Int) z n i=pre++bodP n z i++chuP kEND []:=by simp[encP,pre]
     have e2:(encP w (y:Int) z n i).length=(pre++bodP n z i).length+12:=by rw[e,List.length_append,h12]
     have hR:=hR i n q19 c19 H20 ok rfl hn hge hii
     rw[e2,e] at hR
     exact hR hs20
   refine br_dec (fun hp=>?_) (fun hp=>?_)
   ·have:=fin z.length (by rw[if_pos hp])
    exact this
   ·have:=fin part.toNat (by rw[if_neg hp])
    rw[show((part.toNat:Nat):Int)=part from by omega] at this
    exact this
 have:=lines 0 (Nat.zero_le _) H9 none 0 (some ⟨b8,0,none⟩) w4 ((hs9.nilSl 5 1).swap) (.inl ⟨rfl,rfl⟩)
 exact this
end Go.Proofs
namespace Go.Proofs
open Go.Sh
open Go.IntKind (wrap)
variable {H0 H:Heap} {σ:List Rs} {R:Value→Heap→Prop}
def rowP(w4:Nat)(lines:List Int):Nat→Option (List Int×List Int)
 |0=>some ([],List.replicate w4 0)
 |y+1=>match rowP w4 lines y with
  |none=>none
  |some (out,ab)=>if lines.getD (y*(w4+1)) 0>4 then none else some (out++unfP (lines.getD (y*(w4+1)) 0) ((lines.drop (y*(w4+1)+1)).take w4) ab,unfP (lines.getD (y*(w4+1)) 0) ((lines.drop (y*(w4+1)+1)).take w4) ab)
def pixP(w h:Int)(z:List Int):Option (Int×Int×List Int):=
 if SzP w h then match unzM z (h*(4*w+1)) with
  | .error _=>none
  | .ok lines=>if (lines.length:Int)=h*(4*w+1) then(rowP (4*w).toNat lines h.toNat).map fun x=>(w,h,x.1) else none
 else none
def decP(B:List Int):Option (Int×Int×List Int):=
 if B.length<8∨B.take 8≠markP then none else match prtP (B.drop 8) with
  |none=>none
  |some (hd,z)=>pixP (num4 hd) (num4 (hd.drop 4)) z
theorem rowP_none{w4:Nat}{lines:List Int}{i:Nat}(h:rowP w4 lines i=none): ∀j,i≤j→rowP w4 lines j=none:=by
 intro j hj
 induction j with
 |zero=>
  have:i=0:=by omega
  subst this;exact h
 |succ j ih=>
  rcases Nat.eq_or_lt_of_le hj with he|hlt
  ·rw[←he];exact h
  ·rw[rowP,ih (by omega)]
theorem rowP_len{w4 h:Nat}{lines:List Int}(hl:lines.length=h*(w4+1)): ∀{y:Nat} {o a:List Int},y≤h→rowP w4 lines y=some (o,a)→o.length=y*w4∧a.length=w4∧Bys o∧Bys a
 |0,o,a,_,he=>by
  cases he
  exact⟨by simp,by simp,fun x hx=>(by cases hx),fun x hx=>by rw[(List.mem_replicate.1 hx).2];exact⟨by decide,by decide⟩⟩
 |y+1,o,a,hy,he=>by
  rw[rowP] at he
  split at he
  ·cases he
  ·rename_i o' a' hr
   obtain⟨h1,h2,h3,h4⟩:=rowP_len hl (y:=y) (by omega) hr
   split at he
   ·cases he
   ·cases he
    have hb:(y+1)*(w4+1)≤h*(w4+1):=Nat.mul_le_mul_right _ hy
    rw[Nat.add_mul,Nat.one_mul] at hb
    have e:(unfP (lines.getD (y*(w4+1)) 0) ((lines.drop (y*(w4+1)+1)).take w4) a').length=w4:=by rw[unfP_len];simp;omega
    refine⟨by rw[List.length_append,h1,e,Nat.add_mul,Nat.one_mul],e,fun x hx=>?_,unfP_bys _ _ _⟩
    rcases List.mem_append.1 hx with hx|hx
    ·exact h3 x hx
    ·exact unfP_bys _ _ _ x hx
set_option maxHeartbeats 4000000 in
theorem c12{p:Option Addr}{l c:Nat}{B:List Int}(hB:IS H p l (kints .u8 B))(hlc:l≤c)(hx:Bys B)(hl:l≤10000000)
 (hno:decP B=none→ ∀H',Ext H H'→R (.tuple #[.int .i64 0,.int .i64 0,.slice none 0 0,.int .i64 50]) H')
 (hok: ∀w h out,decP B=some (w,h,out)→ ∀q c' H',St H H' [.sl q out.length c' 5 1 (kints .u8 out)]→R (.tuple #[.int .i64 w,.int .i64 h,.slice q out.length c',.int .i64 0]) H'):
 CallsH Tryz.prog 12 #[.slice p l c] H R:=by
 have hBl:=hB.length
 refine Tryz.s12 ?_
 unfold Tryz.S12
 refine(St.nil H).alc fun b2 H3 hs3=>hs3.alc fun b4 H5 hs5=>hs5.alc fun b6 H7 hs7=>hs7.alc fun b8 H9 hs9=>?_
 unfold decP at hok
 have fail:decP B=none→ ∀{v8 v6 v4 v2:Value} {H':Heap},St H H' [.cell b8 #[v8] 25,.cell b6 #[v6] 22,.cell b4 #[v4] 3,.cell b2 #[v2] 3]→
  stAt H' ⟨b2,0,none⟩ [.int .i64 0] fun H17=>stAt H17 ⟨b4,0,none⟩ [.int .i64 0] fun H18=>stAt H18 ⟨b6,0,none⟩ [.slice none 0 0] fun H19=>stAt H19 ⟨b8,0,none⟩ [.int .i64 50] fun H20=> ∃re21,cell H20 ⟨b2,0,none⟩=some (.int .i64 re21)∧ ∃re22,cell H20 ⟨b4,0,none⟩=some (.int .i64 re22)∧ ∃re23p re23l re23c,cell H20 ⟨b6,0,none⟩=some (.slice re23p re23l re23c)∧ ∃re24,cell H20 ⟨b8,0,none⟩=some (.int .i64 re24)∧R (.tuple #[.int .i64 re21,.int .i64 re22,.slice re23p re23l re23c,.int .i64 re24]) H20:=fun hd v8 v6 v4 v2 H' hs=>
  hs.put 3 rfl (by simp) rfl fun H1 hs=>hs.put 2 rfl (by simp) rfl fun H2 hs=>hs.put 1 rfl (by simp) rfl fun H3 hs=>hs.put 0 rfl (by simp) rfl fun H4 hs=>
   ⟨0,cell_get (hs.block 3 rfl) rfl,0,cell_get (hs.block 2 rfl) rfl,none,0,0,cell_get (hs.block 1 rfl) rfl,50,cell_get (hs.block 0 rfl) rfl,hno hd H4 hs.ext⟩
 unfold decP at fail hno
 intro J hJ
 have main:8≤l→B.take 8=markP→J [] H9:=fun h8 hmk=>by
  rw[if_neg (by rintro(h|h);omega;exact h hmk)] at fail hok hno
  refine hJ H9 (c27 (hB.ext hs9.ext) hlc hx h8 hl (fun hp H13 hp' hl' hc' zp zl zc e13=>⟨_,_,_,_,_,_,_,rfl,?_⟩) (fun hd z hp hq hc' zq zc H13 hdi hdc hdb hzb hzl hs13=>⟨_,_,_,_,_,_,_,rfl,br_f rfl ?_⟩))
  ·exact br_t rfl (fail (by rw[hp]) (hs9.step e13))
  rw[hp] at fail hok hno
  simp only at fail hok hno
  have hdi:=hdi.ext hs13.ext
  have hs13:=hs9.call hs13
  refine⟨by decide,by omega,?_⟩
  have hdl:=hdi.length
  have hd4:=hdi.cut hdc (i:=4) (j:=13) (by omega) (by omega)
  rw[List.take_of_length_le (by rw[List.length_drop];omega)] at hd4
  refine c28 hdi hdb (by omega) ⟨_,rfl,c28 hd4 (hdb.drop 4) (by omega) ⟨_,rfl,?_⟩⟩
  generalize num4 hd=w at fail hok hno ⊢
  generalize num4 (hd.drop 4)=h at fail hok hno ⊢
  refine hs13.put 4 rfl (by simp) rfl fun H31 hs31=>hs31.put 3 rfl (by simp) rfl fun H32 hs32=>⟨w,cell_get (hs32.block 4 rfl) rfl,h,cell_get (hs32.block 3 rfl) rfl,?_⟩
  refine c17 ⟨_,rfl,br_not (fun hn=>fail (by rw[pixP,if_neg (of_decide_eq_false hn)]) hs32.tail) (fun hsz=>?_)⟩
  have hsz:=of_decide_eq_true hsz
  have hsz2:=hsz
  obtain⟨hw1,hh1,hw2,hh2,hwh⟩:=hsz2
  rw[pixP,if_pos hsz] at fail hok hno
  refine⟨h,cell_get (hs32.block 3 rfl) rfl,w,cell_get (hs32.block 4 rfl) rfl,?_⟩
  -- the numbers
  obtain⟨w4,hw4⟩: ∃w4:Nat,(4*w).toNat=w4:=⟨_,rfl⟩
  obtain⟨hN,hhN⟩: ∃hN:Nat,h=hN:=⟨h.toNat,by omega⟩
  subst hhN
  have hw4':4*w=(w4:Int):=by omega
  rw[hw4,Int.toNat_natCast,hw4'] at fail hok hno
  have hmul:(hN:Int)*((w4:Int)+1)=((hN*(w4+1):Nat):Int):=by simp
  have hwl:hN*w4≤16777216:=by
   have e:(4*w)*(hN:Int)=4*(w*(hN:Int)):=Int.mul_assoc 4 w _
   rw[hw4',←Int.natCast_mul,Nat.mul_comm] at e
   omega
  have hnl:hN*(w4+1)≤16809984:=by rw[Nat.mul_add,Nat.mul_one];omega
  have W4:wrap .i64 (4*w)=(w4:Int):=by rw[wrap_id (by omega) (by omega)];omega
  have W5:wrap .i64 (wrap .i64 (4*w)+1)=((w4+1:Nat):Int):=by rw[W4,wrap_id (by omega) (by omega)];omega
  have W6:wrap .i64 ((hN:Int)*wrap .i64 (wrap .i64 (4*w)+1))=((hN*(w4+1):Nat):Int):=by
   rw[W5,←Int.natCast_mul,wrap_id (by omega) (by omega)]
  rw[W6]
  rw[hmul] at fail hok hno
  refine c29 (hs32.is 0 rfl) hzb ((hs32.fs 0 rfl).le) (by omega) (by omega) (fun k hk hu H49 e49=>⟨_,_,_,_,rfl,?_⟩) (fun lines hu H49 lq lc hlb hs49=>⟨_,_,_,_,rfl,?_⟩)
  ·have hs49:=hs32.step e49
   refine hs49.put 1 rfl (by simp) rfl fun H52 hs52=>?_
   intro J2 hJ2
   exact⟨k,cell_get (hs52.block 1 rfl) rfl,br_t (by simpa using hk) (fail (by rw[hu]) hs52.tail)⟩
  have hlb:Bys lines:=hlb
  have hs49:=hs32.call hs49
  refine hs49.put 2 rfl (by simp) rfl fun H52 hs52=>?_
  have hs52:=hs52.del 1
  rw[hu] at fail hok hno
  simp only at fail hok hno
  intro J2 hJ2
  refine⟨0,cell_get (hs52.block 1 rfl) rfl,br_f rfl ⟨hN,cell_get (hs52.block 3 rfl) rfl,w,cell_get (hs52.block 4 rfl) rfl,?_⟩⟩
  rw[W6]
  refine br_ne (fun hne=>fail (by rw[if_neg hne]) hs52.tail) (fun hel=>?_)
  rw[if_pos hel] at fail hok hno
  have hel:lines.length=hN*(w4+1):=by omega
  refine hJ2 H52 ⟨w,cell_get (hs52.block 4 rfl) rfl,?_⟩
  rw[W4,Int.toNat_natCast]
  refine⟨by omega,by omega,by omega,by omega,?_⟩
  have hs52:=(hs52.nilSl 5 1).perm (List.perm_append_comm (l₁:=[_]) (l₂:=[_,_,_,_,_]))
  refine hs52.alc fun b56 H57 hs57=>?_
  have e57:(List.toArray (reps w4 (Array.toList #[Value.int .u8 0]))).toList=kints .u8 (List.replicate w4 0):=by simp[reps_rep,kints]
  have hs57:=hs57.toSl 0 rfl (l:=w4) (k:=1) (by simp[reps_rep]) e57 (kints_one _ _)
  refine hs57.alc fun b58 H59 hs59=>hs59.put 0 rfl (by simp) rfl fun H60 hs60=>⟨w,cell_get (hs60.block 6 rfl) rfl,?_⟩
  rw[W5]
  refine c23 (by omega) fun ba bn H63 hs63=>⟨_,_,_,rfl,?_⟩
  have hs63:=hs60.call hs63
  refine hs63.alcO fun D H66 x66 hs66=>?_
  intro lo hlo
  refine hs66.alcO fun L H69 x69 hs69=>?_
  have hs69:=hs69.front 5 rfl
  intro hy
  let I:Nat→Heap→Prop:=fun i H'=> ∃out ab qo co qa ca,rowP w4 lines i=some (out,ab)∧i≤hN∧St H H' [.sl qa w4 ca 5 1 (kints .u8 ab),.obj L (lo .ready none),.obj D (.deferred (some [])),.cell bn #[.int .i64 ((w4+1:Nat):Int)] 3,.cell ba #[.slice lq lines.length lc] 22,.cell b58 #[.slice qa w4 ca] 22,
   .sl lq lines.length lc 5 1 (kints .u8 lines),.cell b8 #[.int .i64 0] 25,.cell b6 #[.slice qo out.length co] 22,.cell b4 #[.int .i64 hN] 3,.cell b2 #[.int .i64 w] 3,.sl qo out.length co 5 1 (kints .u8 out)]
  let J3:Heap→Prop:=fun H'=>rowP w4 lines hN=none∧ ∃τ,St H H' (.obj L (lo .done (some .ret)):: .obj D (.deferred (some [])):: .cell b8 #[.int .i64 50] 25:: .cell b6 #[.slice none 0 0] 22:: .cell b4 #[.int .i64 0] 3:: .cell b2 #[.int .i64 0] 3::τ)
  have hI0:I 0 H69:=⟨[],List.replicate w4 0,none,0,some ⟨b56,0,none⟩,w4,rfl,Nat.zero_le _,hs69⟩
  have hbnd: ∀{i o a},i≤hN→rowP w4 lines i=some (o,a)→o.length≤16777216:=fun{i o a} hi hr=>by
   have h1:=(rowP_len hel hi hr).1
   have h2:i*w4≤hN*w4:=Nat.mul_le_mul_right _ hi
   omega
  refine(c40 (L:=L) (p:=lq) (c:=lc) (l:=lines.length) (n:=w4+1) (by omega) (by omega) (by omega) ((hs69.fs 6 rfl).le) (I:=I) (J:=J3) hI0 ?_ ?_ ?_ ?_).body Tryz.cal40
  ·rintro i H' ⟨out,ab,qo,co,qa,ca,_,_,hs⟩
   exact⟨cell_get (hs.block 4 rfl) rfl,cell_get (hs.block 3 rfl) rfl⟩
  ·rintro i H' hlt ⟨out,ab,qo,co,qa,ca,hrow,hiN,hs⟩
   obtain⟨rl1,rl2,rb1,rb2⟩:=rowP_len hel hiN hrow
   rw[hel] at hlt
   have hiN':i<hN:=Nat.lt_of_mul_lt_mul_right hlt
   have hfull:(i+1)*(w4+1)≤hN*(w4+1):=Nat.mul_le_mul_right _ hiN'
   rw[Nat.add_mul,Nat.one_mul] at hfull
   rw[show min (w4+1) (lines.length-i*(w4+1))=w4+1 from by rw[hel];omega]
   refine hy _ _ _ H' _ (hs.getO 1 rfl) ⟨hs.getO 1 rfl,hs.stoO 1 rfl fun H78 hs78=>?_⟩
   have hlen1:(cutP (w4+1) lines i).length=w4+1:=by unfold cutP;simp;omega
   have hch:IS H78 (Option.map (fun x=>Addr.add x (i*(w4+1))) lq) (w4+1) (kints .u8 (cutP (w4+1) lines i)):=by
    have h1:=hs78.is 6 rfl
    obtain⟨az,haz⟩:=hs78.slSome 6 rfl (j:=0) (by rw[kints_len];omega)
    rw[haz] at h1 ⊢
    have h2:=h1.part (i:=i*(w4+1)) (n:=w4+1) (by omega)
    simpa[kints,cutP,List.map_drop,List.map_take] using h2
   have hcb:Bys (cutP (w4+1) lines i):=fun x hx'=>hlb x (List.mem_of_mem_drop (List.mem_of_mem_take hx'))
   have e0:(cutP (w4+1) lines i).getD 0 0=lines.getD (i*(w4+1)) 0:=by
    unfold cutP
    simp only[List.getD_eq_getElem?_getD]
    rw[List.getElem?_take_of_lt (by omega),List.getElem?_drop,Nat.add_zero]
   have g0:=get_gD (cutP (w4+1) lines i) 0 (i:=0) (by omega)
   rw[e0] at g0
   have hk0:=hlb.getD (i*(w4+1))
   refine hch.rd (i:=0) (by omega) (by omega) g0 (br_dec (fun hbig=>?_) (fun hsm=>?_))
   ·refine hs78.put 10 rfl (by simp) rfl fun H1 hs1=>hs1.put 9 rfl (by simp) rfl fun H2 hs2=>hs2.put 8 rfl (by simp) rfl fun H3 hs3=>hs3.put 7 rfl (by simp) rfl fun H4 hs4=>⟨hs4.getO 1 rfl,hs4.stoO 1 rfl fun H5 hs5=>⟨false,rfl,fun h=>(by cases h),fun _=>⟨?_,[.sl qo out.length co 5 1 (kints .u8 out)],?_⟩⟩⟩
    ·refine rowP_none (i:=i+1) ?_ hN hiN'
     rw[rowP,hrow]
     simp only
     rw[if_pos hbig]
    ·exact(((hs5.tail.del 2).del 2).del 2).del 2
   ·have hcut1:=hch.cut (c:=w4+1) (Nat.le_refl _) (i:=1) (j:=w4+1) (by omega) (Nat.le_refl _)
    have e1:((cutP (w4+1) lines i).drop 1).take (w4+1-1)=(lines.drop (i*(w4+1)+1)).take w4:=by
     unfold cutP
     rw[Nat.add_sub_cancel,List.drop_take,List.drop_drop,List.take_take,Nat.add_sub_cancel,Nat.min_self]
    rw[e1] at hcut1
    have hul:=unfP_len (lines.getD (i*(w4+1)) 0) ((lines.drop (i*(w4+1)+1)).take w4) ab
    have htl:((lines.drop (i*(w4+1)+1)).take w4).length=w4:=by simp;omega
    have hob:=hbnd hiN hrow
    refine hch.rd (i:=0) (by omega) (by omega) g0 ⟨by decide,by omega,qa,w4,ca,cell_get (hs78.block 5 rfl) rfl,?_⟩
    rw[w8 hk0]
    refine c30 hcut1 (hs78.is 0 rfl) ((hlb.drop _).take _) rb2 (by omega) (fun hn=>absurd ⟨hk0.1,by omega,by omega⟩ hn) fun _ q' m' H90 hs90=>⟨_,_,_,rfl,?_⟩
    rw[show w4+1-Int.toNat 1=w4 from Nat.add_sub_cancel _ _] at hs90 ⊢
    have hs90:=hs78.call hs90
    generalize hrr:unfP (lines.getD (i*(w4+1)) 0) ((lines.drop (i*(w4+1)+1)).take w4) ab=rr at*
    refine hs90.put 6 rfl (by simp) rfl fun H92 hs92=>⟨qo,_,co,cell_get (hs92.block 9 rfl) rfl,q',w4,m',cell_get (hs92.block 6 rfl) rfl,?_⟩
    refine hs92.appI 12 rfl (hs92.is 0 rfl) (kints_one _ _) rfl (by omega) (by omega) fun q19 c19 H96 hs96=>?_
    rw[←kints_append] at hs96
    refine hs96.put 9 rfl (by simp) rfl fun H97 hs97=>⟨hs97.getO 2 rfl,hs97.stoO 2 rfl fun H98 hs98=>⟨true,rfl,fun _=>⟨out++rr,rr,q19,c19,q',m',?_,hiN',?_⟩,fun h=>by cases h⟩⟩
    ·rw[rowP,hrow]
     simp only
     rw[if_neg hsm,hrr]
    ·have el:(out++rr).length=out.length+w4:=by rw[List.length_append,hul,htl]
     rw[el]
     exact hs98.del 1
  ·rintro i H' hge hii ⟨out,ab,qo,co,qa,ca,hrow,hiN,hs⟩
   rw[hel] at hge
   have hiN':i=hN:=by
    have:=Nat.le_of_mul_le_mul_right hge (show 0<w4+1 by omega)
    omega
   subst hiN'
   refine .inl ⟨.ready,(fun h=>by cases h),hs.getO 1 rfl,hs.stoO 1 rfl fun H75 hs75=>⟨w,cell_get (hs75.block 10 rfl) rfl,(i:Int),cell_get (hs75.block 9 rfl) rfl,qo,_,co,cell_get (hs75.block 8 rfl) rfl,?_⟩⟩
   refine hs75.put 10 rfl (by simp) rfl fun H1 hs1=>⟨.inr ⟨⟨qo,_,co,cell_get (hs1.block 8 rfl) rfl,rfl⟩,⟨(i:Int),cell_get (hs1.block 9 rfl) rfl,rfl⟩⟩,?_⟩
   refine hs1.put 9 rfl (by simp) rfl fun H2 hs2=>⟨.inr ⟨qo,_,co,cell_get (hs2.block 8 rfl) rfl,rfl⟩,?_⟩
   refine hs2.put 8 rfl (by simp) rfl fun H3 hs3=>hs3.put 7 rfl (by simp) rfl fun H4 hs4=>⟨hs4.getO 2 rfl,hs4.stoO 2 rfl fun H5 hs5=>?_⟩
   refine⟨w,cell_get (hs5.block 10 rfl) rfl,(i:Int),cell_get (hs5.block 9 rfl) rfl,qo,_,co,cell_get (hs5.block 8 rfl) rfl,0,cell_get (hs5.block 7 rfl) rfl,?_⟩
   exact hok w i out (by rw[hrow];rfl) qo co H5 ((hs5.front 11 rfl).take 1)
  ·rintro H' ⟨hn,τ,hs⟩
   refine .inr ⟨hs.getO 0 rfl,hs.stoO 0 rfl fun H76 hs76=>⟨hs76.getO 1 rfl,hs76.stoO 1 rfl fun H77 hs77=>?_⟩⟩
   exact⟨0,cell_get (hs77.block 5 rfl) rfl,0,cell_get (hs77.block 4 rfl) rfl,none,0,0,cell_get (hs77.block 3 rfl) rfl,50,cell_get (hs77.block 2 rfl) rfl,hno (by rw[hn];rfl) H77 hs77.ext⟩
 have hcut:=hB.cut hlc (i:=0) (j:=8)
 refine br_dec (fun hlt=>fail (by rw[if_pos (.inl (by omega))]) hs9) (fun hge=>?_)
 have hcut:=hcut (by omega) (by omega)
 rw[List.drop_zero] at hcut
 refine⟨by decide,by omega,B.take 8,is_bsOf (hcut.ext hs9.ext),?_⟩
 have tM:textOf markP=ByteArray.mk #[137,80,78,71,13,10,26,10]:=by rw[tx_eq];rfl
 rw[←tM,tx_beq (hx.take 8) (by unfold markP;decide)]
 refine br_not (fun hn=>fail (by rw[if_pos (.inr (of_decide_eq_false hn))]) hs9) (fun hy=>main (by omega) (of_decide_eq_true hy))
end Go.Proofs
namespace Go.Proofs
open Go.Sh
theorem num4_app{s:Int}(h:0≤s∧s<4294967296)(X:List Int):num4 (big4 s++X)=s:=by
 have:num4 (big4 s++X)=num4 (big4 s):=rfl
 rw[this,big4_num h]
theorem big4_len(s:Int):(big4 s).length=4:=rfl
theorem nxt_chu{k d X:List Int}(hk:k.length=4)(hl: ∀x∈k,letP x)(hkb:Bys k)(hdb:Bys d)(hd:d.length<2147483648):nxtP (chuP k d++X)=some (k,d,X):=by
 have e:chuP k d++X=big4 d.length++(k++(d++(big4 (crcS (k++d):Nat)++X))):=by simp[chuP]
 have hc:=crcS_lt (l:=k++d) fun x hx=>(List.mem_append.1 hx).elim (hkb x) (hdb x)
 have hlen:(chuP k d++X).length=d.length+X.length+12:=by rw[List.length_append,chuP_len];omega
 have n0:num4 (chuP k d++X)=d.length:=by rw[e,num4_app (by omega)]
 have d4:(chuP k d++X).drop 4=k++(d++(big4 (crcS (k++d):Nat)++X)):=by rw[e];rfl
 have d8:(chuP k d++X).drop 8=d++(big4 (crcS (k++d):Nat)++X):=by
  rw[show 8=4+4 from rfl,←List.drop_drop,d4,←hk,List.drop_left]
 have k4:((chuP k d++X).drop 4).take 4=k:=by rw[d4,←hk,List.take_left]
 have dd:((chuP k d++X).drop 8).take d.length=d:=by rw[d8,List.take_left]
 have d8n:(chuP k d++X).drop (8+d.length)=big4 (crcS (k++d):Nat)++X:=by rw[←List.drop_drop,d8,List.drop_left]
 have d12:(chuP k d++X).drop (12+d.length)=X:=by
  rw[show 12+d.length=(8+d.length)+4 from by omega,←List.drop_drop,d8n];rfl
 unfold nxtP
 rw[n0,Int.toNat_natCast,k4,dd,d8n,d12,if_neg (by omega),if_neg (by omega),if_neg (fun⟨x,h1,h2⟩=>h2 (hl x h1)),num4_app (by omega),if_neg (fun h=>h rfl)]
def sufB(n:Nat)(z:List Int):Nat→Nat→List Int
 |_,0=>[]
 |i,j+1=>chuP kDAT (cutP n z i)++sufB n z (i+1) j
theorem bod_suf(n:Nat)(z:List Int): ∀(j i:Nat),bodP n z (i+j)=bodP n z i++sufB n z i j
 |0,i=>by simp[sufB]
 |j+1,i=>by
  rw[show i+(j+1)=(i+1)+j from by omega,bod_suf n z j (i+1),bodP,sufB,List.append_assoc]
theorem lDAT: ∀x∈kDAT,letP x:=by unfold kDAT letP;decide
theorem lEND: ∀x∈kEND,letP x:=by unfold kEND letP;decide
theorem lHDR: ∀x∈kHDR,letP x:=by unfold kHDR letP;decide
theorem cut_take(n:Nat)(z:List Int)(i:Nat):z.take (i*n)++cutP n z i=z.take ((i+1)*n):=by
 unfold cutP
 rw[Nat.add_mul,Nat.one_mul,List.take_add]
theorem cut_bys{z:List Int}(h:Bys z)(n i:Nat):Bys (cutP n z i):=(h.drop _).take _
theorem cut_len(n:Nat)(z:List Int)(i:Nat):(cutP n z i).length≤z.length:=by unfold cutP;simp;omega
theorem frm_suf{n:Nat}{z:List Int}(hz:Bys z)(hzl:z.length<2147483648): ∀(j i f st:Nat),j<f→st<2→(0<st∨0<j)→frmP f st (z.take (i*n)) (nxtP (sufB n z i j++chuP kEND []))=some (z.take ((i+j)*n))
 |0,i,f+1,st,hf,hst,h0=>by
  have e:nxtP (sufB n z i 0++chuP kEND [])=some (kEND,[],[]):=by
   have:=nxt_chu (k:=kEND) (d:=[]) (X:=[]) rfl lEND bEND (fun x hx=>by cases hx) (by decide)
   rw[List.append_nil] at this
   exact this
  rw[e,frmP,if_neg (fun h=>absurd h.1 (by decide)),if_neg (by decide),if_pos ⟨rfl,by omega,rfl,rfl⟩]
  rfl
 |j+1,i,f+1,st,hf,hst,h0=>by
  have e:nxtP (sufB n z i (j+1)++chuP kEND [])=some (kDAT,cutP n z i,sufB n z (i+1) j++chuP kEND []):=by
   rw[sufB,List.append_assoc]
   have:=cut_len n z i
   exact nxt_chu rfl lDAT bDAT (cut_bys hz n i) (by omega)
  rw[e,frmP,if_pos ⟨rfl,hst⟩,cut_take,frm_suf hz hzl j (i+1) f 1 (by omega) (by omega) (.inl (by omega)),show i+1+j=i+(j+1) from by omega]
theorem bod_12(n:Nat)(z:List Int): ∀m,12*m≤(bodP n z m).length
 |0=>by simp
 |m+1=>by
  have:=bod_12 n z m
  rw[bodP,List.length_append,chuP_len,show kDAT.length=4 from rfl];omega
theorem prt_enc{w h:Int}{z:List Int}{n m:Nat}(hz:Bys z)(hzl:z.length<2147483648)(hz0:0<z.length)(hm:z.length≤m*n):prtP (chuP kHDR (hdrP w h)++bodP n z m++chuP kEND [])=some (hdrP w h,z):=by
 have hm0:0<m:=by
  rcases Nat.eq_zero_or_pos m with h|h
  ·subst h;omega
  ·exact h
 have hhb:Bys (hdrP w h):=fun x hx=>by
  unfold hdrP at hx
  simp only[List.mem_append] at hx
  rcases hx with (hx|hx)|hx
  ·exact big4_bys _ x hx
  ·exact big4_bys _ x hx
  ·simp at hx;rcases hx with rfl|rfl|rfl<;>omega
 unfold prtP
 rw[List.append_assoc,nxt_chu rfl lHDR bHDR hhb (by show 13<_;decide)]
 have h1:=bod_12 n z m
 have e:=bod_suf n z m 0
 rw[Nat.zero_add] at e
 have h2:=frm_suf (n:=n) hz hzl m 0 ((bodP n z m++chuP kEND []).length+1) 0 (by rw[List.length_append];omega) (by omega) (.inr hm0)
 rw[Nat.zero_mul,List.take_zero,Nat.zero_add,List.take_of_length_le hm] at h2
 rw[show bodP n z 0=[] from rfl,List.nil_append] at e
 simp only
 rw[if_pos ⟨trivial,rfl,rfl⟩]
 rw[e] at h2 ⊢
 rw[h2]
 rfl
theorem lns_pre(w4:Nat)(rgba:List Int){y:Nat}: ∀{h:Nat},y≤h→ ∃t,lnsP w4 rgba h=lnsP w4 rgba y++t
 |0,hy=>⟨[],by
  have:y=0:=by omega
  subst this;simp⟩
 |h+1,hy=>by
  rcases Nat.eq_or_lt_of_le hy with he|hlt
  ·exact⟨[],by rw[he];simp⟩
  ·obtain⟨t,ht⟩:=lns_pre w4 rgba (y:=y) (h:=h) (by omega)
   rw[lnsP,ht]
   exact⟨_,by rw[List.append_assoc,List.append_assoc]⟩
theorem row_lns{w4 h:Nat}{rgba:List Int}(hb:Bys rgba)(hl:rgba.length=w4*h): ∀y,y≤h→rowP w4 (lnsP w4 rgba h) y=some (rgba.take (w4*y),aboP w4 rgba y)
 |0,_=>by simp[rowP,aboP]
 |y+1,hy=>by
  rw[rowP,row_lns hb hl y (by omega)]
  simp only
  obtain⟨t,ht⟩:=lns_pre w4 rgba (y:=y+1) (h:=h) hy
  have hll:=lnsP_len hl (y:=y) (by omega)
  obtain⟨j,hj,hbst⟩:=bstP_of (linP w4 rgba y) (aboP w4 rgba y) 4
  have hll2:=linP_len hl (show y<h by omega)
  rw[lnsP,hbst] at ht
  simp only at ht
  have g0:(lnsP w4 rgba h).getD (y*(w4+1)) 0=(j:Int):=by
   rw[ht,List.getD_eq_getElem?_getD,List.append_assoc,List.append_assoc,←hll,List.getElem?_append_right (Nat.le_refl _),Nat.sub_self]
   rfl
  have g1:((lnsP w4 rgba h).drop (y*(w4+1)+1)).take w4=filP j (linP w4 rgba y) (aboP w4 rgba y):=by
   rw[ht,←hll,←List.drop_drop,List.append_assoc,List.append_assoc,List.drop_left]
   show(List.take w4 (filP j (linP w4 rgba y) (aboP w4 rgba y)++t))=_
   have:(filP j (linP w4 rgba y) (aboP w4 rgba y)).length=w4:=by rw[filP_len,hll2]
   exact List.take_left' this
  rw[g0,g1,if_neg (by omega),unf_fil (linP_bys hb y)]
  congr 1
  have:w4*(y+1)=w4*y+w4:=by rw[Nat.mul_add,Nat.mul_one]
  rw[this,List.take_add]
  rfl
theorem zip_bys{b B:List Int}(hB: ∀x∈B,0≤x∧x<256):Bys (zipB b B):=fun x hx=>by
 unfold zipB at hx
 rcases List.mem_append.1 hx with hx|hx
 ·rcases List.mem_append.1 hx with hx|hx
  ·simp at hx;rcases hx with rfl|rfl<;>omega
  ·exact hB x hx
 ·exact big4_bys _ x hx
theorem unz_zip{b B:List Int}{eff:Int}(ok:WOk false (defB b eff) B)(hb: ∀x∈b,0≤x∧x<256)(hl:b.length≤100000000):unzM (zipB b B) b.length= .ok b:=by
 have:=frame_ok ok hb hl (big4 (adlS b))
 obtain⟨_,s0,s1⟩:=adlM_eq hb
 rw[zipB,this,if_neg (by rw[big4_len];omega),if_neg (fun h=>h (big4_num ⟨s0,s1⟩)),if_neg (by rw[big4_len];omega)]
theorem dec_enc{w h:Int}{rgba B:List Int}{n m:Nat}(hsz:SzP w h)(hb:Bys rgba)(hl:(rgba.length:Int)=4*w*h)(hrl:rgba.length≤20000)(ok:WOk false (defB (lnsP (4*w).toNat rgba h.toNat) 4) B)
 (hm:(zipB (lnsP (4*w).toNat rgba h.toNat) B).length≤m*n):decP (encP w h (zipB (lnsP (4*w).toNat rgba h.toNat) B) n m)=some (w,h,rgba):=by
 have hsz2:=hsz
 obtain⟨hw1,hh1,hw2,hh2,hwh⟩:=hsz2
 obtain⟨w4,hw4⟩: ∃w4:Nat,(4*w).toNat=w4:=⟨_,rfl⟩
 obtain⟨hN,hhN⟩: ∃hN:Nat,h=hN:=⟨h.toNat,by omega⟩
 subst hhN
 have hw4':4*w=(w4:Int):=by omega
 have hlw:rgba.length=w4*hN:=by
  have:(rgba.length:Int)=((w4*hN:Nat):Int):=by rw[hl,hw4'];simp
  omega
 rw[hw4,Int.toNat_natCast] at ok hm ⊢
 have hll:=lnsP_len hlw (Nat.le_refl hN)
 have hlb:=lnsP_bys (w4:=w4) (rgba:=rgba) hN
 have hh3:hN≤w4*hN:=Nat.le_mul_of_pos_left _ (by omega)
 have hll2:(lnsP w4 rgba hN).length≤40000:=by
  rw[hll,Nat.mul_add,Nat.mul_one,Nat.mul_comm];omega
 have hzl:(zipB (lnsP w4 rgba hN) B).length≤10000000:=by
  have:=ok.nby
  have:=(nby_def (lnsP w4 rgba hN) 4).1
  simp[zipB,big4];omega
 have hz0:0<(zipB (lnsP w4 rgba hN) B).length:=by simp[zipB,big4]
 have hzb:=zip_bys (b:=lnsP w4 rgba hN) ok.rng
 have huz:=unz_zip ok hlb (by omega)
 generalize zipB (lnsP w4 rgba hN) B=z at*
 have e8:(encP w (hN:Int) z n m).drop 8=chuP kHDR (hdrP w (hN:Int))++bodP n z m++chuP kEND []:=by
  unfold encP
  rw[List.append_assoc,List.append_assoc,List.append_assoc]
  rfl
 have t8:(encP w (hN:Int) z n m).take 8=markP:=by
  unfold encP
  rw[List.append_assoc,List.append_assoc]
  rfl
 have l8: ¬(encP w (hN:Int) z n m).length<8:=by
  unfold encP
  simp only[List.length_append,show markP.length=8 from rfl]
  omega
 unfold decP
 rw[if_neg (by rintro(h|h);exact l8 h;exact h t8),e8,prt_enc hzb (by omega) hz0 hm]
 simp only
 have n1:num4 (hdrP w (hN:Int))=w:=by
  unfold hdrP;rw[List.append_assoc];exact num4_app (by omega) _
 have n2:num4 ((hdrP w (hN:Int)).drop 4)=(hN:Int):=by
  show num4 (big4 (hN:Int)++[8,6,0,0,0])=_
  exact num4_app (by omega) _
 rw[n1,n2,pixP,if_pos hsz]
 have hmul:(hN:Int)*(4*w+1)=((lnsP w4 rgba hN).length:Int):=by rw[hll,hw4'];simp
 rw[hmul,huz]
 simp only
 rw[if_pos (by trivial),hw4,Int.toNat_natCast,row_lns hb hlw hN (Nat.le_refl _),List.take_of_length_le (by omega)]
 rfl
end Go.Proofs
namespace Go.Proofs
open Go.Sh
open Go.IntKind (wrap)
variable {H:Heap} {R:Value→Heap→Prop}
theorem c7{w h:Int}(hR:R (.bool (decide (SzP w h))) H):CallsH Tryz.prog 7 #[.int .i64 w,.int .i64 h] H R:=by
 have no: ¬SzP w h→R (.bool false) H:=fun hn=>by rw[decide_eq_false hn] at hR;exact hR
 refine Tryz.s7 (br_dec (fun h1=>br_dec (fun h2=>br_dec (fun h3=>br_dec (fun h4=>?_) (fun h4=>no fun hs=>by unfold SzP at hs;omega)) (fun h3=>no fun hs=>by unfold SzP at hs;omega)) (fun h2=>no fun hs=>by unfold SzP at hs;omega)) (fun h1=>no fun hs=>by unfold SzP at hs;omega))
 have:=mulSz (w:=w) (h:=h) (by omega) (by omega) (by omega) (by omega)
 rw[wrap_id (by omega) (by omega)]
 have e:decide (w*h≤4194304)=decide (SzP w h):=by unfold SzP;congr 1;apply propext;constructor<;>intro hh<;>omega
 rw[e];exact hR
theorem enc_len{w h:Int}{z:List Int}{n m:Nat}(hn:1≤n)(hm:m=0∨(m-1)*n<z.length):(encP w h z n m).length≤13*z.length+45:=by
 have h1:=bodP_total hm
 have h2:=m_le hn hm
 have h3:(chuP kHDR (hdrP w h)).length=25:=by rw[chuP_len];rfl
 have h4:(chuP kEND []).length=12:=rfl
 unfold encP
 simp only[List.length_append,h3,h4,show markP.length=8 from rfl]
 omega
theorem hdr_bys(w h:Int):Bys (hdrP w h):=fun x hx=>by
 unfold hdrP at hx
 simp only[List.mem_append] at hx
 rcases hx with (hx|hx)|hx
 ·exact big4_bys _ x hx
 ·exact big4_bys _ x hx
 ·simp at hx;rcases hx with rfl|rfl|rfl<;>omega
theorem enc_bys{w h:Int}{z:List Int}{n m:Nat}(hz:Bys z):Bys (encP w h z n m):=fun x hx=>by
 unfold encP at hx
 simp only[List.mem_append] at hx
 rcases hx with ((hx|hx)|hx)|hx
 ·have:Bys markP:=by unfold markP Bys;decide
  exact this x hx
 ·exact chuP_bys bHDR (hdr_bys w h) x hx
 ·exact bodP_bys hz m x hx
 ·exact chuP_bys bEND (fun y hy=>by cases hy) x hx
theorem zl_len{w h:Int}{rgba B:List Int}(hsz:SzP w h)(hl:(rgba.length:Int)=4*w*h)(hrl:rgba.length≤4000)(ok:WOk false (defB (lnsP (4*w).toNat rgba h.toNat) 4) B):(zipB (lnsP (4*w).toNat rgba h.toNat) B).length≤100000:=by
 obtain⟨hw1,hh1,hw2,hh2,hwh⟩:=hsz
 obtain⟨w4,hw4⟩: ∃w4:Nat,(4*w).toNat=w4:=⟨_,rfl⟩
 obtain⟨hN,hhN⟩: ∃hN:Nat,h=hN:=⟨h.toNat,by omega⟩
 subst hhN
 have hw4':4*w=(w4:Int):=by omega
 have hlw:rgba.length=w4*hN:=by
  have:(rgba.length:Int)=((w4*hN:Nat):Int):=by rw[hl,hw4'];simp
  omega
 rw[hw4,Int.toNat_natCast] at ok ⊢
 have hll:=lnsP_len hlw (Nat.le_refl hN)
 have hh3:hN≤w4*hN:=Nat.le_mul_of_pos_left _ (by omega)
 have hll2:(lnsP w4 rgba hN).length≤8000:=by
  rw[hll,Nat.mul_add,Nat.mul_one,Nat.mul_comm];omega
 have:=ok.nby
 have:=(nby_def (lnsP w4 rgba hN) 4).1
 simp[zipB,big4];omega
theorem encodeC{p:Option Addr}{l c:Nat}{rgba:List Int}{w h part:Int}(hi:IS H p l (kints .u8 rgba))(hx:Bys rgba)(hl:l≤4000)(hlc:l≤c)(hpart:part≤9223372036854775807)
 (hlim: ¬SzP w h→R (.tuple #[.slice none 0 0,.int .i64 31]) H)(hform:SzP w h→(l:Int)≠4*w*h→R (.tuple #[.slice none 0 0,.int .i64 25]) H)
 (hR:SzP w h→(l:Int)=4*w*h→ ∀(z:List Int) (m n:Nat) q c' H',Bys z→z.length≤100000→0<z.length→1≤n→z.length≤m*n→(m=0∨(m-1)*n<z.length)→(1≤part→(n:Int)=part)→decP (encP w h z n m)=some (w,h,rgba)→
  (encP w h z n m).length≤1400000→St H H' [.sl q (encP w h z n m).length c' 5 1 (kints .u8 (encP w h z n m))]→R (.tuple #[.slice q (encP w h z n m).length c',.int .i64 0]) H'):
 CallsH Tryz.prog 8 #[.int .i64 w,.int .i64 h,.slice p l c,.int .i64 part] H R:=by
 have hrl:=hi.length
 refine c8 hi hx (by omega) hlc hpart hlim hform fun hsz hel B z m n q c' H' ok hz hn hm1 hm2 hs=>?_
 have hzl:=zl_len hsz (by omega) (by omega) ok
 have hzb:=zip_bys (b:=lnsP (4*w).toNat rgba h.toNat) ok.rng
 have hz0:0<(zipB (lnsP (4*w).toNat rgba h.toNat) B).length:=by simp[zipB,big4]
 have hd:=dec_enc (n:=n) (m:=m) hsz hx (by omega) (by omega) ok (hz▸hm1)
 rw[←hz] at hzl hzb hz0 hd
 have hn1:1≤n:=by rw[hn];split<;>omega
 have hel2:=enc_len (w:=w) (h:=h) hn1 hm2
 exact hR hsz hel z m n q c' H' hzb hzl hz0 hn1 hm1 hm2 (fun hp=>by rw[hn,if_neg (by omega)];omega) hd (by omega) hs
theorem decodeE{p:Option Addr}{c:Nat}{B:List Int}(hB:IS H p B.length (kints .u8 B))(hlc:B.length≤c)(hx:Bys B)(hl:B.length≤10000000){w h:Int}{out:List Int}(hd:decP B=some (w,h,out))
 (hR: ∀q c' H',St H H' [.sl q out.length c' 5 1 (kints .u8 out)]→R (.tuple #[.int .i64 w,.int .i64 h,.slice q out.length c',.int .i64 0]) H'):CallsH Tryz.prog 12 #[.slice p B.length c] H R:=
 c12 hB hlc hx hl (fun hn=>by rw[hd] at hn;cases hn) fun w' h' out' hd'=>by rw[hd] at hd';cases hd';exact hR
theorem decodeN{p:Option Addr}{l c:Nat}{B:List Int}(hB:IS H p l (kints .u8 B))(hlc:l≤c)(hx:Bys B)(hl:l≤10000000)(hd:decP B=none)
 (hR: ∀H',Ext H H'→R (.tuple #[.int .i64 0,.int .i64 0,.slice none 0 0,.int .i64 50]) H'):CallsH Tryz.prog 12 #[.slice p l c] H R:=
 c12 hB hlc hx hl (fun _=>hR) fun w' h' out' hd'=>by rw[hd] at hd';cases hd'
theorem c6(hR: ∀H',Ext H H'→R (.bool true) H'):CallsH Tryz.prog 6 #[] H R:=by
 refine Tryz.s6 (_u:=()) ?_
 unfold Tryz.S6
 refine(St.nil H).alc fun b1 H2 hs2=>?_
 have h4:Bys [1,2,3,4]:=by unfold Bys;decide
 have hsz:SzP 1 1:=by unfold SzP;decide
 refine encodeC (rgba:=[1,2,3,4]) (IS.of_block (hs2.block 0 rfl) rfl) h4 (by decide) (by decide) (by decide) (fun hn=>absurd hsz hn) (fun _ hn=>absurd (by decide) hn)
  fun _ _ z m n q c' H4 hzb hzl hz0 hn1 hm1 hm2 _ hd hel hs4=>⟨_,_,_,_,rfl,?_⟩
 have hs4:=hs2.call hs4
 refine decodeE (hs4.is 0 rfl) ((hs4.fs 0 rfl).le) (enc_bys hzb) (by omega) hd fun q2 c2 H8 hs8=>⟨_,_,_,_,_,_,rfl,?_⟩
 have hs8:=hs4.call hs8
 refine decodeN (B:=[]) ⟨rfl,fun i v hv=>by simp[kints] at hv⟩ (Nat.le_refl _) (fun x hx=>by cases hx) (by decide) (by unfold decP;rw[if_pos (.inl (by decide))]) fun H14 e14=>⟨_,_,_,_,_,_,rfl,?_⟩
 have hs14:=hs8.step e14
 refine br_t rfl (br_t rfl (br_t rfl (br_t rfl (hs14.alc fun b19 H20 hs20=>?_))))
 refine c10 (xs:=[1,2,3,4]) (ys:=[1,2,3,4]) (hs20.is 1 rfl) (IS.of_block (hs20.block 0 rfl) rfl) (by decide) ⟨_,rfl,br_t (by decide) (hR H20 hs20.ext)⟩
end Go.Proofs
namespace Go.Proofs
open Go.Sh
variable {H0 H:Heap} {σ:List Rs} {R:Value→Heap→Prop}
theorem reps_one(v:Value): ∀n,reps n [v]=List.replicate n v
 |0=>rfl
 |n+1=>by rw[reps,reps_one v n,List.replicate_succ];rfl
theorem ints_zeros(n:Nat):reps n [Value.int .i64 0]=ints (List.replicate n 0):=by rw[reps_one];simp[ints]
theorem fill_set{L:List Int}{s:Nat}(h:s<L.length):(L.take s++List.replicate (L.length-s) 0).set s (L.getD s 0)=L.take (s+1)++List.replicate (L.length-(s+1)) 0:=by
 rw[take_get h,List.set_append_right _ _ (by rw[List.length_take];omega),List.length_take,Nat.min_eq_left (by omega),Nat.sub_self,show L.length-s=(L.length-(s+1))+1 from by omega,List.replicate_succ,List.set_cons_zero,List.append_assoc]
 rfl
theorem fill_len{L:List Int}{s:Nat}(h:s≤L.length):(L.take s++List.replicate (L.length-s) (0:Int)).length=L.length:=by simp;omega
theorem c95{p:Option Addr}{l c:Nat}{ls:List Int}(h:IS H p l (ints ls))(ok:OkC ls)(hR: ∀b H',St H H' [.sl (some ⟨b,0,none⟩) l l 3 1 (ints (codesM ls))]→R (.agg #[.slice p l c,.slice (some ⟨b,0,none⟩) l l,.int .i64 (wtM ls),.bool true]) H'):
 CallsH Tryz.prog 95 #[.slice p l c] H R:=by
 refine Tryz.s95 ?_
 unfold Tryz.S95
 refine(St.nil H).alc fun b2 H1 hs1=>?_
 refine c115 (h.ext hs1.ext) (fun hn=>absurd ok.w hn) fun _=>⟨_,_,rfl,?_⟩
 refine c116 (h.ext hs1.ext) (fun hn=>absurd ok hn) fun _ H2 b f2 e2=>⟨_,_,_,_,rfl,rfl,?_⟩
 have hs2:=hs1.newSl e2 f2
 refine hs2.putAll 1 rfl (by simp) (by simp[Value.oneCell']) fun H3 hs3=>?_
 exact⟨_,rfl,rowIn_whole (hs3.block 1 rfl),hR b H3 (hs3.take 1)⟩
theorem c65(hR: ∀p q bp bq H',St H H' [.sl (some ⟨bp,0,none⟩) 288 288 3 1 (ints (codesM fixL)),.sl p 288 288 3 1 (ints fixL),.sl (some ⟨bq,0,none⟩) 32 32 3 1 (ints (codesM fixD)),.sl q 32 32 3 1 (ints fixD)]→
 R (.tuple #[.agg #[.slice p 288 288,.slice (some ⟨bp,0,none⟩) 288 288,.int .i64 (wtM fixL),.bool true],.agg #[.slice q 32 32,.slice (some ⟨bq,0,none⟩) 32 32,.int .i64 (wtM fixD),.bool true]]) H'):
 CallsH Tryz.prog 65 #[] H R:=by
 refine Tryz.s65 (_u:=()) ?_
 unfold Tryz.S65
 refine(St.nil H).alc fun b1 H1 hs1=>hs1.alc fun b3 H2 hs2=>⟨by decide,by decide,by decide,by decide,hs2.alc fun b5 H3 hs3=>?_⟩
 have hs3:St H H3 [.sl (some ⟨b5,0,none⟩) 288 288 3 1 (ints (List.replicate 288 0)),.cell b3 _ _,.cell b1 _ _]:=hs3.toSl 0 rfl (by simp[reps_length]) (by show reps 288 [Value.int .i64 0]=_;exact ints_zeros 288) (ints_one _)
 intro X hX
 have two: ∀H4,St H H4 [.sl (some ⟨b5,0,none⟩) 288 288 3 1 (ints fixL),.cell b3 #[Value.slice none 0 0,Value.slice none 0 0,Value.int .i64 0,Value.bool false] 99,.cell b1 #[Value.slice none 0 0,Value.slice none 0 0,Value.int .i64 0,Value.bool false] 99]→X [.int .i64 ((288:Nat):Int)] H4:=fun H4 hs4=>by
  refine hX _ H4 (br_n (by omega) ⟨by decide,by decide,by decide,by decide,hs4.alc fun b22 H5 hs5=>?_⟩)
  have hs5:St H H5 [.sl (some ⟨b22,0,none⟩) 32 32 3 1 (ints (List.replicate 32 0)),.sl (some ⟨b5,0,none⟩) 288 288 3 1 (ints fixL),.cell b3 _ _,.cell b1 _ _]:=hs5.toSl 0 rfl (by simp[reps_length]) (by show reps 32 [Value.int .i64 0]=_;exact ints_zeros 32) (ints_one _)
  intro Y hY
  have go: ∀k,k≤32→ ∀H6,St H H6 [.sl (some ⟨b22,0,none⟩) 32 32 3 1 (ints (fixD.take k++List.replicate (fixD.length-k) 0)),.sl (some ⟨b5,0,none⟩) 288 288 3 1 (ints fixL),.cell b3 #[Value.slice none 0 0,Value.slice none 0 0,Value.int .i64 0,Value.bool false] 99,.cell b1 #[Value.slice none 0 0,Value.slice none 0 0,Value.int .i64 0,Value.bool false] 99]→Y [.int .i64 (k:Nat)] H6:=upto fun k hk ih H6 hs6=>by
   have hDl:=fixD_len
   refine hY _ H6 (br_dec (fun hlt=>?_) (fun hge=>?_))
   ·have hlt:k<32:=by omega
    refine⟨_,rfl,by omega,by omega,?_⟩
    rw[add_none,Nat.zero_add,Int.toNat_natCast,Nat.mul_one,wrap_id (by omega) (by omega)]
    refine hs6.slPut 0 rfl (by rw[ints_len,fill_len (L:=fixD) (s:=k) (by omega)];omega) rfl fun H7 hs7=>ih hlt H7 ?_
    rw[ints_set,←fixD_get ⟨k,hlt⟩,fill_set (L:=fixD) (s:=k) (by omega)] at hs7
    exact hs7
   ·have:k=32:=by omega
    subst this
    rw[List.take_of_length_le (by omega),hDl,Nat.sub_self,List.replicate_zero,List.append_nil] at hs6
    refine c95 (hs6.is 1 rfl) fixL_ok fun bp H7 hs7=>⟨_,rfl,?_⟩
    have hs7:=hs6.call hs7
    refine c95 (hs7.is 1 rfl) fixD_ok fun bq H8 hs8=>⟨_,rfl,rfl,?_⟩
    have hs8:=hs7.call hs8
    refine hs8.putAll 5 rfl (by simp) (by simp[Value.oneCell']) fun H9 hs9=>⟨rfl,?_⟩
    refine hs9.putAll 4 rfl (by simp) (by simp[Value.oneCell']) fun H10 hs10=>?_
    refine⟨_,rfl,rowIn_whole (hs10.block 5 rfl),_,rfl,rowIn_whole (hs10.block 4 rfl),?_⟩
    refine hR _ _ bp bq H10 ?_
    have h4:=hs10.take 4
    exact(h4.front 3 rfl).front 2 rfl
  exact go 0 (by omega) H5 (by rw[List.take_zero,List.nil_append,Nat.sub_zero,fixD_len];exact hs5)
 have go: ∀k,k≤288→ ∀H6,St H H6 [.sl (some ⟨b5,0,none⟩) 288 288 3 1 (ints (fixL.take k++List.replicate (fixL.length-k) 0)),.cell b3 #[Value.slice none 0 0,Value.slice none 0 0,Value.int .i64 0,Value.bool false] 99,.cell b1 #[Value.slice none 0 0,Value.slice none 0 0,Value.int .i64 0,Value.bool false] 99]→X [.int .i64 (k:Nat)] H6:=upto fun k hk ih H6 hs6=>by
  have hLl:=fixL_len
  by_cases hlt:k<288
  ·refine hX _ H6 (br_y (by omega) ⟨_,rfl,by omega,by omega,?_⟩)
   simp only[add_none,Nat.zero_add,Int.toNat_natCast,Nat.mul_one]
   rw[wrap_id (n:=(k:Int)+1) (by omega) (by omega)]
   have hfl:=fill_len (L:=fixL) (s:=k) (by omega)
   obtain⟨k1,k2,k3⟩:=fixK ⟨k,hlt⟩
   simp only at k1 k2 k3
   refine hs6.slPut 0 rfl (by rw[ints_len];omega) rfl fun H7 hs7=>?_
   rw[ints_set] at hs7
   intro J hJ
   have nx1: ∀v H8,(k<256→v=fixL.getD k 0)→St H H8 [.sl (some ⟨b5,0,none⟩) 288 288 3 1 (ints ((fixL.take k++List.replicate (fixL.length-k) 0).set k v)),.cell b3 #[Value.slice none 0 0,Value.slice none 0 0,Value.int .i64 0,Value.bool false] 99,.cell b1 #[Value.slice none 0 0,Value.slice none 0 0,Value.int .i64 0,Value.bool false] 99]→J [] H8:=fun v H8 hv hs8=>by
    refine hJ H8 ?_
    intro J2 hJ2
    have nx2: ∀v H9,(k<280→v=fixL.getD k 0)→St H H9 [.sl (some ⟨b5,0,none⟩) 288 288 3 1 (ints ((fixL.take k++List.replicate (fixL.length-k) 0).set k v)),.cell b3 #[Value.slice none 0 0,Value.slice none 0 0,Value.int .i64 0,Value.bool false] 99,.cell b1 #[Value.slice none 0 0,Value.slice none 0 0,Value.int .i64 0,Value.bool false] 99]→J2 [] H9:=fun v H9 hv hs9=>by
     refine hJ2 H9 (br_dec (fun h280=>⟨_,rfl,by omega,by omega,?_⟩) (fun h280=>?_))
     ·simp only[add_none,Nat.zero_add,Int.toNat_natCast,Nat.mul_one]
      refine hs9.slPut 0 (fs:=ints ((fixL.take k++List.replicate (fixL.length-k) 0).set k v)) rfl (by rw[ints_len,List.length_set];omega) rfl fun H10 hs10=>ih hlt H10 ?_
      rw[ints_set] at hs10
      simp only[List.set_cons_zero,List.set_set] at hs10
      rw[←k3 (by omega) (by omega),fill_set (L:=fixL) (s:=k) (by omega)] at hs10
      exact hs10
     ·refine ih hlt H9 ?_
      rw[hv (by omega),fill_set (L:=fixL) (s:=k) (by omega)] at hs9
      exact hs9
    refine br_dec (fun h256=>⟨_,rfl,by omega,by omega,?_⟩) (fun h256=>nx2 v H8 (fun _=>hv (by omega)) hs8)
    simp only[add_none,Nat.zero_add,Int.toNat_natCast,Nat.mul_one]
    refine hs8.slPut 0 (fs:=ints ((fixL.take k++List.replicate (fixL.length-k) 0).set k v)) rfl (by rw[ints_len,List.length_set];omega) rfl fun H9 hs9=>nx2 7 H9 (fun h=>(k2 (by omega)).symm) ?_
    rw[ints_set] at hs9
    simp only[List.set_cons_zero,List.set_set] at hs9
    exact hs9
   refine br_dec (fun h144=>⟨_,rfl,by omega,by omega,?_⟩) (fun h144=>nx1 8 H7 (fun _=>(k3 (by omega) (by omega)).symm) hs7)
   simp only[add_none,Nat.zero_add,Int.toNat_natCast,Nat.mul_one]
   refine hs7.slPut 0 (fs:=ints ((fixL.take k++List.replicate (fixL.length-k) 0).set k 8)) rfl (by rw[ints_len,List.length_set];omega) rfl fun H8 hs8=>nx1 9 H8 (fun h=>(k1 (by omega)).symm) ?_
   rw[ints_set] at hs8
   simp only[List.set_cons_zero,List.set_set] at hs8
   exact hs8
  ·have:k=288:=by omega
   subst this
   rw[List.take_of_length_le (by omega),hLl,Nat.sub_self,List.replicate_zero,List.append_nil] at hs6
   exact two H6 hs6
 exact go 0 (by omega) H3 (by rw[List.take_zero,List.nil_append,Nat.sub_zero,fixL_len];exact hs3)
theorem extraK: ∀x:Fin 29,(((257+x.val:Nat):Int)<265→(0:Int)=((lenB (257+x.val)).2:Int))∧(¬((257+x.val:Nat):Int)<265→x.val≠28→IntKind.wrap .i64 (Int.tdiv (IntKind.wrap .i64 (((257+x.val:Nat):Int)-261)) 4)=((lenB (257+x.val)).2:Int))∧
 (x.val<27→IntKind.wrap .i64 (((lenB (257+x.val)).1:Int)+shlI .i64 1 ((lenB (257+x.val)).2:Int))=((lenB (257+x.val+1)).1:Int)):=by decide+kernel
theorem farK: ∀x:Fin 30,((x.val:Int)<4→(0:Int)=((dstB x.val).2:Int))∧(¬(x.val:Int)<4→IntKind.wrap .i64 (Int.tdiv (IntKind.wrap .i64 ((x.val:Int)-2)) 2)=((dstB x.val).2:Int))∧
 (x.val<29→IntKind.wrap .i64 (((dstB x.val).1:Int)+shlI .i64 1 ((dstB x.val).2:Int))=((dstB (x.val+1)).1:Int)):=by decide+kernel
theorem c128{s:Nat}(h:257≤s∧s≤284)(hR:R (.int .i64 ((lenB s).2:Nat)) H):CallsH Tryz.prog 128 #[.int .i64 (s:Nat)] H R:=by
 have k:=extraK ⟨s-257,by omega⟩
 simp only[show 257+(s-257)=s from by omega] at k
 obtain⟨k1,k2,_⟩:=k
 refine Tryz.s128 (br_dec (fun h1=>?_) (fun h1=>⟨by decide,?_⟩))
 ·rw[k1 h1];exact hR
 ·rw[k2 h1 (by omega)];exact hR
theorem c119{s:Nat}(h:257≤s∧s≤285)(hR:R (.tuple #[.int .i64 ((lenB s).1:Nat),.int .i64 ((lenB s).2:Nat)]) H):CallsH Tryz.prog 119 #[.int .i64 (s:Nat)] H R:=by
 refine Tryz.s119 (br_eq (fun h1=>?_) (fun h1=>?_))
 ·have:s=285:=by omega
  subst this;exact hR
 intro X hX
 have go: ∀m k,s-k=m→257≤k→k≤s→X [.int .i64 ((lenB k).1:Nat),.int .i64 (k:Nat)] H:=by
  intro m
  induction m with
  |zero=>
   intro k hm h0 hk
   have:k=s:=by omega
   subst this
   exact hX _ _ H (br_n (by omega) (c128 (by omega) ⟨_,rfl,hR⟩))
  |succ m ih=>
   intro k hm h0 hk
   have e:=(extraK ⟨k-257,by omega⟩).2.2 (by simp;omega)
   simp only[show 257+(k-257)=k from by omega] at e
   refine hX _ _ H (br_y (by omega) (c128 (by omega) ⟨_,rfl,by omega,?_⟩))
   rw[e,wrap_id (by omega) (by omega)]
   exact ih (k+1) (by omega) (by omega) (by omega)
 exact go _ 257 rfl (by omega) h.1
theorem c129{s:Nat}(h:s≤29)(hR:R (.int .i64 ((dstB s).2:Nat)) H):CallsH Tryz.prog 129 #[.int .i64 (s:Nat)] H R:=by
 obtain⟨k1,k2,_⟩:=farK ⟨s,by omega⟩
 refine Tryz.s129 (br_dec (fun h1=>?_) (fun h1=>⟨by decide,?_⟩))
 ·rw[k1 h1];exact hR
 ·rw[k2 h1];exact hR
theorem c120{s:Nat}(h:s≤29)(hR:R (.tuple #[.int .i64 ((dstB s).1:Nat),.int .i64 ((dstB s).2:Nat)]) H):CallsH Tryz.prog 120 #[.int .i64 (s:Nat)] H R:=by
 refine Tryz.s120 ?_
 intro X hX
 have go: ∀m k,s-k=m→k≤s→X [.int .i64 ((dstB k).1:Nat),.int .i64 (k:Nat)] H:=by
  intro m
  induction m with
  |zero=>
   intro k hm hk
   have:k=s:=by omega
   subst this
   exact hX _ _ H (br_n (by omega) (c129 (by omega) ⟨_,rfl,hR⟩))
  |succ m ih=>
   intro k hm hk
   have e:=(farK ⟨k,by omega⟩).2.2 (by simp;omega)
   simp only at e
   refine hX _ _ H (br_y (by omega) (c129 (by omega) ⟨_,rfl,by omega,?_⟩))
   rw[e,wrap_id (by omega) (by omega)]
   exact ih (k+1) (by omega) (by omega)
 exact go _ 0 rfl (by omega)
end Go.Proofs
namespace Go.Proofs
open Go.Sh
theorem c117{H:Heap}{p q:Option Addr}{l c l2 k:Nat}{ls cs:List Int}(h:IS H p l (ints ls))(hc:IS H q l2 (ints cs))(hll:l≤l2)(hl:l≤1000){n v:Int}{R:Value→Heap→Prop}
 (hf: ∀s:Nat,ls[s]?=some n→cs[s]?=some v→R (.int .i64 s) H)(hn:(∀s:Nat,ls[s]?=some n→cs[s]?≠some v)→R (.int .i64 (-1)) H):
 CallsH Tryz.prog 117 #[.slice p l c,.slice q l2 k,.int .i64 n,.int .i64 v] H R:=by
 have hl1:ls.length=l:=by have:=h.len;rw[ints_len] at this;omega
 have hl2:cs.length=l2:=by have:=hc.len;rw[ints_len] at this;omega
 refine Tryz.s117 ?_
 unfold Tryz.S117
 intro X hX
 have loop: ∀(m s:Nat),l-s=m→s≤l→(∀i:Nat,i<s→ls[i]?=some n→cs[i]?≠some v)→X [.int .i64 s] H:=by
  intro m
  induction m with
  |zero=>
   intro s hm hs hno
   refine hX _ H (br_n (by omega) (hn fun i hi=>hno i ?_ hi))
   have:=(List.getElem?_eq_some_iff.1 hi).1;omega
  |succ m ih=>
   intro s hm hs hno
   have ws:IntKind.wrap .i64 ((s:Int)+1)=((s+1:Nat):Int):=by rw[wrap_id (by omega) (by omega)];omega
   have hv:ls[s]?=some ls[s]:=List.getElem?_eq_getElem (by omega)
   have hw:cs[s]?=some cs[s]:=List.getElem?_eq_getElem (by omega)
   generalize ls[s]=a at hv
   generalize cs[s]=b at hw
   obtain⟨a1,q1,v1⟩:=h.cell (ints_get hv)
   obtain⟨a2,q2,v2⟩:=hc.cell (ints_get hw)
   have nx: ¬(a=n∧b=v)→X [.int .i64 ((s+1:Nat):Int)] H:=fun hne=>ih (s+1) (by omega) (by omega) fun i hi h1 h2=>by
    by_cases his:i=s
    ·subst his;rw[hv] at h1;rw[hw] at h2;cases h1;cases h2;exact hne ⟨rfl,rfl⟩
    ·exact hno i (by omega) h1 h2
   refine hX _ H (br_y (by omega) ⟨_,q1,by omega,by omega,a,by simpa using v1,br_eq (fun he=>⟨_,q2,by omega,by omega,b,by simpa using v2,br_eq (fun he2=>?_) (fun he2=>?_)⟩) (fun he=>?_)⟩)
   ·exact hf s (by rw[hv,he]) (by rw[hw,he2])
   ·rw[ws];exact nx fun hh=>he2 hh.2
   ·rw[ws];exact nx fun hh=>he hh.1
 exact loop l 0 (by omega) (by omega) (fun i hi=>by omega)
theorem c118{H:Heap}{p q:Option Addr}{l c l2 k:Nat}{ls cs:List Int}(h:IS H p l (ints ls))(hc:IS H q l2 (ints cs))(hll:l≤l2)(hl:l≤1000)(hr: ∀x∈ls,0≤x∧x≤16){n v:Int}(hn0:0≤n){R:Value→Heap→Prop}
 (ht: ∀(s:Nat) (a b:Int),ls[s]?=some a→cs[s]?=some b→n<a→b/2^(a-n).toNat=v→R (.bool true) H)(hf:(∀(s:Nat) (a b:Int),ls[s]?=some a→cs[s]?=some b→n<a→b/2^(a-n).toNat≠v)→R (.bool false) H):
 CallsH Tryz.prog 118 #[.slice p l c,.slice q l2 k,.int .i64 n,.int .i64 v] H R:=by
 have hl1:ls.length=l:=by have:=h.len;rw[ints_len] at this;omega
 have hl2:cs.length=l2:=by have:=hc.len;rw[ints_len] at this;omega
 refine Tryz.s118 ?_
 unfold Tryz.S118
 intro X hX
 have loop: ∀(m s:Nat),l-s=m→s≤l→(∀(i:Nat) (a b:Int),i<s→ls[i]?=some a→cs[i]?=some b→n<a→b/2^(a-n).toNat≠v)→X [.int .i64 s] H:=by
  intro m
  induction m with
  |zero=>
   intro s hm hs hno
   refine hX _ H (br_n (by omega) (hf fun i a b hi=>hno i a b ?_ hi))
   have:=(List.getElem?_eq_some_iff.1 hi).1;omega
  |succ m ih=>
   intro s hm hs hno
   have ws:IntKind.wrap .i64 ((s:Int)+1)=((s+1:Nat):Int):=by rw[wrap_id (by omega) (by omega)];omega
   have hv:ls[s]?=some ls[s]:=List.getElem?_eq_getElem (by omega)
   have hw:cs[s]?=some cs[s]:=List.getElem?_eq_getElem (by omega)
   have hra:=hr _ (List.mem_of_getElem? hv)
   generalize ls[s]=a at hv hra
   generalize cs[s]=b at hw
   obtain⟨a1,q1,v1⟩:=h.cell (ints_get hv)
   obtain⟨a2,q2,v2⟩:=hc.cell (ints_get hw)
   have nx: ¬(n<a∧b/2^(a-n).toNat=v)→X [.int .i64 ((s+1:Nat):Int)] H:=fun hne=>ih (s+1) (by omega) (by omega) fun i a' b' hi h1 h2 h3 h4=>by
    by_cases his:i=s
    ·subst his;rw[hv] at h1;rw[hw] at h2;cases h1;cases h2;exact hne ⟨h3,h4⟩
    ·exact hno i a' b' (by omega) h1 h2 h3 h4
   refine hX _ H (br_y (by omega) ⟨_,q1,by omega,by omega,a,by simpa using v1,br_dec (fun he=>?_) (fun he=>?_)⟩)
   ·have w1:IntKind.wrap .i64 (a-n)=a-n:=wrap_id (by omega) (by omega)
    refine⟨_,q2,by omega,by omega,b,by simpa using v2,_,q1,by omega,by omega,a,by simpa using v1,?_⟩
    rw[w1,shr64 (by omega) (by omega)]
    refine⟨by omega,br_eq (fun he2=>ht s a b hv hw he he2) (fun he2=>?_)⟩
    rw[ws];exact nx fun hh=>he2 hh.2
   ·rw[ws];exact nx fun hh=>he hh.1
 exact loop l 0 (by omega) (by omega) (fun i a b hi=>by omega)
end Go.Proofs
namespace Go.Proofs
open Go.Sh
variable {H0 H:Heap} {σ:List Rs} {R:Value→Heap→Prop}
def rfR(r:Nat)(bp:Option Addr)(bl bc a most:Nat)(out:List Int)(e:Int):Rs:=
 .ex fun(x:Option Addr×Nat)=> .pu (a≤8*bl∧bl≤1000000000∧out.length≤most∧most≤1000000000∧ ∀y∈out,0≤y∧y<256)
  (.star (.cell r #[.slice bp bl bc,.int .i64 a,.slice x.1 out.length x.2,.int .i64 most,.int .i64 e] 96) (.sl x.1 out.length x.2 5 1 (kints .u8 out)))
theorem rfR_op{r bl bc a most:Nat}{bp:Option Addr}{out:List Int}{e:Int}(hs:St H0 H (rfR r bp bl bc a most out e::σ)): ∃p c,(a≤8*bl∧bl≤1000000000∧out.length≤most∧most≤1000000000∧ ∀y∈out,0≤y∧y<256)∧
 St H0 H (.cell r #[.slice bp bl bc,.int .i64 a,.slice p out.length c,.int .i64 most,.int .i64 e] 96:: .sl p out.length c 5 1 (kints .u8 out)::σ):=by
 obtain⟨⟨p,c⟩,hs⟩:=hs.unex
 obtain⟨h,hs⟩:=hs.fact
 exact⟨p,c,h,hs.cut⟩
theorem rfR_mk{r bl bc a most c:Nat}{bp p:Option Addr}{out:List Int}{e:Int}(h:a≤8*bl∧bl≤1000000000∧out.length≤most∧most≤1000000000∧ ∀y∈out,0≤y∧y<256)
 (hs:St H0 H (.cell r #[.slice bp bl bc,.int .i64 a,.slice p out.length c,.int .i64 most,.int .i64 e] 96:: .sl p out.length c 5 1 (kints .u8 out)::σ)):St H0 H (rfR r bp bl bc a most out e::σ):=
 St.inex (f:=fun(x:Option Addr×Nat)=> .pu (a≤8*bl∧bl≤1000000000∧out.length≤most∧most≤1000000000∧ ∀y∈out,0≤y∧y<256)
  (.star (.cell r #[.slice bp bl bc,.int .i64 a,.slice x.1 out.length x.2,.int .i64 most,.int .i64 e] 96) (.sl x.1 out.length x.2 5 1 (kints .u8 out)))) (p,c) (St.with h hs.cat)
section
variable {r bl bc a most:Nat} {bp:Option Addr} {B out:List Int} {e:Int}
theorem rfR_e(hs:St H0 H (rfR r bp bl bc a most out e::σ)):cell H ⟨r,4,none⟩=some (.int .i64 e):=by
 obtain⟨p,c,_,hs⟩:=rfR_op hs
 exact hs.get 0 (j:=4) rfl rfl
theorem rfR_a(hs:St H0 H (rfR r bp bl bc a most out e::σ)):a≤8*bl∧bl≤1000000000:=by
 obtain⟨p,c,h,hs⟩:=rfR_op hs
 exact⟨h.1,h.2.1⟩
theorem c68(hs:St H0 H (rfR r bp bl bc a most out e::σ)){k:Int}(hR: ∀H',St H0 H' (rfR r bp bl bc a most out (if e=0 then k else e)::σ)→R (.tuple #[]) H'):CallsH Tryz.prog 68 #[.pointer (some ⟨r,0,none⟩),.int .i64 k] H R:=by
 obtain⟨p,c,h,hs'⟩:=rfR_op hs
 refine Tryz.s68 ⟨_,rfl,e,hs'.get 0 (j:=4) rfl rfl,br_eq (fun h0=>⟨_,rfl,?_⟩) (fun h0=>?_)⟩
 ·refine hs'.put 0 (j:=4) rfl (by simp) rfl fun H' hs2=>hR H' (rfR_mk (p:=p) (c:=c) h ?_)
  rw[if_pos h0];exact hs2
 ·rw[if_neg h0] at hR;exact hR H hs
theorem c63(hs:St H0 H (rfR r bp bl bc a most out e::σ))(hB:IS H0 bp bl (kints .u8 B))(hr: ∀x∈B,0≤x∧x<256){n:Nat}(hn:n≤24)
 (hbad:8*B.length<a+n→ ∀H',St H0 H' (rfR r bp bl bc a most out (if e=0 then 20 else e)::σ)→R (.int .i64 0) H')
 (hR:a+n≤8*B.length→ ∀H',St H0 H' (rfR r bp bl bc (a+n) most out e::σ)→R (.int .i64 (numB false B a n)) H'):CallsH Tryz.prog 63 #[.pointer (some ⟨r,0,none⟩),.int .i64 (n:Nat)] H R:=by
 have hBl:=hB.length
 obtain⟨p,c,h,hs'⟩:=rfR_op hs
 refine Tryz.s63 ?_
 unfold Tryz.S63
 refine⟨_,rfl,_,hs'.get 0 (j:=1) rfl rfl,_,rfl,_,_,_,hs'.get 0 (j:=0) rfl rfl,?_⟩
 rw[wrap_id (n:=(a:Int)+n) (by omega) (by omega),wrap_id (n:=8*(bl:Int)) (by omega) (by omega)]
 refine br_dec (fun hgt=>c68 hs fun H8 hs8=>⟨rfl,hbad (by omega) H8 hs8⟩) (fun hle=>?_)
 intro X9 hX
 have go: ∀k,k≤n→ ∀H1,St H0 H1 (rfR r bp bl bc (a+k) most out e::σ)→X9 [.int .i64 (numB false B a k),.int .i64 (k:Nat)] H1:=upto fun k hk ih H1 hs1=>by
  refine hX _ _ H1 (br_dec (fun hlt=>?_) (fun hge=>?_))
  ·have hlt:k<n:=by omega
   obtain⟨p,c,h,hs'⟩:=rfR_op hs1
   have hg:=get_gD B 0 (i:=(a+k)/8) (by omega)
   have hv:=hr _ (List.mem_of_getElem? hg)
   have hnr:=numB_rng false B a k
   have hp:(2:Int)^k≤2^24:=pow_le (by omega)
   have e24:(2:Int)^24=16777216:=by decide
   have hbit:bitB false B (a+k)=B.getD ((a+k)/8) 0/2^((a+k)%8)%2:=rfl
   refine⟨_,rfl,_,_,_,hs'.get 0 (j:=0) rfl rfl,_,rfl,_,hs'.get 0 (j:=1) rfl rfl,by decide,?_⟩
   rw[wdiv8 _ (by omega)]
   refine(hB.ext hs'.ext).rd (by omega) (by omega) (by rw[Int.toNat_natCast];exact hg) ⟨_,rfl,_,hs'.get 0 (j:=1) rfl rfl,by decide,?_⟩
   rw[tmod8]
   refine⟨by omega,by decide,by omega,_,rfl,_,hs'.get 0 (j:=1) rfl rfl,_,rfl,?_⟩
   have hd0:=Int.ediv_nonneg hv.1 (Int.le_of_lt (two_pow_pos ((a+k)%8)))
   rw[wrap_id (n:=B.getD ((a+k)/8) 0) (by omega) (by omega),shr_of _ (by omega),Int.tmod_eq_emod_of_nonneg hd0,←hbit]
   have hb01:0≤bitB false B (a+k)∧bitB false B (a+k)≤1:=by rcases bitB_rng false B (a+k) with h|h<;>omega
   have hb2:bitB false B (a+k)*2^k≤1*2^k:=Int.mul_le_mul_of_nonneg_right hb01.2 (by have:=two_pow_pos k;omega)
   have hb3:0≤bitB false B (a+k)*2^k:=Int.mul_nonneg hb01.1 (Int.le_of_lt (two_pow_pos k))
   rw[shl_of hb01.1 (by omega) (by omega),wrap_id (n:=numB false B a k+_) (by omega) (by omega),wrap_id (n:=(((a+k:Nat):Int))+1) (by omega) (by omega),wrap_id (n:=(k:Int)+1) (by omega) (by omega)]
   refine hs'.put 0 rfl (by simp) rfl fun H2 hs2=>?_
   have hnb:numB false B a (k+1)=numB false B a k+bitB false B (a+k)*2^k:=by rw[numB,if_neg (by decide)]
   have ih:=ih hlt H2 (rfR_mk (p:=p) (c:=c) ⟨by omega,h.2⟩ hs2)
   rw[hnb] at ih
   exact ih
  ·have:k=n:=by omega
   subst this
   exact hR (by omega) H1 hs1
 exact go 0 (by omega) H (by rw[Nat.add_zero];exact hs)
structure CodI(lp cp:Option Addr)(ls:List Int)(H:Heap):Prop where
 l:IS H lp ls.length (ints ls)
 c:IS H cp ls.length (ints (codesM ls))
abbrev codV(lp cp:Option Addr)(lc cc:Nat)(ls:List Int)(W:Int)(ok:Bool):Array Value:=#[.slice lp ls.length lc,.slice cp ls.length cc,.int .i64 W,.bool ok]
theorem c96(hs:St H0 H (rfR r bp bl bc a most out 0::σ))(hB:IS H0 bp bl (kints .u8 B))(hr: ∀x∈B,0≤x∧x<256){j lc cc:Nat}{lp cp:Option Addr}{ls:List Int}{W:Int}{okb:Bool}{Q:Heap→Prop}(hj:σ[j]?=some (.pers Q))(hq: ∀H,Q H→CodI lp cp ls H)(ok:OkC ls)
 (hbad: ∀k,k≠0→symM ls B a= .error k→ ∀H' a',St H0 H' (rfR r bp bl bc a' most out k::σ)→R (.int .i64 0) H')
 (hR: ∀s a',symM ls B a= .ok (s,a')→ ∀H',St H0 H' (rfR r bp bl bc a' most out 0::σ)→R (.int .i64 (s:Nat)) H'):
 CallsH Tryz.prog 96 #[.pointer (some ⟨r,0,none⟩),.agg (codV lp cp lc cc ls W okb)] H R:=by
 have hBl:=hB.length
 have l300:=ok.w.len
 refine Tryz.s96 ?_
 unfold Tryz.S96
 refine hs.alc fun b3 H4 hs4=>?_
 have hs4:=hs4.swap
 intro X hX
 have loop: ∀(g n:Nat) (v:Int) (a1:Nat) (H1:Heap),n+g=17→0≤v∧v<2^n→symG ls B g n v a1=symM ls B a→St H0 H1 (rfR r bp bl bc a1 most out 0:: .cell b3 (codV lp cp lc cc ls W okb) 99::σ)→X [.int .i64 v,.int .i64 ((n+1:Nat):Int)] H1:=by
  intro g
  induction g with
  |zero=>
   intro n v a1 H1 hn hv he hs1
   rw[symG] at he
   refine hX _ _ H1 (br_n (by omega) (c68 hs1 fun H2 hs2=>⟨rfl,?_⟩))
   rw[if_pos rfl] at hs2
   exact hbad 21 (by decide) he.symm H2 _ (hs2.del 1)
  |succ g ih=>
   intro n v a1 H1 hn hv he hs1
   rw[symG] at he
   have hpn:(2:Int)^n≤2^17:=pow_le (by omega)
   have e17:(2:Int)^17=131072:=by decide
   refine hX _ _ H1 (br_y (by omega) (c63 (n:=1) hs1 hB hr (by omega) (fun hb H2 hs2=>?_) (fun hb H2 hs2=>?_)))
   ·rw[getM_bad hb] at he
    rw[if_pos rfl] at hs2
    exact⟨_,rfl,_,rfl,_,rfR_e hs2,br_t rfl (hbad 20 (by decide) he.symm H2 _ (hs2.del 1))⟩
   ·rw[getM_num hb] at he
    simp only at he
    have hb01:=numB_rng false B a1 1
    generalize numB false B a1 1=b at*
    have e2:(2:Int)^1=2:=by decide
    refine⟨_,rfl,_,rfl,_,rfR_e hs2,br_f rfl ?_⟩
    have hC:=hq _ (hs2.persGet (j+2) (by rw[List.getElem?_cons_succ,List.getElem?_cons_succ];exact hj))
    have w1:IntKind.wrap .i64 (IntKind.wrap .i64 (2*v)+b)=2*v+b:=by rw[wrap_id (n:=2*v) (by omega) (by omega),wrap_id (by omega) (by omega)]
    rw[w1]
    have hv2:0≤2*v+b∧2*v+b<2^(n+1):=by rw[Int.pow_succ];omega
    refine⟨_,_,_,hs2.get 1 (j:=0) rfl rfl,_,_,_,hs2.get 1 (j:=1) rfl rfl,?_⟩
    refine c117 hC.l hC.c (Nat.le_refl _) (by omega) (fun s h1 h2=>?_) (fun hno=>?_)
    ·have hsl:=(List.getElem?_eq_some_iff.1 h1).1
     rw[codesM_get hsl] at h2
     rw[findM_eq ok (by omega) h1 (Option.some.inj h2)] at he
     exact⟨_,rfl,br_y (by omega) (hR s _ he.symm H2 (hs2.del 1))⟩
    ·have hfn:findM ls (n+1) (2*v+b)=none:=by
      cases hf:findM ls (n+1) (2*v+b) with
      |none=>rfl
      |some s=>
       obtain⟨h1,h2⟩:=findM_some hf
       exact absurd (by rw[codesM_get (List.getElem?_eq_some_iff.1 h1).1,h2]) (hno s h1)
     rw[hfn] at he
     simp only at he
     refine⟨_,rfl,br_n (by decide) ⟨_,_,_,hs2.get 1 (j:=0) rfl rfl,_,_,_,hs2.get 1 (j:=1) rfl rfl,?_⟩⟩
     refine c118 hC.l hC.c (Nat.le_refl _) (by omega) ok.w.rng (by omega) (fun s x y h1 h2 h3 h4=>?_) (fun hno2=>?_)
     ·have hsl:=(List.getElem?_eq_some_iff.1 h1).1
      rw[codesM_get hsl] at h2
      obtain⟨m,rfl⟩:=Int.eq_ofNat_of_zero_le (show 0≤x by omega)
      have hbg:begM ls (n+1) (2*v+b)=true:=begM_mk h1 (by omega) (by
       rw[Option.some.inj h2,←h4]
       congr 2
       omega)
      rw[hbg] at he
      simp only[if_true] at he
      refine⟨_,rfl,br_f rfl ?_⟩
      rw[wrap_id (n:=((n+1:Nat):Int)+1) (by omega) (by omega)]
      exact ih (n+1) _ _ H2 (by omega) hv2 he hs2
     ·have hbg:begM ls (n+1) (2*v+b)=false:=by
       cases hbg:begM ls (n+1) (2*v+b) with
       |false=>rfl
       |true=>
        obtain⟨s,m,h1,h2,h3⟩:=begM_true ok.w.rng hbg
        exact absurd (by rw[←h3];congr 2;omega) (hno2 s m _ h1 (codesM_get (List.getElem?_eq_some_iff.1 h1).1) (by omega))
      rw[hbg] at he
      simp only[Bool.false_eq_true,if_false] at he
      refine⟨_,rfl,br_t rfl (c68 hs2 fun H3 hs3=>⟨rfl,?_⟩)⟩
      rw[if_pos rfl] at hs3
      exact hbad 21 (by decide) he.symm H3 _ (hs3.del 1)
 exact loop 17 0 0 a H4 (by omega) (by decide) rfl hs4
theorem c97(hs:St H0 H (rfR r bp bl bc a most out 0::σ))(hB:IS H0 bp bl (kints .u8 B))(hr: ∀x∈B,0≤x∧x<256){j lc cc:Nat}{lp cp:Option Addr}{dl:List Int}{W:Int}{okb:Bool}{Q:Heap→Prop}(hj:σ[j]?=some (.pers Q))(hq: ∀H,Q H→CodI lp cp dl H)(ok:OkC dl){s:Nat}(hs257:257≤s∧s≤1000)
 (hbad: ∀k,k≠0→copiesM B most dl s a out= .error k→ ∀H' a',St H0 H' (rfR r bp bl bc a' most out k::σ)→R (.tuple #[]) H')
 (hR: ∀a' out',copiesM B most dl s a out= .ok (a',out')→ ∀H',St H0 H' (rfR r bp bl bc a' most out' 0::σ)→R (.tuple #[]) H'):
 CallsH Tryz.prog 97 #[.pointer (some ⟨r,0,none⟩),.int .i64 (s:Nat),.agg (codV lp cp lc cc dl W okb)] H R:=by
 have l300:=ok.w.len
 have key:copiesM B most dl s a out=copiesM B most dl s a out:=rfl
 conv at key=>lhs;unfold copiesM
 refine Tryz.s97 (hs.alc fun b4 H5 hs5=>?_)
 have hs5:=hs5.swap
 have hj': ∀{x:Rs},(x::σ)[j+1]?=some (.pers Q):=fun{x}=>by rw[List.getElem?_cons_succ];exact hj
 refine br_dec (fun h=>c68 hs5 fun H1 hs=>⟨rfl,?_⟩) (fun h=>?_)
 ·rw[if_pos (by omega)] at key
  exact hbad 25 (by decide) key.symm H1 _ (hs.del 1)
 rw[if_neg (by omega)] at key
 have hb:=lenB_le (s:=s) (by omega)
 refine c119 (by omega) ⟨_,_,rfl,c63 hs5 hB hr (by omega) (fun hlt H1 hs=>?_) (fun hle H1 hs=>?_)⟩
 ·rw[getM_bad hlt] at key
  rw[if_pos rfl] at hs
  exact⟨_,rfl,_,rfl,_,rfR_e hs,br_t rfl (hbad 20 (by decide) key.symm H1 _ (hs.del 1))⟩
 rw[getM_num hle] at key
 have hx:=numB_rng false B a (lenB s).2
 have hx2:(2:Int)^(lenB s).2≤2^5:=pow_le hb.1
 generalize numB false B a (lenB s).2=x at*
 simp only at key
 refine⟨_,rfl,_,rfl,_,rfR_e hs,br_f rfl ⟨_,rfl,rowIn_whole (hs.block 1 rfl),?_⟩⟩
 refine c96 hs hB hr hj' hq ok (fun k hk hsy H2 a2 hs=>?_) (fun t a2 hsy H2 hs=>?_)
 ·rw[hsy] at key
  exact⟨_,rfl,_,rfl,_,rfR_e hs,br_ne (fun _=>hbad k hk key.symm H2 _ (hs.del 1)) (fun h=>absurd h hk)⟩
 rw[hsy] at key
 simp only at key
 have hadv:=symM_adv hsy
 refine⟨_,rfl,_,rfl,_,rfR_e hs,br_f rfl (br_dec (fun h29=>c68 hs fun H3 hs=>⟨rfl,?_⟩) (fun h29=>?_))⟩
 ·rw[if_pos (by omega)] at key
  exact hbad 25 (by decide) key.symm H3 _ (hs.del 1)
 rw[if_neg (by omega)] at key
 have hd:=dstB_le (s:=t) (by omega)
 refine c120 (by omega) ⟨_,_,rfl,c63 hs hB hr (by omega) (fun hlt H3 hs=>?_) (fun hle H3 hs=>?_)⟩
 ·rw[getM_bad hlt] at key
  rw[if_pos rfl] at hs
  exact⟨_,rfl,_,rfl,_,rfR_e hs,br_t rfl (hbad 20 (by decide) key.symm H3 _ (hs.del 1))⟩
 rw[getM_num hle] at key
 have hy:=numB_rng false B a2 (dstB t).2
 have hy2:(2:Int)^(dstB t).2≤2^13:=pow_le hd.1
 generalize numB false B a2 (dstB t).2=y at*
 simp only at key
 obtain⟨p,c,hh,hs'⟩:=rfR_op hs
 have e5:(2:Int)^5=32:=by decide
 have e13:(2:Int)^13=8192:=by decide
 have w1:IntKind.wrap .i64 ((((dstB t).1:Nat):Int)+y)=((dstB t).1:Nat)+y:=wrap_id (by omega) (by omega)
 have w2:IntKind.wrap .i64 ((((lenB s).1:Nat):Int)+x)=((lenB s).1:Nat)+x:=wrap_id (by omega) (by omega)
 refine⟨_,rfl,_,rfl,_,rfR_e hs,br_f rfl ⟨_,rfl,_,_,_,hs'.get 0 (j:=2) rfl rfl,?_⟩⟩
 rw[w1,w2]
 refine br_dec (fun hgt=>c68 hs fun H4 hs=>⟨rfl,?_⟩) (fun hgt=>⟨_,rfl,_,_,_,hs'.get 0 (j:=2) rfl rfl,_,rfl,_,hs'.get 0 (j:=3) rfl rfl,?_⟩)
 ·rw[if_pos hgt] at key
  exact hbad 22 (by decide) key.symm H4 _ (hs.del 1)
 rw[if_neg hgt] at key
 rw[wrap_id (n:=((out.length:Nat):Int)+_) (by omega) (by omega)]
 refine br_dec (fun hg2=>c68 hs fun H4 hs=>⟨rfl,?_⟩) (fun hg2=>?_)
 ·rw[if_pos (by omega)] at key
  exact hbad 24 (by decide) key.symm H4 _ (hs.del 1)
 rw[if_neg (by omega)] at key
 have hR:=hR _ _ key.symm
 clear key hbad w1 w2 hs' p c
 obtain⟨D,hD⟩:=Int.eq_ofNat_of_zero_le (show 0≤(((dstB t).1:Nat):Int)+y by omega)
 obtain⟨N,hN⟩:=Int.eq_ofNat_of_zero_le (show 0≤(((lenB s).1:Nat):Int)+x by omega)
 rw[show(dstB t).1+y.toNat=D from by omega,show(lenB s).1+x.toNat=N from by omega] at hR
 rw[hD,hN]
 intro X hX
 have loop: ∀(m k:Nat) (out1:List Int) (H4:Heap),k+m=N→out1.length=out.length+k→copyM D m out1=copyM D N out→St H0 H4 (rfR r bp bl bc (a2+(dstB t).2) most out1 0:: .cell b4 (codV lp cp lc cc dl W okb) 99::σ)→X [.int .i64 k] H4:=by
  intro m
  induction m with
  |zero=>
   intro k out1 H4 hk hl hc hs
   refine hX _ H4 (br_n (by omega) (hR H4 ?_))
   rw[←hc];exact hs.del 1
  |succ m ih=>
   intro k out1 H4 hk hl hc hs
   obtain⟨p,c,hh,hs'⟩:=rfR_op hs
   have w1:IntKind.wrap .i64 (((out1.length:Nat):Int)-(D:Int))=((out1.length-D:Nat):Int):=by rw[wrap_id (by omega) (by omega)];omega
   have wk:IntKind.wrap .i64 ((k:Int)+1)=((k+1:Nat):Int):=by rw[wrap_id (by omega) (by omega)];omega
   refine hX _ H4 (br_y (by omega) ⟨_,rfl,_,_,_,hs'.get 0 (j:=2) rfl rfl,_,rfl,_,_,_,hs'.get 0 (j:=2) rfl rfl,_,rfl,_,_,_,hs'.get 0 (j:=2) rfl rfl,?_⟩)
   rw[w1,wk]
   have hv:=get_gD out1 0 (i:=out1.length-D) (by omega)
   have hvr:=hh.2.2.2.2 _ (List.mem_of_getElem? hv)
   rw[copyM] at hc
   generalize out1.getD (out1.length-D) 0=v at hv hvr hc
   refine(hs'.is 1 rfl).rd (by omega) (by omega) (by rw[Int.toNat_natCast];exact hv) ?_
   refine hs'.alcE fun b H5 he hs5=>⟨.inl he,?_⟩
   refine hs5.appC 2 0 (el:=5) (k:=1) rfl rfl rfl (one1 rfl) (by decide) rfl (by omega) (by omega) fun p' c' H6 hs6=>⟨_,rfl,?_⟩
   refine hs6.put 1 (j:=2) rfl (by simp) rfl fun H7 hs7=>?_
   refine ih (k+1) (out1++[v]) H7 (by omega) (by simp;omega) hc ?_
   refine rfR_mk (p:=p') (c:=c') ⟨hh.1,hh.2.1,by simp;omega,hh.2.2.2.1,fun z hz=>?_⟩ ?_
   ·rcases List.mem_append.1 hz with hz|hz
    ·exact hh.2.2.2.2 z hz
    ·rw[List.mem_singleton.1 hz];exact hvr
   ·rw[kints_append,List.length_append,List.length_singleton]
    exact hs7.tail
 exact loop N 0 out H3 (by omega) (by omega) rfl hs
theorem rsymbols_e(hs:St H0 H (rfR r bp bl bc a most out e::σ))(he:e≠0){v1 v2:Array Value}(hR: ∀H',St H0 H' (rfR r bp bl bc a most out e::σ)→R (.tuple #[]) H'):
 CallsH Tryz.prog 66 #[.pointer (some ⟨r,0,none⟩),.agg v1,.agg v2] H R:=by
 refine Tryz.s66 ?_
 unfold Tryz.S66
 refine hs.alc fun b4 H5 hs5=>hs5.alc fun b6 H7 hs7=>?_
 intro X hX
 have hs7:=hs7.front 2 rfl
 exact hX H7 ⟨_,rfl,_,rfR_e hs7,br_eq (fun h=>absurd h he) (fun _=>hR H7 ((hs7.del 1).del 1))⟩
theorem c66(hs:St H0 H (rfR r bp bl bc a most out 0::σ))(hB:IS H0 bp bl (kints .u8 B))(hr: ∀x∈B,0≤x∧x<256){j1 j2 lc1 cc1 lc2 cc2:Nat}{lp1 cp1 lp2 cp2:Option Addr}{ll dl:List Int}{W1 W2:Int}{ok1 ok2:Bool}
 {Q1 Q2:Heap→Prop}(hj1:σ[j1]?=some (.pers Q1))(hq1: ∀H,Q1 H→CodI lp1 cp1 ll H)(hj2:σ[j2]?=some (.pers Q2))(hq2: ∀H,Q2 H→CodI lp2 cp2 dl H)(okl:OkC ll)(okd:OkC dl)
 (hbad: ∀k,k≠0→symbolsM B most ll dl a out= .error k→ ∀H' a' out',St H0 H' (rfR r bp bl bc a' most out' k::σ)→R (.tuple #[]) H')
 (hR: ∀a' out',symbolsM B most ll dl a out= .ok (a',out')→ ∀H',St H0 H' (rfR r bp bl bc a' most out' 0::σ)→R (.tuple #[]) H'):
 CallsH Tryz.prog 66 #[.pointer (some ⟨r,0,none⟩),.agg (codV lp1 cp1 lc1 cc1 ll W1 ok1),.agg (codV lp2 cp2 lc2 cc2 dl W2 ok2)] H R:=by
 have l300:=okl.w.len
 have hBl:=hB.length
 refine Tryz.s66 ?_
 unfold Tryz.S66
 refine hs.alc fun b4 H5 hs5=>hs5.alc fun b6 H7 hs7=>?_
 have hs7:=hs7.front 2 rfl
 simp only[List.eraseIdx] at hs7
 have hj1': ∀{x y:Rs},(x::y::σ)[j1+2]?=some (.pers Q1):=fun{x y}=>by rw[List.getElem?_cons_succ,List.getElem?_cons_succ];exact hj1
 have hj2': ∀{x y:Rs},(x::y::σ)[j2+2]?=some (.pers Q2):=fun{x y}=>by rw[List.getElem?_cons_succ,List.getElem?_cons_succ];exact hj2
 intro X hX
 have bad: ∀k,k≠0→symbolsM B most ll dl a out= .error k→ ∀H' a' out',St H0 H' (rfR r bp bl bc a' most out' k:: .cell b6 (codV lp2 cp2 lc2 cc2 dl W2 ok2) 99:: .cell b4 (codV lp1 cp1 lc1 cc1 ll W1 ok1) 99::σ)→X [] H':=fun k hk he H' a' out' hs=>
  hX H' ⟨_,rfl,_,rfR_e hs,br_eq (fun h=>absurd h hk) (fun _=>hbad k hk he H' a' out' ((hs.del 1).del 1))⟩
 unfold symbolsM at bad hbad hR
 generalize hT:symsM B most ll dl (8*B.length+1) a out=T at bad hbad hR
 have loop: ∀(g a1:Nat) (out1:List Int) (H1:Heap),8*B.length<a1+g→symsM B most ll dl g a1 out1=T→St H0 H1 (rfR r bp bl bc a1 most out1 0:: .cell b6 (codV lp2 cp2 lc2 cc2 dl W2 ok2) 99:: .cell b4 (codV lp1 cp1 lc1 cc1 ll W1 ok1) 99::σ)→X [] H1:=by
  intro g
  induction g with
  |zero=>
   intro a1 out1 H1 hg he hs1
   have:=rfR_a hs1;omega
  |succ g ih=>
   intro a1 out1 H1 hg he hs1
   rw[symsM] at he
   refine hX H1 ⟨_,rfl,_,rfR_e hs1,br_t rfl ⟨_,rfl,rowIn_whole (hs1.block 2 rfl),c96 hs1 hB hr hj1' hq1 okl (fun k hk hsy H2 a2 hs2=>?_) (fun s a2 hsy H2 hs2=>?_)⟩⟩
   ·rw[hsy] at he
    refine⟨_,rfl,?_⟩
    intro J hJ
    exact⟨_,rfl,_,rfR_e hs2,br_ne (fun _=>hbad k hk he.symm H2 a2 out1 ((hs2.del 1).del 1)) (fun h=>absurd h hk)⟩
   ·obtain⟨ha1,ha2,hsl⟩:=symM_adv hsy
    rw[hsy] at he
    simp only at he
    refine⟨_,rfl,?_⟩
    intro J hJ
    refine⟨_,rfl,_,rfR_e hs2,br_f rfl (br_eq (fun h256=>?_) (fun h256=>hJ H2 (br_dec (fun hgt=>?_) (fun hle=>?_))))⟩
    ·rw[if_pos (by omega)] at he
     exact hR _ _ he.symm H2 ((hs2.del 1).del 1)
    ·rw[if_neg (by omega),if_pos (by omega)] at he
     refine⟨_,rfl,rowIn_whole (hs2.block 1 rfl),c97 hs2 hB hr hj2' hq2 okd (by omega) (fun k hk hc H3 a3 hs3=>⟨rfl,?_⟩) (fun a3 out3 hc H3 hs3=>⟨rfl,?_⟩)⟩
     ·rw[hc] at he
      exact bad k hk he.symm H3 a3 out1 hs3
     ·rw[hc] at he
      have:=copiesM_adv hc
      exact ih a3 out3 H3 (by omega) he hs3
    ·rw[if_neg (by omega),if_neg (by omega)] at he
     obtain⟨p,c,hh,hs'⟩:=rfR_op hs2
     refine⟨_,rfl,_,_,_,hs'.get 0 (j:=2) rfl rfl,_,rfl,_,hs'.get 0 (j:=3) rfl rfl,?_⟩
     rw[wrap_id (n:=((out1.length:Nat):Int)+1) (by omega) (by omega)]
     refine br_dec (fun hge=>c68 hs2 fun H3 hs3=>⟨rfl,?_⟩) (fun hlt=>⟨_,rfl,_,_,_,hs'.get 0 (j:=2) rfl rfl,?_⟩)
     ·rw[if_pos (by omega)] at he
      rw[if_pos rfl] at hs3
      exact hbad 24 (by decide) he.symm H3 _ _ ((hs3.del 1).del 1)
     ·rw[if_neg (by omega)] at he
      rw[wrap_u8 (by omega) (by omega)]
      refine hs'.alc fun b H5 hs5=>?_
      refine hs5.appC 2 0 (el:=5) (k:=1) rfl rfl rfl (one1 rfl) (by decide) rfl (by omega) (by omega) fun p' c' H6 hs6=>⟨_,rfl,?_⟩
      refine hs6.put 1 (j:=2) rfl (by simp) rfl fun H7 hs7=>?_
      refine ih a2 (out1++[(s:Int)]) H7 (by omega) he ?_
      refine rfR_mk (p:=p') (c:=c') ⟨hh.1,hh.2.1,by simp;omega,hh.2.2.2.1,fun z hz=>?_⟩ ?_
      ·rcases List.mem_append.1 hz with hz|hz
       ·exact hh.2.2.2.2 z hz
       ·rw[List.mem_singleton.1 hz];omega
      ·rw[kints_append,List.length_append,List.length_singleton]
       exact hs7.tail
 exact loop _ a out H7 (by omega) hT hs7
theorem and_all(n:Fin 65536):n.val&&&(65535-n.val)=0:=by
 have hx:=xor_all n
 rw[←hx]
 apply Nat.eq_of_testBit_eq
 intro i
 rw[Nat.testBit_and,Nat.testBit_xor,Nat.zero_testBit]
 by_cases hi:i<16
 ·rw[show(65535:Nat)=2^16-1 from rfl,Nat.testBit_two_pow_sub_one]
  simp[hi]
 ·have:n.val.testBit i=false:=Nat.testBit_lt_two_pow (Nat.lt_of_lt_of_le n.isLt (Nat.pow_le_pow_right (n:=2) (by omega) (show 16≤i by omega)))
  simp[this]
theorem and_ffff{n m:Int}(hn:0≤n∧n<65536)(h:m=65535-n):andI .i64 n m=0:=by
 obtain⟨x,rfl⟩:=Int.eq_ofNat_of_zero_le hn.1
 obtain⟨y,hy⟩:=Int.eq_ofNat_of_zero_le (show 0≤m by omega)
 subst hy
 have e64:(2:Int)^64=18446744073709551616:=by decide
 unfold andI
 rw[show IntKind.bits .i64=64 from rfl,BitVec.toNat_and,ofInt_nat (by omega) (by omega),ofInt_nat (by omega) (by omega),Int.toNat_natCast,Int.toNat_natCast]
 have:=and_all ⟨x,by omega⟩
 simp only at this
 rw[show y=65535-x from by omega,this]
 rfl
theorem c64(hs:St H0 H (rfR r bp bl bc a most out 0::σ))(hB:IS H0 bp bl (kints .u8 B))(hr: ∀x∈B,0≤x∧x<256)
 (hbad: ∀k,k≠0→storedM B most a out= .error k→ ∀H' a' out',St H0 H' (rfR r bp bl bc a' most out' k::σ)→R (.tuple #[]) H')
 (hR: ∀a' out',storedM B most a out= .ok (a',out')→ ∀H',St H0 H' (rfR r bp bl bc a' most out' 0::σ)→R (.tuple #[]) H'):
 CallsH Tryz.prog 64 #[.pointer (some ⟨r,0,none⟩)] H R:=by
 have key:storedM B most a out=storedM B most a out:=rfl
 conv at key=>lhs;unfold storedM
 have hBl:=hB.length
 obtain⟨p,c,hh,hs'⟩:=rfR_op hs
 have e16:(2:Int)^16=65536:=by decide
 refine Tryz.s64 ⟨_,rfl,_,hs'.get 0 (j:=1) rfl rfl,by decide,_,rfl,?_⟩
 rw[wrap_id (n:=(a:Int)+7) (by omega) (by omega),show(a:Int)+7=((a+7:Nat):Int) from rfl,wdiv8 _ (by omega),wrap_id (by omega) (by omega),show(((a+7)/8:Nat):Int)*8=(((a+7)/8*8:Nat):Int) from by omega]
 refine hs'.put 0 rfl (by simp) rfl fun H1 hs1=>?_
 have hs1:St H0 H1 (rfR r bp bl bc ((a+7)/8*8) most out 0::σ):=rfR_mk (p:=p) (c:=c) ⟨by omega,hh.2⟩ hs1
 clear hs'
 generalize (a+7)/8*8=a1 at*
 have bad0: ∀{H2 a2 out2},storedM B most a out= .error 20→St H0 H2 (rfR r bp bl bc a2 most out2 20::σ)→R (.tuple #[]) H2:=fun h hs=>hbad 20 (by decide) h _ _ _ hs
 refine c63 (n:=16) hs1 hB hr (by omega) (fun hlt H2 hs2=>⟨_,rfl,?_⟩) (fun hle H2 hs2=>⟨_,rfl,?_⟩)
 ·rw[getM_bad (n:=16) hlt] at key
  rw[if_pos rfl] at hs2
  refine c63 (n:=16) hs2 hB hr (by omega) (fun hlt H3 hs3=>⟨_,rfl,?_⟩) (fun hle H3 hs3=>⟨_,rfl,?_⟩)
  ·rw[if_neg (by decide)] at hs3
   exact⟨_,rfl,_,rfR_e hs3,br_t rfl (bad0 key.symm hs3)⟩
  ·exact⟨_,rfl,_,rfR_e hs3,br_t rfl (bad0 key.symm hs3)⟩
 rw[getM_num (n:=16) hle] at key
 simp only at key
 have hn:=numB_rng false B a1 16
 refine c63 (n:=16) hs2 hB hr (by omega) (fun hlt H3 hs3=>⟨_,rfl,?_⟩) (fun hle2 H3 hs3=>⟨_,rfl,?_⟩)
 ·rw[getM_bad (n:=16) hlt] at key
  rw[if_pos rfl] at hs3
  exact⟨_,rfl,_,rfR_e hs3,br_t rfl (bad0 key.symm hs3)⟩
 rw[getM_num (n:=16) hle2] at key
 simp only at key
 have hm:=numB_rng false B (a1+16) 16
 generalize numB false B a1 16=n at*
 generalize numB false B (a1+16) 16=m at*
 refine⟨_,rfl,_,rfR_e hs3,br_f rfl ?_⟩
 rw[wrap_id (n:=n+m) (by omega) (by omega)]
 intro J14 hJ14
 have go:m=65535-n→J14 [] H3:=fun hmn=>by
  rw[if_neg (fun h=>h hmn)] at key
  refine hJ14 H3 ?_
  obtain⟨p,c,hh,hs3'⟩:=rfR_op hs3
  refine⟨_,rfl,_,_,_,hs3'.get 0 (j:=2) rfl rfl,_,rfl,_,hs3'.get 0 (j:=3) rfl rfl,?_⟩
  rw[wrap_id (n:=((out.length:Nat):Int)+n) (by omega) (by omega)]
  refine br_dec (fun hgt=>c68 hs3 fun H4 hs4=>⟨rfl,?_⟩) (fun hle3=>?_)
  ·rw[if_pos (by omega)] at key
   exact hbad 24 (by decide) key.symm H4 _ _ hs4
  rw[if_neg (by omega)] at key
  obtain⟨N,rfl⟩:=Int.eq_ofNat_of_zero_le hn.1
  rw[Int.toNat_natCast] at key
  intro X hX
  have loop: ∀(g k a2:Nat) (out2:List Int) (H4:Heap),k+g=N→out2.length=out.length+k→bytesM B g a2 out2=storedM B most a out→St H0 H4 (rfR r bp bl bc a2 most out2 0::σ)→X [.int .i64 k] H4:=by
   intro g
   induction g with
   |zero=>
    intro k a2 out2 H4 hk hl hb hs4
    rw[bytesM] at hb
    exact hX _ H4 (br_n (by omega) (hR _ _ hb.symm H4 hs4))
   |succ g ih=>
    intro k a2 out2 H4 hk hl hb hs4
    have wk:IntKind.wrap .i64 ((k:Int)+1)=((k+1:Nat):Int):=by rw[wrap_id (by omega) (by omega)];omega
    refine hX _ H4 (br_y (by omega) (c63 (n:=8) hs4 hB hr (by omega) (fun hlt H5 hs5=>⟨_,rfl,?_⟩) (fun hle H5 hs5=>⟨_,rfl,?_⟩)))
    ·rw[bytesM,getM_bad (n:=8) hlt] at hb
     rw[if_pos rfl] at hs5
     exact⟨_,rfl,_,rfR_e hs5,br_t rfl (bad0 hb.symm hs5)⟩
    ·rw[bytesM,getM_num (n:=8) hle] at hb
     simp only at hb
     have hv:=numB_rng false B a2 8
     generalize numB false B a2 8=v at*
     rw[show(2:Int)^8=256 from by decide] at hv
     obtain⟨p,c,hh,hs5'⟩:=rfR_op hs5
     refine⟨_,rfl,_,rfR_e hs5,br_f rfl ⟨_,rfl,_,_,_,hs5'.get 0 (j:=2) rfl rfl,?_⟩⟩
     rw[wrap_u8 (by omega) (by omega),wk]
     refine hs5'.alc fun b H6 hs6=>?_
     refine hs6.appC 2 0 (el:=5) (k:=1) rfl rfl rfl (one1 rfl) (by decide) rfl (by omega) (by omega) fun p' c' H7 hs7=>⟨_,rfl,?_⟩
     refine hs7.put 1 (j:=2) rfl (by simp) rfl fun H8 hs8=>?_
     refine ih (k+1) (a2+8) (out2++[v]) H8 (by omega) (by simp;omega) hb ?_
     refine rfR_mk (p:=p') (c:=c') ⟨hh.1,hh.2.1,by simp;omega,hh.2.2.2.1,fun z hz=>?_⟩ ?_
     ·rcases List.mem_append.1 hz with hz|hz
      ·exact hh.2.2.2.2 z hz
      ·rw[List.mem_singleton.1 hz];omega
     ·rw[kints_append,List.length_append,List.length_singleton]
      exact hs8.tail
  exact loop N 0 _ out H3 (by omega) (by omega) key hs3
 have bad25:m≠65535-n→CallsH Tryz.prog 68 #[.pointer (some ⟨r,0,none⟩),.int .i64 25] H3 (fun q H'=>q= .tuple #[]∧R (.tuple #[]) H'):=fun hne=>by
  rw[if_pos hne] at key
  exact c68 hs3 fun H4 hs4=>⟨rfl,hbad 25 (by decide) key.symm H4 _ _ hs4⟩
 refine br_ne (fun hne=>bad25 (by omega)) (fun heq=>br_ne (fun hne=>?_) (fun _=>go (by omega)))
 exact absurd (and_ffff (by omega) (by omega)) hne
end
end Go.Proofs
namespace Go.Proofs
open Go.Sh
variable {H0 H:Heap} {σ:List Rs} {R:Value→Heap→Prop}
theorem rmake{p:Option Addr}{l c:Nat}{ls:List Int}(h:IS H p l (ints ls))
 (hbad: ¬OkC ls→ ∀W H',Ext H H'→R (.agg #[.slice p l c,.slice none 0 0,.int .i64 W,.bool false]) H')
 (hgood:OkC ls→ ∀b H',St H H' [.sl (some ⟨b,0,none⟩) l l 3 1 (ints (codesM ls))]→R (.agg #[.slice p l c,.slice (some ⟨b,0,none⟩) l l,.int .i64 (wtM ls),.bool true]) H'):
 CallsH Tryz.prog 95 #[.slice p l c] H R:=by
 by_cases ok:OkC ls
 ·exact c95 h ok (hgood ok)
 refine Tryz.s95 ?_
 unfold Tryz.S95
 refine(St.nil H).alc fun b2 H1 hs1=>?_
 have go: ∀W y,∃r6 r7,Value.tuple #[.int .i64 W,.bool y]= .tuple #[.int .i64 r6,.bool r7]∧Tryz.C 116 #[.slice p l c] H1 fun r8 H9=> ∃r10p r10l r10c r11,r8= .tuple #[.slice r10p r10l r10c,.bool r11]∧#[Value.slice p l c,Value.slice r10p r10l r10c,Value.int .i64 r6,Value.bool r11].size=4∧stAt H9 ⟨b2,0,none⟩ (Array.toList #[.slice p l c,.slice r10p r10l r10c,.int .i64 r6,.bool r11]) fun H12=> ∃re13,re13.size=4∧rowIn H12 ⟨b2,0,none⟩ re13∧R (.agg re13) H12:=fun W y=>by
  refine⟨_,_,rfl,c116 (h.ext hs1.ext) (fun hn=>⟨_,_,_,_,rfl,rfl,?_⟩) (fun hy=>absurd hy ok)⟩
  refine hs1.putAll 0 rfl (by simp) (by simp[Value.oneCell']) fun H3 hs3=>?_
  exact⟨_,rfl,rowIn_whole (hs3.block 0 rfl),hbad hn W H3 hs3.ext⟩
 exact c115 (h.ext hs1.ext) (fun _=>go _ _) (fun _=>go _ _)
theorem c121{p:Option Addr}{l c:Nat}{ls:List Int}(h:IS H p l (ints ls))(hl:l≤1000000)(hR:R (.int .i64 (ls.countP (fun x=>decide (x>0)):Nat)) H):CallsH Tryz.prog 121 #[.slice p l c] H R:=by
 have h':IS H p l (kints .i64 ls):=h
 have e:=h'.length
 refine Tryz.s121 ?_
 intro X hX
 have go: ∀k,k≤l→X [.int .i64 ((ls.take k).countP (fun x=>decide (x>0)):Nat),.int .i64 (k:Nat)] H:=upto fun k hk ih=>by
  have hc:(ls.take k).countP (fun x=>decide (x>0))≤(ls.take k).length:=List.countP_le_length
  rw[List.length_take] at hc
  refine hX _ _ H (br_dec (fun hlt=>?_) (fun hge=>?_))
  ·have ih:=ih (by omega)
   rw[countP_take (by omega)] at ih
   refine h'.rd (by omega) (by omega) (by rw[Int.toNat_natCast];exact get_gD ls 0 (by omega)) ?_
   rw[wrap_id (by omega) (by omega),wrap_id (by omega) (by omega)]
   refine br_dec (fun hp=>?_) (fun hp=>?_)
   ·rw[if_pos hp] at ih;exact ih
   ·rw[if_neg hp] at ih;exact ih
  ·have:k=l:=by omega
   subst this
   rw[List.take_of_length_le (by omega)]
   exact hR
 exact go 0 (by omega)
theorem rright_ok{p cp:Option Addr}{l c cl cc:Nat}{ls:List Int}{s n:Bool}(h:IS H p l (ints ls))(ok:OkC ls)(hl:l≤1000000)(hR: ∀H',Ext H H'→R (.bool (rightM ls s n)) H'):
 CallsH Tryz.prog 98 #[.agg #[.slice p l c,.slice cp cl cc,.int .i64 (wtM ls),.bool true],.bool s,.bool n] H R:=by
 have hrm:=rightM_of ok s n
 refine Tryz.s98 ((St.nil H).alc fun b4 H5 hs5=>?_)
 have hR:=hR H5 hs5.ext
 have gW:Sh.cell H5 ⟨b4,2,none⟩=some (.int .i64 (wtM ls)):=hs5.get 0 (j:=2) rfl rfl
 refine⟨_,hs5.get 0 (j:=3) rfl rfl,br_f rfl ⟨_,gW,br_eq (fun hw=>?_) (fun hw=>?_)⟩⟩
 ·rw[hrm,hw] at hR;exact hR
 have e1:(wtM ls==65536)=false:=by simpa using hw
 rw[e1,Bool.false_or] at hrm
 have last:(s&&wtM ls==32768&&ls.countP (fun x=>decide (x>0))==1)=false→br n (∃W13,Sh.cell H5 (Addr.add ⟨b4,0,none⟩ 2)=some (.int .i64 W13)∧R (.bool (W13==0)) H5) (R (.bool false) H5):=fun hz=>by
  rw[hz,Bool.false_or] at hrm
  refine br_i (fun hn=>⟨_,gW,?_⟩) (fun hn=>?_)
  ·rw[hrm,hn] at hR;exact hR
  ·rw[hrm,hn] at hR;exact hR
 refine br_i (fun hsg=>⟨_,gW,br_i (fun h3=>⟨_,_,_,hs5.get 0 (j:=0) rfl rfl,?_⟩) (fun h3=>last ?_)⟩) (fun hsg=>last ?_)
 ·refine c121 (h.ext hs5.ext) hl ⟨_,rfl,?_⟩
  have hc1:(((ls.countP (fun x=>decide (x>0)):Nat):Int)==1)=(ls.countP (fun x=>decide (x>0))==1):=by
   rw[Bool.eq_iff_iff];simp;omega
  rw[hc1]
  refine br_i (fun hc=>?_) (fun hc=>last ?_)
  ·rw[hrm,hsg,h3,hc] at hR;exact hR
  ·rw[hsg,h3,hc];rfl
 ·rw[hsg,h3];rfl
 ·rw[hsg];rfl
theorem rright_bad{x y z:Value}{s n:Bool}(hR: ∀H',Ext H H'→R (.bool false) H'):CallsH Tryz.prog 98 #[.agg #[x,y,z,.bool false],.bool s,.bool n] H R:=by
 refine Tryz.s98 ((St.nil H).alc fun b4 H5 hs5=>?_)
 exact⟨_,hs5.get 0 (j:=3) rfl rfl,br_t rfl (hR H5 hs5.ext)⟩
section
variable {r bl bc a most:Nat} {bp:Option Addr} {B out:List Int} {e:Int}
set_option maxHeartbeats 1000000 in
theorem c99{q:Option Addr}{m T g:Nat}{ls first:List Int}(hs:St H0 H (rfR r bp bl bc a most out 0:: .sl q ls.length m 3 1 (ints ls)::σ))(hB:IS H0 bp bl (kints .u8 B))(hr: ∀x∈B,0≤x∧x<256){j lc cc:Nat}{lp cp:Option Addr}{W0:Int}{okb:Bool}
 {Q:Heap→Prop}(hj:σ[j]?=some (.pers Q))(hq: ∀H,Q H→CodI lp cp first H)(ok:OkC first)(hT:T≤1000)(hlt:ls.length<T){W:Except Int (Nat×List Int)}(hW:listM B first T (g+1) a ls=W)
 (hbad: ∀k,k≠0→W= .error k→ ∀H' a' q n m ls',St H0 H' (rfR r bp bl bc a' most out k:: .sl q n m 3 1 (ints ls')::σ)→R (.slice q n m) H')
 (hR: ∀a' ls',a<a'→listM B first T g a' ls'=W→ls'.length≤T→ ∀H' q m,St H0 H' (rfR r bp bl bc a' most out 0:: .sl q ls'.length m 3 1 (ints ls')::σ)→R (.slice q ls'.length m) H'):
 CallsH Tryz.prog 99 #[.pointer (some ⟨r,0,none⟩),.agg (codV lp cp lc cc first W0 okb),.slice q ls.length m,.int .i64 (T:Nat)] H R:=by
 have l300:=ok.w.len
 have he:=hW
 rw[listM,if_neg (by omega)] at he
 refine Tryz.s99 (hs.alc fun b5 H6 hs6=>?_)
 have hs6:St H0 H6 (rfR r bp bl bc a most out 0:: .sl q ls.length m 3 1 (ints ls):: .cell b5 (codV lp cp lc cc first W0 okb) 99::σ):=(hs6.front 1 rfl).perm (List.Perm.cons _ (List.Perm.swap _ _ _))
 have hj': ∀{x y:Rs},(x::y::σ)[j+2]?=some (.pers Q):=fun{x y}=>by rw[List.getElem?_cons_succ,List.getElem?_cons_succ];exact hj
 refine⟨_,rfl,rowIn_whole (hs6.block 2 rfl),c96 hs6 hB hr hj' hq ok (fun k hk hsy H7 a7 hs7=>?_) (fun s a7 hsy H7 hs7=>?_)⟩
 ·rw[hsy] at he
  exact⟨_,rfl,_,rfl,_,rfR_e hs7,br_ne (fun _=>hbad k hk he.symm H7 a7 q _ m ls (hs7.del 2)) (fun h=>absurd h hk)⟩
 have hadv:=symM_adv hsy
 rw[hsy] at he
 simp only at he
 refine⟨_,rfl,_,rfl,_,rfR_e hs7,br_f rfl ?_⟩
 -- the list grows
 have body: ∀(e v:Int) (n a8:Nat) (H8:Heap),n≤200→St H0 H8 (rfR r bp bl bc a8 most out e:: .sl q ls.length m 3 1 (ints ls):: .cell b5 (codV lp cp lc cc first W0 okb) 99::σ)→
  (∀q' m' H9,St H0 H9 (rfR r bp bl bc a8 most out (if e=0∧T<ls.length+n then 21 else e):: .sl q' (ls++List.replicate n v).length m' 3 1 (ints (ls++List.replicate n v))::σ)→R (.slice q' (ls++List.replicate n v).length m') H9)→
  ∀J25:List Value→Heap→Prop,(∀H26,(∀X27:List Value→Heap→Prop,(∀(li28p:Option Addr) (li28l li28c:Nat) (k29:Int) H30,(br (decide (k29<(n:Int)))
   (alc H30 (.cells #[.int .i64 v] 3) fun b31 H32=>appQ 1 8 #[.int .i64 0] H32 li28p li28l li28c (some ⟨b31,0,none⟩) 1 3 fun li33p li33l li33c H34=>X27 [.slice li33p li33l li33c,.int .i64 (IntKind.wrap .i64 (k29+1))] H34)
   (R (.slice li28p li28l li28c) H30))→X27 [.slice li28p li28l li28c,.int .i64 k29] H30)→X27 [.slice q ls.length m,.int .i64 0] H26)→J25 [] H26)→
  ∃a35,(some (⟨r,0,none⟩:Addr))=some a35∧ ∃E36,Sh.cell H8 (Addr.add a35 4)=some (.int .i64 E36)∧br (E36==0) (br (decide ((IntKind.wrap .i64 ((ls.length:Int)+n))>(T:Int)))
   (CallsH Tryz.prog 68 #[.pointer (some ⟨r,0,none⟩),.int .i64 21] H8 fun r37 H38=>r37= .tuple #[]∧J25 [] H38)
   (J25 [] H8)) (J25 [] H8):=fun e v n a8 H8 hn hs8 hfin J25 hJ25=>by
  have app: ∀e' H9,e'=(if e=0∧T<ls.length+n then 21 else e)→St H0 H9 (rfR r bp bl bc a8 most out e':: .sl q ls.length m 3 1 (ints ls):: .cell b5 (codV lp cp lc cc first W0 okb) 99::σ)→J25 [] H9:=fun e' H9 he' hs9=>by
   refine hJ25 H9 ?_
   intro X27 hX27
   have go: ∀k,k≤n→ ∀q' m' H10,St H0 H10 (rfR r bp bl bc a8 most out e':: .sl q' (ls.length+k) m' 3 1 (ints (ls++List.replicate k v)):: .cell b5 (codV lp cp lc cc first W0 okb) 99::σ)→X27 [.slice q' (ls.length+k) m',.int .i64 (k:Nat)] H10:=upto fun k hk ih q' m' H10 hs10=>by
    refine hX27 _ _ _ _ H10 (br_dec (fun hlt=>?_) (fun hge=>?_))
    ·refine hs10.alc fun b H11 hs11=>?_
     refine hs11.appC 2 0 (el:=3) (k:=1) rfl rfl rfl (one1 rfl) (by decide) rfl (by omega) (by omega) fun p' c' H12 hs12=>?_
     rw[wrap_id (by omega) (by omega)]
     refine ih (by omega) p' c' H12 ?_
     rw[List.replicate_succ',←List.append_assoc,ints_append]
     exact hs12.tail
    ·have:k=n:=by omega
     subst this
     have:=hfin q' m' H10 (by rw[←he',List.length_append,List.length_replicate];exact hs10.del 2)
     rw[List.length_append,List.length_replicate] at this
     exact this
   exact go 0 (by omega) q m H9 (by simpa using hs9)
  refine⟨_,rfl,_,rfR_e hs8,?_⟩
  rw[wrap_id (by omega) (by omega)]
  refine br_eq (fun h0=>br_dec (fun hgt=>c68 hs8 fun H9 hs9=>⟨rfl,app _ H9 (by rw[if_pos h0,if_pos ⟨h0,by omega⟩]) hs9⟩) (fun hle=>app _ H8 (by rw[if_neg (fun h=>hle (by omega))]) hs8)) (fun h0=>app _ H8 (by rw[if_neg (fun h=>h0 h.1)]) hs8)
 -- behind the bits of a repeat
 have fin0: ∀(v:Int) (n a8:Nat),a7≤a8→(if (n:Int)>(T:Int)-ls.length then .error 21 else listM B first T g a8 (ls++List.replicate n v))=W→ ∀q' m' H9,St H0 H9 (rfR r bp bl bc a8 most out (if (0:Int)=0∧T<ls.length+n then 21 else 0):: .sl q' (ls++List.replicate n v).length m' 3 1 (ints (ls++List.replicate n v))::σ)→R (.slice q' (ls++List.replicate n v).length m') H9:=fun v n a8 ha he q' m' H9 hs9=>by
  by_cases hgt:T<ls.length+n
  ·rw[if_pos ⟨rfl,hgt⟩] at hs9
   rw[if_pos (by omega)] at he
   exact hbad 21 (by decide) he.symm H9 _ _ _ _ _ hs9
  ·rw[if_neg (fun h=>hgt h.2)] at hs9
   rw[if_neg (by omega)] at he
   exact hR a8 _ (by omega) he (by rw[List.length_append,List.length_replicate];omega) H9 _ _ hs9
 have fin20: ∀(v:Int) (n a8:Nat),W= .error 20→ ∀q' m' H9,St H0 H9 (rfR r bp bl bc a8 most out (if (20:Int)=0∧T<ls.length+n then 21 else 20):: .sl q' (ls++List.replicate n v).length m' 3 1 (ints (ls++List.replicate n v))::σ)→R (.slice q' (ls++List.replicate n v).length m') H9:=fun v n a8 hT q' m' H9 hs9=>by
  rw[if_neg (fun h=>absurd h.1 (by decide))] at hs9
  exact hbad 20 (by decide) hT H9 _ _ _ _ _ hs9
 have lsr: ∀{H8:Heap} {e8:Int} {a8:Nat},St H0 H8 (rfR r bp bl bc a8 most out e8:: .sl q ls.length m 3 1 (ints ls):: .cell b5 (codV lp cp lc cc first W0 okb) 99::σ)→IS H8 q ls.length (kints .i64 ls):=fun hs8=>hs8.is 1 rfl
 have wN: ∀(c:Nat) (x:Int),0≤x→(c:Int)+x≤200→IntKind.wrap .i64 ((c:Int)+x)=(((c:Int)+x).toNat:Int):=fun c x h1 h2=>by rw[wrap_id (by omega) (by omega)];omega
 intro J13 hJ13
 refine br_eq (fun h16=>?_) (fun h16=>?_)
 ·rw[if_pos (by omega)] at he
  refine c63 (n:=2) hs7 hB hr (by omega) (fun hb H8 hs8=>⟨_,rfl,?_⟩) (fun hb H8 hs8=>⟨_,rfl,?_⟩)
  ·rw[getM_bad (n:=2) hb] at he
   rw[if_pos rfl] at hs8
   refine br_eq (fun hl0=>c68 hs8 fun H9 hs9=>⟨rfl,?_⟩) (fun hl0=>?_)
   ·rw[if_neg (by decide)] at hs9
    exact hbad 20 (by decide) he.symm H9 _ _ _ _ _ (hs9.del 2)
   ·rw[wrap_id (n:=((ls.length:Nat):Int)-1) (by omega) (by omega)]
    refine(lsr hs8).rd (by omega) (by omega) (get_gD ls 0 (by omega)) ?_
    refine hJ13 _ _ H8 ?_
    intro J17 hJ17
    refine br_eq (fun h=>by omega) (fun _=>hJ17 _ _ H8 ?_)
    intro J21 hJ21
    refine br_eq (fun h=>by omega) (fun _=>hJ21 _ _ H8 ?_)
    exact body 20 _ 3 _ H8 (by omega) hs8 (fin20 _ 3 _ he.symm)
  ·rw[getM_num (n:=2) hb] at he
   simp only at he
   have hx:=pow_e (n:=2) (d:=4) (by decide) (B:=B) (a:=a7)
   generalize numB false B a7 2=x at*
   refine br_eq (fun hl0=>c68 hs8 fun H9 hs9=>⟨rfl,?_⟩) (fun hl0=>?_)
   ·rw[if_pos rfl] at hs9
    have:ls=[]:=List.length_eq_zero_iff.1 (by omega)
    rw[this,List.getLast?_nil] at he
    exact hbad 21 (by decide) he.symm H9 _ _ _ _ _ (hs9.del 2)
   ·rw[wrap_id (n:=((ls.length:Nat):Int)-1) (by omega) (by omega)]
    cases hv:ls.getLast? with
    |none=>rw[List.getLast?_eq_none_iff] at hv;rw[hv] at hl0;exact absurd rfl hl0
    |some v=>
     rw[hv] at he
     simp only at he
     refine(lsr hs8).rd (x:=v) (by omega) (by omega) (by rw[show(((ls.length:Nat):Int)-1).toNat=ls.length-1 from by omega];exact last_get hv) ?_
     rw[show(3:Int)+x=((3:Nat):Int)+x from rfl,wN 3 x hx.1 (by omega)]
     refine hJ13 _ _ H8 ?_
     intro J17 hJ17
     refine br_eq (fun h=>by omega) (fun _=>hJ17 _ _ H8 ?_)
     intro J21 hJ21
     refine br_eq (fun h=>by omega) (fun _=>hJ21 _ _ H8 ?_)
     refine body 0 v _ _ H8 (by omega) hs8 (fin0 v _ _ (by omega) ?_)
     rw[←he]
     rw[show(((((3:Nat):Int)+x).toNat:Nat):Int)=3+x from by omega]
     rfl
 ·rw[if_neg (by omega)] at he
  refine hJ13 _ _ H7 ?_
  intro J17 hJ17
  refine br_eq (fun h17=>?_) (fun h17=>?_)
  ·rw[if_pos (by omega)] at he
   refine c63 (n:=3) hs7 hB hr (by omega) (fun hb H8 hs8=>⟨_,rfl,?_⟩) (fun hb H8 hs8=>⟨_,rfl,?_⟩)
   ·rw[getM_bad (n:=3) hb] at he
    rw[if_pos rfl] at hs8
    refine hJ17 _ _ H8 ?_
    intro J21 hJ21
    refine br_eq (fun h=>by omega) (fun _=>hJ21 _ _ H8 ?_)
    exact body 20 0 3 _ H8 (by omega) hs8 (fin20 _ 3 _ he.symm)
   ·rw[getM_num (n:=3) hb] at he
    simp only at he
    have hx:=pow_e (n:=3) (d:=8) (by decide) (B:=B) (a:=a7)
    generalize numB false B a7 3=x at*
    rw[show(3:Int)+x=((3:Nat):Int)+x from rfl,wN 3 x hx.1 (by omega)]
    refine hJ17 _ _ H8 ?_
    intro J21 hJ21
    refine br_eq (fun h=>by omega) (fun _=>hJ21 _ _ H8 ?_)
    refine body 0 0 _ _ H8 (by omega) hs8 (fin0 0 _ _ (by omega) ?_)
    rw[←he]
    rw[show(((((3:Nat):Int)+x).toNat:Nat):Int)=3+x from by omega]
    rfl
  ·rw[if_neg (by omega)] at he
   refine hJ17 _ _ H7 ?_
   intro J21 hJ21
   refine br_eq (fun h18=>?_) (fun h18=>?_)
   ·rw[if_pos (by omega)] at he
    refine c63 (n:=7) hs7 hB hr (by omega) (fun hb H8 hs8=>⟨_,rfl,?_⟩) (fun hb H8 hs8=>⟨_,rfl,?_⟩)
    ·rw[getM_bad (n:=7) hb] at he
     rw[if_pos rfl] at hs8
     refine hJ21 _ _ H8 ?_
     exact body 20 0 11 _ H8 (by omega) hs8 (fin20 _ 11 _ he.symm)
    ·rw[getM_num (n:=7) hb] at he
     simp only at he
     have hx:=pow_e (n:=7) (d:=128) (by decide) (B:=B) (a:=a7)
     generalize numB false B a7 7=x at*
     rw[show(11:Int)+x=((11:Nat):Int)+x from rfl,wN 11 x hx.1 (by omega)]
     refine hJ21 _ _ H8 ?_
     refine body 0 0 _ _ H8 (by omega) hs8 (fin0 0 _ _ (by omega) ?_)
     rw[←he]
     rw[show(((((11:Nat):Int)+x).toNat:Nat):Int)=11+x from by omega]
     rfl
   ·rw[if_neg (by omega)] at he
    refine hJ21 _ _ H7 ?_
    refine body 0 (s:Int) 1 _ H7 (by omega) hs7 (fin0 (s:Int) 1 _ (Nat.le_refl _) ?_)
    rw[←he,if_neg (by omega)]
    rfl
end
end Go.Proofs
namespace Go.Proofs
open Go.Sh
variable {H0 H:Heap} {σ:List Rs} {R:Value→Heap→Prop}
theorem firstM_bad{B:List Int}: ∀(l r:List Nat) (x:Nat) (fs:List Int) {e:Int},firstM B l x fs= .error e→firstM B (l++r) x fs= .error e
 |[],r,x,fs,e,h=>by cases h
 |t::l,r,x,fs,e,h=>by
  rw[List.cons_append,firstM]
  rw[firstM] at h
  cases hg:getM B 3 x with
  |error e'=>rw[hg] at h;exact h
  |ok y=>rw[hg] at h;exact firstM_bad l r _ _ h
theorem codZ_one: ∀x∈(Array.toList #[Value.slice none 0 0,Value.slice none 0 0,Value.int .i64 0,Value.bool false]),x.oneCell'=true:=by decide
section
variable {r bl bc a most:Nat} {bp:Option Addr} {B out:List Int} {e:Int}
set_option maxHeartbeats 2000000 in
theorem c67(hs:St H0 H (rfR r bp bl bc a most out 0::σ))(hB:IS H0 bp bl (kints .u8 B))(hr: ∀x∈B,0≤x∧x<256)
 (hbad: ∀k,k≠0→tablesM B a= .error k→ ∀H' a' v1 v2 τ,v1.size=4→v2.size=4→(∀x∈v1.toList,x.oneCell'=true)→(∀x∈v2.toList,x.oneCell'=true)→St H0 H' (rfR r bp bl bc a' most out k::τ++σ)→R (.tuple #[.agg v1,.agg v2]) H')
 (hR: ∀a' ll dl,tablesM B a= .ok (a',ll,dl)→a≤a'→OkC ll→OkC dl→ ∀H' lp1 cp1 lc1 cc1 lp2 cp2 lc2 cc2 τ,St H0 H' (rfR r bp bl bc a' most out 0:: .pers (fun H=>CodI lp1 cp1 ll H∧CodI lp2 cp2 dl H)::τ++σ)→R (.tuple #[.agg (codV lp1 cp1 lc1 cc1 ll (wtM ll) true),.agg (codV lp2 cp2 lc2 cc2 dl (wtM dl) true)]) H'):
 CallsH Tryz.prog 67 #[.pointer (some ⟨r,0,none⟩)] H R:=by
 have key:tablesM B a=tablesM B a:=rfl
 conv at key=>lhs;unfold tablesM
 have e5:(2:Int)^5=32:=by decide
 have e4:(2:Int)^4=16:=by decide
 refine Tryz.s67 ?_
 unfold Tryz.S67
 refine hs.alc fun b2 H3 hs3=>hs3.alc fun b4 H5 hs5=>?_
 have hs5:St H0 H5 (rfR r bp bl bc a most out 0:: .cell b4 #[.slice none 0 0,.slice none 0 0,.int .i64 0,.bool false] 99:: .cell b2 #[.slice none 0 0,.slice none 0 0,.int .i64 0,.bool false] 99::σ):=hs5.front 2 rfl
 generalize hC4:Rs.cell b4 #[.slice none 0 0,.slice none 0 0,.int .i64 0,.bool false] 99=C4 at hs5
 generalize hC2:Rs.cell b2 #[.slice none 0 0,.slice none 0 0,.int .i64 0,.bool false] 99=C2 at hs5
 -- three numbers
 have three: ∀(Q:Int→Int→Int→Heap→Prop),
  (∀H' hl hd hc a' e,0≤hl∧hl<32→0≤hd∧hd<32→0≤hc∧hc<16→(e=0∧getM B 5 a= .ok (hl,a+5)∧getM B 5 (a+5)= .ok (hd,a+10)∧getM B 4 (a+10)= .ok (hc,a+14)∧a'=a+14)∨(e=20∧tablesM B a= .error 20)→
   St H0 H' (rfR r bp bl bc a' most out e::C4::C2::σ)→Q hl hd hc H')→
  CallsH Tryz.prog 63 #[.pointer (some ⟨r,0,none⟩),.int .i64 5] H5 fun r2 H3=> ∃hl4,r2= .int .i64 hl4∧CallsH Tryz.prog 63 #[.pointer (some ⟨r,0,none⟩),.int .i64 5] H3 fun r5 H6=> ∃hd7,r5= .int .i64 hd7∧
   CallsH Tryz.prog 63 #[.pointer (some ⟨r,0,none⟩),.int .i64 4] H6 fun r8 H9=> ∃hc10,r8= .int .i64 hc10∧Q hl4 hd7 hc10 H9:=fun Q hQ=>by
  have err3: ∀H6 a' hl hd,0≤hl∧hl<32→0≤hd∧hd<32→tablesM B a= .error 20→St H0 H6 (rfR r bp bl bc a' most out 20::C4::C2::σ)→CallsH Tryz.prog 63 #[.pointer (some ⟨r,0,none⟩),.int .i64 4] H6 fun r8 H9=> ∃hc10,r8= .int .i64 hc10∧Q hl hd hc10 H9:=fun H6 a' hl hd h1 h2 hT hs6=>
   c63 (n:=4) hs6 hB hr (by omega) (fun _ H9 hs9=>⟨_,rfl,hQ H9 hl hd 0 a' 20 h1 h2 (by omega) (.inr ⟨rfl,hT⟩) hs9⟩) (fun _ H9 hs9=>⟨_,rfl,hQ H9 hl hd _ _ 20 h1 h2 (pow_e e4) (.inr ⟨rfl,hT⟩) hs9⟩)
  have err2: ∀H3 a' hl,0≤hl∧hl<32→tablesM B a= .error 20→St H0 H3 (rfR r bp bl bc a' most out 20::C4::C2::σ)→CallsH Tryz.prog 63 #[.pointer (some ⟨r,0,none⟩),.int .i64 5] H3 fun r5 H6=> ∃hd7,r5= .int .i64 hd7∧CallsH Tryz.prog 63 #[.pointer (some ⟨r,0,none⟩),.int .i64 4] H6 fun r8 H9=> ∃hc10,r8= .int .i64 hc10∧Q hl hd7 hc10 H9:=fun H3 a' hl h1 hT hs3=>
   c63 (n:=5) hs3 hB hr (by omega) (fun _ H6 hs6=>⟨_,rfl,err3 H6 a' hl 0 h1 (by omega) hT hs6⟩) (fun _ H6 hs6=>⟨_,rfl,err3 H6 _ hl _ h1 (pow_e e5) hT hs6⟩)
  refine c63 (n:=5) hs5 hB hr (by omega) (fun hlt H3 hs3=>⟨_,rfl,err2 H3 a 0 (by omega) ?_ hs3⟩) (fun hle H3 hs3=>⟨_,rfl,?_⟩)
  ·rw[getM_bad (n:=5) hlt] at key;exact key.symm
  have g1:=getM_num (n:=5) hle
  rw[g1] at key
  simp only at key
  refine c63 (n:=5) hs3 hB hr (by omega) (fun hlt H6 hs6=>⟨_,rfl,err3 H6 _ _ 0 (pow_e e5) (by omega) ?_ hs6⟩) (fun hle2 H6 hs6=>⟨_,rfl,?_⟩)
  ·rw[getM_bad (n:=5) hlt] at key;exact key.symm
  have g2:=getM_num (n:=5) hle2
  rw[g2] at key
  simp only at key
  refine c63 (n:=4) hs6 hB hr (by omega) (fun hlt H9 hs9=>⟨_,rfl,hQ H9 _ _ 0 _ 20 (pow_e e5) (pow_e e5) (by omega) (.inr ⟨rfl,?_⟩) hs9⟩) (fun hle3 H9 hs9=>⟨_,rfl,?_⟩)
  ·rw[getM_bad (n:=4) hlt] at key;exact key.symm
  have g3:=getM_num (n:=4) hle3
  exact hQ H9 _ _ _ _ 0 (pow_e e5) (pow_e e5) (pow_e e4) (.inl ⟨rfl,g1,g2,g3,rfl⟩) hs9
 refine three _ fun H9 hl hd hc a9 e9 bhl bhd bhc hcase hs9=>?_
 clear three e5 e4
 -- what is left behind an error
 have zero: ∀e H',e≠0→tablesM B a= .error e→ ∀a' τ,St H0 H' (rfR r bp bl bc a' most out e::C4::C2::(τ++σ))→#[Value.slice none 0 0,Value.slice none 0 0,Value.int .i64 0,Value.bool false].size=4∧stAt H' ⟨b2,0,none⟩ (Array.toList #[.slice none 0 0,.slice none 0 0,.int .i64 0,.bool false]) fun H45=>#[Value.slice none 0 0,Value.slice none 0 0,Value.int .i64 0,Value.bool false].size=4∧stAt H45 ⟨b4,0,none⟩ (Array.toList #[.slice none 0 0,.slice none 0 0,.int .i64 0,.bool false]) fun H46=> ∃re47,re47.size=4∧rowIn H46 ⟨b2,0,none⟩ re47∧ ∃re48,re48.size=4∧rowIn H46 ⟨b4,0,none⟩ re48∧R (.tuple #[.agg re47,.agg re48]) H46:=fun e H' he hT a' τ hs'=>by
  refine⟨rfl,hs'.putAll 2 (by rw[←hC2];rfl) rfl codZ_one fun H45 hs45=>⟨rfl,hs45.putAll 1 (by rw[←hC4];rfl) rfl codZ_one fun H46 hs46=>?_⟩⟩
  simp only[List.set_cons_succ,List.set_cons_zero] at hs46
  refine⟨_,rfl,rowIn_whole (hs46.block 2 rfl),_,rfl,rowIn_whole (hs46.block 1 rfl),?_⟩
  exact hbad e he hT H46 a' _ _ (_::_::τ) rfl rfl codZ_one codZ_one hs46
 intro J15 hJ15
 have w1:IntKind.wrap .i64 (hc+4)=((hc.toNat+4:Nat):Int):=by rw[wrap_id (by omega) (by omega)];omega
 have w2:IntKind.wrap .i64 (hl+257)=((hl.toNat+257:Nat):Int):=by rw[wrap_id (by omega) (by omega)];omega
 have w3:IntKind.wrap .i64 (IntKind.wrap .i64 (hl+hd)+258)=((hl.toNat+hd.toNat+258:Nat):Int):=by rw[wrap_id (n:=hl+hd) (by omega) (by omega),wrap_id (by omega) (by omega)];omega
 have main: ∀H1 a1 e1,(e1=0∧tablesM B a=(match firstM B (ordL.take (hc.toNat+4)) a1 (List.replicate 19 0) with
  | .error e=> .error e
  | .ok (at4,first)=>if rightM first false false=false then .error 21 else match listM B first (hl.toNat+hd.toNat+258) (8*B.length+2) at4 [] with
   | .error e=> .error e
   | .ok (at5,ls)=>if rightM (ls.take (hl.toNat+257)) true false=false∨rightM (ls.drop (hl.toNat+257)) true true=false then .error 21 else .ok (at5,ls.take (hl.toNat+257),ls.drop (hl.toNat+257)))∧a≤a1)∨
  (e1≠0∧tablesM B a= .error e1)→St H0 H1 (rfR r bp bl bc a1 most out e1::C4::C2::σ)→J15 [] H1:=fun H1 a1 e1 hc1 hs1=>by
  refine hJ15 H1 (hs1.alc fun b17 H18 hs18=>⟨rfl,hs18.putAll 0 rfl rfl (by decide) fun H19 hs19=>⟨by decide,by decide,by decide,by decide,?_⟩⟩)
  rw[List.set_cons_zero] at hs19
  refine hs19.alc fun b20 H21 hs21=>?_
  rw[show(List.toArray (reps (Int.toNat 19) (Array.toList #[Value.int .i64 0])))=(ints (List.replicate 19 0)).toArray from repsA 19] at hs21
  have hs21:St H0 H21 (rfR r bp bl bc a1 most out e1::C4::C2:: .cell b20 (ints (List.replicate 19 0)).toArray 3:: .cell b17 (ints (ordL.map Int.ofNat)).toArray 145::σ):=hs21.perm ((List.perm_append_comm (l₁:=[_,_]) (l₂:=[_,_,_])).append_right σ)
  rw[w1]
  intro X22 hX22
  have loop: ∀k,k≤hc.toNat+4→ ∀(a2:Nat) (e2:Int) (fs:List Int) (H4:Heap),fs.length=19→(∀x∈fs,0≤x∧x<8)→(e2=0∧e1=0∧firstM B ((ordL.take (hc.toNat+4)).take k) a1 (List.replicate 19 0)= .ok (a2,fs))∨(e2≠0∧tablesM B a= .error e2)→
   St H0 H4 (rfR r bp bl bc a2 most out e2::C4::C2:: .cell b20 (ints fs).toArray 3:: .cell b17 (ints (ordL.map Int.ofNat)).toArray 145::σ)→X22 [.int .i64 (k:Nat)] H4:=upto fun k hk ih a2 e2 fs H4 hfl hfr hc2 hs4=>by
   refine hX22 _ H4 (br_dec (fun hlt=>?_) (fun hge=>?_))
   ·have hlt:k<hc.toNat+4:=by omega
    have ho:=ordL_lt ⟨k,by omega⟩
    simp only at ho
    have hnext:=ih hlt
    rw[ordL_take hlt (by omega),firstM_snoc] at hnext
    have hg:=ordI_get (k:=k) (by omega)
    have hcut:ordL.take (hc.toNat+4)=((ordL.take (hc.toNat+4)).take k++[ordL.getD k 0])++(ordL.take (hc.toNat+4)).drop (k+1):=by
     rw[←ordL_take hlt (by omega),List.take_append_drop]
    generalize ordL.getD k 0=s at ho hg hnext hcut
    have hcell:=hs4.rdA 4 (j:=k) rfl hg
    refine⟨by omega,by omega,_,by rw[Int.toNat_natCast,Nat.mul_one,add_none,Nat.zero_add];exact hcell,?_⟩
    have wk:IntKind.wrap .i64 ((k:Int)+1)=((k+1:Nat):Int):=by rw[wrap_id (by omega) (by omega)];omega
    rw[wk]
    refine c63 (n:=3) hs4 hB hr (by omega) (fun hb H5 hs5=>⟨_,rfl,.inr ⟨_,by rw[Int.toNat_natCast,Nat.mul_one,add_none,Nat.zero_add];exact hs5.rdA 4 (j:=k) rfl hg,rfl⟩,_,rfl,by omega,by omega,?_⟩) (fun hb H5 hs5=>⟨_,rfl,.inr ⟨_,by rw[Int.toNat_natCast,Nat.mul_one,add_none,Nat.zero_add];exact hs5.rdA 4 (j:=k) rfl hg,rfl⟩,_,rfl,by omega,by omega,?_⟩)
    ·simp only[Int.toNat_natCast,Nat.mul_one]
     rw[add_none,Nat.zero_add]
     refine hs5.putA 3 rfl (by omega) fun H6 hs6=>hnext a2 _ _ H6 (by simpa using hfl) (fun x hx=>?_) (.inr ?_) hs6
     ·rcases List.mem_or_eq_of_mem_set hx with hx|rfl
      ·exact hfr x hx
      ·omega
     ·rcases hc2 with ⟨h1,h2,h3⟩|⟨h1,h2⟩
      ·rw[if_pos h1]
       refine⟨by decide,?_⟩
       rcases hc1 with ⟨_,hT,_⟩|⟨hne,_⟩
       ·have hbd:firstM B (ordL.take (hc.toNat+4)) a1 (List.replicate 19 0)= .error 20:=by
         rw[hcut]
         refine firstM_bad _ _ _ _ ?_
         rw[firstM_snoc,h3]
         simp only
         rw[getM_bad (n:=3) hb]
        rw[hbd] at hT
        exact hT
       ·exact absurd h2 hne
      ·rw[if_neg h1];exact⟨h1,h2⟩
    ·simp only[Int.toNat_natCast,Nat.mul_one]
     rw[add_none,Nat.zero_add]
     refine hs5.putA 3 rfl (by omega) fun H6 hs6=>hnext _ _ _ H6 (by simpa using hfl) (fun x hx=>?_) ?_ hs6
     ·rcases List.mem_or_eq_of_mem_set hx with hx|rfl
      ·exact hfr x hx
      ·exact pow_e (n:=3) (by decide)
     ·rcases hc2 with ⟨h1,h2,h3⟩|h
      ·left
       refine⟨h1,h2,?_⟩
       rw[h3]
       simp only
       rw[getM_num (n:=3) hb]
      ·exact .inr h
   ·have hk:k=hc.toNat+4:=by omega
    subst hk
    rw[List.take_take,Nat.min_self] at hc2
    -- behind the first lengths
    have hs4:St H0 H4 (rfR r bp bl bc a2 most out e2::C4::C2::([.cell b20 (ints fs).toArray 3,.cell b17 (ints (ordL.map Int.ofNat)).toArray 145]++σ)):=hs4
    have hfirst:IS H4 (some ⟨b20,0,none⟩) 19 (ints fs):=hs4.isA 3 rfl hfl
    generalize hT9:hl.toNat+hd.toNat+258=T at*
    generalize hN:hl.toNat+257=N at*
    refine CallsH.mono (rmake (R:=fun rv H33=> ∃(cv:Array Value) (ρ:List Rs),rv= .agg cv∧cv.size=4∧(∀x∈cv.toList,x.oneCell'=true)∧St H0 H33 (rfR r bp bl bc a2 most out e2::C4::C2::(ρ++σ))∧
     ((¬OkC fs∧ ∃x y z,cv=#[x,y,z,.bool false])∨(OkC fs∧ ∃bc',cv=codV (some ⟨b20,0,none⟩) (some ⟨bc',0,none⟩) 19 19 fs (wtM fs) true∧ ∃ρ',ρ= .pers (CodI (some ⟨b20,0,none⟩) (some ⟨bc',0,none⟩) fs)::ρ')))
     hfirst (fun hn W H33 e33=>⟨_,_,rfl,rfl,by simp[Value.oneCell'],hs4.step e33,.inl ⟨hn,_,_,_,rfl⟩⟩) (fun ok bc' H33 hs33=>⟨_,.pers (CodI (some ⟨b20,0,none⟩) (some ⟨bc',0,none⟩) fs)::[.cell b17 (ints (ordL.map Int.ofNat)).toArray 145],rfl,rfl,by simp[Value.oneCell'],?_,.inr ⟨ok,bc',by unfold codV;rw[hfl];rfl,_,rfl⟩⟩)) (fun rv H33 hrv=>?_)
    ·have h1:=hs4.call hs33
     have h2:St H0 H33 ([.sl (some ⟨bc',0,none⟩) 19 19 3 1 (ints (codesM fs)),.cell b20 (ints fs).toArray 3]++(rfR r bp bl bc a2 most out e2::C4::C2:: .cell b17 (ints (ordL.map Int.ofNat)).toArray 145::σ)):=
      h1.perm (List.Perm.cons _ ((List.perm_append_comm (l₁:=[_,_,_]) (l₂:=[_])).append_right (_::σ)))
     have h3:=h2.persOf (Q:=CodI (some ⟨b20,0,none⟩) (some ⟨bc',0,none⟩) fs) fun H' h=>⟨by rw[hfl];exact h.isA 1 rfl hfl,by rw[hfl];exact h.is 0 rfl⟩
     exact h3.perm ((List.perm_append_comm (l₁:=[_]) (l₂:=[_,_,_])).append_right (_::σ))
    obtain⟨cv,ρ,rfl,h4,h1,hs33,hspec⟩:=hrv
    clear hs4 hfirst hs21 hs19 hs18
    refine⟨_,rfl,hs33.alc fun b35 H36 hs36=>⟨h4,hs36.putAll 0 rfl (by rw[Array.length_toList,h4];rfl) h1 fun H37 hs37=>?_⟩⟩
    rw[List.set_cons_zero] at hs37
    have hs37:St H0 H37 (rfR r bp bl bc a2 most out e2::C4::C2::(.cell b35 cv 99::ρ++σ)):=hs37.perm ((List.perm_append_comm (l₁:=[_]) (l₂:=[_,_,_])).append_right (ρ++σ))
    intro J38 hJ38
    rw[w2,w3] at hJ38
    have errL: ∀e H39 a' τ,e≠0→tablesM B a= .error e→St H0 H39 (rfR r bp bl bc a' most out e::C4::C2::(τ++σ))→J38 [] H39:=fun e H39 a' τ he hT hs39=>by
     refine hJ38 H39 ?_
     intro J40 hJ40
     have hj:J40 [.slice none 0 0] H39:=hJ40 _ _ _ H39 ⟨_,rfl,_,rfR_e hs39,br_ne (fun _=>zero e H39 he hT a' τ hs39) (fun h=>absurd h he)⟩
     intro X82 hX82
     refine hX82 _ _ _ H39 ?_
     intro J85 hJ85
     exact br_dec (fun _=>⟨_,rfl,_,rfR_e hs39,br_eq (fun h=>absurd h he) (fun _=>hj)⟩) (fun _=>hj)
    refine⟨_,rfl,_,rfR_e hs37,br_eq (fun h20=>?_) (fun h20=>?_)⟩
    case refine_2=>
     rcases hc2 with ⟨h,_⟩|⟨_,hT⟩
     ·exact absurd h h20
     ·exact errL e2 H37 a2 _ h20 hT hs37
    subst h20
    rcases hc2 with ⟨_,h2,h3⟩|⟨h,_⟩
    case inr=>exact absurd rfl h
    rcases hc1 with ⟨_,hT,haa⟩|⟨hne,_⟩
    case inr=>exact absurd h2 hne
    rw[h3] at hT
    simp only at hT
    have haa2:=(firstM_len _ h3).2
    refine⟨_,h4,rowIn_whole (hs37.block 3 rfl),?_⟩
    have bad21:rightM fs false false=false→ ∀H97,Ext H37 H97→CallsH Tryz.prog 68 #[.pointer (some ⟨r,0,none⟩),.int .i64 21] H97 (fun r99 H100=>r99= .tuple #[]∧J38 [] H100):=fun hf H97 e97=>by
     rw[if_pos hf] at hT
     refine c68 (hs37.step e97) fun H100 hs100=>⟨rfl,?_⟩
     rw[if_pos rfl] at hs100
     exact errL 21 H100 a2 _ (by decide) hT hs100
    rcases hspec with ⟨hn,x,y,z,rfl⟩|⟨ok,bc',rfl,ρ',rfl⟩
    ·have hf:rightM fs false false=false:=by
      cases hr:rightM fs false false with
      |false=>rfl
      |true=>exact absurd (rightM_ok hr) hn
     exact rright_bad fun H97 e97=>⟨_,rfl,br_t rfl (bad21 hf H97 e97)⟩
    have hP:=hs37.persGet 4 rfl
    refine rright_ok (l:=fs.length) hP.l ok (by omega) fun H97 e97=>⟨_,rfl,br_not (fun hf=>bad21 hf H97 e97) (fun hright=>?_)⟩
    have hs97:=hs37.step e97
    rw[if_neg (by rw[hright];decide)] at hT
    refine hJ38 H97 ?_
    intro J40 hJ40
    intro X82 hX82
    generalize hW:listM B fs T (8*B.length+2) a2 []=W at hT
    generalize hcv:codV (some ⟨b20,0,none⟩) (some ⟨bc',0,none⟩) 19 19 fs (wtM fs) true=cv at*
    have errX: ∀e q n m a' ls' H6,e≠0→tablesM B a= .error e→St H0 H6 (rfR r bp bl bc a' most out e:: .sl q n m 3 1 (ints ls')::C4::C2::(.cell b35 cv 99:: .pers (CodI (some ⟨b20,0,none⟩) (some ⟨bc',0,none⟩) fs)::ρ'++σ))→X82 [.slice q n m] H6:=fun e q n m a' ls' H6 he hTe hs6=>by
     have hs6':St H0 H6 (rfR r bp bl bc a' most out e::C4::C2::((.sl q n m 3 1 (ints ls'):: .cell b35 cv 99:: .pers (CodI (some ⟨b20,0,none⟩) (some ⟨bc',0,none⟩) fs)::ρ')++σ)):=
      hs6.perm (List.Perm.cons _ ((List.perm_append_comm (l₁:=[_]) (l₂:=[_,_])).append_right _))
     have hj:J40 [.slice q n m] H6:=hJ40 _ _ _ H6 ⟨_,rfl,_,rfR_e hs6,br_ne (fun _=>zero e H6 he hTe a' _ hs6') (fun h=>absurd h he)⟩
     refine hX82 _ _ _ H6 ?_
     intro J85 hJ85
     exact br_dec (fun _=>⟨_,rfl,_,rfR_e hs6,br_eq (fun h=>absurd h he) (fun _=>hj)⟩) (fun _=>hj)
    have grow: ∀(g a1:Nat) (ls:List Int) (q:Option Addr) (m:Nat) (H6:Heap),8*B.length+1<a1+g→a2≤a1→ls.length≤T→listM B fs T g a1 ls=W→St H0 H6 (rfR r bp bl bc a1 most out 0:: .sl q ls.length m 3 1 (ints ls)::C4::C2::(.cell b35 cv 99:: .pers (CodI (some ⟨b20,0,none⟩) (some ⟨bc',0,none⟩) fs)::ρ'++σ))→X82 [.slice q ls.length m] H6:=by
     intro g
     induction g with
     |zero=>
      intro a1 ls q m H6 h1 h2 h3 he hs6
      have:=rfR_a hs6
      have:=hB.length
      omega
     |succ g ihg=>
      intro a1 ls q m H6 hg ha12 hlT he hs6
      refine hX82 _ _ _ H6 ?_
      intro J85 hJ85
      refine br_dec (fun hlt=>⟨_,rfl,_,rfR_e hs6,br_t rfl (hJ85 H6 ⟨_,h4,rowIn_whole (hs6.block 4 rfl),?_⟩)⟩) (fun hge=>?_)
      ·rw[←hcv]
       refine c99 (g:=g) (W:=W) (j:=3) hs6 hB hr rfl (fun H h=>h) ok (by omega) (by omega) he (fun k hk hWk H' a' q' n' m' ls' hs'=>⟨_,_,_,rfl,?_⟩) (fun a' ls' ha' hW' hl' H' q' m' hs'=>⟨_,_,_,rfl,?_⟩)
       ·rw[hWk] at hT
        exact errX k _ _ _ _ _ H' hk hT hs'
       ·exact ihg a' ls' q' m' H' (by omega) (by omega) hl' hW' hs'
      ·rw[listM,if_pos (by omega)] at he
       subst he
       simp only at hT
       have hcap:=(hs6.fs 1 rfl).le
       have l1:(ls.take N).length=N:=by rw[List.length_take];omega
       have l2:(ls.drop N).length=ls.length-N:=List.length_drop
       generalize hX:(Rs.cell b35 cv 99:: .pers (CodI (some ⟨b20,0,none⟩) (some ⟨bc',0,none⟩) fs)::ρ':List Rs)=X at*
       have hs6:St H0 H6 (rfR r bp bl bc a1 most out 0::C4::C2:: .sl q ls.length m 3 1 (ints ls)::(X++σ)):=
        hs6.perm (List.Perm.cons _ ((List.perm_append_comm (l₁:=[_]) (l₂:=[_,_])).append_right _))
       have i1: ∀{H':Heap},IS H' q ls.length (ints ls)→IS H' (if m=0 then q else Option.map (fun x=>Addr.add x (0*1)) q) (N-0) (ints (ls.take N)):=fun h=>by
        have:=is_till h (c:=m) (n:=N) (by omega)
        rwa [ints_take] at this
       have i2: ∀{H':Heap},IS H' q ls.length (ints ls)→IS H' (if m=N then q else Option.map (fun x=>Addr.add x (N*1)) q) (ls.length-N) (ints (ls.drop N)):=fun h=>by
        have:=is_from h hcap (a:=N) (by omega)
        rwa [ints_drop] at this
       refine hJ40 _ _ _ H6 ⟨_,rfl,_,rfR_e hs6,br_f rfl ⟨by omega,by omega,?_⟩⟩
       rw[Int.toNat_natCast]
       generalize (if m=0 then q else Option.map (fun x=>Addr.add x (0*1)) q)=p1 at i1 ⊢
       generalize (if m=N then q else Option.map (fun x=>Addr.add x (N*1)) q)=p2 at i2 ⊢
       refine CallsH.mono (rmake (R:=fun rv H50=> ∃(cv1:Array Value) (ρ1:List Rs),rv= .agg cv1∧cv1.size=4∧(∀x∈cv1.toList,x.oneCell'=true)∧St H0 H50 (rfR r bp bl bc a1 most out 0::C4::C2:: .sl q ls.length m 3 1 (ints ls)::(ρ1++(X++σ)))∧
        ((¬OkC (ls.take N)∧ ∃x y z,cv1=#[x,y,z,.bool false])∨(OkC (ls.take N)∧ ∃c1,cv1=codV p1 (some ⟨c1,0,none⟩) (m-0) N (ls.take N) (wtM (ls.take N)) true∧ρ1=[.sl (some ⟨c1,0,none⟩) N N 3 1 (ints (codesM (ls.take N)))])))
        (i1 (hs6.is 3 rfl)) (fun hn W H50 e50=>⟨_,[],rfl,rfl,by simp[Value.oneCell'],hs6.step e50,.inl ⟨hn,_,_,_,rfl⟩⟩) (fun ok1 c1 H50 hs50=>⟨_,[_],rfl,rfl,by simp[Value.oneCell'],(hs6.call hs50).perm ((List.perm_append_comm (l₁:=[_]) (l₂:=[_,_,_,_])).append_right (X++σ)),.inr ⟨ok1,c1,by unfold codV;rw[l1];rfl,rfl⟩⟩)) (fun rv H50 hrv=>?_)
       obtain⟨cv1,ρ1,rfl,q1,q2,hs50,hspec1⟩:=hrv
       refine⟨_,rfl,hs50.alc fun b52 H53 hs53=>⟨q1,hs53.putAll 0 rfl (by rw[Array.length_toList,q1];rfl) q2 fun H54 hs54=>⟨by omega,by omega,?_⟩⟩⟩
       rw[List.set_cons_zero] at hs54
       refine CallsH.mono (rmake (R:=fun rv H56=> ∃(cv2:Array Value) (ρ2:List Rs),rv= .agg cv2∧cv2.size=4∧(∀x∈cv2.toList,x.oneCell'=true)∧St H0 H56 (rfR r bp bl bc a1 most out 0::C4::C2:: .cell b52 cv1 99:: .sl q ls.length m 3 1 (ints ls)::(ρ2++(ρ1++(X++σ))))∧
        ((¬OkC (ls.drop N)∧ ∃x y z,cv2=#[x,y,z,.bool false])∨(OkC (ls.drop N)∧ ∃c2,cv2=codV p2 (some ⟨c2,0,none⟩) (m-N) (ls.length-N) (ls.drop N) (wtM (ls.drop N)) true∧ρ2=[.sl (some ⟨c2,0,none⟩) (ls.length-N) (ls.length-N) 3 1 (ints (codesM (ls.drop N)))])))
        (i2 (hs54.is 4 rfl)) (fun hn W H56 e56=>⟨_,[],rfl,rfl,by simp[Value.oneCell'],(hs54.step e56).perm ((List.perm_append_comm (l₁:=[_]) (l₂:=[_,_,_])).append_right _),.inl ⟨hn,_,_,_,rfl⟩⟩) (fun ok2 c2 H56 hs56=>⟨_,[_],rfl,rfl,by simp[Value.oneCell'],(hs54.call hs56).perm ((List.perm_append_comm (l₁:=[_,_]) (l₂:=[_,_,_])).append_right _|>.trans ?_),.inr ⟨ok2,c2,by unfold codV;rw[l2],rfl⟩⟩)) (fun rv H56 hrv=>?_)
       ·exact List.Perm.cons _ (List.Perm.cons _ (List.Perm.cons _ ((List.perm_append_comm (l₁:=[_]) (l₂:=[_,_])).append_right _)))
       obtain⟨cv2,ρ2,rfl,q3,q4,hs56,hspec2⟩:=hrv
       refine⟨_,rfl,hs56.alc fun b58 H59 hs59=>⟨q3,hs59.putAll 0 rfl (by rw[Array.length_toList,q3];rfl) q4 fun H60 hs60=>?_⟩⟩
       rw[List.set_cons_zero] at hs60
       have hs60:St H0 H60 (rfR r bp bl bc a1 most out 0::C4::C2:: .cell b58 cv2 99:: .cell b52 cv1 99:: .sl q ls.length m 3 1 (ints ls)::(ρ2++(ρ1++(X++σ)))):=hs60.perm ((List.perm_append_comm (l₁:=[_]) (l₂:=[_,_,_])).append_right _)
       intro J61 hJ61
       have fin61: ∀(e:Int) (H62:Heap),St H0 H62 (rfR r bp bl bc a1 most out e::C4::C2:: .cell b58 cv2 99:: .cell b52 cv1 99:: .sl q ls.length m 3 1 (ints ls)::(ρ2++(ρ1++(X++σ))))→
        (∀H66 K1 K2,St H0 H66 (rfR r bp bl bc a1 most out e::K1::K2:: .cell b58 cv2 99:: .cell b52 cv1 99:: .sl q ls.length m 3 1 (ints ls)::(ρ2++(ρ1++(X++σ))))→R (.tuple #[.agg cv1,.agg cv2]) H66)→J61 [] H62:=fun e H62 hs62 hK=>by
        refine hJ61 H62 ⟨cv1,q1,rowIn_whole (hs62.block 4 rfl),cv2,q3,rowIn_whole (hs62.block 3 rfl),q1,hs62.putAll 2 (by rw[←hC2];rfl) (by rw[Array.length_toList,q1];rfl) q2 fun H65 hs65=>⟨.inr ⟨cv2,q3,rowIn_whole (hs65.block 3 rfl),rfl⟩,q3,hs65.putAll 1 (by rw[←hC4];rfl) (by rw[Array.length_toList,q3];rfl) q4 fun H66 hs66=>?_⟩⟩
        simp only[List.set_cons_succ,List.set_cons_zero] at hs66
        exact⟨cv1,q1,rowIn_whole (hs66.block 2 rfl),cv2,q3,rowIn_whole (hs66.block 1 rfl),hK H66 _ _ hs66⟩
       have bad21':rightM (ls.take N) true false=false∨rightM (ls.drop N) true true=false→ ∀H97,Ext H60 H97→CallsH Tryz.prog 68 #[.pointer (some ⟨r,0,none⟩),.int .i64 21] H97 (fun r99 H100=>r99= .tuple #[]∧J61 [] H100):=fun hf H97 e97=>by
        rw[if_pos hf] at hT
        refine c68 (hs60.step e97) fun H100 hs100=>⟨rfl,?_⟩
        rw[if_pos rfl] at hs100
        refine fin61 21 H100 hs100 fun H66 K1 K2 hs66=>hbad 21 (by decide) hT H66 a1 cv1 cv2 (K1::K2:: .cell b58 cv2 99:: .cell b52 cv1 99:: .sl q ls.length m 3 1 (ints ls)::(ρ2++(ρ1++X))) q1 q3 q2 q4 (by simpa using hs66)
       have r1: ∀{Q:Value→Heap→Prop},(∀H',Ext H60 H'→Q (.bool (rightM (ls.take N) true false)) H')→CallsH Tryz.prog 98 #[.agg cv1,.bool true,.bool false] H60 Q:=fun hQ=>by
        rcases hspec1 with ⟨hn,x,y,z,rfl⟩|⟨ok1,c1,rfl,_⟩
        ·refine rright_bad fun H97 e97=>?_
         have hf:rightM (ls.take N) true false=false:=by
          cases hr:rightM (ls.take N) true false with
          |false=>rfl
          |true=>exact absurd (rightM_ok hr) hn
         rw[←hf];exact hQ H97 e97
        ·refine rright_ok (l:=(ls.take N).length) ?_ ok1 (by omega) hQ
         have:=i1 (hs60.is 5 rfl)
         rw[l1];exact this
       have r2: ∀{H72:Heap} {Q:Value→Heap→Prop},Ext H60 H72→(∀H',Ext H60 H'→Q (.bool (rightM (ls.drop N) true true)) H')→CallsH Tryz.prog 98 #[.agg cv2,.bool true,.bool true] H72 Q:=fun{H72 Q} e72 hQ=>by
        rcases hspec2 with ⟨hn,x,y,z,rfl⟩|⟨ok2,c2,rfl,_⟩
        ·refine rright_bad fun H97 e97=>?_
         have hf:rightM (ls.drop N) true true=false:=by
          cases hr:rightM (ls.drop N) true true with
          |false=>rfl
          |true=>exact absurd (rightM_ok hr) hn
         rw[←hf];exact hQ H97 (e72.trans e97)
        ·refine rright_ok (l:=(ls.drop N).length) ?_ ok2 (by omega) fun H' e'=>hQ H' (e72.trans e')
         have:=i2 ((hs60.is 5 rfl).ext e72)
         rw[l2];exact this
       refine⟨cv1,q1,rowIn_whole (hs60.block 4 rfl),r1 fun H72 e72=>⟨_,rfl,br_not (fun hf=>bad21' (.inl hf) H72 e72) (fun ht1=>?_)⟩⟩
       refine⟨cv2,q3,rowIn_whole ((hs60.step e72).block 3 rfl),r2 e72 fun H78 e78=>⟨_,rfl,br_not (fun hf=>bad21' (.inr hf) H78 e78) (fun ht2=>?_)⟩⟩
       rw[if_neg (by rw[ht1,ht2];decide)] at hT
       rcases hspec1 with ⟨hn,_⟩|⟨ok1,c1,rfl,rfl⟩
       ·exact absurd (rightM_ok ht1) hn
       rcases hspec2 with ⟨hn,_⟩|⟨ok2,c2,rfl,rfl⟩
       ·exact absurd (rightM_ok ht2) hn
       refine fin61 0 H78 (hs60.step e78) fun H66 K1 K2 hs66=>?_
       have h9:St H0 H66 ([.sl (some ⟨c2,0,none⟩) (ls.length-N) (ls.length-N) 3 1 (ints (codesM (ls.drop N))),.sl (some ⟨c1,0,none⟩) N N 3 1 (ints (codesM (ls.take N))),.sl q ls.length m 3 1 (ints ls)]++(rfR r bp bl bc a1 most out 0::K1::K2:: .cell b58 (codV p2 (some ⟨c2,0,none⟩) (m-N) (ls.length-N) (ls.drop N) (wtM (ls.drop N)) true) 99:: .cell b52 (codV p1 (some ⟨c1,0,none⟩) (m-0) N (ls.take N) (wtM (ls.take N)) true) 99::(X++σ))):=
        hs66.perm (((List.perm_append_comm (l₁:=[_,_,_,_,_]) (l₂:=[_,_,_])).append_right (X++σ)).trans ((List.perm_append_comm (l₁:=[_]) (l₂:=[_,_])).append_right _))
       have h10:=h9.persOf (Q:=fun H=>CodI p1 (some ⟨c1,0,none⟩) (ls.take N) H∧CodI p2 (some ⟨c2,0,none⟩) (ls.drop N) H) fun H' h=>⟨⟨by rw[l1];exact i1 (h.is 2 rfl),by rw[l1];exact h.is 1 rfl⟩,⟨by rw[l2];exact i2 (h.is 2 rfl),by rw[l2];exact h.is 0 rfl⟩⟩
       exact hR a1 _ _ hT (by omega) ok1 ok2 H66 p1 (some ⟨c1,0,none⟩) _ _ p2 (some ⟨c2,0,none⟩) _ _ (K1::K2::_::_::X) (by simpa using h10.swap)
    exact grow (8*B.length+2) a2 [] none 0 H97 (by omega) (Nat.le_refl _) (by simp) hW ((hs97.nilSl 3 1).swap)
  have hz:=loop 0 (by omega) a1 e1 (List.replicate 19 0) H21 (by simp) (fun x hx=>by rw[(List.mem_replicate.1 hx).2];omega) (by
   rcases hc1 with ⟨h1,_⟩|h
   ·exact .inl ⟨h1,h1,rfl⟩
   ·exact .inr h) hs21
  exact hz
 rcases hcase with ⟨he,g1,g2,g3,ha9⟩|⟨he,hT⟩
 ·subst he ha9
  rw[g1] at key
  simp only at key
  rw[g2] at key
  simp only at key
  rw[g3] at key
  simp only at key
  have bad25:hl>29∨hd>29→ ∀H',St H0 H' (rfR r bp bl bc (a+14) most out 25::C4::C2::σ)→J15 [] H':=fun hb H' hs'=>by
   rw[if_pos hb] at key
   exact main H' (a+14) 25 (.inr ⟨by decide,key.symm⟩) hs'
  refine⟨_,rfl,_,rfR_e hs9,br_t rfl (br_dec (fun h1=>c68 hs9 fun H10 hs10=>⟨rfl,bad25 (.inl h1) H10 hs10⟩) (fun h1=>br_dec (fun h2=>c68 hs9 fun H10 hs10=>⟨rfl,bad25 (.inr h2) H10 hs10⟩) (fun h2=>?_)))⟩
  rw[if_neg (by omega)] at key
  exact main H9 (a+14) 0 (.inl ⟨rfl,key.symm,by omega⟩) hs9
 ·subst he
  exact⟨_,rfl,_,rfR_e hs9,br_f rfl (main H9 a9 20 (.inr ⟨by decide,hT⟩) hs9)⟩
end
end Go.Proofs
namespace Go.Proofs
open Go.Sh
variable {H:Heap} {R:Value→Heap→Prop}
theorem cod_one{a b:Option Addr}{l1 c1 l2 c2:Nat}{W:Int}{k:Bool}: ∀v∈(Array.toList #[Value.slice a l1 c1,Value.slice b l2 c2,Value.int .i64 W,Value.bool k]),v.oneCell'=true:=fun v hv=>by
 rcases List.mem_cons.1 hv with rfl|hv
 ·rfl
 rcases List.mem_cons.1 hv with rfl|hv
 ·rfl
 rcases List.mem_cons.1 hv with rfl|hv
 ·rfl
 rw[List.mem_singleton.1 hv];rfl
set_option maxHeartbeats 1000000 in
theorem c43{p:Option Addr}{l c:Nat}{B:List Int}{most:Int}(h:IS H p l (kints .u8 B))(hr: ∀x∈B,0≤x∧x<256)(hl:l≤1000000000)(hm:most≤1000000000)
 (hbad: ∀k,k≠0→inflM tablesM B most= .error k→ ∀H',Ext H H'→R (.tuple #[.slice none 0 0,.int .i64 0,.int .i64 k]) H')
 (hR: ∀out n,inflM tablesM B most= .ok (out,n)→ ∀H' q m,(∀y∈out,0≤y∧y<256)→St H H' [.sl q out.length m 5 1 (kints .u8 out)]→R (.tuple #[.slice q out.length m,.int .i64 (n:Nat),.int .i64 0]) H'):
 CallsH Tryz.prog 43 #[.slice p l c,.int .i64 most] H R:=by
 have hBl:=h.length
 refine Tryz.s43 ?_
 unfold Tryz.S43
 unfold inflM at hbad hR
 intro J3 hJ3
 have main: ∀M:Nat,(M:Int)=max most 0→J3 [.int .i64 (M:Nat)] H:=fun M hM=>by
  rw[←hM] at hbad hR
  refine hJ3 _ H ((St.nil H).alc fun b6 H7 hs7=>?_)
  have hs7:St H H7 [rfR b6 p l c 0 M [] 0]:=rfR_mk (p:=none) (c:=0) ⟨by omega,hl,by simp,by omega,by simp⟩ ((hs7.nilSl 5 1).swap)
  generalize hX0:blocksM tablesM B M (8*B.length+1) 0 []=W at hbad hR
  intro J8 hJ8
  have fin: ∀H3 a out e τ,St H H3 (rfR b6 p l c a M out e::τ)→(e=0→W= .ok (a,out))→(e≠0→W= .error e)→J8 [] H3:=fun H3 a out e τ hs h0 h1=>by
   refine hJ8 H3 ⟨_,rfl,_,rfR_e hs,br_ne (fun hne=>⟨_,rfl,_,rfR_e hs,hbad e hne (by rw[h1 hne]) H3 hs.ext⟩) (fun he=>?_)⟩
   obtain⟨q,m,hh,hs'⟩:=rfR_op hs
   refine⟨_,rfl,_,_,_,hs'.get 0 (j:=2) rfl rfl,_,rfl,_,hs'.get 0 (j:=1) rfl rfl,by decide,?_⟩
   rw[wrap_id (n:=(a:Int)+7) (by omega) (by omega),show(a:Int)+7=((a+7:Nat):Int) from rfl,wdiv8 _ (by omega)]
   exact hR out ((a+7)/8) (by rw[h0 he]) H3 q m hh.2.2.2.2 (hs'.tail.take 1)
  intro X18 hX
  have bad: ∀k la,k≠0→W= .error k→ ∀H3 a out τ,St H H3 (rfR b6 p l c a M out k::τ)→X18 [.int .i64 la] H3:=fun k la hk hW H3 a out τ hs=>by
   have hj:=fin H3 a out k τ hs (fun h=>absurd h hk) (fun _=>hW)
   refine hX la H3 ?_
   intro J21 hJ21
   exact br_eq (fun _=>⟨_,rfl,_,rfR_e hs,br_eq (fun h=>absurd h hk) (fun _=>hj)⟩) (fun _=>hj)
  have loop: ∀(g a:Nat) (out:List Int) (H1:Heap) (ρ:List Rs),8*B.length<a+g→blocksM tablesM B M g a out=W→St H H1 (rfR b6 p l c a M out 0::ρ)→X18 [.int .i64 0] H1:=by
   intro g
   induction g with
   |zero=>intro a out H1 ρ hg he hs;have:=rfR_a hs;omega
   |succ g ih=>
    intro a out H1 ρ hg he hs
    rw[blocksM] at he
    refine hX 0 H1 ?_
    intro J21 hJ21
    refine br_t rfl ⟨_,rfl,_,rfR_e hs,br_t rfl (hJ21 H1 ?_)⟩
    refine c63 (n:=1) hs h hr (by omega) (fun hb H4 hs4=>⟨_,rfl,?_⟩) (fun hb H4 hs4=>⟨_,rfl,?_⟩)
    ·rw[getM_bad (n:=1) hb] at he
     rw[if_pos rfl] at hs4
     refine c63 (n:=2) hs4 h hr (by omega) (fun hb H5 hs5=>⟨_,rfl,?_⟩) (fun hb H5 hs5=>⟨_,rfl,?_⟩)
     ·rw[if_neg (by decide)] at hs5
      exact⟨_,rfl,_,rfR_e hs5,br_t rfl (fin H5 _ out 20 ρ hs5 (fun h=>absurd h (by decide)) (fun _=>he.symm))⟩
     ·exact⟨_,rfl,_,rfR_e hs5,br_t rfl (fin H5 _ out 20 ρ hs5 (fun h=>absurd h (by decide)) (fun _=>he.symm))⟩
    rw[getM_num (n:=1) hb] at he
    simp only at he
    have hl01:=pow_e (n:=1) (d:=2) (by decide) (B:=B) (a:=a)
    generalize numB false B a 1=last at*
    refine c63 (n:=2) hs4 h hr (by omega) (fun hb H5 hs5=>⟨_,rfl,?_⟩) (fun hb H5 hs5=>⟨_,rfl,?_⟩)
    ·rw[getM_bad (n:=2) hb] at he
     rw[if_pos rfl] at hs5
     exact⟨_,rfl,_,rfR_e hs5,br_t rfl (fin H5 _ out 20 ρ hs5 (fun h=>absurd h (by decide)) (fun _=>he.symm))⟩
    rw[getM_num (n:=2) hb] at he
    simp only at he
    have hk3:=pow_e (n:=2) (d:=4) (by decide) (B:=B) (a:=a+1)
    generalize numB false B (a+1) 2=kind at*
    refine⟨_,rfl,_,rfR_e hs5,br_f rfl ?_⟩
    have nx: ∀a3 out3 H6 τ,a+3≤a3→(if last=1 then .ok (a3,out3) else blocksM tablesM B M g a3 out3)=W→St H H6 (rfR b6 p l c a3 M out3 0::τ)→X18 [.int .i64 last] H6:=fun a3 out3 H6 τ ha3 hW hs6=>by
     by_cases hla:last=1
     ·subst hla
      rw[if_pos rfl] at hW
      refine hX _ H6 ?_
      intro J hJ
      exact br_f rfl (fin H6 a3 out3 0 τ hs6 (fun _=>hW.symm) (fun h=>absurd rfl h))
     ·rw[if_neg hla] at hW
      have:last=0:=by omega
      subst this
      exact ih a3 out3 H6 τ (by omega) hW hs6
    refine br_eq (fun h0=>?_) (fun h0=>br_eq (fun h1=>?_) (fun h1=>br_eq (fun h2=>?_) (fun h2=>?_)))
    ·rw[if_pos h0] at he
     refine c64 hs5 h hr (fun k hk0 hk2 H6 a6 out6 hs6=>⟨rfl,?_⟩) (fun a6 out6 hk2 H6 hs6=>⟨rfl,?_⟩)
     ·rw[hk2] at he
      exact bad k _ hk0 he.symm H6 a6 out6 _ hs6
     ·rw[hk2] at he
      exact nx a6 out6 H6 _ (storedM_adv hk2) he hs6
    ·rw[if_neg h0,if_pos h1] at he
     refine c65 fun lp dp bl bd H6 hs6=>?_
     rw[show(288:Nat)=fixL.length from fixL_len.symm,show(32:Nat)=fixD.length from fixD_len.symm] at hs6 ⊢
     have hs6:St H H6 ([.sl (some ⟨bl,0,none⟩) fixL.length fixL.length 3 1 (ints (codesM fixL)),.sl lp fixL.length fixL.length 3 1 (ints fixL),.sl (some ⟨bd,0,none⟩) fixD.length fixD.length 3 1 (ints (codesM fixD)),.sl dp fixD.length fixD.length 3 1 (ints fixD)]++(rfR b6 p l c (a+1+2) M out 0::ρ)):=hs5.call hs6
     have hs6:=hs6.persOf (Q:=fun H=>CodI lp (some ⟨bl,0,none⟩) fixL H∧CodI dp (some ⟨bd,0,none⟩) fixD H) fun H' h=>⟨⟨h.is 1 rfl,h.is 0 rfl⟩,⟨h.is 3 rfl,h.is 2 rfl⟩⟩
     refine⟨_,_,rfl,hs6.alc fun b37 H7 hs7=>hs7.alc fun b39 H8 hs8=>⟨rfl,?_⟩⟩
     refine hs8.putAll 1 (b:=b37) rfl (Eq.refl (4:Nat)) cod_one fun H9 hs9=>⟨rfl,?_⟩
     refine hs9.putAll 0 (b:=b39) rfl (Eq.refl (4:Nat)) cod_one fun H10 hs10=>?_
     simp only[List.set_cons_succ,List.set_cons_zero] at hs10
     have hs11:=hs10.front 3 rfl
     simp only[List.eraseIdx] at hs11
     refine⟨_,rfl,rowIn_whole (hs10.block 1 rfl),_,rfl,rowIn_whole (hs10.block 0 rfl),?_⟩
     refine c66 (j1:=2) (j2:=2) (lp1:=lp) (cp1:=some ⟨bl,0,none⟩) (lp2:=dp) (cp2:=some ⟨bd,0,none⟩) (ll:=fixL) (dl:=fixD) hs11 h hr rfl (fun H h=>h.1) rfl (fun H h=>h.2) fixL_ok fixD_ok (fun k hk0 hk2 H9 a9 out9 hs9=>⟨rfl,?_⟩) (fun a9 out9 hk2 H9 hs9=>⟨rfl,?_⟩)
     ·rw[hk2] at he
      exact bad k _ hk0 he.symm H9 a9 out9 _ hs9
     ·rw[hk2] at he
      exact nx a9 out9 H9 _ (symsM_adv _ _ _ hk2) he hs9
    ·rw[if_neg h0,if_neg h1,if_pos h2] at he
     refine c67 hs5 h hr (fun k hk0 hk2 H6 a6 v1 v2 τ q1 q2 q3 q4 hs6=>⟨_,_,rfl,?_⟩) (fun a6 ll dl hk2 ha6 okl okd H6 lp1 cp1 lc1 cc1 lp2 cp2 lc2 cc2 τ hs6=>⟨_,_,rfl,?_⟩)
     ·rw[hk2] at he
      refine hs6.alc fun b51 H7 hs7=>hs7.alc fun b53 H8 hs8=>⟨q1,hs8.putAll 1 rfl (by rw[Array.length_toList,q1];rfl) q3 fun H9 hs9=>⟨q2,hs9.putAll 0 rfl (by rw[Array.length_toList,q2];rfl) q4 fun H10 hs10=>?_⟩⟩
      simp only[List.set_cons_succ,List.set_cons_zero] at hs10
      have hs11:=hs10.front 2 rfl
      refine⟨_,q1,rowIn_whole (hs10.block 1 rfl),_,q2,rowIn_whole (hs10.block 0 rfl),?_⟩
      exact rsymbols_e hs11 hk0 fun H11 hs12=>⟨rfl,bad k _ hk0 he.symm H11 a6 out _ hs12⟩
     ·rw[hk2] at he
      simp only at he
      refine hs6.alc fun b51 H7 hs7=>hs7.alc fun b53 H8 hs8=>⟨rfl,hs8.putAll 1 rfl rfl cod_one fun H9 hs9=>⟨rfl,hs9.putAll 0 rfl rfl cod_one fun H10 hs10=>?_⟩⟩
      simp only[List.set_cons_succ,List.set_cons_zero] at hs10
      have hs11:=hs10.front 2 rfl
      simp only[List.eraseIdx] at hs11
      refine⟨_,rfl,rowIn_whole (hs10.block 1 rfl),_,rfl,rowIn_whole (hs10.block 0 rfl),?_⟩
      refine c66 (j1:=2) (j2:=2) (lp1:=lp1) (cp1:=cp1) (lp2:=lp2) (cp2:=cp2) (ll:=ll) (dl:=dl) hs11 h hr rfl (fun H h=>h.1) rfl (fun H h=>h.2) okl okd (fun k hk0 hk2 H9 a9 out9 hs9=>⟨rfl,?_⟩) (fun a9 out9 hk2 H9 hs9=>⟨rfl,?_⟩)
      ·rw[hk2] at he
       exact bad k _ hk0 he.symm H9 a9 out9 _ hs9
      ·rw[hk2] at he
       have:=symsM_adv _ _ _ hk2
       exact nx a9 out9 H9 _ (by omega) he hs9
    ·rw[if_neg h0,if_neg h1,if_neg h2] at he
     refine c68 hs5 fun H6 hs6=>⟨rfl,?_⟩
     rw[if_pos rfl] at hs6
     exact bad 25 _ (by decide) he.symm H6 _ _ _ hs6
  exact loop _ 0 [] H7 [] (by omega) hX0 hs7
 refine br_dec (fun hneg=>main 0 (by omega)) (fun hpos=>?_)
 obtain⟨M,rfl⟩:=Int.eq_ofNat_of_zero_le (show 0≤most by omega)
 exact main M (by omega)
end Go.Proofs
namespace Go.Proofs
open Go.Sh
open Go.IntKind (wrap)
variable {H:Heap} {R:Value→Heap→Prop}
theorem c11{p:Option Addr}{l c:Nat}{b:List Int}(hi:IS H p l (kints .u8 b))(hr:Bys b)(hl:l=4)(hR:R (.int .i64 (num4 b)) H):
 CallsH Tryz.prog 11 #[.slice p l c] H R:=by
 have hbl:=hi.length
 subst hl
 refine Tryz.s11 ?_
 unfold Tryz.S11
 intro X hX
 have g:=fun i=>get_gD b 0 (i:=i)
 have b0:=hr.getD 0;have b1:=hr.getD 1;have b2:=hr.getD 2;have b3:=hr.getD 3
 refine hX _ _ H (br_y (by decide) (hi.rd (i:=0) (by omega) (by omega) (g 0 (by omega)) ?_))
 rw[show wrap .i64 ((0:Int)+1)=1 from by decide,show wrap .i64 ((256:Int)*0)=0 from by decide,w8 b0,wrap_id (n:=0+b.getD 0 0) (by omega) (by omega)]
 refine hX _ _ H (br_y (by decide) (hi.rd (i:=1) (by omega) (by omega) (g 1 (by omega)) ?_))
 rw[show wrap .i64 ((1:Int)+1)=2 from by decide,wrap_id (n:=256*(0+b.getD 0 0)) (by omega) (by omega),w8 b1,wrap_id (n:=256*(0+b.getD 0 0)+b.getD 1 0) (by omega) (by omega)]
 refine hX _ _ H (br_y (by decide) (hi.rd (i:=2) (by omega) (by omega) (g 2 (by omega)) ?_))
 rw[show wrap .i64 ((2:Int)+1)=3 from by decide,wrap_id (n:=256*(256*(0+b.getD 0 0)+b.getD 1 0)) (by omega) (by omega),w8 b2,wrap_id (n:=256*(256*(0+b.getD 0 0)+b.getD 1 0)+b.getD 2 0) (by omega) (by omega)]
 refine hX _ _ H (br_y (by decide) (hi.rd (i:=3) (by omega) (by omega) (g 3 (by omega)) ?_))
 rw[show wrap .i64 ((3:Int)+1)=4 from by decide,wrap_id (n:=256*(256*(256*(0+b.getD 0 0)+b.getD 1 0)+b.getD 2 0)) (by omega) (by omega),w8 b3,wrap_id (n:=256*(256*(256*(0+b.getD 0 0)+b.getD 1 0)+b.getD 2 0)+b.getD 3 0) (by omega) (by omega)]
 refine hX _ _ H (br_n (by decide) ?_)
 have e:256*(256*(256*(0+b.getD 0 0)+b.getD 1 0)+b.getD 2 0)+b.getD 3 0=num4 b:=by unfold num4;omega
 rw[e]
 exact hR
theorem c32{n:Int}(hR: ∀b H',St H H' [.cell b (kints .u8 (big4 n)).toArray 5]→R (.slice (some ⟨b,0,none⟩) 4 4) H'):CallsH Tryz.prog 32 #[.int .i64 n,.int .i64 4] H R:=by
 refine Tryz.s32 ?_
 unfold Tryz.S32
 refine⟨by decide,by decide,by decide,by decide,(St.nil H).alc fun b H4 hs4=>?_⟩
 intro X hX
 have sh: ∀x:Int,shrI .i64 x (8:Int)=x/256:=fun x=>(shr24 x).2.2
 rw[show wrap .i64 ((4:Int)-1)=3 from by decide]
 refine hX _ _ H4 (br_y (by decide) ⟨_,rfl,by decide,by decide,?_⟩)
 rw[add_none,show 0+Int.toNat 3*1=3 from rfl]
 refine hs4.put 0 rfl (by simp[reps]) rfl fun H5 hs5=>⟨by decide,?_⟩
 rw[sh,show wrap .i64 ((3:Int)-1)=2 from by decide]
 refine hX _ _ H5 (br_y (by decide) ⟨_,rfl,by decide,by decide,?_⟩)
 rw[add_none,show 0+Int.toNat 2*1=2 from rfl]
 refine hs5.put 0 rfl (by simp[reps]) rfl fun H6 hs6=>⟨by decide,?_⟩
 rw[sh,show wrap .i64 ((2:Int)-1)=1 from by decide]
 refine hX _ _ H6 (br_y (by decide) ⟨_,rfl,by decide,by decide,?_⟩)
 rw[add_none,show 0+Int.toNat 1*1=1 from rfl]
 refine hs6.put 0 rfl (by simp[reps]) rfl fun H7 hs7=>⟨by decide,?_⟩
 rw[sh,show wrap .i64 ((1:Int)-1)=0 from by decide]
 refine hX _ _ H7 (br_y (by decide) ⟨_,rfl,by decide,by decide,?_⟩)
 rw[add_none,show 0+Int.toNat 0*1=0 from rfl]
 refine hs7.put 0 rfl (by simp[reps]) rfl fun H8 hs8=>⟨by decide,?_⟩
 refine hX _ _ H8 (br_n (by decide) (hR b H8 ?_))
 have e:big4 n=[n/256/256/256%256,n/256/256%256,n/256%256,n%256]:=by
  unfold big4
  congr 1
  ·omega
  ·congr 1
   omega
 rw[e]
 simp only[wrap_u8m] at hs8
 exact hs8
theorem c33{p:Option Addr}{l c:Nat}{xs:List Int}(h:IS H p l (kints .u8 xs))(hx:Bys xs)(hl:l≤1000000000000)(hR:R (.int .i64 (crcS xs:Nat)) H):CallsH Tryz.prog 33 #[.slice p l c] H R:=by
 have e1:=h.length
 refine Tryz.s33 ?_
 intro X hX
 have go: ∀k,k≤l→X [.int .i64 (crcF 4294967295 (xs.take k):Nat),.int .i64 (k:Nat)] H:=upto fun k hk ih=>by
  have hlt0:=crcF_lt (xs.take k) (show 4294967295<4294967296 by omega) fun y hy=>hx y (List.mem_of_mem_take hy)
  refine hX _ _ H (br_dec (fun hlt=>?_) (fun hge=>?_))
  ·have hlt:k<l:=by omega
   have hg:=get_gD xs 0 (i:=k) (by omega)
   have hb:=hx.getD k
   refine h.rd (by omega) (by omega) (by rw[Int.toNat_natCast];exact hg) ?_
   intro Y hY
   obtain⟨v,hv⟩: ∃v:Nat,xs.getD k 0=v:=⟨(xs.getD k 0).toNat,by omega⟩
   rw[hv] at hg ⊢
   rw[w8 (by omega),xor64 hlt0 (by omega)]
   have hc1:=xor_lt32 hlt0 (show v<4294967296 by omega)
   have inner: ∀j,j≤8→Y [.int .i64 (crcI j (crcF 4294967295 (xs.take k) ^^^ v):Nat),.int .i64 (j:Nat)] H:=upto fun j hj ihj=>by
    have hcj:=crcI_lt j hc1
    refine hY _ _ H (br_dec (fun hlt=>?_) (fun hge=>?_))
    ·have ihj:=ihj (by omega)
     rw[crcI_snoc] at ihj
     generalize crcI j (crcF 4294967295 (xs.take k) ^^^ v)=cc at*
     refine⟨by decide,?_⟩
     have ht:Int.tmod (cc:Int) 2=((cc%2:Nat):Int):=by rw[Int.tmod_eq_emod_of_nonneg (by omega)];omega
     have wj:wrap .i64 (((j:Nat):Int)+1)=((j+1:Nat):Int):=by rw[wrap_id (by omega) (by omega)];omega
     have hx1:xorI .i64 ((cc/2:Nat):Int) (3988292384:Int)=((cc/2 ^^^ 3988292384:Nat):Int):=xor64 (b:=3988292384) (by omega) (by decide)
     rw[ht,div2_64,hx1,wj]
     unfold crcB at ihj
     refine br_eq (fun h1=>⟨by decide,?_⟩) (fun h1=>⟨by decide,?_⟩)
     ·rw[if_pos (by omega)] at ihj;exact ihj
     ·rw[if_neg (by omega)] at ihj;exact ihj
    ·have:j=8:=by omega
     subst this
     have:=ih hlt
     rw[List.take_add_one,hg,Option.toList_some,crcF_snoc,Int.toNat_natCast] at this
     rw[wrap_id (by omega) (by omega)]
     exact this
   exact inner 0 (by omega)
  ·have:k=l:=by omega
   subst this
   rw[List.take_of_length_le (by omega)] at hlt0 ⊢
   have e:xorI .i64 ((crcF 4294967295 xs:Nat):Int) (4294967295:Int)=((crcF 4294967295 xs ^^^ 4294967295:Nat):Int):=xor64 (b:=4294967295) hlt0 (by decide)
   rw[e]
   exact hR
 exact go 0 (by omega)
theorem c14{s:ByteArray}{p:Option Addr}{l c:Nat}{xs:List Int}(h:IS H p l (kints .u8 xs))(hx:Bys xs)(hl:l≤100000000)(hsz:s.size≤100)
 (hR: ∀q m H',St H H' [.sl q (chuP (sB s) xs).length m 5 1 (kints .u8 (chuP (sB s) xs))]→R (.slice q (chuP (sB s) xs).length m) H'):CallsH Tryz.prog 14 #[.string s,.slice p l c] H R:=by
 have e1:=h.length
 have esl:=sB_len s
 refine Tryz.s14 ?_
 unfold Tryz.S14
 refine(St.nil H).str fun p2 c2 H2 x2 hc2 hs2=>?_
 have hk2:IS H2 p2 s.size (kints .u8 (sB s)):=hs2.persGet 0 rfl
 refine c31 hk2 (h.ext hs2.ext) (by omega) fun q3 c3 H3 hs3=>⟨_,_,_,rfl,?_⟩
 have hs3:St H H3 [.sl q3 (sB s++xs).length c3 5 1 (kints .u8 (sB s++xs))]:=(hs2.call hs3).take 1
 have ejl:(sB s++xs).length=s.size+l:=by rw[List.length_append];omega
 refine c32 fun b4 H4 hs4=>⟨_,_,_,rfl,?_⟩
 have hs4:=hs3.call hs4
 refine c31 (IS.of_block (hs4.block 0 rfl) rfl) (hs4.is 1 rfl) (by omega) fun q5 c5 H5 hs5=>⟨_,_,_,rfl,?_⟩
 have hs5:=hs4.call hs5
 have hjb:Bys (sB s++xs):=fun x hx'=>(List.mem_append.1 hx').elim (sB_bys s x) (hx x)
 refine c33 (hs5.is 2 rfl) hjb (by omega) ⟨_,rfl,?_⟩
 refine c32 fun b6 H6 hs6=>⟨_,_,_,rfl,?_⟩
 have hs6:=hs5.call hs6
 have e5l:(big4 (l:Int)++(sB s++xs)).length=s.size+l+4:=by rw[List.length_append,ejl,big4_len];omega
 refine hs6.appI 1 rfl (n:=4) (gs:=kints .u8 (big4 (crcS (sB s++xs):Nat))) (IS.of_block (hs6.block 0 rfl) rfl) (kints_one _ _) rfl (by omega) (by omega) fun q7 c7 H7 hs7=>?_
 rw[←kints_append] at hs7
 have ec:chuP (sB s) xs=big4 (l:Int)++(sB s++xs)++big4 (crcS (sB s++xs):Nat):=by simp[chuP,e1]
 have ecl:(chuP (sB s) xs).length=(big4 (l:Int)++(sB s++xs)).length+4:=by rw[ec,List.length_append,big4_len]
 rw[ecl,ec] at hR
 exact hR q7 c7 H7 ((hs7.tail).take 1)
theorem c13(hR: ∀b H',St H H' [.cell b (kints .u8 markP).toArray 5]→R (.slice (some ⟨b,0,none⟩) 8 8) H'):CallsH Tryz.prog 13 #[] H R:=
 Tryz.s13 (_u:=()) ((St.nil H).alc fun b H1 hs1=>hR b H1 hs1)
theorem ba_get{k:List Int}{i:Nat}(hi:i<k.length):(textOf k)[i]?=some (UInt8.ofNat (k.getD i 0).toNat):=by
 rw[tx_eq]
 have h:i<(ByteArray.mk (k.map fun n=>UInt8.ofNat n.toNat).toArray).size:=by show i<((k.map _).toArray).size;simpa using hi
 rw[getElem?_pos (ByteArray.mk (k.map fun n=>UInt8.ofNat n.toNat).toArray) i h]
 congr 1
 show((k.map fun n=>UInt8.ofNat n.toNat).toArray)[i]'h=_
 simp[List.getD_eq_getElem?_getD,List.getElem?_eq_getElem hi]
end Go.Proofs
namespace Go.Proofs
open Go.Sh
theorem num4_eq{x y X Y:List Int}(hx:x.length=4)(hy:y.length=4)(bx:Bys x)(by_:Bys y)(h:num4 (x++X)=num4 (y++Y)):x=y:=by
 match x,y,hx,hy with
 |[a,b,c,d],[a',b',c',d'],_,_=>
  have h1:=bx a (by simp);have h2:=bx b (by simp);have h3:=bx c (by simp);have h4:=bx d (by simp)
  have g1:=by_ a' (by simp);have g2:=by_ b' (by simp);have g3:=by_ c' (by simp);have g4:=by_ d' (by simp)
  simp[num4] at h
  have:a=a'∧b=b'∧c=c'∧d=d':=by omega
  obtain⟨rfl,rfl,rfl,rfl⟩:=this
  rfl
end Go.Proofs
