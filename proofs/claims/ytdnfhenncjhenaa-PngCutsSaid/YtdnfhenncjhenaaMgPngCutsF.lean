/-
  OWN WORK. Several texts in one: FlL, FlU, PnA, FlP, FlV, FlW, PnB, PnC, PnD, PnE, PnG, PnH, PnF, PnI.
-/
import Derived.Test.YtdnfhenncjhenaaMgPngCutsE
import Derived.Test.YtdnfhenncjhenaaMgPngCutsC

set_option linter.unusedVariables false
set_option linter.unusedSimpArgs false
namespace Go.Proofs
open Go.Sh
def adlF:List Int→Int→Int→Int×Int
 |[],lo,hi=>(lo,hi)
 |x::r,lo,hi=>adlF r ((lo+x)%65521) ((hi+(lo+x)%65521)%65521)
theorem adlF_snoc: ∀(l:List Int) (x lo hi:Int),adlF (l++[x]) lo hi=(((adlF l lo hi).1+x)%65521,((adlF l lo hi).2+((adlF l lo hi).1+x)%65521)%65521)
 |[],x,lo,hi=>rfl
 |y::l,x,lo,hi=>by rw[List.cons_append,adlF,adlF,adlF_snoc l]
theorem adlF_rng: ∀(l:List Int) (lo hi:Int),(∀x∈l,0≤x∧x<256)→0≤lo∧lo<65536→0≤hi∧hi<65536→(0≤(adlF l lo hi).1∧(adlF l lo hi).1<65536)∧0≤(adlF l lo hi).2∧(adlF l lo hi).2<65536
 |[],lo,hi,_,h1,h2=>⟨h1,h2⟩
 |x::l,lo,hi,hl,h1,h2=>by
  rw[adlF]
  exact adlF_rng l _ _ (fun y hy=>hl y (List.mem_cons_of_mem _ hy)) (by omega) (by omega)
theorem c43{H:Heap}{R:Value→Heap→Prop}{p:Option Addr}{l c:Nat}{xs:List Int}(h:IS H p l (kints .u8 xs))(hx: ∀x∈xs,0≤x∧x<256)(hl:l≤1000000000000){sum lo hi:Int}(hlo:andI .i64 sum (65535:Int)=lo)(hhi:shrI .i64 sum (16:Int)=hi)
 (l0:0≤lo∧lo<65536)(h0:0≤hi∧hi<65536)(hR:R (.int .i64 (orI .i64 (shlI .i64 (adlF xs lo hi).2 (16:Int)) (adlF xs lo hi).1)) H):CallsH Try.prog 43 #[.int .i64 sum,.slice p l c] H R:=by
 have e1:=h.length
 refine Try.s43 ⟨by decide,?_⟩
 intro X hX
 rw[hlo,hhi]
 have go: ∀k,k≤l→X [.int .i64 (adlF (xs.take k) lo hi).1,.int .i64 (adlF (xs.take k) lo hi).2,.int .i64 (k:Nat)] H:=upto fun k hk ih=>by
  refine hX _ _ _ H (br_dec (fun hlt=>?_) (fun hge=>?_))
  ·have hlt:k<l:=by omega
   obtain⟨x,hg⟩:=h.get' hlt
   have hxr:=hx x (List.mem_of_getElem? hg)
   obtain⟨⟨a0,a1⟩,b0,b1⟩:=adlF_rng (xs.take k) lo hi (fun y hy=>hx y (List.mem_of_mem_take hy)) l0 h0
   refine h.rd (by omega) (by omega) (by rw[Int.toNat_natCast];exact hg) ⟨by decide,by decide,?_⟩
   rw[wrap_id (n:=x) (by omega) (by omega),wrap_id (n:=(adlF (xs.take k) lo hi).1+x) (by omega) (by omega),Int.tmod_eq_emod_of_nonneg (by omega),wrap_id (n:=(adlF (xs.take k) lo hi).2+_) (by omega) (by omega),Int.tmod_eq_emod_of_nonneg (by omega),wrap_id (by omega) (by omega)]
   have:=ih hlt
   rw[List.take_add_one,hg,Option.toList_some,adlF_snoc] at this
   exact this
  ·have:k=l:=by omega
   subst this
   rw[List.take_of_length_le (by omega)]
   exact⟨by decide,hR⟩
 exact go 0 (by omega)
def adlM(xs:List Int):Int:=orI .i64 (shlI .i64 (adlF xs 1 0).2 (16:Int)) (adlF xs 1 0).1
theorem c33{H:Heap}{R:Value→Heap→Prop}{b:Nat}{ty:TypeId}{p:Option Addr}{l c:Nat}{xs:List Int}(hb:H[b]?=some (.cells #[.slice p l c] ty))(h:IS H p l (kints .u8 xs))(hx: ∀x∈xs,0≤x∧x<256)(hl:l≤1000000000000)(hR:R (.int .i64 (adlM xs)) H):
 CallsH Try.prog 33 #[.slice (some ⟨b,0,none⟩) 1 1] H R:=by
 refine Try.s33 ?_
 intro X hX
 refine hX _ _ H (br_y (by decide) ⟨_,rfl,by decide,by decide,p,l,c,cell_get hb rfl,c43 h hx hl (lo:=1) (hi:=0) (by decide) (by decide) (by decide) (by decide) ⟨_,rfl,?_⟩⟩)
 rw[show IntKind.wrap .i64 ((0:Int)+1)=1 from by decide]
 exact hX _ _ H (br_n (by decide) hR)
theorem IS.of_block{H:Heap}{b l:Nat}{ty:TypeId}{fs:List Value}(h:H[b]?=some (.cells fs.toArray ty))(hl:fs.length=l):IS H (some ⟨b,0,none⟩) l fs:=
 ⟨hl,fun i v hv=>⟨_,rfl,by rw[add_none,Nat.zero_add];exact cell_get h (by simpa using hv)⟩⟩
theorem is_bsOf{H:Heap}{p:Option Addr}{l:Nat}{xs:List Int}(h:IS H p l (kints .u8 xs)):Go.Sh.bsOf H p l xs:=by
 have:=h.rowOf
 cases p with
 |none=>
  have h0:(kints .u8 xs).toArray=#[]:=this
  have:xs=[]:=by
   cases xs with
   |nil=>rfl
   |cons x r=>simp[kints] at h0
  exact this
 |some a=>exact⟨h.length,this.2⟩
end Go.Proofs
namespace Go.Proofs
open Go.Sh
variable {H0 H:Heap} {σ:List Rs} {R:Value→Heap→Prop}
def adlS(xs:List Int):Int:=(adlF xs 1 0).2*65536+(adlF xs 1 0).1
theorem adlM_eq{xs:List Int}(h: ∀x∈xs,0≤x∧x<256):adlM xs=adlS xs∧0≤adlS xs∧adlS xs<4294967296:=by
 obtain⟨⟨a0,a1⟩,b0,b1⟩:=adlF_rng xs 1 0 h (by omega) (by omega)
 unfold adlM adlS
 have e:shlI .i64 (adlF xs 1 0).2 (16:Int)=(adlF xs 1 0).2*2^16:=shl_of (k:=16) b0 (by omega) (by rw[p16];omega)
 have e16:=p16
 rw[e,or_sum' (k:=16) a0 (by omega) b0 (by omega)]
 omega
def big4(s:Int):List Int:=[s/16777216%256,s/65536%256,s/256%256,s%256]
def zipB(b B:List Int):List Int:=[120,156]++B++big4 (adlS b)
theorem wrap_u8m(n:Int):IntKind.wrap .u8 n=n%256:=by simp[IntKind.wrap,IntKind.signed,IntKind.bits]
theorem c22{p:Option Addr}{l c:Nat}{b:List Int}{eff:Int}(h:IS H p l (kints .u8 b))(hr: ∀x∈b,0≤x∧x<256)(hlc:l≤c)(hl:l≤10000000)
 (hR: ∀q m B H',WOk false (defB b eff) B→St H H' [.sl q (zipB b B).length m 5 1 (kints .u8 (zipB b B))]→R (.slice q (zipB b B).length m) H'):CallsH Try.prog 22 #[.slice p l c,.int .i64 eff] H R:=by
 have hbl:=h.length
 refine Try.s22 ((St.nil H).alc fun b3 H4 hs4=>?_)
 refine c33 (hs4.block 0 rfl) (h.ext hs4.ext) hr (by omega) ⟨_,rfl,?_⟩
 obtain⟨ea,a0,a1⟩:=adlM_eq hr
 rw[ea]
 refine hs4.alc fun b8 H9 hs9=>c34 (h.ext hs9.ext) hr hlc hl fun q m B H11 ok hs11=>⟨_,_,_,rfl,by decide,by decide,by decide,?_⟩
 have hs11:=hs9.call hs11
 have hB:=ok.rng
 have hBl:B.length≤100000000:=by
  have:=ok.nby
  have:=(nby_def b eff).1
  omega
 have s24:shrI .i64 (adlS b) (24:Int)=adlS b/16777216:=by
  have:=shr_of (adlS b) (k:=24) (by omega)
  have e:(2:Int)^24=16777216:=by decide
  rw[e] at this;exact this
 have s16:shrI .i64 (adlS b) (16:Int)=adlS b/65536:=by
  have:=shr_of (adlS b) (k:=16) (by omega)
  have e:(2:Int)^16=65536:=by decide
  rw[e] at this;exact this
 have s8:shrI .i64 (adlS b) (8:Int)=adlS b/256:=by
  have:=shr_of (adlS b) (k:=8) (by omega)
  have e:(2:Int)^8=256:=by decide
  rw[e] at this;exact this
 rw[s24,s16,s8,wrap_u8m,wrap_u8m,wrap_u8m,wrap_u8m]
 refine hs11.alc fun b13 H14 hs14=>hs14.alc fun b15 H16 hs16=>?_
 have hpb:PB H16 (some ⟨b15,0,none⟩) 3 [[120,156],B,big4 (adlS b)]:=pb_blk (vs:=[(some ⟨b8,0,none⟩,2,2),(q,B.length,m),(some ⟨b13,0,none⟩,4,4)]) (hs16.block 0 rfl)
  ⟨IS.of_block (hs16.block 3 rfl) rfl,hs16.is 2 rfl,IS.of_block (hs16.block 1 rfl) rfl,trivial⟩
 have hfl:([[120,156],B,big4 (adlS b)]:List (List Int)).flatten=zipB b B:=by simp[zipB]
 refine c23 hpb (by omega) (by rw[hfl];simp[zipB,big4];omega) fun r c' H18 hs18=>⟨_,_,_,rfl,?_⟩
 rw[hfl] at hs18 ⊢
 exact hR r c' B H18 ok ⟨hs16.ext.trans hs18.ext,by
  obtain⟨_,fps,h1,h2,h3⟩:=hs18
  exact⟨fps,h1,h2,fun x hx=>Nat.le_trans hs16.ext.size (h3 x hx)⟩⟩
end Go.Proofs
namespace Go.Proofs
open Go.Sh
open Go.IntKind (wrap)
variable {H:Heap} {R:Value→Heap→Prop}
def nearP(a b c:Int):Int:=
 if max (a+b-c-a) (a-(a+b-c))≤max (a+b-c-b) (b-(a+b-c))∧max (a+b-c-a) (a-(a+b-c))≤max (a+b-c-c) (c-(a+b-c)) then a
 else if max (a+b-c-b) (b-(a+b-c))≤max (a+b-c-c) (c-(a+b-c)) then b else c
def gsP(k a b c:Int):Int:=if k=1 then a else if k=2 then b else if k=3 then(a+b)/2 else if k=4 then nearP a b c else 0
def atP(l:List Int)(i:Nat):Int:=if 4≤i then l.getD (i-4) 0 else 0
def Bys(l:List Int):Prop:= ∀x∈l,0≤x∧x<256
theorem Bys.getD{l:List Int}(h:Bys l)(i:Nat):0≤l.getD i 0∧l.getD i 0<256:=by
 rw[List.getD_eq_getElem?_getD]
 cases hi:l[i]? with
 |none=>exact⟨by decide,by decide⟩
 |some x=>exact h x (List.mem_of_getElem? hi)
theorem Bys.atP{l:List Int}(h:Bys l)(i:Nat):0≤atP l i∧atP l i<256:=by
 unfold Proofs.atP;split
 ·exact h.getD _
 ·exact⟨by decide,by decide⟩
theorem nearP_rng{a b c:Int}(ha:0≤a∧a<256)(hb:0≤b∧b<256)(hc:0≤c∧c<256):0≤nearP a b c∧nearP a b c<256:=by
 unfold nearP;split
 ·exact ha
 ·split
  ·exact hb
  ·exact hc
theorem gsP_rng{k a b c:Int}(ha:0≤a∧a<256)(hb:0≤b∧b<256)(hc:0≤c∧c<256):0≤gsP k a b c∧gsP k a b c<256:=by
 unfold gsP
 have:=nearP_rng ha hb hc
 split
 ·exact ha
 ·split
  ·exact hb
  ·split
   ·omega
   ·split
    ·exact this
    ·exact⟨by decide,by decide⟩
def geP(k:Int)(line above:List Int)(i:Nat):Int:=gsP k (atP line i) (above.getD i 0) (atP above i)
theorem geP_rng{k:Int}{line above:List Int}(h1:Bys line)(h2:Bys above)(i:Nat):0≤geP k line above i∧geP k line above i<256:=gsP_rng (h1.atP i) (h2.getD i) (h2.atP i)
def filP(k:Int)(line above:List Int):List Int:=(List.range line.length).map fun i=>(line.getD i 0-geP k line above i)%256
def unfN(k:Int)(line above:List Int):Nat→List Int
 |0=>[]
 |n+1=>unfN k line above n++[(line.getD n 0+geP k (unfN k line above n) above n)%256]
def unfP(k:Int)(line above:List Int):List Int:=unfN k line above line.length
theorem unfN_len(k:Int)(line above:List Int): ∀n,(unfN k line above n).length=n
 |0=>rfl
 |n+1=>by simp[unfN,unfN_len k line above n]
theorem unfP_len(k:Int)(line above:List Int):(unfP k line above).length=line.length:=unfN_len _ _ _ _
theorem filP_len(k:Int)(line above:List Int):(filP k line above).length=line.length:=by simp[filP]
theorem unfN_bys(k:Int)(line above:List Int): ∀n,Bys (unfN k line above n)
 |0=>fun x hx=>by cases hx
 |n+1=>fun x hx=>by
  rcases List.mem_append.1 hx with hx|hx
  ·exact unfN_bys k line above n x hx
  ·rw[List.mem_singleton.1 hx];omega
theorem unfP_bys(k:Int)(line above:List Int):Bys (unfP k line above):=unfN_bys _ _ _ _
theorem filP_bys(k:Int)(line above:List Int):Bys (filP k line above):=fun x hx=>by
 obtain⟨i,_,rfl⟩:=List.mem_map.1 hx
 omega
theorem filP_take(k:Int)(line above:List Int){n:Nat}(h:n<line.length):(filP k line above).take (n+1)=(filP k line above).take n++[(line.getD n 0-geP k line above n)%256]:=by
 rw[List.take_add_one]
 congr 1
 simp[filP,h]
theorem unf_fil{k:Int}{line above:List Int}(hl:Bys line):unfP k (filP k line above) above=line:=by
 have key: ∀n,n≤line.length→unfN k (filP k line above) above n=line.take n:=by
  intro n
  induction n with
  |zero=>intro _;rfl
  |succ n ih=>
   intro hn
   rw[unfN,ih (by omega),List.take_add_one,List.getElem?_eq_getElem (by omega),Option.toList_some]
   congr 2
   have e1:(filP k line above).getD n 0=(line.getD n 0-geP k line above n)%256:=by
    unfold filP;rw[tab_getD (by omega)]
   have e2:geP k (line.take n) above n=geP k line above n:=by
    unfold geP
    congr 1
    unfold atP
    split
    ·simp only[List.getD_eq_getElem?_getD]
     rw[List.getElem?_take_of_lt (by omega)]
    ·rfl
   rw[e1,e2]
   have hx:line.getD n 0=line[n]:=by rw[List.getD_eq_getElem?_getD,List.getElem?_eq_getElem (by omega)];rfl
   have:=hl.getD n
   rw[←hx]
   omega
 unfold unfP
 rw[filP_len,key _ (Nat.le_refl _),List.take_length]
theorem w8{a:Int}(h:0≤a∧a<256):wrap .i64 a=a:=wrap_id (by omega) (by omega)
theorem c42{b:Nat}{ty:TypeId}{p v:Int}(hb:H[b]?=some (.cells #[.int .i64 p] ty))(hp: -1000≤p∧p≤1000)(hv:0≤v∧v<256)(hR:R (.int .i64 (max (p-v) (v-p))) H):
 CallsH Try.prog 42 #[.int .u8 v,.pointer (some ⟨b,0,none⟩)] H R:=by
 refine Try.s42 ⟨p,cell_get hb rfl,p,cell_get hb rfl,?_⟩
 rw[w8 hv,wrap_id (by omega) (by omega),wrap_id (by omega) (by omega)]
 exact hR
theorem c30{a b c:Int}(ha:0≤a∧a<256)(hb:0≤b∧b<256)(hc:0≤c∧c<256)(hR: ∀H',Ext H H'→R (.int .u8 (nearP a b c)) H'):CallsH Try.prog 30 #[.int .u8 a,.int .u8 b,.int .u8 c] H R:=by
 refine Try.s30 ((St.nil H).alc fun bk H1 hs1=>hs1.put 0 rfl (by decide) rfl fun H2 hs2=>?_)
 have hp:wrap .i64 (wrap .i64 (wrap .i64 a+wrap .i64 b)-wrap .i64 c)=a+b-c:=by
  rw[w8 ha,w8 hb,w8 hc,wrap_id (n:=a+b) (by omega) (by omega),wrap_id (by omega) (by omega)]
 rw[hp] at hs2
 have hR:=hR H2 hs2.ext
 unfold nearP at hR
 have hbk:=hs2.block 0 rfl
 have one: ∀{v:Int} {K:Value→Heap→Prop},0≤v∧v<256→K (.int .i64 (max (a+b-c-v) (v-(a+b-c)))) H2→CallsH Try.prog 42 #[.int .u8 v,.pointer (some ⟨bk,0,none⟩)] H2 K:=
  fun hv hK=>c42 hbk (by omega) hv hK
 refine one ha ⟨_,rfl,one hb ⟨_,rfl,br_dec (fun h1=>one ha ⟨_,rfl,one hc ⟨_,rfl,br_dec (fun h2=>?_) (fun h2=>one hb ⟨_,rfl,one hc ⟨_,rfl,br_dec (fun h3=>?_) (fun h3=>?_)⟩⟩)⟩⟩)
  (fun h1=>one hb ⟨_,rfl,one hc ⟨_,rfl,br_dec (fun h3=>?_) (fun h3=>?_)⟩⟩)⟩⟩
 ·rw[if_pos ⟨h1,h2⟩] at hR;exact hR
 ·rw[if_neg (fun hh=>h2 hh.2),if_pos h3] at hR;exact hR
 ·rw[if_neg (fun hh=>h2 hh.2),if_neg h3] at hR;exact hR
 ·rw[if_neg (fun hh=>h1 hh.1),if_pos h3] at hR;exact hR
 ·rw[if_neg (fun hh=>h1 hh.1),if_neg h3] at hR;exact hR
theorem c17{k:Int}{p q:Option Addr}{l m c d:Nat}{xs ys:List Int}{i:Nat}(h1:IS H p l (kints .u8 xs))(h2:IS H q m (kints .u8 ys))(hx:Bys xs)(hy:Bys ys)(hi:i<m)(hil:i<l)(hm:m≤1000000000)
 (hR: ∀H',Ext H H'→R (.int .u8 (geP k xs ys i)) H'):CallsH Try.prog 17 #[.int .i64 k,.slice p l c,.slice q m d,.int .i64 (i:Nat)] H R:=by
 have e1:=h1.length
 have e2:=h2.length
 refine Try.s17 ?_
 unfold Try.S17
 intro J hJ
 have hyi:=hy.getD i
 have fin:J [.int .u8 (atP xs i),.int .u8 (atP ys i)] H:=by
  have ha:=hx.atP i
  have hc:=hy.atP i
  refine hJ _ _ H (h2.rd (by omega) (by omega) (by rw[Int.toNat_natCast];exact get_gD ys 0 (by omega)) ?_)
  unfold geP gsP at hR
  refine br_eq (fun hk=>?_) (fun hk1=>br_eq (fun hk=>?_) (fun hk2=>br_eq (fun hk=>?_) (fun hk3=>br_eq (fun hk=>?_) (fun hk4=>?_))))
  ·have:=hR H (Ext.refl _);rw[if_pos hk] at this;exact this
  ·have:=hR H (Ext.refl _);rw[if_neg hk1,if_pos hk] at this;exact this
  ·have:=hR H (Ext.refl _);rw[if_neg hk1,if_neg hk2,if_pos hk] at this
   refine⟨by decide,?_⟩
   rw[w8 ha,w8 hyi,wrap_id (n:=_+_) (by omega) (by omega),Int.tdiv_eq_ediv_of_nonneg (by omega),wrap_id (by omega) (by omega),wrap_u8 (by omega) (by omega)]
   exact this
  ·refine c30 ha hyi hc fun H1 e=>⟨_,rfl,?_⟩
   have:=hR H1 e;rw[if_neg hk1,if_neg hk2,if_neg hk3,if_pos hk] at this;exact this
  ·have:=hR H (Ext.refl _);rw[if_neg hk1,if_neg hk2,if_neg hk3,if_neg hk4] at this;exact this
 unfold atP at fin
 refine br_dec (fun hge=>?_) (fun hlt=>?_)
 ·rw[if_pos (by omega),if_pos (by omega)] at fin
  have w:wrap .i64 ((i:Nat)-4)=((i-4:Nat):Int):=by rw[wrap_id (by omega) (by omega)];omega
  rw[w]
  refine h1.rd (by omega) (by omega) (by rw[Int.toNat_natCast];exact get_gD xs 0 (by omega)) ?_
  exact h2.rd (by omega) (by omega) (by rw[Int.toNat_natCast];exact get_gD ys 0 (by omega)) fin
 ·rw[if_neg (by omega),if_neg (by omega)] at fin
  exact fin
def rightP(k:Int)(l m:Nat):Prop:=0≤k∧k≤4∧l=m
instance(k:Int)(l m:Nat):Decidable (rightP k l m):=by unfold rightP;exact inferInstance
theorem c16{k:Int}{p q:Option Addr}{l m c d:Nat}(hR:R (.bool (decide (rightP k l m))) H):CallsH Try.prog 16 #[.int .i64 k,.slice p l c,.slice q m d] H R:=by
 have no: ¬rightP k l m→R (.bool false) H:=fun hn=>by rw[decide_eq_false hn] at hR;exact hR
 refine Try.s16 (br_dec (fun h1=>br_dec (fun h2=>?_) (fun h2=>no fun h=>h2 h.2.1)) (fun h1=>no fun h=>h1 h.1))
 have:(((l:Nat):Int)==((m:Nat):Int))=decide (rightP k l m):=by
  by_cases hlm:l=m
  ·rw[decide_eq_true ⟨h1,h2,hlm⟩];simp[hlm]
  ·rw[decide_eq_false fun h=>hlm h.2.2];simp;omega
 rw[this]
 exact hR
theorem c7{k:Int}{p q:Option Addr}{l m c d:Nat}{xs ys:List Int}(h1:IS H p l (kints .u8 xs))(h2:IS H q m (kints .u8 ys))(hx:Bys xs)(hy:Bys ys)(hl:l≤1000000000)
 (hbad: ¬rightP k l m→R (.slice none 0 0) H)
 (hR:rightP k l m→ ∀b H',St H H' [.sl (some ⟨b,0,none⟩) l l 5 1 (kints .u8 (filP k xs ys))]→R (.slice (some ⟨b,0,none⟩) l l) H'):CallsH Try.prog 7 #[.int .i64 k,.slice p l c,.slice q m d] H R:=by
 have e1:=h1.length
 have e2:=h2.length
 refine Try.s7 (c16 ⟨_,rfl,br_not (fun hn=>hbad (of_decide_eq_false hn)) (fun hr=>?_)⟩)
 have hr:=of_decide_eq_true hr
 have hlm:l=m:=hr.2.2
 refine⟨by omega,by omega,by omega,by omega,?_⟩
 refine(St.nil H).alc fun b H1 hs1=>?_
 have e3:(List.toArray (reps (Int.toNat (l:Int)) (Array.toList #[Value.int .u8 0]))).toList=kints .u8 (List.replicate l 0):=by
  simp[reps_rep,kints]
 have hs1:St H H1 [.sl (some ⟨b,0,none⟩) l l 5 1 (kints .u8 (List.replicate l 0))]:=by
  refine hs1.toSl 0 rfl (l:=l) (by simp[reps_rep]) e3 (kints_one _ _)
 rw[show Int.toNat (l:Int)=l from Int.toNat_natCast l]
 intro X hX
 have go: ∀i,i≤l→ ∀H2,St H H2 [.sl (some ⟨b,0,none⟩) l l 5 1 (kints .u8 ((filP k xs ys).take i++List.replicate (l-i) 0))]→X [.int .i64 (i:Nat)] H2:=upto fun i hi ih H2 hs2=>by
  refine hX _ H2 (br_dec (fun hlt=>?_) (fun hge=>?_))
  ·have hlt:i<l:=by omega
   refine(h1.ext hs2.ext).rd (by omega) (by omega) (by rw[Int.toNat_natCast];exact get_gD xs 0 (by omega)) ?_
   refine c17 (h1.ext hs2.ext) (h2.ext hs2.ext) hx hy (by omega) hlt (by omega) fun H3 e3=>⟨_,rfl,_,rfl,by omega,by omega,?_⟩
   have hs3:=hs2.step e3
   have hg:=geP_rng (k:=k) hx hy i
   have hxi:=hx.getD i
   have hfl:(filP k xs ys).length=l:=by rw[filP_len,e1]
   have hw:wrap .u8 (xs.getD i 0-geP k xs ys i)=(xs.getD i 0-geP k xs ys i)%256:=by simp[IntKind.wrap,IntKind.bits,IntKind.signed]
   rw[hw,add_none,Int.toNat_natCast,Nat.mul_one,Nat.zero_add]
   refine hs3.slPut 0 rfl (by rw[kints_len];simp;omega) rfl fun H4 hs4=>?_
   rw[wrap_id (by omega) (by omega)]
   have:=ih hlt H4
   rw[kints_set] at hs4
   have e5:((filP k xs ys).take i++List.replicate (l-i) 0).set i ((xs.getD i 0-geP k xs ys i)%256)=(filP k xs ys).take (i+1)++List.replicate (l-(i+1)) 0:=by
    rw[filP_take _ _ _ (by omega)]
    rw[List.set_append_right _ _ (by simp;omega)]
    rw[show l-i=(l-(i+1))+1 from by omega,List.replicate_succ]
    simp[hfl,Nat.min_eq_left (Nat.le_of_lt hlt)]
   rw[e5] at hs4
   exact this hs4
  ·have:i=l:=by omega
   subst this
   refine hR hr b H2 ?_
   rw[List.take_of_length_le (by rw[filP_len];omega),Nat.sub_self] at hs2
   simpa using hs2
 refine go 0 (by omega) H1 ?_
 simpa using hs1
theorem c8{k:Int}{p q:Option Addr}{l m c d:Nat}{xs ys:List Int}(h1:IS H p l (kints .u8 xs))(h2:IS H q m (kints .u8 ys))(hx:Bys xs)(hy:Bys ys)(hl:l≤1000000000)
 (hbad: ¬rightP k l m→R (.slice none 0 0) H)
 (hR:rightP k l m→ ∀q' m' H',St H H' [.sl q' l m' 5 1 (kints .u8 (unfP k xs ys))]→R (.slice q' l m') H'):CallsH Try.prog 8 #[.int .i64 k,.slice p l c,.slice q m d] H R:=by
 have e1:=h1.length
 have e2:=h2.length
 refine Try.s8 (c16 ⟨_,rfl,br_not (fun hn=>hbad (of_decide_eq_false hn)) (fun hr=>?_)⟩)
 have hr:=of_decide_eq_true hr
 have hlm:l=m:=hr.2.2
 refine c18 h1 (by omega) fun q' m' H1 hs1=>⟨_,_,_,rfl,?_⟩
 intro X hX
 have go: ∀i,i≤l→ ∀H2,St H H2 [.sl q' l m' 5 1 (kints .u8 (unfN k xs ys i++xs.drop i))]→X [.int .i64 (i:Nat)] H2:=upto fun i hi ih H2 hs2=>by
  refine hX _ H2 (br_dec (fun hlt=>?_) (fun hge=>?_))
  ·have hlt:i<l:=by omega
   have hul:=unfN_len k xs ys i
   have hcur:(unfN k xs ys i++xs.drop i).length=l:=by rw[List.length_append,hul,List.length_drop];omega
   have hby:Bys (unfN k xs ys i++xs.drop i):=fun x hx'=>by
    rcases List.mem_append.1 hx' with h|h
    ·exact unfN_bys k xs ys i x h
    ·exact hx x (List.mem_of_mem_drop h)
   have is2:=hs2.is 0 rfl
   obtain⟨b,hb⟩:=hs2.slSome 0 rfl (j:=i) (by rw[kints_len];exact Nat.lt_of_lt_of_eq hlt hcur.symm)
   have g0:(unfN k xs ys i++xs.drop i)[i]?=some (xs.getD i 0):=by
    rw[List.getElem?_append_right (by omega),hul,Nat.sub_self,List.getElem?_drop,Nat.add_zero]
    exact get_gD xs 0 (by omega)
   obtain⟨a,hpa,hc⟩:=is2.cell (kints_get g0)
   refine⟨a,hpa,by omega,by omega,xs.getD i 0,by rw[Int.toNat_natCast,Nat.mul_one];exact hc,?_⟩
   refine c17 is2 (h2.ext hs2.ext) hby hy (by omega) hlt (by omega) fun H3 e3=>⟨_,rfl,.inl e3,_,hpa,by omega,by omega,?_⟩
   have hs3:=hs2.step e3
   have hge:geP k (unfN k xs ys i++xs.drop i) ys i=geP k (unfN k xs ys i) ys i:=by
    unfold geP atP
    split
    ·rw[gDl _ _ _ _ (by omega)]
    ·rfl
   have hw:wrap .u8 (xs.getD i 0+geP k (unfN k xs ys i++xs.drop i) ys i)=(xs.getD i 0+geP k (unfN k xs ys i) ys i)%256:=by rw[hge];simp[IntKind.wrap,IntKind.bits,IntKind.signed]
   rw[hb] at hpa
   cases hpa
   subst hb
   rw[hw,add_none,Int.toNat_natCast,Nat.mul_one,Nat.zero_add]
   refine hs3.slPut 0 rfl (by rw[kints_len,hcur];exact hlt) rfl fun H4 hs4=>?_
   rw[wrap_id (by omega) (by omega)]
   rw[kints_set] at hs4
   have e5:(unfN k xs ys i++xs.drop i).set i ((xs.getD i 0+geP k (unfN k xs ys i) ys i)%256)=unfN k xs ys (i+1)++xs.drop (i+1):=by
    rw[List.set_append_right _ _ (by omega),hul,Nat.sub_self,List.drop_eq_getElem_cons (by omega),List.set_cons_zero,unfN,List.append_assoc]
    rfl
   rw[e5] at hs4
   exact ih hlt H4 hs4
  ·have:i=l:=by omega
   subst this
   refine hR hr q' m' H2 ?_
   rw[List.drop_eq_nil_of_le (by omega),List.append_nil] at hs2
   have:unfN k xs ys i=unfP k xs ys:=by unfold unfP;rw[e1]
   rw[this] at hs2
   exact hs2
 refine go 0 (by omega) H1 ?_
 exact hs1
end Go.Proofs
namespace Go.Proofs
open Go.Sh
section
variable {B:List Int} {k:Nat}
theorem bitB_cut(hk:k≤B.length){i:Nat}(hi:i<8*k):bitB false (B.take k) i=bitB false B i:=by
 unfold bitB
 rw[List.getD_eq_getElem?_getD,List.getElem?_take_of_lt (by omega),←List.getD_eq_getElem?_getD]
theorem numB_cut(hk:k≤B.length){a:Nat}: ∀{n:Nat},a+n≤8*k→numB false (B.take k) a n=numB false B a n
 |0,_=>rfl
 |n+1,h=>by rw[numB,numB,numB_cut hk (by omega),bitB_cut hk (by omega)]
theorem take_len(hk:k≤B.length):(B.take k).length=k:=by rw[List.length_take];omega
theorem getM_cut(hk:k≤B.length){n a a':Nat}{v:Int}(h:getM B n a= .ok (v,a')):getM (B.take k) n a=if a'≤8*k then .ok (v,a') else .error 20:=by
 unfold getM at h ⊢
 rw[take_len hk]
 split at h
 ·cases h
  by_cases hc:a+n≤8*k
  ·rw[if_pos hc,if_pos hc,numB_cut hk hc]
  ·rw[if_neg hc,if_neg hc]
 ·cases h
theorem symG_cut(hk:k≤B.length){ls:List Int}: ∀(f n:Nat) (v:Int) (a:Nat) {s a':Nat},symG ls B f n v a= .ok (s,a')→symG ls (B.take k) f n v a=if a'≤8*k then .ok (s,a') else .error 20
 |0,_,_,_,_,_,h=>by cases h
 |f+1,n,v,a,s,a',h=>by
  have hadv:=symG_adv _ _ _ _ h
  rw[symG] at h ⊢
  cases hg:getM B 1 a with
  |error e=>rw[hg] at h;cases h
  |ok x=>
   obtain⟨b,a1⟩:=x
   have ha1:a1=a+1:=by unfold getM at hg;split at hg<;>cases hg;rfl
   rw[hg] at h
   rw[getM_cut hk hg]
   simp only at h
   by_cases hc:a1≤8*k
   ·rw[if_pos hc]
    simp only
    cases hf:findM ls (n+1) (2*v+b) with
    |some t=>
     rw[hf] at h
     cases h
     rw[if_pos hc]
    |none=>
     rw[hf] at h
     simp only at h ⊢
     split at h
     ·rename_i hb
      rw[if_pos hb]
      exact symG_cut hk f _ _ _ h
     ·cases h
   ·rw[if_neg hc]
    simp only
    rw[if_neg (by omega)]
theorem symM_cut(hk:k≤B.length){ls:List Int}{a s a':Nat}(h:symM ls B a= .ok (s,a')):symM ls (B.take k) a=if a'≤8*k then .ok (s,a') else .error 20:=symG_cut hk _ _ _ _ h
theorem copiesM_cut(hk:k≤B.length){mst:Int}{dl:List Int}{s a a':Nat}{out out':List Int}(h:copiesM B mst dl s a out= .ok (a',out')):copiesM (B.take k) mst dl s a out=if a'≤8*k then .ok (a',out') else .error 20:=by
 unfold copiesM at h ⊢
 split at h
 ·cases h
 ·rename_i hs
  rw[if_neg hs]
  cases h1:getM B (lenB s).2 a with
  |error e=>rw[h1] at h;cases h
  |ok x=>
   obtain⟨x,a1⟩:=x
   rw[h1] at h
   rw[getM_cut hk h1]
   simp only at h
   cases h2:symM dl B a1 with
   |error e=>rw[h2] at h;cases h
   |ok t=>
    obtain⟨t,a2⟩:=t
    rw[h2] at h
    simp only at h
    split at h
    ·cases h
    ·rename_i ht
     cases h3:getM B (dstB t).2 a2 with
     |error e=>rw[h3] at h;cases h
     |ok y=>
      obtain⟨y,a3⟩:=y
      rw[h3] at h
      simp only at h
      split at h
      ·cases h
      ·rename_i hd
       split at h
       ·cases h
       ·rename_i hm
        have e2:=symM_adv h2
        have e3:=getM_adv h3
        have ea:a3=a':=by cases h;rfl
        have eo:copyM ((dstB t).1+y.toNat) ((lenB s).1+x.toNat) out=out':=by cases h;rfl
        clear h
        subst ea
        by_cases hc:a1≤8*k
        ·rw[if_pos hc]
         simp only
         rw[symM_cut hk h2]
         by_cases hc2:a2≤8*k
         ·rw[if_pos hc2]
          simp only
          rw[if_neg ht,getM_cut hk h3]
          by_cases hc3:a3≤8*k
          ·rw[if_pos hc3,if_pos hc3]
           simp only
           rw[if_neg hd,if_neg hm,eo]
          ·rw[if_neg hc3,if_neg hc3]
         ·rw[if_neg hc2,if_neg (by omega)]
        ·rw[if_neg hc,if_neg (by omega)]
theorem symsM_cut(hk:k≤B.length){mst:Int}{ll dl:List Int}: ∀(f g a:Nat) (out:List Int) {a':Nat} {out':List Int},symsM B mst ll dl f a out= .ok (a',out')→8*k<a+g→symsM (B.take k) mst ll dl g a out=if a'≤8*k then .ok (a',out') else .error 20
 |0,g,a,out,a',out',h,hg=>by cases h
 |f+1,g,a,out,a',out',h,hg=>by
  have hadv:=symsM_adv _ _ _ h
  cases g with
  |zero=>rw[symsM,if_neg (by omega)]
  |succ g=>
   rw[symsM] at h ⊢
   cases h1:symM ll B a with
   |error e=>rw[h1] at h;cases h
   |ok s=>
    obtain⟨s,a1⟩:=s
    have e1:=symM_adv h1
    rw[h1] at h
    rw[symM_cut hk h1]
    simp only at h
    by_cases hc:a1≤8*k
    ·rw[if_pos hc]
     simp only
     split at h
     ·rename_i h256
      cases h
      rw[if_pos h256,if_pos hc]
     ·rename_i h256
      rw[if_neg h256]
      split at h
      ·rename_i hgt
       rw[if_pos hgt]
       cases h2:copiesM B mst dl s a1 out with
       |error e=>rw[h2] at h;cases h
       |ok x=>
        obtain⟨a2,out2⟩:=x
        rw[h2] at h
        simp only at h
        have e2:=copiesM_adv h2
        rw[copiesM_cut hk h2]
        by_cases hc2:a2≤8*k
        ·rw[if_pos hc2]
         exact symsM_cut hk f g _ _ h (by omega)
        ·rw[if_neg hc2]
         have:=symsM_adv _ _ _ h
         rw[if_neg (by omega)]
      ·rename_i hgt
       rw[if_neg hgt]
       split at h
       ·cases h
       ·rename_i hm
        rw[if_neg hm]
        exact symsM_cut hk f g _ _ h (by omega)
    ·rw[if_neg hc]
     have:a1≤a':=by
      split at h
      ·cases h;omega
      ·split at h
       ·cases h2:copiesM B mst dl s a1 out with
        |error e=>rw[h2] at h;cases h
        |ok x=>
         rw[h2] at h
         have e2:=copiesM_adv (a':=x.1) (out':=x.2) h2
         have:=symsM_adv _ _ _ h
         omega
       ·split at h
        ·cases h
        ·exact symsM_adv _ _ _ h
     rw[if_neg (by omega)]
theorem symbolsM_cut(hk:k≤B.length){mst:Int}{ll dl:List Int}{a a':Nat}{out out':List Int}(h:symbolsM B mst ll dl a out= .ok (a',out')):symbolsM (B.take k) mst ll dl a out=if a'≤8*k then .ok (a',out') else .error 20:=by
 unfold symbolsM at h ⊢
 rw[take_len hk]
 exact symsM_cut hk _ _ _ _ h (by omega)
theorem bytesM_cut(hk:k≤B.length): ∀(n a:Nat) (out:List Int) {a':Nat} {out':List Int},bytesM B n a out= .ok (a',out')→a≤8*k→bytesM (B.take k) n a out=if a'≤8*k then .ok (a',out') else .error 20
 |0,a,out,a',out',h,ha=>by cases h;rw[bytesM,if_pos ha]
 |n+1,a,out,a',out',h,ha=>by
  rw[bytesM] at h ⊢
  cases h1:getM B 8 a with
  |error e=>rw[h1] at h;cases h
  |ok x=>
   obtain⟨c,a1⟩:=x
   rw[h1] at h
   rw[getM_cut hk h1]
   simp only at h
   by_cases hc:a1≤8*k
   ·rw[if_pos hc]
    exact bytesM_cut hk n _ _ h hc
   ·have:=bytesM_adv _ _ _ h
    rw[if_neg hc,if_neg (by omega)]
theorem storedM_cut(hk:k≤B.length){mst:Int}{a a':Nat}{out out':List Int}(h:storedM B mst a out= .ok (a',out')):storedM (B.take k) mst a out=if a'≤8*k then .ok (a',out') else .error 20:=by
 unfold storedM at h ⊢
 cases h1:getM B 16 ((a+7)/8*8) with
 |error e=>rw[h1] at h;cases h
 |ok x=>
  obtain⟨n,a1⟩:=x
  rw[h1] at h
  rw[getM_cut hk h1]
  simp only at h
  cases h2:getM B 16 a1 with
  |error e=>rw[h2] at h;cases h
  |ok y=>
   obtain⟨m,a2⟩:=y
   rw[h2] at h
   simp only at h
   split at h
   ·cases h
   ·rename_i hx
    split at h
    ·cases h
    ·rename_i hm
     have e2:=getM_adv h2
     have e3:=bytesM_adv _ _ _ h
     by_cases hc:a1≤8*k
     ·rw[if_pos hc]
      simp only
      rw[getM_cut hk h2]
      by_cases hc2:a2≤8*k
      ·rw[if_pos hc2]
       simp only
       rw[if_neg hx,if_neg hm]
       exact bytesM_cut hk _ _ _ h hc2
      ·rw[if_neg hc2,if_neg (by omega)]
     ·rw[if_neg hc,if_neg (by omega)]
theorem firstM_cut(hk:k≤B.length): ∀(l:List Nat) (a:Nat) (fs:List Int) {a':Nat} {gs:List Int},firstM B l a fs= .ok (a',gs)→a≤8*k→firstM (B.take k) l a fs=if a'≤8*k then .ok (a',gs) else .error 20
 |[],a,fs,a',gs,h,ha=>by cases h;rw[firstM,if_pos ha]
 |s::l,a,fs,a',gs,h,ha=>by
  rw[firstM] at h ⊢
  cases h1:getM B 3 a with
  |error e=>rw[h1] at h;cases h
  |ok x=>
   obtain⟨v,a1⟩:=x
   rw[h1] at h
   rw[getM_cut hk h1]
   simp only at h
   by_cases hc:a1≤8*k
   ·rw[if_pos hc]
    exact firstM_cut hk l _ _ h hc
   ·have:=(firstM_len _ h).2
    rw[if_neg hc,if_neg (by omega)]
theorem rep_cut(hk:k≤B.length){first:List Int}{total f g:Nat}{n a1:Nat}{P:Int→Prop}[DecidablePred P]{L:Int→List Int}{a':Nat}{ls':List Int}
 (ih: ∀a ls,listM B first total f a ls= .ok (a',ls')→a1≤a→a≤8*k→listM (B.take k) first total g a ls=if a'≤8*k then .ok (a',ls') else .error 20)
 (h:(match getM B n a1 with| .error e=> .error e| .ok (x,at2)=>if P x then .error 21 else listM B first total f at2 (L x))=(.ok (a',ls'):Except Int (Nat×List Int))):
 (match getM (B.take k) n a1 with| .error e=> .error e| .ok (x,at2)=>if P x then .error 21 else listM (B.take k) first total g at2 (L x))=(if a'≤8*k then .ok (a',ls') else .error 20:Except Int (Nat×List Int)):=by
 cases h1:getM B n a1 with
 |error e=>rw[h1] at h;cases h
 |ok x=>
  obtain⟨x,a2⟩:=x
  have e1:=getM_adv h1
  rw[h1] at h
  rw[getM_cut hk h1]
  simp only at h
  split at h
  ·cases h
  ·rename_i hp
   by_cases hc:a2≤8*k
   ·rw[if_pos hc]
    simp only
    rw[if_neg hp]
    exact ih _ _ h e1 hc
   ·have:=(listM_adv _ _ _ h).1
    rw[if_neg hc,if_neg (by omega)]
theorem listM_cut(hk:k≤B.length){first:List Int}{total:Nat}: ∀(f g a:Nat) (ls:List Int) {a':Nat} {ls':List Int},listM B first total f a ls= .ok (a',ls')→8*k<a+g→a≤8*k→listM (B.take k) first total g a ls=if a'≤8*k then .ok (a',ls') else .error 20
 |0,g,a,ls,a',ls',h,hg,ha=>by cases h
 |f+1,g,a,ls,a',ls',h,hg,ha=>by
  cases g with
  |zero=>omega
  |succ g=>
   rw[listM] at h ⊢
   split at h
   ·rename_i hl
    cases h
    rw[if_pos hl,if_pos ha]
   ·rename_i hl
    rw[if_neg hl]
    cases h1:symM first B a with
    |error e=>rw[h1] at h;cases h
    |ok s=>
     obtain⟨s,a1⟩:=s
     have e1:=symM_adv h1
     rw[h1] at h
     rw[symM_cut hk h1]
     simp only at h
     have ih: ∀a ls,listM B first total f a ls= .ok (a',ls')→a1≤a→a≤8*k→listM (B.take k) first total g a ls=if a'≤8*k then .ok (a',ls') else .error 20:=fun a ls h h1 h2=>listM_cut hk f g a ls h (by omega) h2
     by_cases hc:a1≤8*k
     ·rw[if_pos hc]
      simp only
      split at h
      ·rename_i h16
       rw[if_pos h16]
       cases hv:ls.getLast? with
       |none=>
        rw[hv] at h
        cases h2:getM B 2 a1 with
        |error e=>rw[h2] at h;cases h
        |ok x=>rw[h2] at h;cases h
       |some v=>
        rw[hv] at h
        exact rep_cut hk (P:=fun x=>3+x>(total:Int)-ls.length) (L:=fun x=>ls++List.replicate (3+x).toNat v) ih h
      ·rename_i h16
       rw[if_neg h16]
       split at h
       ·rename_i h17
        rw[if_pos h17]
        exact rep_cut hk (P:=fun x=>3+x>(total:Int)-ls.length) (L:=fun x=>ls++List.replicate (3+x).toNat 0) ih h
       ·rename_i h17
        rw[if_neg h17]
        split at h
        ·rename_i h18
         rw[if_pos h18]
         exact rep_cut hk (P:=fun x=>11+x>(total:Int)-ls.length) (L:=fun x=>ls++List.replicate (11+x).toNat 0) ih h
        ·rename_i h18
         rw[if_neg h18]
         exact ih _ _ h (Nat.le_refl _) hc
     ·rw[if_neg hc]
      have:=(listM_adv (B:=B) (first:=first) (total:=total) (f+1) a ls (a':=a') (ls':=ls') (by rw[listM,if_neg hl,h1];exact h)).1
      have:a1≤a':=by
       split at h
       ·cases h2:getM B 2 a1 with
        |error e=>rw[h2] at h;cases h
        |ok x=>
         have e2:=getM_adv (v:=x.1) (a':=x.2) h2
         rw[h2] at h
         simp only at h
         split at h
         ·cases h
         ·split at h
          ·cases h
          ·have:=(listM_adv _ _ _ h).1;omega
       ·split at h
        ·cases h2:getM B 3 a1 with
         |error e=>rw[h2] at h;cases h
         |ok x=>
          have e2:=getM_adv (v:=x.1) (a':=x.2) h2
          rw[h2] at h
          simp only at h
          split at h
          ·cases h
          ·have:=(listM_adv _ _ _ h).1;omega
        ·split at h
         ·cases h2:getM B 7 a1 with
          |error e=>rw[h2] at h;cases h
          |ok x=>
           have e2:=getM_adv (v:=x.1) (a':=x.2) h2
           rw[h2] at h
           simp only at h
           split at h
           ·cases h
           ·have:=(listM_adv _ _ _ h).1;omega
         ·exact(listM_adv _ _ _ h).1
      rw[if_neg (by omega)]
theorem tablesM_cut(hk:k≤B.length){a a':Nat}{ll dl:List Int}(h:tablesM B a= .ok (a',ll,dl)):a≤a'∧tablesM (B.take k) a=if a'≤8*k then .ok (a',ll,dl) else .error 20:=by
 unfold tablesM at h ⊢
 cases h1:getM B 5 a with
 |error e=>rw[h1] at h;cases h
 |ok x=>
 obtain⟨hl,a1⟩:=x
 have e1:=getM_adv h1
 rw[h1] at h
 rw[getM_cut hk h1]
 simp only at h
 cases h2:getM B 5 a1 with
 |error e=>rw[h2] at h;cases h
 |ok x=>
 obtain⟨hd,a2⟩:=x
 have e2:=getM_adv h2
 rw[h2] at h
 simp only at h
 cases h3:getM B 4 a2 with
 |error e=>rw[h3] at h;cases h
 |ok x=>
 obtain⟨hc,a3⟩:=x
 have e3:=getM_adv h3
 rw[h3] at h
 simp only at h
 split at h
 ·cases h
 rename_i h29
 cases h4:firstM B (ordL.take (hc.toNat+4)) a3 (List.replicate 19 0) with
 |error e=>rw[h4] at h;cases h
 |ok x=>
 obtain⟨a4,first⟩:=x
 have e4:=(firstM_len _ h4).2
 rw[h4] at h
 simp only at h
 split at h
 ·cases h
 rename_i hr
 cases h5:listM B first (hl.toNat+hd.toNat+258) (8*B.length+2) a4 [] with
 |error e=>rw[h5] at h;cases h
 |ok x=>
 obtain⟨a5,ls⟩:=x
 have e5:=(listM_adv _ _ _ h5).1
 rw[h5] at h
 simp only at h
 split at h
 ·cases h
 rename_i hr2
 have ea:a5=a':=by cases h;rfl
 have er:(Except.ok (a5,ls.take (hl.toNat+257),ls.drop (hl.toNat+257)):Except Int (Nat×List Int×List Int))= .ok (a',ll,dl):=h
 refine⟨by omega,?_⟩
 by_cases c1:a1≤8*k
 ·rw[if_pos c1]
  simp only
  rw[getM_cut hk h2]
  by_cases c2:a2≤8*k
  ·rw[if_pos c2]
   simp only
   rw[getM_cut hk h3]
   by_cases c3:a3≤8*k
   ·rw[if_pos c3]
    simp only
    rw[if_neg h29,firstM_cut hk _ _ _ h4 c3]
    by_cases c4:a4≤8*k
    ·rw[if_pos c4]
     simp only
     rw[if_neg hr,take_len hk,listM_cut hk _ (8*k+2) _ _ h5 (by omega) c4]
     by_cases c5:a5≤8*k
     ·rw[if_pos c5]
      simp only
      rw[if_neg hr2,if_pos (by omega)]
      exact er
     ·rw[if_neg c5,if_neg (by omega)]
    ·rw[if_neg c4,if_neg (by omega)]
   ·rw[if_neg c3,if_neg (by omega)]
  ·rw[if_neg c2,if_neg (by omega)]
 ·rw[if_neg c1,if_neg (by omega)]
theorem blocksM_cut(hk:k≤B.length){mst:Int}: ∀(f g a:Nat) (out:List Int) {a':Nat} {out':List Int},blocksM tablesM B mst f a out= .ok (a',out')→8*k<a+g→a≤a'∧blocksM tablesM (B.take k) mst g a out=if a'≤8*k then .ok (a',out') else .error 20
 |0,g,a,out,a',out',h,hg=>by cases h
 |f+1,g,a,out,a',out',h,hg=>by
  rw[blocksM] at h
  cases h1:getM B 1 a with
  |error e=>rw[h1] at h;cases h
  |ok x=>
  obtain⟨last,a1⟩:=x
  have e1:a+1=a1:=by unfold getM at h1;split at h1<;>cases h1;rfl
  rw[h1] at h
  simp only at h
  cases h2:getM B 2 a1 with
  |error e=>rw[h2] at h;cases h
  |ok x=>
  obtain⟨kind,a2⟩:=x
  have e2:=getM_adv h2
  rw[h2] at h
  simp only at h
  -- the block
  have blk: ∀(X:List Int→Except Int (Nat×List Int)),X=(fun B'=>if kind=0 then storedM B' mst a2 out else if kind=1 then symbolsM B' mst fixL fixD a2 out else if kind=2 then(match tablesM B' a2 with
   | .error e=> .error e
   | .ok (at3,ll,dl)=>symbolsM B' mst ll dl at3 out) else .error 25)→ ∀a3 out3,X B= .ok (a3,out3)→a2≤a3∧X (B.take k)=if a3≤8*k then .ok (a3,out3) else .error 20:=fun X hX a3 out3 h3=>by
   subst hX
   simp only at h3 ⊢
   split at h3
   ·rename_i h0
    rw[if_pos h0]
    exact⟨storedM_adv h3,storedM_cut hk h3⟩
   ·rename_i h0
    rw[if_neg h0]
    split at h3
    ·rename_i h1
     rw[if_pos h1]
     exact⟨symsM_adv _ _ _ h3,symbolsM_cut hk h3⟩
    ·rename_i h1
     rw[if_neg h1]
     split at h3
     ·rename_i h2
      rw[if_pos h2]
      cases ht:tablesM B a2 with
      |error e=>rw[ht] at h3;cases h3
      |ok x=>
       obtain⟨a4,ll,dl⟩:=x
       rw[ht] at h3
       simp only at h3
       obtain⟨t1,t2⟩:=tablesM_cut hk ht
       have t3:=symsM_adv _ _ _ h3
       refine⟨by omega,?_⟩
       rw[t2]
       by_cases c:a4≤8*k
       ·rw[if_pos c]
        exact symbolsM_cut hk h3
       ·rw[if_neg c,if_neg (by omega)]
     ·cases h3
  split at h
  ·cases h
  rename_i a3 out3 h3
  obtain⟨e3,e4⟩:=blk _ rfl a3 out3 h3
  have hend:a3≤a':=by
   split at h
   ·cases h;exact Nat.le_refl _
   ·exact(blocksM_cut hk f (8*k+1) a3 out3 h (by omega)).1
  refine⟨by omega,?_⟩
  cases g with
  |zero=>rw[blocksM,if_neg (by omega)]
  |succ g=>
   rw[blocksM,getM_cut hk h1]
   by_cases c1:a1≤8*k
   ·rw[if_pos c1]
    simp only
    rw[getM_cut hk h2]
    by_cases c2:a2≤8*k
    ·rw[if_pos c2]
     simp only
     refine Eq.trans (congrArg (fun r:Except Int (Nat×List Int)=>(match r with| .error e=> .error e| .ok (at3,out3)=>if last=1 then .ok (at3,out3) else blocksM tablesM (B.take k) mst g at3 out3:Except Int (Nat×List Int))) e4) ?_
     by_cases c3:a3≤8*k
     ·rw[if_pos c3]
      simp only
      split at h
      ·rename_i hl
       cases h
       rw[if_pos hl,if_pos c3]
      ·rename_i hl
       rw[if_neg hl]
       exact(blocksM_cut hk f g a3 out3 h (by omega)).2
     ·rw[if_neg c3,if_neg (by omega)]
    ·rw[if_neg c2,if_neg (by omega)]
   ·rw[if_neg c1,if_neg (by omega)]
end
end Go.Proofs
namespace Go.Proofs
open Go.Sh
variable {H:Heap}
theorem Has.more{B ws:List Int}{a:Nat}(h:Has B a ws)(C:List Int):Has (B++C) a ws:=by
 refine⟨by have:=h.1;rw[List.length_append];omega,fun i hi=>?_⟩
 rw[←h.2 i hi]
 unfold bitB
 rw[gD_left _ _ _ _ (by have:=h.1;omega)]
theorem infl_more{B b:List Int}{eff:Int}(ok:WOk false (defB b eff) B)(hb: ∀x∈b,0≤x∧x<256)(hl:b.length≤1000000000)(C:List Int)(most:Nat):inflM tablesM (B++C) most=if b.length≤most then .ok (b,B.length) else .error 24:=by
 rw[ok.nby]
 exact infl_def hb hl ((Has.of ok).more C)
end Go.Proofs
namespace Go.Proofs
open Go.Sh
variable {H:Heap} {R:Value→Heap→Prop}
def num4(r:List Int):Int:=((r.getD 0 0*256+r.getD 1 0)*256+r.getD 2 0)*256+r.getD 3 0
def hdrOk(a b:Int):Prop:=(256*a+b)%31=0∧a%16=8∧a/16≤7∧b/32%2=0
instance(a b:Int):Decidable (hdrOk a b):=by unfold hdrOk;infer_instance
def unzM(B:List Int)(most:Int):Except Int (List Int):=
 if B.length<2 then .error 20 else if ¬hdrOk (B.getD 0 0) (B.getD 1 0) then .error 25 else match inflM tablesM (B.drop 2) most with
 | .error e=> .error e
 | .ok (out,n)=>if B.length-(2+n)<4 then .error 20 else if num4 (B.drop (2+n))≠adlS out then .error 23 else if B.length-(2+n)>4 then .error 25 else .ok out
theorem infl_le{B:List Int}{most:Int}{out:List Int}{n:Nat}(h:inflM tablesM B most= .ok (out,n)):n≤B.length:=by
 unfold inflM at h
 cases hb:blocksM tablesM B (max most 0) (8*B.length+1) 0 [] with
 |error e=>rw[hb] at h;cases h
 |ok x=>
  obtain⟨a,o⟩:=x
  rw[hb] at h
  cases h
  have:=(blocksM_cut (k:=B.length) (Nat.le_refl _) _ (8*B.length+1) 0 [] hb (by omega)).2
  rw[List.take_of_length_le (Nat.le_refl _),hb] at this
  split at this
  ·omega
  ·cases this
theorem copies_out{B:List Int}{mst:Int}{dl:List Int}{s a a':Nat}{out out':List Int}(h:copiesM B mst dl s a out= .ok (a',out')):(out'.length:Int)≤mst:=by
 unfold copiesM at h
 split at h
 ·cases h
 ·cases h1:getM B (lenB s).2 a with
  |error e=>rw[h1] at h;cases h
  |ok x=>
   obtain⟨x,a1⟩:=x
   have hx:0≤x:=by
    unfold getM at h1
    split at h1
    ·cases h1;exact(numB_rng _ _ _ _).1
    ·cases h1
   rw[h1] at h
   simp only at h
   cases h2:symM dl B a1 with
   |error e=>rw[h2] at h;cases h
   |ok t=>
    obtain⟨t,a2⟩:=t
    rw[h2] at h
    simp only at h
    split at h
    ·cases h
    ·cases h3:getM B (dstB t).2 a2 with
     |error e=>rw[h3] at h;cases h
     |ok y=>
      obtain⟨y,a3⟩:=y
      rw[h3] at h
      simp only at h
      split at h
      ·cases h
      ·split at h
       ·cases h
       ·cases h
        rw[copyM_len]
        omega
theorem syms_out{B:List Int}{mst:Int}{ll dl:List Int}: ∀(f a:Nat) (out:List Int) {a':Nat} {out':List Int},symsM B mst ll dl f a out= .ok (a',out')→(out.length:Int)≤mst→(out'.length:Int)≤mst
 |0,a,out,a',out',h,_=>by cases h
 |f+1,a,out,a',out',h,ho=>by
  rw[symsM] at h
  cases h1:symM ll B a with
  |error e=>rw[h1] at h;cases h
  |ok s=>
   rw[h1] at h
   simp only at h
   split at h
   ·cases h;exact ho
   ·split at h
    ·cases h2:copiesM B mst dl s.1 s.2 out with
     |error e=>rw[h2] at h;cases h
     |ok x=>
      rw[h2] at h
      exact syms_out f _ _ h (copies_out h2)
    ·split at h
     ·cases h
     ·exact syms_out f _ _ h (by rw[List.length_append,List.length_singleton];omega)
theorem bytes_out{B:List Int}: ∀(n a:Nat) (out:List Int) {a':Nat} {out':List Int},bytesM B n a out= .ok (a',out')→out'.length=out.length+n
 |0,a,out,a',out',h=>by cases h;rfl
 |n+1,a,out,a',out',h=>by
  rw[bytesM] at h
  cases h1:getM B 8 a with
  |error e=>rw[h1] at h;cases h
  |ok x=>
   rw[h1] at h
   have:=bytes_out n _ _ h
   rw[List.length_append,List.length_singleton] at this
   omega
theorem stored_out{B:List Int}{mst:Int}{a a':Nat}{out out':List Int}(h:storedM B mst a out= .ok (a',out')):(out'.length:Int)≤mst:=by
 unfold storedM at h
 cases h1:getM B 16 ((a+7)/8*8) with
 |error e=>rw[h1] at h;cases h
 |ok x=>
  obtain⟨n,a1⟩:=x
  have hx:0≤n:=by
   unfold getM at h1
   split at h1
   ·cases h1;exact(numB_rng _ _ _ _).1
   ·cases h1
  rw[h1] at h
  simp only at h
  cases h2:getM B 16 a1 with
  |error e=>rw[h2] at h;cases h
  |ok y=>
   rw[h2] at h
   simp only at h
   split at h
   ·cases h
   ·split at h
    ·cases h
    ·have:=bytes_out _ _ _ h
     omega
theorem blocks_out{T:TabT}{B:List Int}{mst:Int}: ∀(f a:Nat) (out:List Int) {a':Nat} {out':List Int},blocksM T B mst f a out= .ok (a',out')→(out.length:Int)≤mst→(out'.length:Int)≤mst
 |0,a,out,a',out',h,_=>by cases h
 |f+1,a,out,a',out',h,ho=>by
  rw[blocksM] at h
  cases h1:getM B 1 a with
  |error e=>rw[h1] at h;cases h
  |ok x=>
  rw[h1] at h
  simp only at h
  cases h2:getM B 2 x.2 with
  |error e=>rw[h2] at h;cases h
  |ok y=>
  rw[h2] at h
  simp only at h
  split at h
  ·cases h
  rename_i a3 out3 h3
  have h3o:(out3.length:Int)≤mst:=by
   split at h3
   ·exact stored_out h3
   ·split at h3
    ·exact syms_out _ _ _ h3 ho
    ·split at h3
     ·cases ht:T B y.2 with
      |error e=>rw[ht] at h3;cases h3
      |ok z=>
       rw[ht] at h3
       exact syms_out _ _ _ h3 ho
     ·cases h3
  split at h
  ·cases h;exact h3o
  ·exact blocks_out f _ _ h h3o
theorem infl_out{T:TabT}{B:List Int}{most:Int}{out:List Int}{n:Nat}(h:inflM T B most= .ok (out,n)):(out.length:Int)≤max most 0:=by
 unfold inflM at h
 cases hb:blocksM T B (max most 0) (8*B.length+1) 0 [] with
 |error e=>rw[hb] at h;cases h
 |ok x=>
  obtain⟨a,o⟩:=x
  rw[hb] at h
  cases h
  exact blocks_out _ _ _ hb (by simp;omega)
theorem byte_and: ∀x:Fin 256,andI .u8 (x.val:Int) (15:Int)=(x.val:Int)%16∧shrI .u8 (x.val:Int) (4:Int)=(x.val:Int)/16∧(andI .u8 (x.val:Int) (32:Int)=0↔(x.val:Int)/32%2=0):=by decide+kernel
theorem byte_and'{x:Int}(h:0≤x∧x<256):andI .u8 x (15:Int)=x%16∧shrI .u8 x (4:Int)=x/16∧(andI .u8 x (32:Int)=0↔x/32%2=0):=by
 obtain⟨n,rfl⟩:=Int.eq_ofNat_of_zero_le h.1
 exact byte_and ⟨n,by omega⟩
theorem big_step{s v:Int}(hs:0≤s∧s<16777216)(hv:0≤v∧v<256):orI .i64 (shlI .i64 s (8:Int)) (IntKind.wrap .i64 v)=s*256+v:=by
 have e:shlI .i64 s (8:Int)=s*2^8:=shl_of (k:=8) hs.1 (by omega) (by rw[p8];omega)
 rw[wrap_id (by omega) (by omega),e,or_sum' (k:=8) hv.1 (by rw[p8];omega) hs.1 (by rw[p8];omega),p8]
 omega
theorem c29{p:Option Addr}{l c:Nat}{B:List Int}{most:Int}(h:IS H p l (kints .u8 B))(hr: ∀x∈B,0≤x∧x<256)(hlc:l≤c)(hl:l≤1000000000)(hm:most≤1000000000)
 (hbad: ∀k,k≠0→unzM B most= .error k→ ∀H',Ext H H'→R (.tuple #[.slice none 0 0,.int .i64 k]) H')
 (hR: ∀out,unzM B most= .ok out→ ∀H' q m,(∀y∈out,0≤y∧y<256)→St H H' [.sl q out.length m 5 1 (kints .u8 out)]→R (.tuple #[.slice q out.length m,.int .i64 0]) H'):
 CallsH Try.prog 29 #[.slice p l c,.int .i64 most] H R:=by
 have hBl:=h.length
 refine Try.s29 ?_
 unfold Try.S29
 unfold unzM at hbad hR
 refine br_dec (fun hlt=>hbad 20 (by decide) (by rw[if_pos (by omega)]) H (Ext.refl _)) (fun hge=>?_)
 rw[if_neg (by omega)] at hbad hR
 intro J3 hJ3
 have g0:=get_gD B 0 (i:=0) (by omega)
 have g1:=get_gD B 0 (i:=1) (by omega)
 have r0:=hr _ (List.mem_of_getElem? g0)
 have r1:=hr _ (List.mem_of_getElem? g1)
 generalize B.getD 0 0=x at*
 generalize B.getD 1 0=y at*
 have fail: ¬hdrOk x y→R (.tuple #[.slice none 0 0,.int .i64 25]) H:=fun hn=>hbad 25 (by decide) (by rw[if_pos hn]) H (Ext.refl _)
 have e1:orI .i64 (shlI .i64 (IntKind.wrap .i64 x) (8:Int)) (IntKind.wrap .i64 y)=x*256+y:=by
  rw[wrap_id (n:=x) (by omega) (by omega)];exact big_step (by omega) r1
 obtain⟨ax1,ax2,_⟩:=byte_and' r0
 obtain⟨_,_,ay⟩:=byte_and' r1
 have h0: ∀{K:Int→Prop},K x→ ∃a:Addr,p=some a∧0≤(0:Int)∧(0:Int)<((l:Nat):Int)∧ ∃v:Int,Sh.cell H (Addr.add a (Int.toNat 0*1))=some (.int .u8 v)∧K v:=fun hk=>h.rd (i:=0) (by omega) (by omega) g0 hk
 have h1: ∀{K:Int→Prop},K y→ ∃a:Addr,p=some a∧0≤(1:Int)∧(1:Int)<((l:Nat):Int)∧ ∃v:Int,Sh.cell H (Addr.add a (Int.toNat 1*1))=some (.int .u8 v)∧K v:=fun hk=>h.rd (i:=1) (by omega) (by omega) g1 hk
 refine h0 ⟨by decide,h1 ⟨by decide,?_⟩⟩
 rw[e1,Int.tmod_eq_emod_of_nonneg (by omega)]
 refine br_ne (fun hne=>fail fun hh=>hne (by have:=hh.1;omega)) (fun q1=>h0 ?_)
 rw[ax1]
 refine br_ne (fun hne=>fail fun hh=>hne hh.2.1) (fun q2=>h0 ⟨by decide,?_⟩)
 rw[ax2]
 refine br_dec (fun hgt=>fail fun hh=>by have:=hh.2.2.1;omega) (fun q3=>h1 (br_ne (fun hne=>fail fun hh=>hne (ay.2 hh.2.2.2)) (fun q4=>hJ3 H ?_)))
 have hok:hdrOk x y:=⟨by omega,q2,by omega,ay.1 q4⟩
 rw[if_neg (fun hn=>hn hok)] at hbad hR
 clear fail h0 h1 hJ3
 refine⟨by omega,by omega,?_⟩
 have hi2:=is_from h hlc (a:=2) (by omega)
 rw[kints_drop] at hi2
 refine inflate_of (T:=tablesM) hi2 (by omega) (fun z hz=>hr z (List.mem_of_mem_drop hz)) hm (.inl tablesC) (fun e he he2 H6 e6=>⟨_,_,_,_,_,rfl,br_t (by simpa using he) (hbad e he (by rw[he2]) H6 e6)⟩) (fun out n ho H6 q m hout hs6=>⟨_,_,_,_,_,rfl,br_f rfl ?_⟩)
 rw[ho] at hbad hR
 simp only at hbad hR
 have hn:=infl_le ho
 rw[List.length_drop] at hn
 have w:IntKind.wrap .i64 ((2:Int)+(n:Nat))=((2+n:Nat):Int):=by rw[wrap_id (by omega) (by omega)];omega
 rw[w]
 simp only[Int.toNat_natCast]
 refine⟨by omega,by omega,br_dec (fun hlt=>hbad 20 (by decide) (by rw[if_pos (by omega)]) H6 hs6.ext) (fun hge4=>⟨by omega,by omega,?_⟩)⟩
 rw[if_neg (by omega)] at hbad hR
 intro X10 hX
 have hr4:=is_till (is_from h hlc (a:=2+n) (by omega)) (c:=c-(2+n)) (n:=4) (by omega)
 rw[kints_drop,kints_take] at hr4
 have hrd: ∀(k:Nat),k<4→ ∀{K:Int→Prop},K ((B.drop (2+n)).getD k 0)→_:=fun k hk K hK=>(hr4.ext hs6.ext).rd (i:=(k:Int)) (K:=K) (by omega) (by omega) (by rw[Int.toNat_natCast,List.getElem?_take_of_lt hk];exact get_gD (B.drop (2+n)) 0 (by rw[List.length_drop];omega)) hK
 have hbr: ∀k,0≤(B.drop (2+n)).getD k 0∧(B.drop (2+n)).getD k 0<256:=fun k=>getD_rng (fun z hz=>hr z (List.mem_of_mem_drop hz)) k
 generalize hD:B.drop (2+n)=D at hbad hR hrd hbr
 have b0:=hbr 0
 have b1:=hbr 1
 have b2:=hbr 2
 have b3:=hbr 3
 refine hX _ _ H6 (br_y (by decide) ?_)
 have s0:=big_step (s:=0) (v:=D.getD 0 0) (by omega) b0
 refine hrd 0 (by omega) ⟨by decide,?_⟩
 rw[s0]
 refine hX _ _ H6 (br_y (by decide) ?_)
 refine hrd 1 (by omega) ⟨by decide,?_⟩
 rw[big_step (by omega) b1]
 refine hX _ _ H6 (br_y (by decide) ?_)
 refine hrd 2 (by omega) ⟨by decide,?_⟩
 rw[big_step (by omega) b2]
 refine hX _ _ H6 (br_y (by decide) ?_)
 refine hrd 3 (by omega) ⟨by decide,?_⟩
 rw[big_step (by omega) b3]
 refine hX _ _ H6 (br_n (by decide) ?_)
 have en:(((0*256+D.getD 0 0)*256+D.getD 1 0)*256+D.getD 2 0)*256+D.getD 3 0=num4 D:=by unfold num4;omega
 rw[en]
 obtain⟨ea,_,_⟩:=adlM_eq hout
 refine hs6.alc fun b16 H17 hs17=>c33 (hs17.block 0 rfl) (hs17.is 1 rfl) hout (by have:=infl_out ho;omega) ⟨_,rfl,?_⟩
 rw[ea]
 refine br_ne (fun hne=>hbad 23 (by decide) (by rw[if_pos hne]) H17 hs17.ext) (fun heq=>?_)
 rw[if_neg (fun hn=>hn heq)] at hbad hR
 refine br_dec (fun hgt=>hbad 25 (by decide) (by rw[if_pos (by omega)]) H17 hs17.ext) (fun hle=>?_)
 rw[if_neg (by omega)] at hR
 exact hR out rfl H17 q m hout hs17.tail
theorem frame_ok{B b:List Int}{eff:Int}(ok:WOk false (defB b eff) B)(hb: ∀x∈b,0≤x∧x<256)(hl:b.length≤100000000)(C:List Int):unzM ([120,156]++B++C) b.length=
 if C.length<4 then .error 20 else if num4 C≠adlS b then .error 23 else if C.length>4 then .error 25 else .ok b:=by
 unfold unzM
 have e0:([120,156]++B++C).getD 0 0=120:=rfl
 have e1:([120,156]++B++C).getD 1 0=156:=rfl
 have ed:([120,156]++B++C).drop 2=B++C:=rfl
 have el:([120,156]++B++C).length=B.length+C.length+2:=by simp
 have hin:=infl_more ok hb (by omega) C b.length
 rw[if_pos (Nat.le_refl _)] at hin
 rw[el,e0,e1,ed,hin,if_neg (by omega),if_neg (by decide)]
 simp only
 have ed2:([120,156]++B++C).drop (2+B.length)=C:=by
  rw[show([120,156]++B++C)=([120,156]++B)++C from rfl]
  exact List.drop_left' (by simp;omega)
 rw[ed2,show B.length+C.length+2-(2+B.length)=C.length from by omega]
theorem big4_num{s:Int}(h:0≤s∧s<4294967296):num4 (big4 s)=s:=by
 show((s/16777216%256*256+s/65536%256)*256+s/256%256)*256+s%256=s
 omega
theorem turn_bit: ∀(x:Fin 256) (j:Fin 8),xorI .u8 (x.val:Int) (shlI .u8 (1:Int) (j.val:Int))≠(x.val:Int)∧0≤xorI .u8 (x.val:Int) (shlI .u8 (1:Int) (j.val:Int))∧xorI .u8 (x.val:Int) (shlI .u8 (1:Int) (j.val:Int))<256:=by decide+kernel
end Go.Proofs
namespace Go.Proofs
open Go.Sh
open Go.IntKind (wrap)
variable {H:Heap} {R:Value→Heap→Prop}
theorem c31{p:Option Addr}{l c:Nat}{xs:List Int}{i:Int}(h:IS H p l (kints .u8 xs))(hx:Bys xs)(hi:i<l)(hR:R (.int .i64 (if i<0 then 0 else xs.getD i.toNat 0)) H):CallsH Try.prog 31 #[.slice p l c,.int .i64 i] H R:=by
 have e1:=h.length
 refine Try.s31 (br_dec (fun h0=>?_) (fun h0=>?_))
 ·rw[if_pos h0] at hR;exact hR
 ·rw[if_neg h0] at hR
  refine h.rd (by omega) (by omega) (get_gD xs 0 (by omega)) ?_
  rw[w8 (hx.getD _)]
  exact hR
theorem c32{p v:Int}(hp: -1000≤p∧p≤1000)(hv:0≤v∧v<256)(hR:R (.int .i64 (max (p-v) (v-p))) H):CallsH Try.prog 32 #[.int .i64 p,.int .i64 v] H R:=by
 refine Try.s32 (br_dec (fun h=>?_) (fun h=>?_))
 ·rw[wrap_id (by omega) (by omega)];rw[show max (p-v) (v-p)=p-v from by omega] at hR;exact hR
 ·rw[wrap_id (by omega) (by omega)];rw[show max (p-v) (v-p)=v-p from by omega] at hR;exact hR
theorem c19{k:Int}{p q:Option Addr}{l m c d:Nat}{xs ys:List Int}{i:Nat}(h1:IS H p l (kints .u8 xs))(h2:IS H q m (kints .u8 ys))(hx:Bys xs)(hy:Bys ys)(hi:i<m)(hil:i≤l)(hm:m≤1000000000)
 (hR:R (.int .i64 (geP k xs ys i)) H):CallsH Try.prog 19 #[.int .i64 k,.slice p l c,.slice q m d,.int .i64 (i:Nat)] H R:=by
 have e1:=h1.length
 have e2:=h2.length
 have hw:wrap .i64 ((i:Nat)-4:Int)=(i:Int)-4:=wrap_id (by omega) (by omega)
 have ha:(if ((i:Int)-4)<0 then 0 else xs.getD ((i:Int)-4).toNat 0)=atP xs i:=by
  unfold atP
  by_cases h:4≤i
  ·rw[if_pos h,if_neg (by omega)];congr 1;omega
  ·rw[if_neg h,if_pos (by omega)]
 have hc:(if ((i:Int)-4)<0 then 0 else ys.getD ((i:Int)-4).toNat 0)=atP ys i:=by
  unfold atP
  by_cases h:4≤i
  ·rw[if_pos h,if_neg (by omega)];congr 1;omega
  ·rw[if_neg h,if_pos (by omega)]
 have hb:(if ((i:Nat):Int)<0 then 0 else ys.getD ((i:Nat):Int).toNat 0)=ys.getD i 0:=by rw[if_neg (by omega),Int.toNat_natCast]
 have ra:=hx.atP i
 have rb:=hy.getD i
 have rc:=hy.atP i
 refine Try.s19 ?_
 unfold Try.S19
 rw[hw]
 refine c31 h1 hx (by omega) ⟨_,rfl,c31 h2 hy (by omega) ⟨_,rfl,c31 h2 hy (by omega) ⟨_,rfl,?_⟩⟩⟩
 rw[ha,hb,hc]
 unfold geP gsP at hR
 generalize atP xs i=a at*
 generalize ys.getD i 0=b at*
 generalize atP ys i=e at*
 refine br_eq (fun hk=>?_) (fun hk1=>br_eq (fun hk=>?_) (fun hk2=>br_eq (fun hk=>?_) (fun hk3=>br_eq (fun hk=>?_) (fun hk4=>?_))))
 ·rw[if_pos hk] at hR;exact hR
 ·rw[if_neg hk1,if_pos hk] at hR;exact hR
 ·rw[if_neg hk1,if_neg hk2,if_pos hk] at hR
  refine⟨by decide,?_⟩
  rw[wrap_id (n:=_+_) (by omega) (by omega),Int.tdiv_eq_ediv_of_nonneg (by omega),wrap_id (by omega) (by omega)]
  exact hR
 ·rw[if_neg hk1,if_neg hk2,if_neg hk3,if_pos hk] at hR
  unfold nearP at hR
  have hp:wrap .i64 (wrap .i64 (a+b)-e)=a+b-e:=by rw[wrap_id (n:=a+b) (by omega) (by omega),wrap_id (by omega) (by omega)]
  rw[hp]
  intro J hJ
  have one: ∀{v:Int} {K:Value→Heap→Prop},0≤v∧v<256→K (.int .i64 (max (a+b-e-v) (v-(a+b-e)))) H→CallsH Try.prog 32 #[.int .i64 (a+b-e),.int .i64 v] H K:=
   fun hv hK=>c32 (by omega) hv hK
  have hJ1: ¬(max (a+b-e-a) (a-(a+b-e))≤max (a+b-e-b) (b-(a+b-e))∧max (a+b-e-a) (a-(a+b-e))≤max (a+b-e-e) (e-(a+b-e)))→J [] H:=fun hn=>by
   rw[if_neg hn] at hR
   refine hJ H (one rb ⟨_,rfl,one rc ⟨_,rfl,br_dec (fun h3=>?_) (fun h3=>?_)⟩⟩)
   ·rw[if_pos h3] at hR;exact hR
   ·rw[if_neg h3] at hR;exact hR
  refine one ra ⟨_,rfl,one rb ⟨_,rfl,br_dec (fun h1=>one ra ⟨_,rfl,one rc ⟨_,rfl,br_dec (fun h2=>?_) (fun h2=>hJ1 fun hh=>h2 hh.2)⟩⟩) (fun h1=>hJ1 fun hh=>h1 hh.1)⟩⟩
  rw[if_pos ⟨h1,h2⟩] at hR;exact hR
 ·rw[if_neg hk1,if_neg hk2,if_neg hk3,if_neg hk4] at hR;exact hR
theorem c10{k:Int}{p q:Option Addr}{l m c d:Nat}{xs ys:List Int}(h1:IS H p l (kints .u8 xs))(h2:IS H q m (kints .u8 ys))(hx:Bys xs)(hy:Bys ys)(hl:l≤100000000)(hlm:l=m)
 (hR: ∀q' m' H',St H H' [.sl q' l m' 5 1 (kints .u8 (filP k xs ys))]→R (.slice q' l m') H'):CallsH Try.prog 10 #[.int .i64 k,.slice p l c,.slice q m d] H R:=by
 have e1:=h1.length
 have e2:=h2.length
 refine Try.s10 ?_
 unfold Try.S10
 intro X hX
 have hfl:(filP k xs ys).length=l:=by rw[filP_len,e1]
 have go: ∀i,i≤l→ ∀H2 q' m',St H H2 [.sl q' i m' 5 1 (kints .u8 ((filP k xs ys).take i))]→X [.slice q' i m',.int .i64 (i:Nat)] H2:=upto fun i hi ih H2 q' m' hs2=>by
  refine hX _ _ _ _ H2 (br_dec (fun hlt=>?_) (fun hge=>?_))
  ·have hlt:i<l:=by omega
   have g0:=get_gD xs 0 (i:=i) (by omega)
   obtain⟨a,hpa,hc⟩:=(h1.ext hs2.ext).cell (kints_get g0)
   have hg:=geP_rng (k:=k) hx hy i
   have hxi:=hx.getD i
   refine⟨a,hpa,by omega,by omega,xs.getD i 0,by rw[Int.toNat_natCast,Nat.mul_one];exact hc,?_⟩
   refine c19 (h1.ext hs2.ext) (h2.ext hs2.ext) hx hy (by omega) (by omega) (by omega) ⟨_,rfl,.inl (Ext.refl _),?_⟩
   have hw:wrap .u8 (wrap .i64 (wrap .i64 (xs.getD i 0)-geP k xs ys i))=(xs.getD i 0-geP k xs ys i)%256:=by
    rw[w8 hxi,wrap_id (by omega) (by omega)];simp[IntKind.wrap,IntKind.bits,IntKind.signed]
   rw[hw]
   refine hs2.alc fun b H3 hs3=>?_
   refine hs3.appC 1 0 (el:=5) (k:=1) (l:=i) rfl rfl rfl (one1 rfl) (by decide) rfl (by omega) (by omega) fun p' c' H4 hs4=>?_
   have hs4:=hs4.tail
   have e5:kints .u8 ((filP k xs ys).take i)++(#[Value.int .u8 ((xs.getD i 0-geP k xs ys i)%256)]:Array Value).toList=kints .u8 ((filP k xs ys).take (i+1)):=by
    rw[filP_take _ _ _ (by omega),kints_append];rfl
   rw[e5] at hs4
   rw[wrap_id (n:=(i:Int)+1) (by omega) (by omega)]
   exact ih hlt H4 p' c' hs4
  ·have:i=l:=by omega
   subst this
   rw[List.take_of_length_le (by omega)] at hs2
   exact hR q' m' H2 hs2
 exact go 0 (by omega) H none 0 ((St.nil H).nilSl 5 1)
theorem c11{k:Int}{p q:Option Addr}{l m c d:Nat}{xs ys:List Int}(h1:IS H p l (kints .u8 xs))(h2:IS H q m (kints .u8 ys))(hx:Bys xs)(hy:Bys ys)(hl:l≤100000000)(hlm:l=m)
 (hR: ∀q' m' H',St H H' [.sl q' l m' 5 1 (kints .u8 (unfP k xs ys))]→R (.slice q' l m') H'):CallsH Try.prog 11 #[.int .i64 k,.slice p l c,.slice q m d] H R:=by
 have e1:=h1.length
 have e2:=h2.length
 refine Try.s11 ?_
 unfold Try.S11
 intro X hX
 have go: ∀i,i≤l→ ∀H2 q' m',St H H2 [.sl q' i m' 5 1 (kints .u8 (unfN k xs ys i))]→X [.slice q' i m',.int .i64 (i:Nat)] H2:=upto fun i hi ih H2 q' m' hs2=>by
  refine hX _ _ _ _ H2 (br_dec (fun hlt=>?_) (fun hge=>?_))
  ·have hlt:i<l:=by omega
   have g0:=get_gD xs 0 (i:=i) (by omega)
   obtain⟨a,hpa,hc⟩:=(h1.ext hs2.ext).cell (kints_get g0)
   have hby:=unfN_bys k xs ys i
   have hg:=geP_rng (k:=k) hby hy i
   have hxi:=hx.getD i
   refine⟨a,hpa,by omega,by omega,xs.getD i 0,by rw[Int.toNat_natCast,Nat.mul_one];exact hc,?_⟩
   refine c19 (hs2.is 0 rfl) (h2.ext hs2.ext) hby hy (by omega) (by omega) (by omega) ⟨_,rfl,.inl (Ext.refl _),?_⟩
   have hw:wrap .u8 (wrap .i64 (wrap .i64 (xs.getD i 0)+geP k (unfN k xs ys i) ys i))=(xs.getD i 0+geP k (unfN k xs ys i) ys i)%256:=by
    rw[w8 hxi,wrap_id (by omega) (by omega)];simp[IntKind.wrap,IntKind.bits,IntKind.signed]
   rw[hw]
   refine hs2.alc fun b H3 hs3=>?_
   refine hs3.appC 1 0 (el:=5) (k:=1) (l:=i) rfl rfl rfl (one1 rfl) (by decide) rfl (by omega) (by omega) fun p' c' H4 hs4=>?_
   have hs4:=hs4.tail
   have e5:kints .u8 (unfN k xs ys i)++(#[Value.int .u8 ((xs.getD i 0+geP k (unfN k xs ys i) ys i)%256)]:Array Value).toList=kints .u8 (unfN k xs ys (i+1)):=by
    rw[unfN,kints_append];rfl
   rw[e5] at hs4
   rw[wrap_id (n:=(i:Int)+1) (by omega) (by omega)]
   exact ih hlt H4 p' c' hs4
  ·have:i=l:=by omega
   subst this
   have:unfN k xs ys i=unfP k xs ys:=by unfold unfP;rw[e1]
   rw[this] at hs2
   exact hR q' m' H2 hs2
 exact go 0 (by omega) H none 0 ((St.nil H).nilSl 5 1)
def costP(l:List Int):Int:=(l.map fun c=>min c (256-c)).sum
theorem costP_snoc(l:List Int)(x:Int):costP (l++[x])=costP l+min x (256-x):=by simp[costP]
theorem costP_rng: ∀l:List Int,Bys l→0≤costP l∧costP l≤256*l.length
 |[],_=>by simp[costP]
 |x::r,h=>by
  have ih:=costP_rng r fun y hy=>h y (List.mem_cons_of_mem _ hy)
  have:=h x (by simp)
  have e:costP (x::r)=min x (256-x)+costP r:=by simp[costP]
  rw[e,List.length_cons]
  omega
theorem c21{p:Option Addr}{l c:Nat}{xs:List Int}(h:IS H p l (kints .u8 xs))(hx:Bys xs)(hl:l≤1000000000)(hR:R (.int .i64 (costP xs)) H):CallsH Try.prog 21 #[.slice p l c] H R:=by
 have e1:=h.length
 refine Try.s21 ?_
 intro X hX
 have go: ∀k,k≤l→X [.int .i64 (costP (xs.take k)),.int .i64 (k:Nat)] H:=upto fun k hk ih=>by
  refine hX _ _ H (br_dec (fun hlt=>?_) (fun hge=>?_))
  ·have hlt:k<l:=by omega
   have hg:=get_gD xs 0 (i:=k) (by omega)
   have hb:=hx.getD k
   obtain⟨r0,r1⟩:=costP_rng (xs.take k) fun y hy=>hx y (List.mem_of_mem_take hy)
   have hlen:(xs.take k).length=k:=by simp;omega
   refine h.rd (by omega) (by omega) (by rw[Int.toNat_natCast];exact hg) ?_
   rw[w8 hb,wrap_id (n:=256-_) (by omega) (by omega),wrap_id (n:=costP _+_) (by omega) (by omega),wrap_id (by omega) (by omega)]
   have:=ih hlt
   rw[List.take_add_one,hg,Option.toList_some,costP_snoc] at this
   exact this
  ·have:k=l:=by omega
   subst this
   rw[List.take_of_length_le (by omega)]
   exact hR
 exact go 0 (by omega)
theorem shr24(s:Int):shrI .i64 s (24:Int)=s/16777216∧shrI .i64 s (16:Int)=s/65536∧shrI .i64 s (8:Int)=s/256:=by
 refine⟨?_,?_,?_⟩
 ·have:=shr_of s (k:=24) (by omega)
  have e:(2:Int)^24=16777216:=by decide
  rw[e] at this;exact this
 ·have:=shr_of s (k:=16) (by omega)
  have e:(2:Int)^16=65536:=by decide
  rw[e] at this;exact this
 ·have:=shr_of s (k:=8) (by omega)
  have e:(2:Int)^8=256:=by decide
  rw[e] at this;exact this
theorem c25{n:Int}(hR: ∀b H',St H H' [.cell b (kints .u8 (big4 n)).toArray 5]→R (.slice (some ⟨b,0,none⟩) 4 4) H'):CallsH Try.prog 25 #[.int .i64 n] H R:=by
 refine Try.s25 ⟨by decide,by decide,by decide,?_⟩
 obtain⟨a,b,c⟩:=shr24 n
 rw[a,b,c,wrap_u8m,wrap_u8m,wrap_u8m,wrap_u8m]
 exact(St.nil H).alc fun b H1 hs=>hR b H1 hs
theorem sh24{v0 v1 v2 v3:Int}(h0:0≤v0∧v0<256)(h1:0≤v1∧v1<256)(h2:0≤v2∧v2<256)(h3:0≤v3∧v3<256):
 orI .i64 (orI .i64 (orI .i64 (shlI .i64 (wrap .i64 v0) (24:Int)) (shlI .i64 (wrap .i64 v1) (16:Int))) (shlI .i64 (wrap .i64 v2) (8:Int))) (wrap .i64 v3)=((v0*256+v1)*256+v2)*256+v3:=by
 have e24:(2:Int)^24=16777216:=by decide
 have e16:(2:Int)^16=65536:=by decide
 have a0:shlI .i64 (wrap .i64 v0) (24:Int)=v0*2^24:=by rw[w8 h0];exact shl_of (k:=24) h0.1 (by omega) (by rw[e24];omega)
 have a1:shlI .i64 (wrap .i64 v1) (16:Int)=v1*65536:=by rw[w8 h1,←e16];exact shl_of (k:=16) h1.1 (by omega) (by rw[e16];omega)
 have a2:shlI .i64 (wrap .i64 v2) (8:Int)=v2*256:=by rw[w8 h2,←p8];exact shl_of (k:=8) h2.1 (by omega) (by rw[p8];omega)
 rw[a0,a1,a2,w8 h3,or_sum' (k:=24) (by omega) (by rw[e24];omega) h0.1 (by rw[e24];omega),e24]
 rw[show v1*65536+v0*16777216=(v0*256+v1)*2^16 from by rw[e16];omega,or_sum' (k:=16) (by omega) (by rw[e16];omega) (by omega) (by rw[e16];omega),e16]
 rw[show v2*256+(v0*256+v1)*65536=((v0*256+v1)*256+v2)*2^8 from by rw[p8];omega,or_sum' (k:=8) (by omega) (by rw[p8];omega) (by omega) (by rw[p8];omega),p8]
 omega
theorem c28{p:Option Addr}{l c:Nat}{xs:List Int}(h:IS H p l (kints .u8 xs))(hx:Bys xs)(hl:4≤l)(hR:R (.int .i64 (num4 xs)) H):CallsH Try.prog 28 #[.slice p l c] H R:=by
 have e1:=h.length
 refine Try.s28 ?_
 unfold Try.S28
 refine h.rd (i:=0) (by omega) (by omega) (get_gD xs 0 (i:=0) (by omega)) ⟨by decide,?_⟩
 refine h.rd (i:=1) (by omega) (by omega) (get_gD xs 0 (i:=1) (by omega)) ⟨by decide,?_⟩
 refine h.rd (i:=2) (by omega) (by omega) (get_gD xs 0 (i:=2) (by omega)) ⟨by decide,?_⟩
 refine h.rd (i:=3) (by omega) (by omega) (get_gD xs 0 (i:=3) (by omega)) ?_
 rw[sh24 (hx.getD 0) (hx.getD 1) (hx.getD 2) (hx.getD 3)]
 exact hR
def SzP(w h:Int):Prop:=1≤w∧1≤h∧w≤32768∧h≤32768∧w*h≤4194304
instance(w h:Int):Decidable (SzP w h):=by unfold SzP;exact inferInstance
theorem mulSz{w h:Int}(h1:1≤w)(h2:1≤h)(h3:w≤32768)(h4:h≤32768):1≤w*h∧w*h≤1073741824:=by
 have a:=Int.mul_le_mul h3 h4 (by omega) (by omega)
 have b:=Int.mul_le_mul h1 h2 (by omega) (by omega)
 omega
theorem c20{w h:Int}(hR:R (.bool (decide (SzP w h))) H):CallsH Try.prog 20 #[.int .i64 w,.int .i64 h] H R:=by
 have no: ¬SzP w h→R (.bool false) H:=fun hn=>by rw[decide_eq_false hn] at hR;exact hR
 refine Try.s20 (br_dec (fun h1=>br_dec (fun h2=>br_dec (fun h3=>br_dec (fun h4=>?_) (fun h4=>no fun hs=>h4 hs.2.2.2.1)) (fun h3=>no fun hs=>h3 hs.2.2.1)) (fun h2=>no fun hs=>h2 hs.2.1)) (fun h1=>no fun hs=>h1 hs.1))
 have:=mulSz h1 h2 h3 h4
 rw[wrap_id (by omega) (by omega)]
 have e:decide (w*h≤4194304)=decide (SzP w h):=by unfold SzP;congr 1;apply propext;constructor<;>intro hh<;>omega
 rw[e];exact hR
end Go.Proofs
namespace Go.Sh
variable {H0 H:Heap} {σ:List Rs}
def sB(s:ByteArray):List Int:=s.data.toList.map fun b=>(b.toNat:Int)
theorem sB_len(s:ByteArray):(sB s).length=s.size:=by simp[sB]
theorem bytesL_eq(s:ByteArray):bytesL s=kints .u8 (sB s):=by simp[bytesL,sB,kints]
theorem sB_bys(s:ByteArray): ∀x∈sB s,0≤x∧x<256:=fun x hx=>by
 obtain⟨b,_,rfl⟩:=List.mem_map.1 hx
 have:=b.toNat_lt
 omega
theorem St.str(hs:St H0 H σ){s:ByteArray}{el:TypeId}{K:Option Addr→Nat→Nat→Heap→Prop}
 (hK: ∀p c H',Ext H H'→s.size≤c→St H0 H' (.pers (fun H=>IS H p s.size (kints .u8 (sB s)))::σ)→K p s.size c H'):strQ s el H K:=by
 intro c cs hc hcs hv
 have he:Ext H (H.push (.cells cs el (c,c+1))):=Ext.push _ _
 refine hK _ c _ he hc (hs.new (fp:=[H.size]) he ⟨fun b hb=>?_,fun H'' hk=>?_⟩ (by simp) (fun b hb=>by rw[List.mem_singleton.1 hb];exact Nat.le_refl _))
 ·rw[List.mem_singleton.1 hb];simp
 ·have:=hk H.size (by simp) _ (get_push_self _ _)
  rw[←bytesL_eq]
  refine⟨by rw[bytesL_eq,kints_len,sB_len],fun i v hi=>⟨_,rfl,?_⟩⟩
  rw[show Addr.add ⟨H.size,0,none⟩ i=⟨H.size,i,none⟩ from by rw[add_none,Nat.zero_add]]
  exact cell_get this (hv i v hi)
theorem St.alcM(hs:St H0 H σ){cs:Array Value}{ty:TypeId}{K:Nat→Heap→Prop}(hK: ∀b H',Ext H H'→St H0 H' (.pers (fun H=>IS H (some ⟨b,0,none⟩) cs.size cs.toList)::σ)→K b H'):
 Sh.alc H (.cells cs ty) fun b H1=>Array.size H≤b∧frz H1 b fun H2=>K b H2:=by
 refine⟨Nat.le_refl _,cs,ty,get_push_self _ _,?_⟩
 have e:(H.push (Obj.cells cs ty)).setIfInBounds H.size (.cells cs ty (cs.size,cs.size+1))=H.push (.cells cs ty (cs.size,cs.size+1)):=by
  refine Array.ext_getElem? fun i=>?_
  simp only[Array.getElem?_setIfInBounds,Array.getElem?_push]
  by_cases hi:H.size=i
  ·subst hi;simp
  ·have: ¬i=H.size:=fun h=>hi h.symm
   simp[hi,this]
 rw[e]
 have he:Ext H (H.push (.cells cs ty (cs.size,cs.size+1))):=Ext.push _ _
 refine hK _ _ he (hs.new (fp:=[H.size]) he ⟨fun b hb=>?_,fun H'' hk=>?_⟩ (by simp) (fun b hb=>by rw[List.mem_singleton.1 hb];exact Nat.le_refl _))
 ·rw[List.mem_singleton.1 hb];simp
 ·have:=hk H.size (by simp) _ (get_push_self _ _)
  refine⟨by simp,fun i v hi=>⟨_,rfl,?_⟩⟩
  rw[show Addr.add ⟨H.size,0,none⟩ i=⟨H.size,i,none⟩ from by rw[add_none,Nat.zero_add]]
  exact cell_get this (by simpa using hi)
end Go.Sh
namespace Go.Proofs
open Go.Sh
open Go.IntKind (wrap)
variable {H:Heap} {R:Value→Heap→Prop}
theorem ofInt32{a:Nat}(h:a<4294967296):(BitVec.ofInt 32 (a:Int)).toNat=a:=by
 rw[BitVec.toNat_ofInt];omega
theorem xor_lt32{a b:Nat}(ha:a<4294967296)(hb:b<4294967296):a ^^^ b<4294967296:=Nat.xor_lt_two_pow (n:=32) ha hb
theorem xor32{a b:Nat}(ha:a<4294967296)(hb:b<4294967296):xorI .u32 (a:Int) (b:Int)=((a ^^^ b:Nat):Int):=by
 unfold xorI
 have:=xor_lt32 ha hb
 rw[show IntKind.bits .u32=32 from rfl,BitVec.toNat_xor,ofInt32 ha,ofInt32 hb,wrap_u32 (by omega) (by omega)]
def crcB(c:Nat):Nat:=if c%2=1 then c/2 ^^^ 3988292384 else c/2
def crcI:Nat→Nat→Nat
 |0,c=>c
 |n+1,c=>crcI n (crcB c)
def crcF(c:Nat)(l:List Int):Nat:=l.foldl (fun c x=>crcI 8 (c ^^^ x.toNat)) c
def crcS(l:List Int):Nat:=crcF 4294967295 l ^^^ 4294967295
theorem crcB_lt{c:Nat}(h:c<4294967296):crcB c<4294967296:=by
 unfold crcB;split
 ·exact xor_lt32 (by omega) (by omega)
 ·omega
theorem crcI_lt: ∀(n:Nat) {c:Nat},c<4294967296→crcI n c<4294967296
 |0,_,h=>h
 |n+1,_,h=>crcI_lt n (crcB_lt h)
theorem crcI_snoc: ∀(n c:Nat),crcI (n+1) c=crcB (crcI n c)
 |0,c=>rfl
 |n+1,c=>crcI_snoc n (crcB c)
theorem crcX_lt{c:Nat}{x:Int}(h:c<4294967296)(hx:0≤x∧x<256):crcI 8 (c ^^^ x.toNat)<4294967296:=crcI_lt 8 (xor_lt32 h (by omega))
theorem crcF_lt: ∀(l:List Int) {c:Nat},c<4294967296→Bys l→crcF c l<4294967296
 |[],_,h,_=>h
 |x::l,_,h,hl=>crcF_lt l (crcX_lt h (hl x (by simp))) fun y hy=>hl y (List.mem_cons_of_mem _ hy)
theorem crcF_snoc(c:Nat)(l:List Int)(x:Int):crcF c (l++[x])=crcI 8 (crcF c l ^^^ x.toNat):=by simp[crcF]
theorem crcF_app(c:Nat)(l m:List Int):crcF c (l++m)=crcF (crcF c l) m:=by simp[crcF]
theorem crcS_lt{l:List Int}(h:Bys l):crcS l<4294967296:=xor_lt32 (crcF_lt l (by omega) h) (by omega)
theorem div2_32(c:Nat):shrI .u32 (c:Int) (1:Int)=((c/2:Nat):Int):=by
 unfold shrI
 rw[show min (1:Int).toNat (IntKind.bits .u32)=1 from by decide,Int.fdiv_eq_ediv_of_nonneg _ (by decide)]
 omega
theorem and1_32{c:Nat}(h:c<4294967296):andI .u32 (c:Int) (1:Int)=((c%2:Nat):Int):=by
 unfold andI
 rw[show IntKind.bits .u32=32 from rfl,BitVec.toNat_and,ofInt32 h,show(BitVec.ofInt 32 1).toNat=1 from rfl,Nat.and_one_is_mod,wrap_u32 (by omega) (by omega)]
theorem stepP{c:Nat}(h:c<4294967296):xorI .u32 (shrI .u32 (c:Int) (1:Int)) (andI .u32 (3988292384:Int) (wrap .u32 (0-andI .u32 (c:Int) (1:Int))))=(crcB c:Int):=by
 rw[div2_32,and1_32 h]
 unfold crcB
 rcases Nat.mod_two_eq_zero_or_one c with h0|h1
 ·rw[h0,if_neg (by decide),show andI .u32 (3988292384:Int) (wrap .u32 (0-((0:Nat):Int)))=((0:Nat):Int) from by decide,xor32 (by omega) (by omega),Nat.xor_zero]
 ·rw[h1,if_pos rfl,show andI .u32 (3988292384:Int) (wrap .u32 (0-((1:Nat):Int)))=((3988292384:Nat):Int) from by decide,xor32 (by omega) (by omega)]
theorem c53{p:Option Addr}{l c:Nat}{xs:List Int}{s:Nat}(h:IS H p l (kints .u8 xs))(hx:Bys xs)(hl:l≤1000000000000)(hs:s<4294967296)(hR:R (.int .i64 (crcF (s ^^^ 4294967295) xs ^^^ 4294967295:Nat)) H):
 CallsH Try.prog 53 #[.int .i64 (s:Int),.slice p l c] H R:=by
 have e1:=h.length
 refine Try.s53 ?_
 intro X hX
 have w32: ∀{a:Nat},a<4294967296→wrap .u32 (a:Int)=a:=fun ha=>wrap_u32 (by omega) (by omega)
 rw[w32 hs]
 have h0:xorI .u32 (s:Int) (4294967295:Int)=((s ^^^ 4294967295:Nat):Int):=xor32 (b:=4294967295) hs (by decide)
 rw[h0]
 have h0l:s ^^^ 4294967295<4294967296:=xor_lt32 hs (by omega)
 generalize s ^^^ 4294967295=c0 at*
 have go: ∀k,k≤l→X [.int .u32 (crcF c0 (xs.take k):Nat),.int .i64 (k:Nat)] H:=upto fun k hk ih=>by
  have hlt0:=crcF_lt (xs.take k) h0l fun y hy=>hx y (List.mem_of_mem_take hy)
  refine hX _ _ H (br_dec (fun hlt=>?_) (fun hge=>?_))
  ·have hlt:k<l:=by omega
   have hg:=get_gD xs 0 (i:=k) (by omega)
   have hb:=hx.getD k
   refine h.rd (by omega) (by omega) (by rw[Int.toNat_natCast];exact hg) ?_
   intro Y hY
   obtain⟨v,hv⟩: ∃v:Nat,xs.getD k 0=v:=⟨(xs.getD k 0).toNat,by omega⟩
   have hv':v<256:=by omega
   rw[hv] at hg ⊢
   rw[w32 (by omega),xor32 hlt0 (by omega)]
   have hc1:=xor_lt32 hlt0 (show v<4294967296 by omega)
   have inner: ∀j,j≤8→Y [.int .u32 (crcI j (crcF c0 (xs.take k) ^^^ v):Nat),.int .i64 (j:Nat)] H:=upto fun j hj ihj=>by
    refine hY _ _ H (br_dec (fun hlt=>?_) (fun hge=>?_))
    ·rw[stepP (crcI_lt j hc1),wrap_id (by omega) (by omega),←crcI_snoc]
     exact⟨by decide,ihj (by omega)⟩
    ·have:j=8:=by omega
     subst this
     have:=ih hlt
     rw[List.take_add_one,hg,Option.toList_some,crcF_snoc,Int.toNat_natCast] at this
     rw[wrap_id (by omega) (by omega)]
     exact this
   exact inner 0 (by omega)
  ·have:k=l:=by omega
   subst this
   rw[List.take_of_length_le (by omega)] at hlt0 ⊢
   have e:xorI .u32 ((crcF c0 xs:Nat):Int) (4294967295:Int)=((crcF c0 xs ^^^ 4294967295:Nat):Int):=xor32 (b:=4294967295) hlt0 (by decide)
   have:=xor_lt32 hlt0 (show 4294967295<4294967296 by omega)
   rw[e,wrap_id (by omega) (by omega)]
   exact hR
 exact go 0 (by omega)
theorem xor_twice{a:Nat}(b:Nat):a ^^^ b ^^^ b=a:=by rw[Nat.xor_assoc,Nat.xor_self,Nat.xor_zero]
theorem c36{b:Nat}{ty:TypeId}{p q:Option Addr}{l c m d:Nat}{xs ys:List Int}(hb:H[b]?=some (.cells #[.slice p l c,.slice q m d] ty))(h1:IS H p l (kints .u8 xs))(h2:IS H q m (kints .u8 ys))(hx:Bys xs)(hy:Bys ys)(hl:l≤1000000000000)(hm:m≤1000000000000)
 (hR:R (.int .i64 (crcS (xs++ys):Nat)) H):CallsH Try.prog 36 #[.slice (some ⟨b,0,none⟩) 2 2] H R:=by
 refine Try.s36 ?_
 intro X hX
 have hxl:=crcF_lt xs (show 4294967295<4294967296 by omega) hx
 have hs:=xor_lt32 hxl (show 4294967295<4294967296 by omega)
 refine hX _ _ H (br_y (by decide) ⟨_,rfl,by decide,by decide,p,l,c,cell_get hb rfl,c53 (s:=0) h1 hx hl (by omega) ⟨_,rfl,?_⟩⟩)
 rw[show(0:Nat) ^^^ 4294967295=4294967295 from rfl,show IntKind.wrap .i64 ((0:Int)+1)=1 from by decide]
 refine hX _ _ H (br_y (by decide) ⟨_,rfl,by decide,by decide,q,m,d,cell_get hb rfl,c53 h2 hy hm hs ⟨_,rfl,?_⟩⟩)
 rw[xor_twice,show IntKind.wrap .i64 ((1:Int)+1)=2 from by decide]
 refine hX _ _ H (br_n (by decide) ?_)
 rw[←crcF_app]
 exact hR
def chuP(kind data:List Int):List Int:=big4 data.length++kind++data++big4 (crcS (kind++data))
theorem big4_bys(n:Int):Bys (big4 n):=fun x hx=>by
 unfold big4 at hx
 simp only[List.mem_cons,List.not_mem_nil,or_false] at hx
 rcases hx with rfl|rfl|rfl|rfl<;>omega
theorem chuP_len(kind data:List Int):(chuP kind data).length=kind.length+data.length+8:=by simp[chuP,big4];omega
theorem chuP_bys{kind data:List Int}(h1:Bys kind)(h2:Bys data):Bys (chuP kind data):=fun x hx=>by
 unfold chuP at hx
 simp only[List.mem_append] at hx
 rcases hx with ((h|h)|h)|h
 ·exact big4_bys _ x h
 ·exact h1 x h
 ·exact h2 x h
 ·exact big4_bys _ x h
theorem c24{s:ByteArray}{p:Option Addr}{l c:Nat}{xs:List Int}(h:IS H p l (kints .u8 xs))(hx:Bys xs)(hl:l≤100000000)(hsz:s.size≤100)
 (hR: ∀q m H',St H H' [.sl q (chuP (sB s) xs).length m 5 1 (kints .u8 (chuP (sB s) xs))]→R (.slice q (chuP (sB s) xs).length m) H'):CallsH Try.prog 24 #[.string s,.slice p l c] H R:=by
 have e1:=h.length
 refine Try.s24 ?_
 unfold Try.S24
 refine c25 fun b1 H1 hs1=>⟨_,_,_,rfl,?_⟩
 refine hs1.str fun p2 c2 H2 x2 hc2 hs2=>?_
 refine hs2.str fun p3 c3 H3 x3 hc3 hs3=>?_
 refine hs3.alc fun b4 H4 hs4=>?_
 have hi4:=h.ext hs4.ext
 have hk3:IS H4 p3 s.size (kints .u8 (sB s)):=hs4.persGet 1 rfl
 refine c36 (hs4.block 0 rfl) hk3 hi4 (sB_bys s) hx (by omega) (by omega) ⟨_,rfl,?_⟩
 refine c25 fun b5 H5 hs5=>⟨_,_,_,rfl,?_⟩
 have hs5:=hs4.call hs5
 refine hs5.alc fun b6 H6 hs6=>?_
 have hk2:IS H6 p2 s.size (kints .u8 (sB s)):=hs6.persGet 4 rfl
 have hpb:PB H6 (some ⟨b6,0,none⟩) 4 [big4 (l:Int),sB s,xs,big4 (crcS (sB s++xs))]:=pb_blk (vs:=[(some ⟨b1,0,none⟩,4,4),(p2,s.size,c2),(p,l,c),(some ⟨b5,0,none⟩,4,4)]) (hs6.block 0 rfl)
  ⟨IS.of_block (hs6.block 5 rfl) rfl,hk2,h.ext hs6.ext,IS.of_block (hs6.block 1 rfl) rfl,trivial⟩
 have hfl:([big4 (l:Int),sB s,xs,big4 (crcS (sB s++xs))]:List (List Int)).flatten=chuP (sB s) xs:=by simp[chuP,e1]
 have hln:=chuP_len (sB s) xs
 have:=sB_len s
 refine c23 hpb (by omega) (by rw[hfl];omega) fun r c' H7 hs7=>⟨_,_,_,rfl,?_⟩
 rw[hfl] at hs7 ⊢
 exact hR r c' H7 ⟨hs6.ext.trans hs7.ext,by
  obtain⟨_,fps,h1,h2,h3⟩:=hs7
  exact⟨fps,h1,h2,fun x hx=>Nat.le_trans hs6.ext.size (h3 x hx)⟩⟩
end Go.Proofs
namespace Go.Sh
variable {H0 H:Heap} {σ:List Rs}
def Rs.obj(b:Nat)(o:Obj):Rs where
 at_ H fp:=fp=[b]∧H[b]?=some o
 loc h hk:=⟨h.1,hk _ (by rw[h.1];exact List.mem_singleton.2 rfl) _ h.2⟩
 has h b hb:=by rw[h.1,List.mem_singleton] at hb;subst hb;exact lt_of_get h.2
theorem St.getO(hs:St H0 H σ)(i:Nat){b:Nat}{o:Obj}(hi:σ[i]?=some (.obj b o)):H[b]?=some o:=by
 obtain⟨_,fps,hl,_⟩:=hs
 obtain⟨fp,_,h⟩:=hl.get hi
 exact h.2
theorem St.alcO(hs:St H0 H σ){o:Obj}{K:Nat→Heap→Prop}(hK: ∀b H',Ext H H'→St H0 H' (.obj b o::σ)→K b H'):Sh.alc H o K:=
 hK _ _ (Ext.push _ _) (hs.new (fp:=[H.size]) (Ext.push _ _) ⟨rfl,get_push_self _ _⟩ (by simp) (fun b hb=>by rw[List.mem_singleton.1 hb];exact Nat.le_refl _))
theorem St.stoO(hs:St H0 H σ)(i:Nat){b:Nat}{o o':Obj}(hi:σ[i]?=some (.obj b o)){K:Heap→Prop}(hK: ∀H',St H0 H' (σ.set i (.obj b o'))→K H'):Sh.sto H b o' K:=
 hK _ (hs.upd hi fun fp h1 h2 h3=>⟨fp,⟨h1.1,get_set_self h1.2⟩,h2,fun b hb=> .inl hb,fun c o hc hn=>get_set_ne (fun he=>hn (by rw[h1.1,←he];exact List.mem_singleton.2 rfl)) hc⟩)
end Go.Sh
namespace Go.Proofs
open Go.Sh
open Go.IntKind (wrap)
variable {H:Heap} {R:Value→Heap→Prop}
theorem c26{p:Option Addr}{l c:Nat}{n:Int}(hn:1≤n)
 (hR: ∀a b H',St H H' [.cell b #[.int .i64 n] 3,.cell a #[.slice p l c] 22]→R (.func (.func 37) #[] #[.pointer (some ⟨a,0,none⟩),.pointer (some ⟨b,0,none⟩)]) H'):
 CallsH Try.prog 26 #[.slice p l c,.int .i64 n] H R:=by
 refine Try.s26 ?_
 unfold Try.S26
 refine(St.nil H).alc fun a H1 hs1=>hs1.alc fun b H2 hs2=>⟨n,cell_get (hs2.block 0 rfl) rfl,br_n (by omega) (hR a b H2 hs2)⟩
theorem c37{L:Nat}{a b:Addr}{p:Option Addr}{l c n:Nat}(hn:1≤n)(hn2:n≤9223372036854775807)(hl:l≤1000000000)(hlc:l≤c){I:Nat→Heap→Prop}{J:Heap→Prop}
 (h0:I 0 H)(hI: ∀i H',I i H'→cell H' a=some (.slice p l c)∧cell H' b=some (.int .i64 (n:Nat)))
 (hst: ∀i H',i*n<l→I i H'→YieldH Try.prog L #[.slice (Option.map (fun x=>Addr.add x (i*n)) p) (min n (l-i*n)) (min n (l-i*n))] H' fun v H''=> ∃t,v= .bool t∧(t=true→I (i+1) H'')∧(t=false→J H''))
 (hend: ∀i H',l≤i*n→(i=0∨(i-1)*n<l)→I i H'→R (.tuple #[]) H')(hJ: ∀H',J H'→R (.tuple #[]) H'):
 CallsH Try.prog 37 #[.func (.yield L) #[] #[],.pointer (some a),.pointer (some b)] H R:=by
 refine Try.s37 ?_
 unfold Try.S37
 intro X hX
 have go: ∀m i H',l-i*n≤m→(i=0∨(i-1)*n<l)→I i H'→X [.int .i64 (i*n:Nat)] H':=by
  intro m
  induction m with
  |zero=>
   intro i H' hm hi h
   obtain⟨ha,hb⟩:=hI i H' h
   exact hX _ H' ⟨p,l,c,ha,br_n (by omega) (hend i H' (by omega) hi h)⟩
  |succ m ih=>
   intro i H' hm hi h
   obtain⟨ha,hb⟩:=hI i H' h
   refine hX _ H' ⟨p,l,c,ha,br_dec (fun hlt=>?_) (fun hge=>hend i H' (by omega) hi h)⟩
   have hlt:i*n<l:=by omega
   have hsum:wrap .i64 (((i*n:Nat):Int)+min ((n:Nat):Int) (((l-Int.toNat ((i*n:Nat):Int):Nat)):Int))=((i*n+min n (l-i*n):Nat):Int):=by
    rw[Int.toNat_natCast,wrap_id (by omega) (by omega)];omega
   have hst:=hst i H' hlt h
   refine⟨n,hb,p,l,c,ha,by omega,by omega,p,l,c,ha,?_⟩
   rw[hsum]
   refine⟨by omega,by omega,by omega,by omega,by omega,by omega,?_⟩
   have hk:0<min n (l-i*n):=by omega
   rw[Int.toNat_natCast,Int.toNat_natCast,if_neg (by omega),Nat.add_sub_cancel_left,Nat.mul_one]
   refine hst.mono fun v H'' ⟨t,hv,h1,h2⟩=>⟨t,hv,br_not (fun ht=>hJ H'' (h2 ht)) (fun ht=>?_)⟩
   have h1:=h1 ht
   obtain⟨ha',hb'⟩:=hI _ _ h1
   refine⟨n,hb',?_⟩
   have hb2:i*n+n≤9223372036854775807:=by
    rcases Nat.eq_zero_or_pos i with h0|h0
    ·subst h0;omega
    ·have:=Nat.mul_le_mul_right n h0;omega
   have e:wrap .i64 (((i*n:Nat):Int)+(n:Nat))=(((i+1)*n:Nat):Int):=by
    rw[wrap_id (by omega) (by omega),Nat.add_mul,Nat.one_mul];omega
   rw[e]
   exact ih (i+1) H'' (by rw[Nat.add_mul,Nat.one_mul];omega) (.inr (by rw[Nat.add_sub_cancel];exact hlt)) h1
 have:=go l 0 H (by omega) (.inl rfl) h0
 rw[Nat.zero_mul] at this
 exact this
end Go.Proofs
namespace Go.Proofs
open Go.Sh
open Go.IntKind (wrap)
variable {H:Heap} {R:Value→Heap→Prop}
def markP:List Int:=[137,80,78,71,13,10,26,10]
def kHDR:List Int:=[73,72,68,82]
def kDAT:List Int:=[73,68,65,84]
def kEND:List Int:=[73,69,78,68]
theorem sHDR:sB (ByteArray.mk #[73,72,68,82])=kHDR:=rfl
theorem sDAT:sB (ByteArray.mk #[73,68,65,84])=kDAT:=rfl
theorem sEND:sB (ByteArray.mk #[73,69,78,68])=kEND:=rfl
def linP(w4:Nat)(rgba:List Int)(y:Nat):List Int:=(rgba.drop (w4*y)).take w4
def aboP(w4:Nat)(rgba:List Int):Nat→List Int
 |0=>List.replicate w4 0
 |y+1=>linP w4 rgba y
def bstP(line above:List Int):Nat→Int×List Int
 |0=>(0,filP 0 line above)
 |k+1=>if costP (filP (k+1:Nat) line above)<costP (bstP line above k).2 then((k+1:Nat),filP (k+1:Nat) line above) else bstP line above k
def lnsP(w4:Nat)(rgba:List Int):Nat→List Int
 |0=>[]
 |y+1=>lnsP w4 rgba y++[(bstP (linP w4 rgba y) (aboP w4 rgba y) 4).1]++(bstP (linP w4 rgba y) (aboP w4 rgba y) 4).2
def cutP(n:Nat)(z:List Int)(i:Nat):List Int:=(z.drop (i*n)).take n
def bodP(n:Nat)(z:List Int):Nat→List Int
 |0=>[]
 |i+1=>bodP n z i++chuP kDAT (cutP n z i)
def hdrP(w h:Int):List Int:=big4 w++big4 h++[8,6,0,0,0]
def encP(w h:Int)(z:List Int)(n m:Nat):List Int:=markP++chuP kHDR (hdrP w h)++bodP n z m++chuP kEND []
theorem bstP_of(line above:List Int): ∀k,∃j:Nat,j≤k∧bstP line above k=((j:Int),filP j line above)
 |0=>⟨0,Nat.le_refl _,rfl⟩
 |k+1=>by
  unfold bstP
  split
  ·exact⟨k+1,Nat.le_refl _,rfl⟩
  ·obtain⟨j,h1,h2⟩:=bstP_of line above k
   exact⟨j,by omega,h2⟩
theorem linP_bys{w4:Nat}{rgba:List Int}(h:Bys rgba)(y:Nat):Bys (linP w4 rgba y):=fun x hx=>h x (List.mem_of_mem_drop (List.mem_of_mem_take hx))
theorem aboP_bys{w4:Nat}{rgba:List Int}(h:Bys rgba): ∀y,Bys (aboP w4 rgba y)
 |0=>fun x hx=>by rw[(List.mem_replicate.1 hx).2];exact⟨by decide,by decide⟩
 |y+1=>linP_bys h y
theorem linP_len{w4 h:Nat}{rgba:List Int}(hl:rgba.length=w4*h){y:Nat}(hy:y<h):(linP w4 rgba y).length=w4:=by
 unfold linP
 have:w4*(y+1)≤w4*h:=Nat.mul_le_mul_left _ hy
 rw[Nat.mul_add,Nat.mul_one] at this
 simp;omega
theorem bstP_bys(line above:List Int)(k:Nat):Bys (bstP line above k).2:=by
 obtain⟨j,_,h⟩:=bstP_of line above k
 rw[h];exact filP_bys _ _ _
theorem bstP_len(line above:List Int)(k:Nat):(bstP line above k).2.length=line.length:=by
 obtain⟨j,_,h⟩:=bstP_of line above k
 rw[h];exact filP_len _ _ _
theorem bstP_fst(line above:List Int)(k:Nat):0≤(bstP line above k).1∧(bstP line above k).1≤k:=by
 obtain⟨j,h1,h⟩:=bstP_of line above k
 rw[h];simp;omega
theorem lnsP_bys{w4:Nat}{rgba:List Int}: ∀y,Bys (lnsP w4 rgba y)
 |0=>fun x hx=>by cases hx
 |y+1=>fun x hx=>by
  unfold lnsP at hx
  rcases List.mem_append.1 hx with hx|hx
  ·rcases List.mem_append.1 hx with hx|hx
   ·exact lnsP_bys y x hx
   ·have:=bstP_fst (linP w4 rgba y) (aboP w4 rgba y) 4
    rw[List.mem_singleton.1 hx];omega
  ·exact bstP_bys _ _ _ x hx
theorem lnsP_len{w4 h:Nat}{rgba:List Int}(hl:rgba.length=w4*h): ∀{y:Nat},y≤h→(lnsP w4 rgba y).length=y*(w4+1)
 |0,_=>by simp[lnsP]
 |y+1,hy=>by
  unfold lnsP
  rw[List.length_append,List.length_append,lnsP_len hl (y:=y) (by omega),bstP_len,linP_len hl (by omega),Nat.add_mul]
  simp;omega
theorem bodP_bys{n:Nat}{z:List Int}(hz:Bys z): ∀m,Bys (bodP n z m)
 |0=>fun x hx=>by cases hx
 |m+1=>fun x hx=>by
  rcases List.mem_append.1 hx with hx|hx
  ·exact bodP_bys hz m x hx
  ·exact chuP_bys (by unfold kDAT Bys;decide) (fun y hy=>hz y (List.mem_of_mem_drop (List.mem_of_mem_take hy))) x hx
theorem bodP_exact{n:Nat}{z:List Int}: ∀{m:Nat},m*n≤z.length→(bodP n z m).length=m*n+12*m
 |0,_=>by simp[bodP]
 |m+1,h=>by
  rw[Nat.add_mul,Nat.one_mul] at h
  have ih:=bodP_exact (n:=n) (z:=z) (m:=m) (by omega)
  rw[bodP,List.length_append,chuP_len,ih,show kDAT.length=4 from rfl,Nat.add_mul,Nat.one_mul]
  have:(cutP n z m).length=n:=by unfold cutP;simp;omega
  omega
theorem bodP_total{n:Nat}{z:List Int}{m:Nat}(hm:m=0∨(m-1)*n<z.length):(bodP n z m).length≤z.length+12*m:=by
 rcases hm with h|h
 ·subst h;simp[bodP]
 ·cases m with
  |zero=>simp[bodP]
  |succ m=>
   rw[Nat.add_sub_cancel] at h
   have e:=bodP_exact (n:=n) (z:=z) (m:=m) (by omega)
   rw[bodP,List.length_append,chuP_len,e,show kDAT.length=4 from rfl]
   have:(cutP n z m).length≤z.length-m*n:=by unfold cutP;simp;omega
   omega
theorem m_le{n z m:Nat}(hn:1≤n)(hm:m=0∨(m-1)*n<z):m≤z:=by
 rcases hm with h|h
 ·omega
 ·have:=Nat.le_mul_of_pos_right (m-1) hn;omega
theorem IS.cap{H:Heap}{p:Option Addr}{n:Nat}{fs:List Value}(h:IS H p n fs){m:Nat}(hm:m=n):IS H p m fs:=hm▸h
end Go.Proofs
namespace Go.Sh
variable {H0 H:Heap} {σ:List Rs}
theorem IS.cut{p:Option Addr}{l c:Nat}{B:List Int}(h:IS H p l (kints .u8 B))(hlc:l≤c){i j:Nat}(hij:i≤j)(hj:j≤l):
 IS H (if c=i then p else Option.map (fun x=>Addr.add x (i*1)) p) (j-i) (kints .u8 ((B.drop i).take (j-i))):=by
 have hl:=h.length
 rcases Nat.eq_or_lt_of_le hij with he|hlt
 ·subst he
  rw[Nat.sub_self,List.take_zero]
  exact⟨rfl,fun k v hv=>by simp[kints] at hv⟩
 ·rw[if_neg (by omega),Nat.mul_one]
  cases p with
  |none=>
   obtain⟨a,ha,_⟩:=h.cell (kints_get (getD_some B 0 (i:=0) (by omega)))
   cases ha
  |some a=>
   have:=h.part (i:=i) (n:=j-i) (by omega)
   simpa[kints,List.map_drop,List.map_take] using this
end Go.Sh
namespace Go.Proofs
open Go.Sh
open Go.IntKind (wrap)
variable {H0 H:Heap} {σ:List Rs} {R:Value→Heap→Prop}
theorem tx_eq(xs:List Int):textOf xs=⟨(xs.map fun n=>UInt8.ofNat n.toNat).toArray⟩:=by
 have: ∀(xs:List Int) (r:ByteArray),xs.foldl (fun r n=>r.push (UInt8.ofNat n.toNat)) r=⟨r.data++(xs.map fun n=>UInt8.ofNat n.toNat).toArray⟩:=by
  intro xs
  induction xs with
  |nil=>intro r;cases r;simp
  |cons x xs ih=>
   intro r
   rw[List.foldl_cons,ih]
   cases r
   simp[ByteArray.push]
 unfold textOf
 rw[this]
 simp[ByteArray.empty,ByteArray.emptyWithCapacity]
 rfl
theorem tx_beq{xs ys:List Int}(hx: ∀c∈xs,0≤c∧c<256)(hy: ∀c∈ys,0≤c∧c<256):(textOf xs==textOf ys)=decide (xs=ys):=by
 have hbq: ∀a b:ByteArray,(a==b)=(a.data==b.data):=fun a b=>by cases a;cases b;rfl
 rw[hbq,tx_eq,tx_eq]
 by_cases h:xs=ys
 ·subst h
  rw[decide_eq_true rfl]
  exact(beq_self_eq_true _)
 ·rw[decide_eq_false h]
  rw[Bool.eq_false_iff]
  intro hb
  have h2:(xs.map fun n=>UInt8.ofNat n.toNat)=ys.map fun n=>UInt8.ofNat n.toNat:=by
   have:=eq_of_beq hb
   simpa using this
  refine h ?_
  have: ∀(a b:List Int),(∀c∈a,0≤c∧c<256)→(∀c∈b,0≤c∧c<256)→(a.map fun n=>UInt8.ofNat n.toNat)=(b.map fun n=>UInt8.ofNat n.toNat)→a=b:=by
   intro a
   induction a with
   |nil=>intro b _ _ hh;cases b with
    |nil=>rfl
    |cons=>simp at hh
   |cons x a ih=>
    intro b ha hb hh
    cases b with
    |nil=>simp at hh
    |cons y b=>
     simp only[List.map_cons,List.cons.injEq] at hh
     obtain⟨q1,q2⟩:=hh
     have e1:=ih b (fun c hc=>ha c (List.mem_cons_of_mem _ hc)) (fun c hc=>hb c (List.mem_cons_of_mem _ hc)) q2
     have hx1:=ha x List.mem_cons_self
     have hy1:=hb y List.mem_cons_self
     have q3:=congrArg UInt8.toNat q1
     rw[UInt8.toNat_ofNat',UInt8.toNat_ofNat',Nat.mod_eq_of_lt (by omega),Nat.mod_eq_of_lt (by omega)] at q3
     rw[e1,show x=y from by omega]
  exact this xs ys hx hy h2
theorem tx_sB{k:List Int}(h:Bys k):sB (textOf k)=k:=by
 rw[tx_eq]
 unfold sB
 simp only[List.map_map]
 have: ∀l:List Int,Bys l→l.map ((fun b:UInt8=>(b.toNat:Int))∘fun n:Int=>UInt8.ofNat n.toNat)=l:=by
  intro l
  induction l with
  |nil=>intro _;rfl
  |cons x r ih=>
   intro hl
   have hx:=hl x (by simp)
   rw[List.map_cons,ih fun y hy=>hl y (List.mem_cons_of_mem _ hy)]
   congr 1
   simp only[Function.comp,UInt8.toNat_ofNat']
   omega
 simpa using this k h
theorem tx_size(k:List Int):(textOf k).size=k.length:=by
 rw[tx_eq];show((k.map _).toArray).size=_;simp
def letP(x:Int):Prop:=(97≤x∧x≤122)∨(65≤x∧x≤90)
instance(x:Int):Decidable (letP x):=by unfold letP;exact inferInstance
def nxtP(B:List Int):Option (List Int×List Int×List Int):=
 if B.length<12 then none else if num4 B≥2147483648∨num4 B>(B.length:Int)-12 then none
 else if ∃x∈(B.drop 4).take 4,¬letP x then none
 else if num4 (B.drop (8+(num4 B).toNat))≠(crcS ((B.drop 4).take 4++(B.drop 8).take (num4 B).toNat):Nat) then none
 else some ((B.drop 4).take 4,(B.drop 8).take (num4 B).toNat,B.drop (12+(num4 B).toNat))
theorem num4_nn{B:List Int}(h:Bys B):0≤num4 B∧num4 B<4294967296:=by
 have a:=h.getD 0;have b:=h.getD 1;have c:=h.getD 2;have d:=h.getD 3
 unfold num4;omega
theorem Bys.drop{B:List Int}(h:Bys B)(n:Nat):Bys (B.drop n):=fun x hx=>h x (List.mem_of_mem_drop hx)
theorem Bys.take{B:List Int}(h:Bys B)(n:Nat):Bys (B.take n):=fun x hx=>h x (List.mem_of_mem_take hx)
theorem nxtP_some{B k d B':List Int}(h:nxtP B=some (k,d,B')):B'.length+12≤B.length∧k.length=4∧d.length≤B.length∧(Bys B→Bys k∧Bys d∧Bys B')∧(∀x∈k,letP x):=by
 unfold nxtP at h
 split at h
 ·cases h
 ·split at h
  ·cases h
  ·split at h
   ·cases h
   ·rename_i hl
    split at h
    ·cases h
    ·cases h
     refine⟨?_,?_,?_,fun hb=>⟨(hb.drop 4).take 4,(hb.drop 8).take _,hb.drop _⟩,fun x hx=>?_⟩
     ·rw[List.length_drop];omega
     ·simp;omega
     ·simp;omega
     ·exact Classical.byContradiction fun hn=>hl ⟨x,hx,hn⟩
set_option maxHeartbeats 1000000 in
theorem c38{r:Nat}{ty:TypeId}{q:Option Addr}{l c:Nat}{B:List Int}(hs:St H0 H (.cell r #[.slice q l c] ty::σ))(hB:IS H0 q l (kints .u8 B))(hlc:l≤c)(hx:Bys B)(hl:l≤10000000)
 (hno:nxtP B=none→ ∀H',St H0 H' (.cell r #[.slice q l c] ty::σ)→R (.tuple #[.string (ByteArray.mk #[]),.slice none 0 0]) H')
 (hok: ∀k d B',nxtP B=some (k,d,B')→ ∀dq dc q' c' H',IS H0 dq d.length (kints .u8 d)→d.length≤dc→IS H0 q' B'.length (kints .u8 B')→B'.length≤c'→St H0 H' (.cell r #[.slice q' B'.length c'] ty::σ)→R (.tuple #[.string (textOf k),.slice dq d.length dc]) H'):
 CallsH Try.prog 38 #[.pointer (some ⟨r,0,none⟩)] H R:=by
 have hBl:=hB.length
 have rd: ∀{H':Heap} {τ:List Rs} {i:Nat},St H0 H' τ→τ[i]?=some (.cell r #[.slice q l c] ty)→cell H' (Addr.add ⟨r,0,none⟩ 0)=some (.slice q l c):=fun hs hi=>by rw[add_none];exact cell_get (hs.block _ hi) rfl
 refine Try.s38 ?_
 unfold Try.S38
 unfold nxtP at hno hok
 refine⟨_,rfl,q,l,c,rd hs (i:=0) rfl,br_dec (fun hlt=>hno (by rw[if_pos (by omega)]) H hs) (fun hge=>?_)⟩
 rw[if_neg (show ¬B.length<12 by omega)] at hno hok
 refine⟨_,rfl,q,l,c,rd hs (i:=0) rfl,?_⟩
 refine c28 (hB.ext hs.ext) hx (by omega) ⟨_,rfl,?_⟩
 obtain⟨n0,n1⟩:=num4_nn hx
 obtain⟨n,hn⟩:=Int.eq_ofNat_of_zero_le n0
 rw[hn] at hno hok ⊢
 rw[Int.toNat_natCast] at hno hok
 intro J hJ
 have fin:n≤l-12→J [] H:=fun hnl=>by
  rw[if_neg (by omega)] at hno hok
  have w8n:wrap .i64 ((8:Int)+(n:Nat))=((8+n:Nat):Int):=by rw[wrap_id (by omega) (by omega)];omega
  have w12n:wrap .i64 ((12:Int)+(n:Nat))=((12+n:Nat):Int):=by rw[wrap_id (by omega) (by omega)];omega
  refine hJ H ⟨_,rfl,q,l,c,rd hs (i:=0) rfl,by decide,by omega,by decide,by decide,?_⟩
  have hk:=hB.cut hlc (i:=4) (j:=8) (by omega) (by omega)
  have hd:=hB.cut hlc (i:=8) (j:=8+n) (by omega) (by omega)
  have ht:=hB.cut hlc (i:=8+n) (j:=l) (by omega) (by omega)
  have hr:=hB.cut hlc (i:=12+n) (j:=l) (by omega) (by omega)
  have hkb:=(hx.drop 4).take 4
  refine⟨(B.drop 4).take 4,is_bsOf (hk.ext hs.ext),_,rfl,q,l,c,rd hs (i:=0) rfl,?_⟩
  rw[w8n,w12n]
  refine⟨by omega,by omega,by decide,by omega,?_⟩
  rw[show 8+n-8=n from by omega] at hd
  rw[List.take_of_length_le (by rw[List.length_drop];omega)] at ht hr
  have e4:((B.drop 4).take 4).length=4:=by simp;omega
  have edl:((B.drop 8).take n).length=n:=by simp;omega
  have erl:(B.drop (12+n)).length=l-(12+n):=by rw[List.length_drop,hBl]
  generalize hkk:(B.drop 4).take 4=k at*
  generalize hdd:(B.drop 8).take n=d at*
  refine hs.str fun p3 c3 H3 x3 hc3 hs3=>?_
  have hk3:IS H3 p3 (textOf k).size (kints .u8 (sB (textOf k))):=hs3.persGet 0 rfl
  rw[tx_sB hkb,tx_size,e4] at hk3
  rw[tx_size,e4]
  have hs3:=hs3.tail
  rw[Int.toNat_natCast,show(Int.toNat (8:Int))=8 from rfl,show 8+n-8=n from by omega]
  intro X hX
  have chars: ∀t,t≤4→(∀x∈k.take t,letP x)→X [.string (textOf k),.slice (if c=8 then q else Option.map (fun x=>Addr.add x (8*1)) q) n (c-8),.int .i64 (t:Nat)] H3:=upto fun t ht4 ih hpre=>by
   refine hX _ _ _ _ _ H3 (br_dec (fun hlt=>?_) (fun hge=>?_))
   ·have hlt:t<4:=by omega
    have hg:=get_gD k 0 (i:=t) (by omega)
    have hv:=hkb.getD t
    have next:letP (k.getD t 0)→X [.string (textOf k),.slice (if c=8 then q else Option.map (fun x=>Addr.add x (8*1)) q) n (c-8),.int .i64 (wrap .i64 ((t:Int)+1))] H3:=fun hlp=>by
     have:=ih hlt (fun x hx=>by
      rw[List.take_add_one,hg,Option.toList_some] at hx
      rcases List.mem_append.1 hx with h|h
      ·exact hpre x h
      ·rw[List.mem_singleton.1 h];exact hlp)
     rw[wrap_id (by omega) (by omega)]
     exact this
    have bad: ¬letP (k.getD t 0)→R (.tuple #[.string (ByteArray.mk #[]),.slice none 0 0]) H3:=fun hnl=>hno (by rw[if_pos ⟨_,List.mem_of_getElem? hg,hnl⟩]) H3 hs3
    intro J2 hJ2
    have go:letP (k.getD t 0)→J2 [.string (textOf k),.slice (if c=8 then q else Option.map (fun x=>Addr.add x (8*1)) q) n (c-8)] H3:=fun hlp=>hJ2 _ _ _ _ H3 (next hlp)
    refine hk3.rd (by omega) (by omega) (by rw[Int.toNat_natCast];exact hg) ?_
    refine br_dec (fun h97=>br_dec (fun h122=>go (.inl ⟨h97,h122⟩)) (fun h122=>br_dec (fun h65=>br_not (fun h90=>bad fun hlp=>?_) (fun h90=>go (.inr ⟨h65,of_decide_eq_true h90⟩))) (fun h65=>bad fun hlp=>?_))) (fun h97=>br_dec (fun h65=>br_not (fun h90=>bad fun hlp=>?_) (fun h90=>go (.inr ⟨h65,of_decide_eq_true h90⟩))) (fun h65=>bad fun hlp=>?_))
    ·have:=of_decide_eq_false h90;unfold letP at hlp;omega
    ·unfold letP at hlp;omega
    ·have:=of_decide_eq_false h90;unfold letP at hlp;omega
    ·unfold letP at hlp;omega
   ·have:t=4:=by omega
    subst this
    rw[List.take_of_length_le (by omega)] at hpre
    rw[if_neg (show ¬ ∃x∈k,¬letP x from fun⟨x,h1,h2⟩=>h2 (hpre x h1))] at hno hok
    refine⟨_,rfl,q,l,c,rd hs3 (i:=0) rfl,by omega,by omega,?_⟩
    try rw[Int.toNat_natCast]
    refine c28 (ht.ext hs3.ext) (hx.drop _) (by omega) ⟨_,rfl,?_⟩
    refine hs3.str fun p5 c5 H5 x5 hc5 hs5=>hs5.alc fun b6 H6 hs6=>?_
    have hk6:IS H6 p5 (textOf k).size (kints .u8 (sB (textOf k))):=hs6.persGet 1 rfl
    rw[tx_sB hkb] at hk6
    have hdb:Bys d:=hdd▸(hx.drop 8).take n
    refine c36 (hs6.block 0 rfl) hk6 (hd.ext hs6.ext) hkb hdb (by rw[tx_size];omega) (by omega) ⟨_,rfl,?_⟩
    have hs6:=(hs6.drop 2)
    refine br_ne (fun hne=>hno (by rw[if_pos hne]) H6 hs6) (fun he=>?_)
    rw[if_neg (by simpa using he)] at hok
    refine⟨_,rfl,q,l,c,rd hs6 (i:=0) rfl,by omega,by omega,_,rfl,?_⟩
    rw[add_none]
    refine hs6.put 0 rfl (by simp) rfl fun H7 hs7=>?_
    have hok:=hok k d (B.drop (12+n)) rfl
    rw[edl,erl] at hok
    exact hok _ _ _ _ H7 hd (by omega) hr (by omega) hs7
  exact chars 0 (by omega) (fun x hx=>by simp at hx)
 refine br_dec (fun hbig=>hno (by rw[if_pos (by omega)]) H hs) (fun hsm=>⟨_,rfl,q,l,c,rd hs (i:=0) rfl,?_⟩)
 rw[wrap_id (by omega) (by omega)]
 exact br_dec (fun hgt=>hno (by rw[if_pos (by omega)]) H hs) (fun hle=>fin (by omega))
end Go.Proofs
namespace Go.Proofs
open Go.Sh
open Go.IntKind (wrap)
variable {H0 H:Heap} {σ:List Rs} {R:Value→Heap→Prop}
abbrev Chk:=Option (List Int×List Int×List Int)
def frmP:Nat→Nat→List Int→Chk→Option (List Int)
 |_,_,_,none=>none
 |0,_,_,some _=>none
 |f+1,st,out,some (k,d,B)=>if k=kDAT∧st<2 then frmP f 1 (out++d) (nxtP B) else if 97≤k.getD 0 0 then frmP f (if st=1 then 2 else st) out (nxtP B)
  else if k=kEND∧0<st∧d=[]∧B=[] then some out else none
def prtP(B:List Int):Option (List Int×List Int):=
 match nxtP B with
 |some (k,hd,B')=>if k=kHDR∧hd.length=13∧hd.drop 8=[8,6,0,0,0] then(frmP (B'.length+1) 0 [] (nxtP B')).map fun z=>(hd,z) else none
 |none=>none
def CurS(H0:Heap)(s:Chk)(ks:ByteArray)(dq:Option Addr)(dl dc:Nat):Prop:=
 match s with
 |none=>ks=ByteArray.mk #[]
 |some (k,d,_)=>ks=textOf k∧Bys k∧k.length=4∧Bys d∧dl=d.length∧IS H0 dq d.length (kints .u8 d)∧d.length≤dc
def RdS(H0 H:Heap)(r:Nat)(ty:TypeId)(σ:List Rs)(B:List Int):Prop:=Bys B∧B.length≤10000000∧ ∃q c,IS H0 q B.length (kints .u8 B)∧B.length≤c∧St H0 H (.cell r #[.slice q B.length c] ty::σ)
def StS(H0 H:Heap)(r:Nat)(ty:TypeId)(σ:List Rs)(s:Chk)(f:Nat):Prop:=
 match s with
 |none=> ∃B,RdS H0 H r ty σ B
 |some (_,d,B)=>RdS H0 H r ty σ B∧B.length<f∧d.length≤10000000
theorem next_of{r:Nat}{ty:TypeId}{B:List Int}(hs:RdS H0 H r ty σ B){f:Nat}(hf:B.length<f+1)(hR: ∀ks dq dl dc H',CurS H0 (nxtP B) ks dq dl dc→StS H0 H' r ty σ (nxtP B) f→R (.tuple #[.string ks,.slice dq dl dc]) H'):
 CallsH Try.prog 38 #[.pointer (some ⟨r,0,none⟩)] H R:=by
 obtain⟨hx,hl,q,c,hi,hlc,hs⟩:=hs
 refine c38 hs hi hlc hx hl (fun hn H' hs'=>?_) (fun k d B' hn dq dc q' c' H' h1 h2 h3 h4 h5=>?_)
 ·rw[hn] at hR
  exact hR _ _ _ _ H' rfl ⟨B,hx,hl,q,c,hi,hlc,hs'⟩
 ·obtain⟨e1,e2,e3,e4,e5⟩:=nxtP_some hn
  obtain⟨b1,b2,b3⟩:=e4 hx
  rw[hn] at hR
  exact hR _ _ _ _ H' ⟨rfl,b1,e2,b2,rfl,h1,h2⟩ ⟨⟨b3,by omega,q',c',h3,h4,h5⟩,by omega,by omega⟩
theorem nxtP_sum{B k d B':List Int}(h:nxtP B=some (k,d,B')):d.length+B'.length≤B.length:=by
 unfold nxtP at h
 split at h
 ·cases h
 ·split at h
  ·cases h
  ·split at h
   ·cases h
   ·split at h
    ·cases h
    ·cases h
     rw[List.length_take,List.length_drop,List.length_drop];omega
def sumS(o:Nat)(s:Chk):Prop:=
 match s with
 |none=>o≤10000000
 |some (_,d,B)=>o+d.length+B.length≤10000000
theorem sumS_next{o:Nat}{B:List Int}(h:o+B.length≤10000000):sumS o (nxtP B):=by
 cases hn:nxtP B with
 |none=>show o≤10000000;omega
 |some x=>
  obtain⟨k,d,B'⟩:=x
  have:=nxtP_sum hn
  show o+d.length+B'.length≤10000000
  omega
theorem tHDR:textOf kHDR=ByteArray.mk #[73,72,68,82]:=by rw[tx_eq];rfl
theorem tDAT:textOf kDAT=ByteArray.mk #[73,68,65,84]:=by rw[tx_eq];rfl
theorem tEND:textOf kEND=ByteArray.mk #[73,69,78,68]:=by rw[tx_eq];rfl
theorem bHDR:Bys kHDR:=by unfold kHDR Bys;decide
theorem bDAT:Bys kDAT:=by unfold kDAT Bys;decide
theorem bEND:Bys kEND:=by unfold kEND Bys;decide
theorem kin_eq{s:Chk}{ks:ByteArray}{dq:Option Addr}{dl dc:Nat}(h:CurS H s ks dq dl dc){K:List Int}{t:ByteArray}(ht:textOf K=t)(hK:Bys K)(hne:K≠[]):
 (ks==t)=match s with|none=>false|some (k,_,_)=>decide (k=K):=by
 cases s with
 |none=>
  have h:ks=ByteArray.mk #[]:=h
  subst h ht
  have:=tx_beq (xs:=[]) (ys:=K) (fun c hc=>by cases hc) hK
  rw[show textOf []=ByteArray.mk #[] from by rw[tx_eq];rfl] at this
  rw[this]
  exact decide_eq_false fun h=>hne h.symm
 |some x=>
  obtain⟨k,d,B⟩:=x
  obtain⟨h1,h2,_⟩:=h
  subst h1 ht
  exact tx_beq h2 hK
def smlS(s:Chk):Bool:=
 match s with
 |none=>false
 |some (k,_,_)=>decide (97≤k.getD 0 0)
theorem c40{s:Chk}{ks:ByteArray}{dq:Option Addr}{dl dc:Nat}(h:CurS H0 s ks dq dl dc)(hR:R (.bool (smlS s)) H):CallsH Try.prog 40 #[.string ks] H R:=by
 refine Try.s40 ?_
 unfold Try.S40
 cases s with
 |none=>
  have h:ks=ByteArray.mk #[]:=h
  subst h
  exact br_f (by rfl) hR
 |some x=>
  obtain⟨k,d,B⟩:=x
  obtain⟨h1,h2,h3,_⟩:=h
  subst h1
  cases k with
  |nil=>cases h3
  |cons x r=>
   have hne:(!(textOf (x::r)==ByteArray.mk #[]))=true:=by
    have:=tx_beq (xs:=x::r) (ys:=[]) h2 (fun c hc=>by cases hc)
    rw[show textOf []=ByteArray.mk #[] from by rw[tx_eq];rfl] at this
    rw[this];simp
   refine br_t hne ⟨UInt8.ofNat x.toNat,by decide,?_,?_⟩
   ·rw[tx_eq];rfl
   ·have hx:=h2 x (by simp)
    have e:((UInt8.toNat (UInt8.ofNat x.toNat):Nat):Int)=x:=by rw[UInt8.toNat_ofNat'];omega
    rw[e]
    exact hR
theorem c39{p q:Option Addr}{l c m d:Nat}{xs ys:List Int}(h1:IS H p l (kints .u8 xs))(h2:IS H q m (kints .u8 ys))(hx:Bys xs)(hy:Bys ys)(hR:R (.bool (decide (xs=ys))) H):
 CallsH Try.prog 39 #[.slice p l c,.slice q m d] H R:=by
 refine Try.s39 ⟨xs,is_bsOf h1,ys,is_bsOf h2,?_⟩
 rw[tx_beq hx hy]
 exact hR
set_option maxHeartbeats 2000000 in
theorem c27{p:Option Addr}{l c:Nat}{B:List Int}(hB:IS H p l (kints .u8 B))(hlc:l≤c)(hx:Bys B)(h8:8≤l)(hl:l≤10000000)
 (hno:prtP (B.drop 8)=none→ ∀H' (hp:Option Addr) (hl hc:Nat) (zp:Option Addr) (zl zc:Nat),Ext H H'→R (.tuple #[.slice hp hl hc,.slice zp zl zc,.bool false]) H')
 (hok: ∀hd z,prtP (B.drop 8)=some (hd,z)→ ∀hq hc zq zc H',IS H hq 13 (kints .u8 hd)→13≤hc→Bys hd→Bys z→z.length≤10000000→St H H' [.sl zq z.length zc 5 1 (kints .u8 z)]→R (.tuple #[.slice hq 13 hc,.slice zq z.length zc,.bool true]) H'):
 CallsH Try.prog 27 #[.slice p l c] H R:=by
 have hBl:=hB.length
 refine Try.s27 ?_
 unfold Try.S27
 refine⟨by decide,by omega,(St.nil H).alc fun b H3 hs3=>?_⟩
 have h0:=hB.cut hlc (i:=8) (j:=l) h8 (Nat.le_refl _)
 have e0:(B.drop 8).length=l-8:=by rw[List.length_drop,hBl]
 rw[List.take_of_length_le (by omega)] at h0
 have hrd:RdS H H3 b 59 [] (B.drop 8):=⟨hx.drop 8,by omega,_,c-8,e0.symm▸h0,by omega,by rw[e0];exact hs3⟩
 generalize hB8:B.drop 8=B8 at*
 clear hs3
 unfold prtP at hno hok
 refine next_of hrd (f:=B8.length) (by omega) fun ks dq dl dc H5 hc5 hs5=>⟨_,_,_,_,rfl,?_⟩
 generalize hs0:nxtP B8=s at*
 intro J hJ
 rw[kin_eq hc5 tHDR bHDR (by decide)]
 cases s with
 |none=>
  obtain⟨_,_,_,q,c',_,_,hs⟩:=hs5
  exact br_t rfl (hno rfl _ _ _ _ _ _ _ hs.ext)
 |some x=>
  obtain⟨k,hd,B'⟩:=x
  obtain⟨hrd5,hlt5,hdl⟩:=hs5
  have hext5:Ext H H5:=by obtain⟨_,_,_,_,_,_,hs⟩:=hrd5;exact hs.ext
  obtain⟨_,_,_,hdb,rfl,hdi,hdc⟩:=hc5
  simp only at hno hok
  have no1: ¬(k=kHDR∧hd.length=13∧hd.drop 8=[8,6,0,0,0])→ ∀H' (hp:Option Addr) (hl hc:Nat) (zp:Option Addr) (zl zc:Nat),Ext H H'→R (.tuple #[.slice hp hl hc,.slice zp zl zc,.bool false]) H':=fun hn=>hno (by rw[if_neg hn])
  refine br_not (fun hk=>no1 (fun h=>of_decide_eq_false hk h.1) _ _ _ _ _ _ _ hext5) (fun hk=>br_ne (fun hne=>no1 (fun h=>by have:=h.2.1;omega) _ _ _ _ _ _ _ hext5) (fun he=>?_))
  have hk:=of_decide_eq_true hk
  have he:hd.length=13:=by omega
  refine⟨by decide,by omega,?_⟩
  obtain⟨hxB',hlB',q5,c5,hi5,hlc5,hst5⟩:=hrd5
  refine hst5.alc fun b51 H52 hs52=>?_
  have hcut:=hdi.cut hdc (i:=8) (j:=hd.length) (by omega) (Nat.le_refl _)
  rw[List.take_of_length_le (by rw[List.length_drop];omega)] at hcut
  refine c39 (ys:=[8,6,0,0,0]) (hcut.ext hs52.ext) (IS.of_block (hs52.block 0 rfl) rfl) (hdb.drop 8) (by unfold Bys;decide) ⟨_,rfl,?_⟩
  refine br_not (fun hq=>no1 (fun h=>of_decide_eq_false hq h.2.2) _ _ _ _ _ _ _ hs52.ext) (fun hq=>?_)
  have hq:=of_decide_eq_true hq
  rw[if_pos ⟨hk,he,hq⟩] at hno hok
  rw[he] at hdi hdc ⊢
  have hrd6:RdS H H52 b 59 [.sl none 0 0 5 1 (kints .u8 [])] B':=⟨hxB',hlB',q5,c5,hi5,hlc5,(hs52.tail.nilSl 5 1).swap⟩
  clear hs52 hst5 hrd
  generalize hF:frmP (B'.length+1) 0 [] (nxtP B')=F at hno hok
  -- the end:a file,or none
  have bad:F=none→ ∀H' (hp:Option Addr) (hl hc:Nat) (zp:Option Addr) (zl zc:Nat),Ext H H'→R (.tuple #[.slice hp hl hc,.slice zp zl zc,.bool false]) H':=fun hn=>hno (by rw[hn];rfl)
  have good: ∀z,F=some z→ ∀zq zc H',Bys z→z.length≤10000000→St H H' [.sl zq z.length zc 5 1 (kints .u8 z)]→R (.tuple #[.slice dq 13 dc,.slice zq z.length zc,.bool true]) H':=fun z hz zq zc H' hb hl hs=>
   hok hd z (by rw[hz];rfl) dq dc zq zc H' hdi hdc hdb hb hl hs
  clear hno hok no1
  have extS: ∀{H':Heap} {σ:List Rs} {s:Chk} {f:Nat} {ty:TypeId},StS H H' b ty σ s f→Ext H H':=fun{H' σ s f ty} hs=>by
   cases s with
   |none=>obtain⟨_,_,_,_,_,_,_,hs⟩:=hs;exact hs.ext
   |some x=>obtain⟨k,d,B⟩:=x;obtain⟨⟨_,_,_,_,_,_,hs⟩,_⟩:=hs;exact hs.ext
  refine hJ dq 13 dc none 0 0 H52 ?_
  refine next_of hrd6 (f:=B'.length+1) (by omega) fun ks1 dq1 dl1 dc1 H13 hc13 hs13=>⟨_,_,_,_,rfl,?_⟩
  intro X1 hX1
  have loop1: ∀f (s:Chk) ks dq1 dl1 dc1 H',CurS H s ks dq1 dl1 dc1→StS H H' b 59 [.sl none 0 0 5 1 (kints .u8 [])] s f→sumS 0 s→frmP f 0 [] s=F→X1 [.string ks,.slice dq1 dl1 dc1] H':=by
   intro f
   induction f with
   |zero=>
    intro s ks dq1 dl1 dc1 H' hc hs _ hF
    cases s with
    |none=>exact hX1 _ _ _ _ H' (c40 hc ⟨_,rfl,br_f rfl (br_t (by rw[kin_eq hc tDAT bDAT (by decide)];rfl) (bad hF.symm _ _ _ _ _ _ _ (extS hs)))⟩)
    |some x=>obtain⟨k,d,B⟩:=x;exact absurd hs.2.1 (by omega)
   |succ f ih=>
    intro s ks dq1 dl1 dc1 H' hc hs hsum hF
    refine hX1 _ _ _ _ H' (c40 hc ⟨_,rfl,?_⟩)
    rw[kin_eq hc tDAT bDAT (by decide)]
    cases s with
    |none=>exact br_f rfl (br_t rfl (bad (by rw[←hF];cases f<;>rfl) _ _ _ _ _ _ _ (extS hs)))
    |some x=>
     obtain⟨k,d,B⟩:=x
     obtain⟨hrd,hlt,hdl⟩:=hs
     have hsum':0+d.length+B.length≤10000000:=hsum
     show br (decide (97≤k.getD 0 0)) _ _
     refine br_dec (fun hsm=>?_) (fun hsm=>br_not (fun hd=>?_) (fun hd=>?_))
     ·have hnd: ¬(k=kDAT∧0<2):=fun h=>by rw[h.1] at hsm;exact absurd hsm (by decide)
      rw[frmP,if_neg hnd,if_pos hsm,if_neg (by decide)] at hF
      exact next_of hrd (by omega) fun ks2 dq2 dl2 dc2 H2 hc2 hs2=>⟨_,_,_,_,rfl,ih _ _ _ _ _ H2 hc2 hs2 (sumS_next (by omega)) hF⟩
     ·have hd:=of_decide_eq_false hd
      rw[frmP,if_neg (fun h=>hd h.1),if_neg hsm,if_neg (fun h=>by have:=h.2.1;omega)] at hF
      exact bad hF.symm _ _ _ _ _ _ _ (extS (s:=some (k,d,B)) ⟨hrd,hlt,hdl⟩)
     ·have hd:=of_decide_eq_true hd
      intro X2 hX2
      have loop2: ∀f st (out:List Int) (s:Chk) zq zc ks dq1 dl1 dc1 H',CurS H s ks dq1 dl1 dc1→StS H H' b 59 [.sl zq out.length zc 5 1 (kints .u8 out)] s f→sumS out.length s→Bys out→st<2→(st=0→ ∃d B,s=some (kDAT,d,B))→frmP f st out s=F→
       X2 [.slice zq out.length zc,.string ks,.slice dq1 dl1 dc1] H':=by
       have tail: ∀f st (out:List Int) (s:Chk) zq zc ks dq1 dl1 dc1 H',CurS H s ks dq1 dl1 dc1→StS H H' b 59 [.sl zq out.length zc 5 1 (kints .u8 out)] s f→sumS out.length s→Bys out→1≤st→st≤2→(st=1→ ∀d B,s≠some (kDAT,d,B))→frmP f st out s=F→
        ∀X3:List Value→Heap→Prop,(∀(ki39:ByteArray) (da40p:OA) (da40l da40c:Nat) H41,(Try.C 40 #[.string ki39] H41 fun r42 H43=> ∃r44,r42= .bool r44∧br r44
         (Try.C 38 #[.pointer (some ⟨b,0,none⟩)] H43 fun r45 H46=> ∃r47 r48p r48l r48c,r45= .tuple #[.string r47,.slice r48p r48l r48c]∧X3 [.string r47,.slice r48p r48l r48c] H46)
         (br ((ki39:ByteArray)==(ByteArray.mk #[73,69,78,68])) (br (((da40l:Int):Int)==0) (∃a49,(some ⟨b,0,none⟩)=some a49∧ ∃b50p b50l b50c,cell H43 (.add a49 0)=some (.slice b50p b50l b50c)∧R (.tuple #[.slice dq 13 dc,.slice zq out.length zc,.bool (((b50l:Int):Int)==0)]) H43) (R (.tuple #[.slice dq 13 dc,.slice zq out.length zc,.bool false]) H43)) (R (.tuple #[.slice dq 13 dc,.slice zq out.length zc,.bool false]) H43)))→X3 [.string ki39,.slice da40p da40l da40c] H41)→X3 [.string ks,.slice dq1 dl1 dc1] H':=by
        intro f
        induction f with
        |zero=>
         intro st out s zq zc ks dq1 dl1 dc1 H' hc hs _ _ _ _ _ hF X3 hX3
         cases s with
         |none=>exact hX3 _ _ _ _ H' (c40 hc ⟨_,rfl,br_f rfl (br_f (by rw[kin_eq hc tEND bEND (by decide)]) (bad hF.symm _ _ _ _ _ _ _ (extS hs)))⟩)
         |some x=>obtain⟨k,d,B⟩:=x;exact absurd hs.2.1 (by omega)
        |succ f ih3=>
         intro st out s zq zc ks dq1 dl1 dc1 H' hc hs hsum hob hst1 hst2 hnD hF X3 hX3
         refine hX3 _ _ _ _ H' (c40 hc ⟨_,rfl,?_⟩)
         rw[kin_eq hc tEND bEND (by decide)]
         cases s with
         |none=>exact br_f rfl (br_f rfl (bad (by rw[←hF];cases f<;>rfl) _ _ _ _ _ _ _ (extS hs)))
         |some x=>
          obtain⟨k,d,B⟩:=x
          have hs0:=hs
          obtain⟨hrd,hlt,hdl⟩:=hs
          have hsum':out.length+d.length+B.length≤10000000:=hsum
          have hnd: ¬(k=kDAT∧st<2):=fun h=>hnD (by omega) d B (by rw[h.1])
          show br (decide (97≤k.getD 0 0)) _ _
          refine br_dec (fun hsm=>?_) (fun hsm=>?_)
          ·rw[frmP,if_neg hnd,if_pos hsm,show(if st=1 then 2 else st)=2 from by split<;>omega] at hF
           exact next_of hrd (by omega) fun ks2 dq2 dl2 dc2 H2 hc2 hs2=>⟨_,_,_,_,rfl,ih3 2 out _ _ _ _ _ _ _ H2 hc2 hs2 (sumS_next (by omega)) hob (by omega) (by omega) (fun h=>by omega) hF X3 hX3⟩
          ·rw[frmP,if_neg hnd,if_neg hsm] at hF
           have e5:dl1=d.length:=hc.2.2.2.2.1
           refine br_dec (fun hke=>br_eq (fun hd0=>?_) (fun hd0=>?_)) (fun hke=>?_)
           ·obtain⟨_,_,q,c7,hi7,hlc7,hst7⟩:=hrd
            refine⟨_,rfl,q,B.length,c7,by rw[add_none];exact cell_get (hst7.block 0 rfl) rfl,?_⟩
            have hd0':d=[]:=List.length_eq_zero_iff.1 (by omega)
            by_cases hB0:B=[]
            ·rw[if_pos ⟨hke,by omega,hd0',hB0⟩] at hF
             have:=good out hF.symm zq zc H' hob (by omega) hst7.tail
             rw[show(((B.length:Nat):Int)==0)=true from by rw[hB0];rfl]
             exact this
            ·rw[if_neg (fun h=>hB0 h.2.2.2)] at hF
             have hne:B.length≠0:=fun h=>hB0 (List.length_eq_zero_iff.1 h)
             rw[show(((B.length:Nat):Int)==0)=false from by simp;exact hB0]
             exact bad hF.symm _ _ _ _ _ _ _ hst7.ext
           ·rw[if_neg (fun h=>hd0 (by rw[e5,h.2.2.1];rfl))] at hF
            exact bad hF.symm _ _ _ _ _ _ _ (extS hs0)
           ·rw[if_neg (fun h=>hke h.1)] at hF
            exact bad hF.symm _ _ _ _ _ _ _ (extS hs0)
       intro f
       induction f with
       |zero=>
        intro st out s zq zc ks dq1 dl1 dc1 H' hc hs hsum hob hst h0 hF
        refine hX2 _ _ _ _ _ _ _ H' ?_
        rw[kin_eq hc tDAT bDAT (by decide)]
        cases s with
        |none=>
         have hst1:st=1:=by
          rcases Nat.eq_zero_or_pos st with h|h
          ·obtain⟨_,_,h⟩:=h0 h;cases h
          ·omega
         exact br_f rfl (tail 0 st out none _ _ _ _ _ _ H' hc hs hsum hob (by omega) (by omega) (fun _ _ _ h=>by cases h) hF)
        |some x=>obtain⟨k,d,B⟩:=x;exact absurd hs.2.1 (by omega)
       |succ f ih2=>
        intro st out s zq zc ks dq1 dl1 dc1 H' hc hs hsum hob hst h0 hF
        refine hX2 _ _ _ _ _ _ _ H' ?_
        rw[kin_eq hc tDAT bDAT (by decide)]
        have hst1:(∀d B,s≠some (kDAT,d,B))→st=1:=fun hn=>by
         rcases Nat.eq_zero_or_pos st with h|h
         ·obtain⟨_,_,h⟩:=h0 h;exact absurd h (hn _ _)
         ·omega
        cases s with
        |none=>
         have:=hst1 (fun _ _ h=>by cases h)
         exact br_f rfl (tail (f+1) st out none _ _ _ _ _ _ H' hc hs hsum hob (by omega) (by omega) (fun _ _ _ h=>by cases h) hF)
        |some x=>
         obtain⟨k,d,B⟩:=x
         refine br_dec (fun hk=>?_) (fun hk=>?_)
         ·subst hk
          obtain⟨_,_,_,hdb,rfl,hdi,hdc⟩:=hc
          obtain⟨⟨hxB,hlB,q,c7,hi7,hlc7,hst7⟩,hlt,hdl⟩:=hs
          have hsum':out.length+d.length+B.length≤10000000:=hsum
          rw[frmP,if_pos ⟨rfl,hst⟩] at hF
          refine hst7.appI 1 rfl (hdi.ext hst7.ext) (kints_one _ _) rfl (by omega) (by omega) fun q8 c8 H8 hs8=>?_
          rw[←kints_append] at hs8
          have el:(out++d).length=out.length+d.length:=List.length_append
          have hrd8:RdS H H8 b 59 [.sl q8 (out++d).length c8 5 1 (kints .u8 (out++d))] B:=⟨hxB,hlB,q,c7,hi7,hlc7,by rw[el];exact hs8⟩
          rw[←el]
          refine next_of hrd8 (by omega) fun ks2 dq2 dl2 dc2 H2 hc2 hs2=>⟨_,_,_,_,rfl,?_⟩
          exact ih2 1 (out++d) _ _ _ _ _ _ _ H2 hc2 hs2 (sumS_next (by omega)) (fun x hx=>(List.mem_append.1 hx).elim (hob x) (hdb x)) (by omega) (fun h=>by omega) hF
         ·have hne: ∀d' B',(some (k,d,B):Chk)≠some (kDAT,d',B'):=fun d' B' h=>by cases h;exact hk rfl
          have:=hst1 hne
          exact tail (f+1) st out (some (k,d,B)) _ _ _ _ _ _ H' hc hs hsum hob (by omega) (by omega) (fun _=>hne) hF
      exact loop2 (f+1) 0 [] (some (k,d,B)) none 0 ks dq1 dl1 dc1 H' hc ⟨hrd,hlt,hdl⟩ hsum (fun x hx=>by cases hx) (by omega) (fun _=>⟨d,B,by rw[hd]⟩) hF
  exact loop1 (B'.length+1) _ _ _ _ _ H13 hc13 hs13 (sumS_next (by omega)) hF
end Go.Proofs
namespace Go.Proofs
open Go.Sh
open Go.IntKind (wrap)
variable {H:Heap} {R:Value→Heap→Prop}
set_option maxHeartbeats 4000000 in
theorem c12{p:Option Addr}{l c:Nat}{rgba:List Int}{w h part:Int}(hi:IS H p l (kints .u8 rgba))(hx:Bys rgba)(hl:l≤20000)(hlc:l≤c)(hpart:part≤9223372036854775807)
 (hlim: ¬SzP w h→R (.tuple #[.slice none 0 0,.int .i64 31]) H)(hform:SzP w h→(l:Int)≠4*w*h→R (.tuple #[.slice none 0 0,.int .i64 25]) H)
 (hR:SzP w h→(l:Int)=4*w*h→ ∀(B z:List Int) (m n:Nat) q c' H',WOk false (defB (lnsP (4*w).toNat rgba h.toNat) 4) B→z=zipB (lnsP (4*w).toNat rgba h.toNat) B→n=(if part<1 then z.length else part.toNat)→
  z.length≤m*n→(m=0∨(m-1)*n<z.length)→St H H' [.sl q (encP w h z n m).length c' 5 1 (kints .u8 (encP w h z n m))]→R (.tuple #[.slice q (encP w h z n m).length c',.int .i64 0]) H'):
 CallsH Try.prog 12 #[.int .i64 w,.int .i64 h,.slice p l c,.int .i64 part] H R:=by
 have e1:=hi.length
 refine Try.s12 ?_
 unfold Try.S12
 refine c20 ⟨_,rfl,br_not (fun hn=>hlim (of_decide_eq_false hn)) (fun hsz=>?_)⟩
 have hsz:=of_decide_eq_true hsz
 have hsz':=hsz
 obtain⟨hw1,hh1,hw2,hh2,hwh⟩:=hsz'
 have hm4:=mulSz hw1 hh1 hw2 hh2
 have hmm:4*w*h=4*(w*h):=Int.mul_assoc 4 w h
 have W1:wrap .i64 (4*w)=((4*w).toNat:Nat):=by rw[wrap_id (by omega) (by omega)];omega
 have W0:wrap .i64 (wrap .i64 (4*w)*h)=4*w*h:=by rw[wrap_id (n:=4*w) (by omega) (by omega),wrap_id (by omega) (by omega)]
 rw[W0]
 refine br_ne (fun hne=>hform hsz (by simpa using hne)) (fun heq=>?_)
 have heq:(l:Int)=4*w*h:=by simpa using heq
 have hR:=hR hsz heq
 clear hform hlim
 rw[W1]
 obtain⟨w4,hw4⟩: ∃w4:Nat,(4*w).toNat=w4:=⟨_,rfl⟩
 obtain⟨hN,hhN⟩: ∃hN:Nat,h=hN:=⟨h.toNat,by omega⟩
 subst hhN
 rw[hw4,Int.toNat_natCast] at hR
 rw[hw4]
 have hw4':4*w=(w4:Int):=by omega
 have hlw:l=w4*hN:=by
  have:(l:Int)=((w4*hN:Nat):Int):=by rw[heq,hw4'];simp
  omega
 have hw4p:1≤w4:=by omega
 have hw4l:w4≤l:=by
  rw[hlw];exact Nat.le_mul_of_pos_right _ (by omega)
 have hrl:rgba.length=w4*hN:=by omega
 obtain⟨pa,hpa⟩: ∃pa,p=some pa:=by
  obtain⟨a,h1,_⟩:=hi.cell (kints_get (get_gD rgba 0 (i:=0) (by omega)))
  exact⟨a,h1⟩
 subst hpa
 refine⟨by omega,by omega,by omega,by omega,?_⟩
 rw[Int.toNat_natCast]
 refine(St.nil H).alc fun b8 H9 hs9=>?_
 have e9:(List.toArray (reps w4 (Array.toList #[Value.int .u8 0])))=(kints .u8 (List.replicate w4 0)).toArray:=by simp[reps_rep,kints]
 rw[e9] at hs9
 have hs9:St H H9 [.pers fun H=>IS H (some ⟨b8,0,none⟩) w4 (kints .u8 (List.replicate w4 0))]:=
  hs9.persOf (τ:=[.cell b8 (kints .u8 (List.replicate w4 0)).toArray 5]) (σ:=[]) fun H' hst=>IS.of_block (hst.block 0 rfl) (by rw[kints_len];simp)
 -- the lines
 intro X hX
 have lines: ∀y,y≤hN→ ∀H1 lq lc (abp:Option Addr) (abc:Nat),St H H1 [.pers (fun H=>IS H (some ⟨b8,0,none⟩) w4 (kints .u8 (List.replicate w4 0))),.sl lq (lnsP w4 rgba y).length lc 5 1 (kints .u8 (lnsP w4 rgba y))]→
  ((y=0∧abp=some ⟨b8,0,none⟩)∨(IS H abp w4 (kints .u8 (aboP w4 rgba y))))→X [.slice lq (lnsP w4 rgba y).length lc,.slice abp w4 abc,.int .i64 (y:Nat)] H1:=upto fun y hy ih H1 lq lc abp abc hs1 hab=>by
  have hab1: ∀{H2:Heap} {σ},St H H2 (.pers (fun H=>IS H (some ⟨b8,0,none⟩) w4 (kints .u8 (List.replicate w4 0)))::σ)→IS H2 abp w4 (kints .u8 (aboP w4 rgba y)):=fun hs=>by
   rcases hab with ⟨h0,h1⟩|h1
   ·subst h0 h1;exact hs.persGet 0 rfl
   ·exact h1.ext hs.ext
  have hll:=lnsP_len hrl hy
  have hyb:y*(w4+1)≤40000:=by
   have h1:y*(w4+1)≤hN*(w4+1):=Nat.mul_le_mul_right _ hy
   have h2:hN*(w4+1)=w4*hN+hN:=by rw[Nat.mul_add,Nat.mul_comm hN w4,Nat.mul_one]
   have h3:hN≤w4*hN:=Nat.le_mul_of_pos_left _ hw4p
   omega
  refine hX _ _ _ _ _ _ _ H1 (br_dec (fun hlt=>?_) (fun hge=>?_))
  ·have hlt:y<hN:=by omega
   have a1:w4*(y+1)≤l:=by rw[hlw];exact Nat.mul_le_mul_left _ hlt
   have a2:w4*(y+1)=w4*y+w4:=by rw[Nat.mul_add,Nat.mul_one]
   have Wy:wrap .i64 ((w4:Int)*(y:Nat))=((w4*y:Nat):Int):=by rw[wrap_id (by rw[←Int.natCast_mul];omega) (by rw[←Int.natCast_mul];omega),Int.natCast_mul]
   have Wy1:wrap .i64 ((w4:Int)*wrap .i64 (((y:Nat):Int)+1))=((w4*(y+1):Nat):Int):=by
    rw[show wrap .i64 (((y:Nat):Int)+1)=((y+1:Nat):Int) from by rw[wrap_id (by omega) (by omega)];omega,←Int.natCast_mul,wrap_id (by omega) (by omega)]
   rw[Wy,Wy1,Int.toNat_natCast,Int.toNat_natCast,if_neg (by omega),Nat.mul_one,show w4*(y+1)-w4*y=w4 from by omega]
   refine⟨by omega,by omega,by omega,by omega,?_⟩
   have hline:IS H (some (pa.add (w4*y))) w4 (kints .u8 (linP w4 rgba y)):=by
    have:=hi.part (i:=w4*y) (n:=w4) (by omega)
    unfold linP
    simpa[kints,List.map_drop,List.map_take] using this
   have hlb:=linP_bys (w4:=w4) hx y
   have hab2:=aboP_bys (w4:=w4) hx y
   rw[show Option.map (fun x=>Addr.add x (w4*y)) (some pa)=some (pa.add (w4*y)) from rfl]
   refine c7 (hline.ext hs1.ext) (hab1 hs1) hlb hab2 (by omega) (fun hn=>absurd ⟨by decide,by decide,rfl⟩ hn) fun _ b2 H2 hs2=>⟨_,_,_,rfl,?_⟩
   have hs2:=hs1.call hs2
   have hs2:=hs2.perm (τ:=[.pers (fun H=>IS H (some ⟨b8,0,none⟩) w4 (kints .u8 (List.replicate w4 0))),.sl lq (lnsP w4 rgba y).length lc 5 1 (kints .u8 (lnsP w4 rgba y)),.sl (some ⟨b2,0,none⟩) w4 w4 5 1 (kints .u8 (filP 0 (linP w4 rgba y) (aboP w4 rgba y)))]) (List.perm_append_comm (l₁:=[_]) (l₂:=[_,_]))
   intro Y hY
   have inner: ∀k,k≤4→ ∀H3 bp bc,St H H3 [.pers (fun H=>IS H (some ⟨b8,0,none⟩) w4 (kints .u8 (List.replicate w4 0))),.sl lq (lnsP w4 rgba y).length lc 5 1 (kints .u8 (lnsP w4 rgba y)),.sl bp w4 bc 5 1 (kints .u8 (bstP (linP w4 rgba y) (aboP w4 rgba y) k).2)]→
    Y [.int .i64 (bstP (linP w4 rgba y) (aboP w4 rgba y) k).1,.slice bp w4 bc,.int .i64 (k+1:Nat)] H3:=upto fun k hk ihk H3 bp bc hs3=>by
    have hbb:=bstP_bys (linP w4 rgba y) (aboP w4 rgba y) k
    refine hY _ _ _ _ _ H3 (br_dec (fun hlt4=>?_) (fun hge4=>?_))
    ·have hlt4:k<4:=by omega
     have wk:wrap .i64 (((k+1:Nat):Int)+1)=((k+1+1:Nat):Int):=by rw[wrap_id (by omega) (by omega)];omega
     refine c7 (hline.ext hs3.ext) (hab1 hs3) hlb hab2 (by omega) (fun hn=>absurd ⟨by omega,by omega,rfl⟩ hn) fun _ b4 H4 hs4=>⟨_,_,_,rfl,?_⟩
     have hs4:=hs3.call hs4
     refine c21 (hs4.is 0 rfl) (filP_bys _ _ _) (by omega) ⟨_,rfl,?_⟩
     refine c21 (hs4.is 3 rfl) hbb (by omega) ⟨_,rfl,?_⟩
     rw[wk]
     have ihk:=ihk hlt4
     refine br_dec (fun hc=>?_) (fun hc=>?_)
     ·have e:bstP (linP w4 rgba y) (aboP w4 rgba y) (k+1)=(((k+1:Nat):Int),filP (k+1:Nat) (linP w4 rgba y) (aboP w4 rgba y)):=by rw[bstP,if_pos hc]
      rw[e] at ihk
      refine ihk H4 _ _ ?_
      have:=(hs4.del 3)
      exact this.perm (List.perm_append_comm (l₁:=[_]) (l₂:=[_,_]))
     ·have e:bstP (linP w4 rgba y) (aboP w4 rgba y) (k+1)=bstP (linP w4 rgba y) (aboP w4 rgba y) k:=by rw[bstP,if_neg hc]
      rw[e] at ihk
      exact ihk H4 _ _ hs4.tail
    ·have:k=4:=by omega
     subst this
     have hbl:=bstP_len (linP w4 rgba y) (aboP w4 rgba y) 4
     rw[linP_len hrl hlt] at hbl
     have hbf:=bstP_fst (linP w4 rgba y) (aboP w4 rgba y) 4
     refine hs3.alc fun b5 H5 hs5=>?_
     rw[wrap_u8 (by omega) (by omega)] at hs5
     refine hs5.appC 2 0 (el:=5) (k:=1) rfl rfl rfl (one1 rfl) (by decide) rfl (by omega) (by omega) fun q6 c6 H6 hs6=>?_
     have e6:kints .u8 (lnsP w4 rgba y)++(#[Value.int .u8 (bstP (linP w4 rgba y) (aboP w4 rgba y) 4).1]:Array Value).toList=kints .u8 (lnsP w4 rgba y++[(bstP (linP w4 rgba y) (aboP w4 rgba y) 4).1]):=by
      rw[kints_append];rfl
     rw[e6] at hs6
     refine hs6.appI 2 rfl (hs6.is 3 rfl) (kints_one _ _) rfl (by omega) (by omega) fun q7 c7 H7 hs7=>?_
     rw[←kints_append] at hs7
     have e7:(lnsP w4 rgba (y+1)).length=(lnsP w4 rgba y).length+1+w4:=by
      rw[lnsP_len hrl (y:=y+1) (by omega),hll,Nat.add_mul];omega
     have wy:wrap .i64 (((y:Nat):Int)+1)=((y+1:Nat):Int):=by rw[wrap_id (by omega) (by omega)];omega
     have ih:=ih hlt H7 q7 c7 (some (pa.add (w4*y))) (c-w4*y)
     rw[e7] at ih
     rw[wy]
     refine ih ?_ (.inr hline)
     have:=(hs7.del 3).tail
     exact this
   have:=inner 0 (by omega) H2 _ _ hs2
   exact this
  ·have:y=hN:=by omega
   subst this
   have hlr:=lnsP_bys (w4:=w4) (rgba:=rgba) y
   refine c22 (hs1.is 1 rfl) hlr ((hs1.fs 1 rfl).le) (by omega) fun zq zc B H2 ok hs2=>⟨_,_,_,rfl,?_⟩
   have hs2:=hs1.call hs2
   have hs2:St H H2 [.sl zq (zipB (lnsP w4 rgba y) B).length zc 5 1 (kints .u8 (zipB (lnsP w4 rgba y) B))]:=hs2.take 1
   have hzb:(zipB (lnsP w4 rgba y) B).length≤1000000:=by
    have:=ok.nby
    have:=(nby_def (lnsP w4 rgba y) 4).1
    simp[zipB,big4];omega
   have hz7:6≤(zipB (lnsP w4 rgba y) B).length:=by simp[zipB,big4]
   have hzr:Bys (zipB (lnsP w4 rgba y) B):=fun x hx=>by
    unfold zipB at hx
    rcases List.mem_append.1 hx with hx|hx
    ·rcases List.mem_append.1 hx with hx|hx
     ·simp at hx;rcases hx with rfl|rfl<;>omega
     ·exact ok.rng x hx
    ·exact big4_bys _ x hx
   have hR:=fun m n=>hR B (zipB (lnsP w4 rgba y) B) m n
   generalize hzz:zipB (lnsP w4 rgba y) B=z at*
   intro J hJ
   have fin: ∀n:Nat,n=(if part<1 then z.length else part.toNat)→J [.int .i64 (n:Nat)] H2:=fun n hn=>by
    have hn1:1≤n:=by rw[hn];split<;>omega
    have hn2:n≤9223372036854775807:=by rw[hn];split<;>omega
    refine hJ _ H2 ?_
    refine hs2.alcM fun b3 H3 x3 hs3=>?_
    refine c25 fun b4 H4 hs4=>⟨_,_,_,rfl,?_⟩
    have hs4:=hs3.call hs4
    refine c25 fun b5 H5 hs5=>⟨_,_,_,rfl,?_⟩
    have hs5:=hs4.call hs5
    refine hs5.alc fun b6 H6 hs6=>hs6.alc fun b7 H7 hs7=>?_
    have hpb:PB H7 (some ⟨b7,0,none⟩) 3 [big4 w,big4 (y:Int),[8,6,0,0,0]]:=pb_blk (vs:=[(some ⟨b4,0,none⟩,4,4),(some ⟨b5,0,none⟩,4,4),(some ⟨b6,0,none⟩,5,5)]) (hs7.block 0 rfl)
     ⟨IS.of_block (hs7.block 3 rfl) rfl,IS.of_block (hs7.block 2 rfl) rfl,IS.of_block (hs7.block 1 rfl) rfl,trivial⟩
    have hfl:([big4 w,big4 (y:Int),[8,6,0,0,0]]:List (List Int)).flatten=hdrP w (y:Int):=by simp[hdrP]
    have hhl:(hdrP w (y:Int)).length=13:=rfl
    refine c23 hpb (by omega) (by rw[hfl,hhl];omega) fun q8 c8 H8 hs8=>⟨_,_,_,rfl,?_⟩
    rw[hfl,hhl] at hs8 ⊢
    have hs8:=hs7.call hs8
    have hhb:Bys (hdrP w (y:Int)):=fun x hx=>by
     unfold hdrP at hx
     simp only[List.mem_append] at hx
     rcases hx with (hx|hx)|hx
     ·exact big4_bys _ x hx
     ·exact big4_bys _ x hx
     ·simp at hx;rcases hx with rfl|rfl|rfl<;>omega
    refine c24 (hs8.is 0 rfl) hhb (by omega) (by decide) fun q9 c9 H9' hs9'=>⟨_,_,_,rfl,?_⟩
    rw[sHDR] at hs9' ⊢
    have hcl:(chuP kHDR (hdrP w (y:Int))).length=25:=by rw[chuP_len];rfl
    rw[hcl] at hs9' ⊢
    have hs9':=hs8.call hs9'
    refine hs9'.alc fun b10 H10 hs10=>?_
    have him:IS H10 (some ⟨b3,0,none⟩) 8 (kints .u8 markP):=hs10.persGet 7 rfl
    have hpb:PB H10 (some ⟨b10,0,none⟩) 2 [markP,chuP kHDR (hdrP w (y:Int))]:=pb_blk (vs:=[(some ⟨b3,0,none⟩,8,8),(q9,25,c9)]) (hs10.block 0 rfl) ⟨him,hs10.is 1 rfl,trivial⟩
    have hfl:([markP,chuP kHDR (hdrP w (y:Int))]:List (List Int)).flatten=markP++chuP kHDR (hdrP w (y:Int)):=by simp
    have h33:(markP++chuP kHDR (hdrP w (y:Int))).length=33:=by rw[List.length_append,hcl];rfl
    refine c23 hpb (by omega) (by rw[hfl,h33];omega) fun q11 c11 H11 hs11=>⟨_,_,_,rfl,?_⟩
    rw[hfl,h33] at hs11 ⊢
    have hs11:=hs10.call hs11
    have hs11:=(hs11.front 9 rfl).take 2
    refine hs11.alc fun b12 H12 hs12=>hs12.put 0 rfl (by decide) rfl fun H13 hs13=>?_
    refine c26 (by omega) fun ba bn H14 hs14=>⟨_,_,_,rfl,?_⟩
    have hs14:=hs13.call hs14
    refine hs14.alcO fun D H15 x15 hs15=>?_
    intro lo hlo
    refine hs15.alcO fun L H16 x16 hs16=>?_
    intro hy
    obtain⟨az,haz⟩:=hs16.slSome 5 rfl (j:=0) (by rw[kints_len];omega)
    let pre:=markP++chuP kHDR (hdrP w (y:Int))
    let I:Nat→Heap→Prop:=fun i H'=> ∃q c',St H H' [.obj L (lo .ready none),.obj D (.deferred (some [])),.cell bn #[.int .i64 (n:Nat)] 3,.cell ba #[.slice zq z.length zc] 22,.cell b12 #[.slice q (pre++bodP n z i).length c'] 22,.sl zq z.length zc 5 1 (kints .u8 z),.sl q (pre++bodP n z i).length c' 5 1 (kints .u8 (pre++bodP n z i))]
    have hI0:I 0 H16:=by
     refine⟨q11,c11,?_⟩
     have e0:pre++bodP n z 0=markP++chuP kHDR (hdrP w (y:Int)):=by simp[pre,bodP]
     rw[e0,h33]
     exact hs16
    have hlen: ∀i,(i=0∨(i-1)*n<z.length)→(pre++bodP n z i).length≤14000033∧i≤1000000:=fun i hi=>by
     have h1:=bodP_total (n:=n) (z:=z) hi
     have h2:=m_le hn1 hi
     have:pre.length=33:=h33
     rw[List.length_append]
     omega
    refine(c37 (L:=L) (p:=zq) (c:=zc) hn1 hn2 (by omega) ((hs16.fs 5 rfl).le) (I:=I) (J:=fun _=>False) hI0 ?_ ?_ ?_ (fun _ h=>h.elim)).body Try.cal37
    ·rintro i H' ⟨q,c',hs⟩
     exact⟨cell_get (hs.block 3 rfl) rfl,cell_get (hs.block 2 rfl) rfl⟩
    ·rintro i H' hlt ⟨q,c',hs⟩
     obtain⟨hl1,hl2⟩:=hlen (i+1) (.inr (by rw[Nat.add_sub_cancel];exact hlt))
     rw[bodP,←List.append_assoc,List.length_append,chuP_len,show kDAT.length=4 from rfl] at hl1
     have hcl:(cutP n z i).length=min n (z.length-i*n):=by unfold cutP;simp
     have hcb:Bys (cutP n z i):=fun x hx=>hzr x (List.mem_of_mem_drop (List.mem_of_mem_take hx))
     refine hy _ _ _ H' _ (hs.getO 0 rfl) ⟨hs.getO 0 rfl,hs.stoO 0 rfl fun H17 hs17=>⟨q,_,c',cell_get (hs17.block 4 rfl) rfl,?_⟩⟩
     have hisz:IS H17 (Option.map (fun x=>Addr.add x (i*n)) zq) (min n (z.length-i*n)) (kints .u8 (cutP n z i)):=by
      have h1:=hs17.is 5 rfl
      rw[haz] at h1 ⊢
      have h2:=h1.part (i:=i*n) (n:=min n (z.length-i*n)) (by omega)
      have e:((kints .u8 z).drop (i*n)).take (min n (z.length-i*n))=kints .u8 (cutP n z i):=by
       unfold cutP kints
       rw[List.map_take,List.map_drop]
       refine List.take_eq_take_iff.2 ?_
       simp
      rw[e] at h2
      exact h2
     refine c24 hisz hcb (by omega) (by decide) fun q18 c18 H18 hs18=>⟨_,_,_,rfl,.inl hs18.ext,?_⟩
     rw[sDAT] at hs18 ⊢
     have hs18:=hs17.call hs18
     rw[chuP_len,show kDAT.length=4 from rfl] at hs18 ⊢
     refine hs18.appI 7 rfl (hs18.is 0 rfl) (kints_one _ _) rfl (by omega) (by omega) fun q19 c19 H19 hs19=>?_
     rw[←kints_append] at hs19
     refine hs19.put 5 rfl (by simp) rfl fun H20 hs20=>?_
     refine⟨hs20.getO 1 rfl,hs20.stoO 1 rfl fun H21 hs21=>⟨true,rfl,fun _=>⟨q19,c19,?_⟩,fun h=>by cases h⟩⟩
     have hs21:=hs21.tail
     have e:pre++bodP n z (i+1)=pre++bodP n z i++chuP kDAT (cutP n z i):=by rw[bodP];simp only[List.append_assoc]
     have e2:(pre++bodP n z (i+1)).length=(pre++bodP n z i).length+(4+(cutP n z i).length+8):=by rw[e,List.length_append,chuP_len];rfl
     rw[e2,e]
     exact hs21
    ·rintro i H' hge hii ⟨q,c',hs⟩
     obtain⟨hl1,hl2⟩:=hlen i hii
     refine .inl ⟨.ready,(fun h=>by cases h),hs.getO 0 rfl,hs.stoO 0 rfl fun H17 hs17=>⟨q,_,c',cell_get (hs17.block 4 rfl) rfl,?_⟩⟩
     refine c24 (xs:=[]) (p:=none) (l:=0) (c:=0) ⟨rfl,fun i v hv=>by simp[kints] at hv⟩ (fun x hx=>by cases hx) (by omega) (by decide) fun q18 c18 H18 hs18=>⟨_,_,_,rfl,.inl hs18.ext,?_⟩
     rw[sEND] at hs18 ⊢
     have hs18:=hs17.call hs18
     have h12:(chuP kEND []).length=12:=rfl
     rw[h12] at hs18 ⊢
     refine hs18.appI 7 rfl (hs18.is 0 rfl) (kints_one _ _) rfl (by omega) (by omega) fun q19 c19 H19 hs19=>?_
     rw[←kints_append] at hs19
     refine⟨hs19.getO 2 rfl,hs19.stoO 2 rfl fun H20 hs20=>?_⟩
     have hs20:=(hs20.front 7 rfl).take 1
     have e:encP w (y:Int) z n i=pre++bodP n z i++chuP kEND []:=by simp[encP,pre]
     have e2:(encP w (y:Int) z n i).length=(pre++bodP n z i).length+12:=by rw[e,List.length_append,h12]
     have hR:=hR i n q19 c19 H20 ok rfl hn hge hii
     rw[e2,e] at hR
     exact hR hs20
   refine br_dec (fun hp=>?_) (fun hp=>?_)
   ·have:=fin z.length (by rw[if_pos hp])
    exact this
   ·have:=fin part.toNat (by rw[if_neg hp])
    rw[show((part.toNat:Nat):Int)=part from by omega] at this
    exact this
 have:=lines 0 (Nat.zero_le _) H9 none 0 (some ⟨b8,0,none⟩) w4 ((hs9.nilSl 5 1).swap) (.inl ⟨rfl,rfl⟩)
 exact this
end Go.Proofs
namespace Go.Proofs
open Go.Sh
open Go.IntKind (wrap)
variable {H0 H:Heap} {σ:List Rs} {R:Value→Heap→Prop}
def rowP(w4:Nat)(lines:List Int):Nat→Option (List Int×List Int)
 |0=>some ([],List.replicate w4 0)
 |y+1=>match rowP w4 lines y with
  |none=>none
  |some (out,ab)=>if lines.getD (y*(w4+1)) 0>4 then none else some (out++unfP (lines.getD (y*(w4+1)) 0) ((lines.drop (y*(w4+1)+1)).take w4) ab,unfP (lines.getD (y*(w4+1)) 0) ((lines.drop (y*(w4+1)+1)).take w4) ab)
def pixP(w h:Int)(z:List Int):Option (Int×Int×List Int):=
 if SzP w h then match unzM z (h*(4*w+1)) with
  | .error _=>none
  | .ok lines=>if (lines.length:Int)=h*(4*w+1) then(rowP (4*w).toNat lines h.toNat).map fun x=>(w,h,x.1) else none
 else none
def decP(B:List Int):Option (Int×Int×List Int):=
 if B.length<8∨B.take 8≠markP then none else match prtP (B.drop 8) with
  |none=>none
  |some (hd,z)=>pixP (num4 hd) (num4 (hd.drop 4)) z
theorem rowP_none{w4:Nat}{lines:List Int}{i:Nat}(h:rowP w4 lines i=none): ∀j,i≤j→rowP w4 lines j=none:=by
 intro j hj
 induction j with
 |zero=>
  have:i=0:=by omega
  subst this;exact h
 |succ j ih=>
  rcases Nat.eq_or_lt_of_le hj with he|hlt
  ·rw[←he];exact h
  ·rw[rowP,ih (by omega)]
theorem rowP_len{w4 h:Nat}{lines:List Int}(hl:lines.length=h*(w4+1)): ∀{y:Nat} {o a:List Int},y≤h→rowP w4 lines y=some (o,a)→o.length=y*w4∧a.length=w4∧Bys o∧Bys a
 |0,o,a,_,he=>by
  cases he
  exact⟨by simp,by simp,fun x hx=>(by cases hx),fun x hx=>by rw[(List.mem_replicate.1 hx).2];exact⟨by decide,by decide⟩⟩
 |y+1,o,a,hy,he=>by
  rw[rowP] at he
  split at he
  ·cases he
  ·rename_i o' a' hr
   obtain⟨h1,h2,h3,h4⟩:=rowP_len hl (y:=y) (by omega) hr
   split at he
   ·cases he
   ·cases he
    have hb:(y+1)*(w4+1)≤h*(w4+1):=Nat.mul_le_mul_right _ hy
    rw[Nat.add_mul,Nat.one_mul] at hb
    have e:(unfP (lines.getD (y*(w4+1)) 0) ((lines.drop (y*(w4+1)+1)).take w4) a').length=w4:=by rw[unfP_len];simp;omega
    refine⟨by rw[List.length_append,h1,e,Nat.add_mul,Nat.one_mul],e,fun x hx=>?_,unfP_bys _ _ _⟩
    rcases List.mem_append.1 hx with hx|hx
    ·exact h3 x hx
    ·exact unfP_bys _ _ _ x hx
set_option maxHeartbeats 4000000 in
theorem c14{p:Option Addr}{l c:Nat}{B:List Int}(hB:IS H p l (kints .u8 B))(hlc:l≤c)(hx:Bys B)(hl:l≤10000000)
 (hno:decP B=none→ ∀H',Ext H H'→R (.tuple #[.int .i64 0,.int .i64 0,.slice none 0 0,.int .i64 50]) H')
 (hok: ∀w h out,decP B=some (w,h,out)→ ∀q c' H',St H H' [.sl q out.length c' 5 1 (kints .u8 out)]→R (.tuple #[.int .i64 w,.int .i64 h,.slice q out.length c',.int .i64 0]) H'):
 CallsH Try.prog 14 #[.slice p l c] H R:=by
 have hBl:=hB.length
 refine Try.s14 ?_
 unfold Try.S14
 refine(St.nil H).alc fun b2 H3 hs3=>hs3.alc fun b4 H5 hs5=>hs5.alc fun b6 H7 hs7=>hs7.alc fun b8 H9 hs9=>?_
 unfold decP at hok
 have fail:decP B=none→ ∀{v8 v6 v4 v2:Value} {H':Heap},St H H' [.cell b8 #[v8] 27,.cell b6 #[v6] 22,.cell b4 #[v4] 3,.cell b2 #[v2] 3]→
  stAt H' ⟨b2,0,none⟩ [.int .i64 0] fun H17=>stAt H17 ⟨b4,0,none⟩ [.int .i64 0] fun H18=>stAt H18 ⟨b6,0,none⟩ [.slice none 0 0] fun H19=>stAt H19 ⟨b8,0,none⟩ [.int .i64 50] fun H20=> ∃re21,cell H20 ⟨b2,0,none⟩=some (.int .i64 re21)∧ ∃re22,cell H20 ⟨b4,0,none⟩=some (.int .i64 re22)∧ ∃re23p re23l re23c,cell H20 ⟨b6,0,none⟩=some (.slice re23p re23l re23c)∧ ∃re24,cell H20 ⟨b8,0,none⟩=some (.int .i64 re24)∧R (.tuple #[.int .i64 re21,.int .i64 re22,.slice re23p re23l re23c,.int .i64 re24]) H20:=fun hd v8 v6 v4 v2 H' hs=>
  hs.put 3 rfl (by simp) rfl fun H1 hs=>hs.put 2 rfl (by simp) rfl fun H2 hs=>hs.put 1 rfl (by simp) rfl fun H3 hs=>hs.put 0 rfl (by simp) rfl fun H4 hs=>
   ⟨0,cell_get (hs.block 3 rfl) rfl,0,cell_get (hs.block 2 rfl) rfl,none,0,0,cell_get (hs.block 1 rfl) rfl,50,cell_get (hs.block 0 rfl) rfl,hno hd H4 hs.ext⟩
 unfold decP at fail hno
 intro J hJ
 have main:8≤l→B.take 8=markP→J [] H9:=fun h8 hmk=>by
  rw[if_neg (by rintro(h|h);omega;exact h hmk)] at fail hok hno
  refine hJ H9 (c27 (hB.ext hs9.ext) hlc hx h8 hl (fun hp H13 hp' hl' hc' zp zl zc e13=>⟨_,_,_,_,_,_,_,rfl,?_⟩) (fun hd z hp hq hc' zq zc H13 hdi hdc hdb hzb hzl hs13=>⟨_,_,_,_,_,_,_,rfl,br_f rfl ?_⟩))
  ·exact br_t rfl (fail (by rw[hp]) (hs9.step e13))
  rw[hp] at fail hok hno
  simp only at fail hok hno
  have hdi:=hdi.ext hs13.ext
  have hs13:=hs9.call hs13
  refine⟨by decide,by omega,?_⟩
  have hdl:=hdi.length
  have hd4:=hdi.cut hdc (i:=4) (j:=13) (by omega) (by omega)
  rw[List.take_of_length_le (by rw[List.length_drop];omega)] at hd4
  refine c28 hdi hdb (by omega) ⟨_,rfl,c28 hd4 (hdb.drop 4) (by omega) ⟨_,rfl,?_⟩⟩
  generalize num4 hd=w at fail hok hno ⊢
  generalize num4 (hd.drop 4)=h at fail hok hno ⊢
  refine hs13.put 4 rfl (by simp) rfl fun H31 hs31=>hs31.put 3 rfl (by simp) rfl fun H32 hs32=>⟨w,cell_get (hs32.block 4 rfl) rfl,h,cell_get (hs32.block 3 rfl) rfl,?_⟩
  refine c20 ⟨_,rfl,br_not (fun hn=>fail (by rw[pixP,if_neg (of_decide_eq_false hn)]) hs32.tail) (fun hsz=>?_)⟩
  have hsz:=of_decide_eq_true hsz
  have hsz2:=hsz
  obtain⟨hw1,hh1,hw2,hh2,hwh⟩:=hsz2
  rw[pixP,if_pos hsz] at fail hok hno
  refine⟨h,cell_get (hs32.block 3 rfl) rfl,w,cell_get (hs32.block 4 rfl) rfl,?_⟩
  -- the numbers
  obtain⟨w4,hw4⟩: ∃w4:Nat,(4*w).toNat=w4:=⟨_,rfl⟩
  obtain⟨hN,hhN⟩: ∃hN:Nat,h=hN:=⟨h.toNat,by omega⟩
  subst hhN
  have hw4':4*w=(w4:Int):=by omega
  rw[hw4,Int.toNat_natCast,hw4'] at fail hok hno
  have hmul:(hN:Int)*((w4:Int)+1)=((hN*(w4+1):Nat):Int):=by simp
  have hwl:hN*w4≤16777216:=by
   have e:(4*w)*(hN:Int)=4*(w*(hN:Int)):=Int.mul_assoc 4 w _
   rw[hw4',←Int.natCast_mul,Nat.mul_comm] at e
   omega
  have hnl:hN*(w4+1)≤16809984:=by rw[Nat.mul_add,Nat.mul_one];omega
  have W4:wrap .i64 (4*w)=(w4:Int):=by rw[wrap_id (by omega) (by omega)];omega
  have W5:wrap .i64 (wrap .i64 (4*w)+1)=((w4+1:Nat):Int):=by rw[W4,wrap_id (by omega) (by omega)];omega
  have W6:wrap .i64 ((hN:Int)*wrap .i64 (wrap .i64 (4*w)+1))=((hN*(w4+1):Nat):Int):=by
   rw[W5,←Int.natCast_mul,wrap_id (by omega) (by omega)]
  rw[W6]
  rw[hmul] at fail hok hno
  refine c29 (hs32.is 0 rfl) hzb ((hs32.fs 0 rfl).le) (by omega) (by omega) (fun k hk hu H49 e49=>⟨_,_,_,_,rfl,?_⟩) (fun lines hu H49 lq lc hlb hs49=>⟨_,_,_,_,rfl,?_⟩)
  ·have hs49:=hs32.step e49
   refine hs49.put 1 rfl (by simp) rfl fun H52 hs52=>?_
   intro J2 hJ2
   exact⟨k,cell_get (hs52.block 1 rfl) rfl,br_t (by simpa using hk) (fail (by rw[hu]) hs52.tail)⟩
  have hlb:Bys lines:=hlb
  have hs49:=hs32.call hs49
  refine hs49.put 2 rfl (by simp) rfl fun H52 hs52=>?_
  have hs52:=hs52.del 1
  rw[hu] at fail hok hno
  simp only at fail hok hno
  intro J2 hJ2
  refine⟨0,cell_get (hs52.block 1 rfl) rfl,br_f rfl ⟨hN,cell_get (hs52.block 3 rfl) rfl,w,cell_get (hs52.block 4 rfl) rfl,?_⟩⟩
  rw[W6]
  refine br_ne (fun hne=>fail (by rw[if_neg hne]) hs52.tail) (fun hel=>?_)
  rw[if_pos hel] at fail hok hno
  have hel:lines.length=hN*(w4+1):=by omega
  refine hJ2 H52 ⟨w,cell_get (hs52.block 4 rfl) rfl,?_⟩
  rw[W4,Int.toNat_natCast]
  refine⟨by omega,by omega,by omega,by omega,?_⟩
  have hs52:=(hs52.nilSl 5 1).perm (List.perm_append_comm (l₁:=[_]) (l₂:=[_,_,_,_,_]))
  refine hs52.alc fun b56 H57 hs57=>?_
  have e57:(List.toArray (reps w4 (Array.toList #[Value.int .u8 0]))).toList=kints .u8 (List.replicate w4 0):=by simp[reps_rep,kints]
  have hs57:=hs57.toSl 0 rfl (l:=w4) (k:=1) (by simp[reps_rep]) e57 (kints_one _ _)
  refine hs57.alc fun b58 H59 hs59=>hs59.put 0 rfl (by simp) rfl fun H60 hs60=>⟨w,cell_get (hs60.block 6 rfl) rfl,?_⟩
  rw[W5]
  refine c26 (by omega) fun ba bn H63 hs63=>⟨_,_,_,rfl,?_⟩
  have hs63:=hs60.call hs63
  refine hs63.alcO fun D H66 x66 hs66=>?_
  intro lo hlo
  refine hs66.alcO fun L H69 x69 hs69=>?_
  have hs69:=hs69.front 5 rfl
  intro hy
  let I:Nat→Heap→Prop:=fun i H'=> ∃out ab qo co qa ca,rowP w4 lines i=some (out,ab)∧i≤hN∧St H H' [.sl qa w4 ca 5 1 (kints .u8 ab),.obj L (lo .ready none),.obj D (.deferred (some [])),.cell bn #[.int .i64 ((w4+1:Nat):Int)] 3,.cell ba #[.slice lq lines.length lc] 22,.cell b58 #[.slice qa w4 ca] 22,
   .sl lq lines.length lc 5 1 (kints .u8 lines),.cell b8 #[.int .i64 0] 27,.cell b6 #[.slice qo out.length co] 22,.cell b4 #[.int .i64 hN] 3,.cell b2 #[.int .i64 w] 3,.sl qo out.length co 5 1 (kints .u8 out)]
  let J3:Heap→Prop:=fun H'=>rowP w4 lines hN=none∧ ∃τ,St H H' (.obj L (lo .done (some .ret)):: .obj D (.deferred (some [])):: .cell b8 #[.int .i64 50] 27:: .cell b6 #[.slice none 0 0] 22:: .cell b4 #[.int .i64 0] 3:: .cell b2 #[.int .i64 0] 3::τ)
  have hI0:I 0 H69:=⟨[],List.replicate w4 0,none,0,some ⟨b56,0,none⟩,w4,rfl,Nat.zero_le _,hs69⟩
  have hbnd: ∀{i o a},i≤hN→rowP w4 lines i=some (o,a)→o.length≤16777216:=fun{i o a} hi hr=>by
   have h1:=(rowP_len hel hi hr).1
   have h2:i*w4≤hN*w4:=Nat.mul_le_mul_right _ hi
   omega
  refine(c37 (L:=L) (p:=lq) (c:=lc) (l:=lines.length) (n:=w4+1) (by omega) (by omega) (by omega) ((hs69.fs 6 rfl).le) (I:=I) (J:=J3) hI0 ?_ ?_ ?_ ?_).body Try.cal37
  ·rintro i H' ⟨out,ab,qo,co,qa,ca,_,_,hs⟩
   exact⟨cell_get (hs.block 4 rfl) rfl,cell_get (hs.block 3 rfl) rfl⟩
  ·rintro i H' hlt ⟨out,ab,qo,co,qa,ca,hrow,hiN,hs⟩
   obtain⟨rl1,rl2,rb1,rb2⟩:=rowP_len hel hiN hrow
   rw[hel] at hlt
   have hiN':i<hN:=Nat.lt_of_mul_lt_mul_right hlt
   have hfull:(i+1)*(w4+1)≤hN*(w4+1):=Nat.mul_le_mul_right _ hiN'
   rw[Nat.add_mul,Nat.one_mul] at hfull
   rw[show min (w4+1) (lines.length-i*(w4+1))=w4+1 from by rw[hel];omega]
   refine hy _ _ _ H' _ (hs.getO 1 rfl) ⟨hs.getO 1 rfl,hs.stoO 1 rfl fun H78 hs78=>?_⟩
   have hlen1:(cutP (w4+1) lines i).length=w4+1:=by unfold cutP;simp;omega
   have hch:IS H78 (Option.map (fun x=>Addr.add x (i*(w4+1))) lq) (w4+1) (kints .u8 (cutP (w4+1) lines i)):=by
    have h1:=hs78.is 6 rfl
    obtain⟨az,haz⟩:=hs78.slSome 6 rfl (j:=0) (by rw[kints_len];omega)
    rw[haz] at h1 ⊢
    have h2:=h1.part (i:=i*(w4+1)) (n:=w4+1) (by omega)
    simpa[kints,cutP,List.map_drop,List.map_take] using h2
   have hcb:Bys (cutP (w4+1) lines i):=fun x hx'=>hlb x (List.mem_of_mem_drop (List.mem_of_mem_take hx'))
   have e0:(cutP (w4+1) lines i).getD 0 0=lines.getD (i*(w4+1)) 0:=by
    unfold cutP
    simp only[List.getD_eq_getElem?_getD]
    rw[List.getElem?_take_of_lt (by omega),List.getElem?_drop,Nat.add_zero]
   have g0:=get_gD (cutP (w4+1) lines i) 0 (i:=0) (by omega)
   rw[e0] at g0
   have hk0:=hlb.getD (i*(w4+1))
   refine hch.rd (i:=0) (by omega) (by omega) g0 (br_dec (fun hbig=>?_) (fun hsm=>?_))
   ·refine hs78.put 10 rfl (by simp) rfl fun H1 hs1=>hs1.put 9 rfl (by simp) rfl fun H2 hs2=>hs2.put 8 rfl (by simp) rfl fun H3 hs3=>hs3.put 7 rfl (by simp) rfl fun H4 hs4=>⟨hs4.getO 1 rfl,hs4.stoO 1 rfl fun H5 hs5=>⟨false,rfl,fun h=>(by cases h),fun _=>⟨?_,[.sl qo out.length co 5 1 (kints .u8 out)],?_⟩⟩⟩
    ·refine rowP_none (i:=i+1) ?_ hN hiN'
     rw[rowP,hrow]
     simp only
     rw[if_pos hbig]
    ·exact(((hs5.tail.del 2).del 2).del 2).del 2
   ·have hcut1:=hch.cut (c:=w4+1) (Nat.le_refl _) (i:=1) (j:=w4+1) (by omega) (Nat.le_refl _)
    have e1:((cutP (w4+1) lines i).drop 1).take (w4+1-1)=(lines.drop (i*(w4+1)+1)).take w4:=by
     unfold cutP
     rw[Nat.add_sub_cancel,List.drop_take,List.drop_drop,List.take_take,Nat.add_sub_cancel,Nat.min_self]
    rw[e1] at hcut1
    have hul:=unfP_len (lines.getD (i*(w4+1)) 0) ((lines.drop (i*(w4+1)+1)).take w4) ab
    have htl:((lines.drop (i*(w4+1)+1)).take w4).length=w4:=by simp;omega
    have hob:=hbnd hiN hrow
    refine hch.rd (i:=0) (by omega) (by omega) g0 ⟨by decide,by omega,qa,w4,ca,cell_get (hs78.block 5 rfl) rfl,?_⟩
    rw[w8 hk0]
    refine c8 hcut1 (hs78.is 0 rfl) ((hlb.drop _).take _) rb2 (by omega) (fun hn=>absurd ⟨hk0.1,by omega,by omega⟩ hn) fun _ q' m' H90 hs90=>⟨_,_,_,rfl,?_⟩
    rw[show w4+1-Int.toNat 1=w4 from Nat.add_sub_cancel _ _] at hs90 ⊢
    have hs90:=hs78.call hs90
    generalize hrr:unfP (lines.getD (i*(w4+1)) 0) ((lines.drop (i*(w4+1)+1)).take w4) ab=rr at*
    refine hs90.put 6 rfl (by simp) rfl fun H92 hs92=>⟨qo,_,co,cell_get (hs92.block 9 rfl) rfl,q',w4,m',cell_get (hs92.block 6 rfl) rfl,?_⟩
    refine hs92.appI 12 rfl (hs92.is 0 rfl) (kints_one _ _) rfl (by omega) (by omega) fun q19 c19 H96 hs96=>?_
    rw[←kints_append] at hs96
    refine hs96.put 9 rfl (by simp) rfl fun H97 hs97=>⟨hs97.getO 2 rfl,hs97.stoO 2 rfl fun H98 hs98=>⟨true,rfl,fun _=>⟨out++rr,rr,q19,c19,q',m',?_,hiN',?_⟩,fun h=>by cases h⟩⟩
    ·rw[rowP,hrow]
     simp only
     rw[if_neg hsm,hrr]
    ·have el:(out++rr).length=out.length+w4:=by rw[List.length_append,hul,htl]
     rw[el]
     exact hs98.del 1
  ·rintro i H' hge hii ⟨out,ab,qo,co,qa,ca,hrow,hiN,hs⟩
   rw[hel] at hge
   have hiN':i=hN:=by
    have:=Nat.le_of_mul_le_mul_right hge (show 0<w4+1 by omega)
    omega
   subst hiN'
   refine .inl ⟨.ready,(fun h=>by cases h),hs.getO 1 rfl,hs.stoO 1 rfl fun H75 hs75=>⟨w,cell_get (hs75.block 10 rfl) rfl,(i:Int),cell_get (hs75.block 9 rfl) rfl,qo,_,co,cell_get (hs75.block 8 rfl) rfl,?_⟩⟩
   refine hs75.put 10 rfl (by simp) rfl fun H1 hs1=>⟨.inr ⟨⟨qo,_,co,cell_get (hs1.block 8 rfl) rfl,rfl⟩,⟨(i:Int),cell_get (hs1.block 9 rfl) rfl,rfl⟩⟩,?_⟩
   refine hs1.put 9 rfl (by simp) rfl fun H2 hs2=>⟨.inr ⟨qo,_,co,cell_get (hs2.block 8 rfl) rfl,rfl⟩,?_⟩
   refine hs2.put 8 rfl (by simp) rfl fun H3 hs3=>hs3.put 7 rfl (by simp) rfl fun H4 hs4=>⟨hs4.getO 2 rfl,hs4.stoO 2 rfl fun H5 hs5=>?_⟩
   refine⟨w,cell_get (hs5.block 10 rfl) rfl,(i:Int),cell_get (hs5.block 9 rfl) rfl,qo,_,co,cell_get (hs5.block 8 rfl) rfl,0,cell_get (hs5.block 7 rfl) rfl,?_⟩
   exact hok w i out (by rw[hrow];rfl) qo co H5 ((hs5.front 11 rfl).take 1)
  ·rintro H' ⟨hn,τ,hs⟩
   refine .inr ⟨hs.getO 0 rfl,hs.stoO 0 rfl fun H76 hs76=>⟨hs76.getO 1 rfl,hs76.stoO 1 rfl fun H77 hs77=>?_⟩⟩
   exact⟨0,cell_get (hs77.block 5 rfl) rfl,0,cell_get (hs77.block 4 rfl) rfl,none,0,0,cell_get (hs77.block 3 rfl) rfl,50,cell_get (hs77.block 2 rfl) rfl,hno (by rw[hn];rfl) H77 hs77.ext⟩
 have hcut:=hB.cut hlc (i:=0) (j:=8)
 refine br_dec (fun hlt=>fail (by rw[if_pos (.inl (by omega))]) hs9) (fun hge=>?_)
 have hcut:=hcut (by omega) (by omega)
 rw[List.drop_zero] at hcut
 refine⟨by decide,by omega,B.take 8,is_bsOf (hcut.ext hs9.ext),?_⟩
 have tM:textOf markP=ByteArray.mk #[137,80,78,71,13,10,26,10]:=by rw[tx_eq];rfl
 rw[←tM,tx_beq (hx.take 8) (by unfold markP;decide)]
 refine br_not (fun hn=>fail (by rw[if_pos (.inr (of_decide_eq_false hn))]) hs9) (fun hy=>main (by omega) (of_decide_eq_true hy))
end Go.Proofs
