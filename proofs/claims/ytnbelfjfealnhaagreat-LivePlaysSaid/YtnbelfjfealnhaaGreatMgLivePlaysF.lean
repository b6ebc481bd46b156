/-
  OWN WORK. Several texts in one: RnE, TrU, TrV, RnF, TrW, TrX, TrY, TrZ, RnG, RnH, RnI, RnJ, TtA, TtB.
-/
import Derived.Test.YtnbelfjfealnhaaGreatMgLivePlaysE

set_option linter.unusedVariables false
set_option linter.unusedSimpArgs false
set_option maxRecDepth 100000
namespace Go.Proofs
open Go.Sh
variable {H0 H:Heap} {σ:List Rs} {R:Value→Heap→Prop}
def picAt(w h:Int)(P:List Int)(x y:Int):Int:=if x<0∨x≥w∨y<0∨y≥h then 0 else P.getD (y*w+x).toNat 0
def wsum(x0 x1 x2 x3 s t:Int):Int:=(32768+x0*((256-s)*(256-t))+x1*(s*(256-t))+x2*((256-s)*t)+x3*(s*t))/65536
def smC(w h:Int)(P:List Int)(u v:Int):C4:=
 let i:=(u-32768)/65536;let j:=(v-32768)/65536;let s:=(u-32768)/256%256;let t:=(v-32768)/256%256
 let a:=spl (picAt w h P i j);let b:=spl (picAt w h P (i+1) j);let c:=spl (picAt w h P i (j+1));let d:=spl (picAt w h P (i+1) (j+1))
 ⟨wsum a.r b.r c.r d.r s t,wsum a.g b.g c.g d.g s t,wsum a.b b.b c.b d.b s t,wsum a.a b.a c.a d.a s t⟩
def atU(b0 b1 b4 x y:Int):Int:=(b0*(2*x+1)+b1*(2*y+1))/2+b4
def atP(w h:Int)(P:List Int)(m:M6)(x y:Int)(smooth:Bool):Int:=
 if smooth then joinP (smC w h P (atU m.a m.b m.e x y) (atU m.c m.d m.f x y)) else picAt w h P (atU m.a m.b m.e x y/65536) (atU m.c m.d m.f x y/65536)
theorem wsum_mono{x0 x1 x2 x3 y0 y1 y2 y3 s t:Int}(hs:byte s)(ht:byte t)(h0:x0≤y0)(h1:x1≤y1)(h2:x2≤y2)(h3:x3≤y3):wsum x0 x1 x2 x3 s t≤wsum y0 y1 y2 y3 s t:=by
 unfold byte at hs ht
 have e0:=Int.mul_le_mul_of_nonneg_right h0 (Int.mul_nonneg (show 0≤256-s by omega) (show 0≤256-t by omega))
 have e1:=Int.mul_le_mul_of_nonneg_right h1 (Int.mul_nonneg (show 0≤s by omega) (show 0≤256-t by omega))
 have e2:=Int.mul_le_mul_of_nonneg_right h2 (Int.mul_nonneg (show 0≤256-s by omega) (show 0≤t by omega))
 have e3:=Int.mul_le_mul_of_nonneg_right h3 (Int.mul_nonneg (show 0≤s by omega) (show 0≤t by omega))
 unfold wsum
 generalize x0*((256-s)*(256-t))=p0 at*
 generalize x1*(s*(256-t))=p1 at*
 generalize x2*((256-s)*t)=p2 at*
 generalize x3*(s*t)=p3 at*
 generalize y0*((256-s)*(256-t))=q0 at*
 generalize y1*(s*(256-t))=q1 at*
 generalize y2*((256-s)*t)=q2 at*
 generalize y3*(s*t)=q3 at*
 omega
theorem wsum_const(x s t:Int):wsum x x x x s t=x:=by
 have e:(256-s)*(256-t)+s*(256-t)+(256-s)*t+s*t=65536:=by
  rw[Int.sub_mul,Int.mul_sub,Int.mul_sub,Int.sub_mul];omega
 unfold wsum
 have e2:x*((256-s)*(256-t))+x*(s*(256-t))+x*((256-s)*t)+x*(s*t)=x*65536:=by
  rw[←Int.mul_add,←Int.mul_add,←Int.mul_add,e]
 generalize x*((256-s)*(256-t))=p0 at*
 generalize x*(s*(256-t))=p1 at*
 generalize x*((256-s)*t)=p2 at*
 generalize x*(s*t)=p3 at*
 omega
theorem wsum_bd{x0 x1 x2 x3 s t:Int}(hs:byte s)(ht:byte t)(h0:byte x0)(h1:byte x1)(h2:byte x2)(h3:byte x3):byte (wsum x0 x1 x2 x3 s t):=by
 have l:=wsum_mono hs ht h0.1 h1.1 h2.1 h3.1
 have u:=wsum_mono hs ht h0.2 h1.2 h2.2 h3.2
 rw[wsum_const] at l u
 exact⟨l,u⟩
structure PicOk(w h:Int)(P:List Int):Prop where
 hw:0≤w∧w≤32768
 hh:0≤h∧h≤32768
 len:(P.length:Int)=w*h
 px:P.all pixelB=true
theorem in_pic{w h x y:Int}{n:Nat}(hl:(n:Int)=w*h)(hx:0≤x∧x<w)(hy:0≤y∧y<h):0≤y*w+x∧y*w+x<n∧0≤y*w:=by
 have h1:0≤y*w:=Int.mul_nonneg hy.1 (by omega)
 have h2:(y+1)*w≤h*w:=Int.mul_le_mul_of_nonneg_right (by omega) (by omega)
 rw[Int.add_mul,Int.one_mul,Int.mul_comm h w] at h2
 omega
theorem PicOk.at{w h:Int}{P:List Int}(hp:PicOk w h P)(x y:Int):pixelB (picAt w h P x y)=true:=by
 unfold picAt
 split
 ·exact pixZ0
 ·rename_i hn
  have:=in_pic hp.len (x:=x) (y:=y) (by omega) (by omega)
  have hlt:(y*w+x).toNat<P.length:=by omega
  rw[List.getD_eq_getElem?_getD,List.getElem?_eq_getElem hlt]
  exact List.all_eq_true.1 hp.px _ (List.getElem_mem hlt)
theorem spl_ok{v:Int}(h:pixelB v=true):OkC (spl v):=(pixelB_iff.1 h).2
theorem smC_ok{w h:Int}{P:List Int}(hp:PicOk w h P)(u v:Int):OkC (smC w h P u v):=by
 have hs:byte ((u-32768)/256%256):=by unfold byte;omega
 have ht:byte ((v-32768)/256%256):=by unfold byte;omega
 have a:=spl_ok (hp.at ((u-32768)/65536) ((v-32768)/65536))
 have b:=spl_ok (hp.at ((u-32768)/65536+1) ((v-32768)/65536))
 have c:=spl_ok (hp.at ((u-32768)/65536) ((v-32768)/65536+1))
 have d:=spl_ok (hp.at ((u-32768)/65536+1) ((v-32768)/65536+1))
 obtain⟨a1,a2,a3,a4⟩:=a.bytes
 obtain⟨b1,b2,b3,b4⟩:=b.bytes
 obtain⟨c1,c2,c3,c4⟩:=c.bytes
 obtain⟨d1,d2,d3,d4⟩:=d.bytes
 exact⟨⟨(wsum_bd hs ht a1 b1 c1 d1).1,wsum_mono hs ht a.r.2 b.r.2 c.r.2 d.r.2⟩,⟨(wsum_bd hs ht a2 b2 c2 d2).1,wsum_mono hs ht a.g.2 b.g.2 c.g.2 d.g.2⟩,⟨(wsum_bd hs ht a3 b3 c3 d3).1,wsum_mono hs ht a.b.2 b.b.2 c.b.2 d.b.2⟩,(wsum_bd hs ht a4 b4 c4 d4).2⟩
theorem atP_ok{w h:Int}{P:List Int}(hp:PicOk w h P)(m:M6)(x y:Int)(sm:Bool):pixelB (atP w h P m x y sm)=true:=by
 unfold atP
 split
 ·exact ok_join (smC_ok hp _ _)
 ·exact hp.at _ _
def picA(w h:Int)(p:Option Addr)(l c:Nat):Array Value:=#[.int .i64 w,.int .i64 h,.slice p l c]
theorem c136{w h:Int}{p:Option Addr}{l c:Nat}{P:List Int}{x y:Int}(hp:IS H p l (ints P))(hw:0≤w∧w≤32768)(hh:0≤h∧h≤32768)(hl:(P.length:Int)=w*h)(hR: ∀H',Ext H H'→R (.int .i64 (picAt w h P x y)) H'):CallsH Tryz.prog 136 #[.agg (picA w h p l c),.int .i64 x,.int .i64 y] H R:=by
 refine Tryz.s136 ?_
 unfold Tryz.S136
 refine(St.nil H).alc fun b4 H5 hs5=>?_
 intro J6 hJ6
 have out:(x<0∨x≥w∨y<0∨y≥h)→R (.int .i64 0) H5:=fun ho=>by
  have:=hR H5 hs5.ext
  rw[show picAt w h P x y=0 from by unfold picAt;rw[if_pos ho]] at this;exact this
 refine br_dec (fun h1=>out (.inl h1)) fun h1=>⟨w,hs5.get 0 rfl (j:=0) rfl,br_dec (fun h2=>out (.inr (.inl h2))) fun h2=>br_dec (fun h3=>out (.inr (.inr (.inl h3)))) fun h3=>⟨h,hs5.get 0 rfl (j:=1) rfl,br_dec (fun h4=>out (.inr (.inr (.inr h4)))) fun h4=>hJ6 _ ?_⟩⟩
 have hin:=in_pic hl (x:=x) (y:=y) (by omega) (by omega)
 have hlen:=hp.length
 have hwh:w*h≤32768*32768:=Int.mul_le_mul hw.2 hh.2 hh.1 (by decide)
 refine⟨p,l,c,hs5.get 0 rfl (j:=2) rfl,w,hs5.get 0 rfl (j:=0) rfl,?_⟩
 rw[wrap_id (n:=y*w) (by omega) (by omega),wrap_id (n:=y*w+x) (by omega) (by omega)]
 refine rdG (hp.ext hs5.ext) hin.1 (by omega) ?_
 have:=hR H5 hs5.ext
 rw[show picAt w h P x y=P.getD (y*w+x).toNat 0 from by unfold picAt;rw[if_neg (by omega)]] at this
 exact this
theorem c135{w h:Int}{p:Option Addr}{l c:Nat}{P:List Int}{u v:Int}(hp:IS H p l (ints P))(hok:PicOk w h P)(hu: -1000000000000000≤u∧u≤1000000000000000)(hv: -1000000000000000≤v∧v≤1000000000000000)(hR: ∀H',Ext H H'→R (.int .i64 (joinP (smC w h P u v))) H'):CallsH Tryz.prog 135 #[.agg (picA w h p l c),.int .i64 u,.int .i64 v] H R:=by
 refine Tryz.s135 ?_
 unfold Tryz.S135
 have e16: ∀z,shrI .i64 z (16:Int)=z/65536:=shr16'
 have e8: ∀z,shrI .i64 z (8:Int)=z/256:=shr8'
 simp only[wrap_id (n:=u-32768) (by omega) (by omega),wrap_id (n:=v-32768) (by omega) (by omega),e16,e8,and255,wrap_id (n:=(u-32768)/65536+1) (by omega) (by omega),wrap_id (n:=(v-32768)/65536+1) (by omega) (by omega)]
 have hs:byte ((u-32768)/256%256):=by unfold byte;omega
 have ht:byte ((v-32768)/256%256):=by unfold byte;omega
 generalize hi:(u-32768)/65536=i
 generalize hj:(v-32768)/65536=j
 generalize hsx:(u-32768)/256%256=s at hs ⊢
 generalize htx:(v-32768)/256%256=t at ht ⊢
 have hsm:smC w h P u v=⟨wsum (spl (picAt w h P i j)).r (spl (picAt w h P (i+1) j)).r (spl (picAt w h P i (j+1))).r (spl (picAt w h P (i+1) (j+1))).r s t,wsum (spl (picAt w h P i j)).g (spl (picAt w h P (i+1) j)).g (spl (picAt w h P i (j+1))).g (spl (picAt w h P (i+1) (j+1))).g s t,wsum (spl (picAt w h P i j)).b (spl (picAt w h P (i+1) j)).b (spl (picAt w h P i (j+1))).b (spl (picAt w h P (i+1) (j+1))).b s t,wsum (spl (picAt w h P i j)).a (spl (picAt w h P (i+1) j)).a (spl (picAt w h P i (j+1))).a (spl (picAt w h P (i+1) (j+1))).a s t⟩:=by
  unfold smC;rw[hi,hj,hsx,htx]
 have hsmok:=smC_ok hok u v
 rw[hsm] at hR hsmok
 have y0:=spl_byte (picAt w h P i j)
 have y1:=spl_byte (picAt w h P (i+1) j)
 have y2:=spl_byte (picAt w h P i (j+1))
 have y3:=spl_byte (picAt w h P (i+1) (j+1))
 have at_: ∀{H1:Heap} {R1:Value→Heap→Prop} (x y:Int),Ext H H1→(∀H',Ext H1 H'→R1 (.int .i64 (picAt w h P x y)) H')→CallsH Tryz.prog 136 #[.agg (picA w h p l c),.int .i64 x,.int .i64 y] H1 R1:=fun x y he hr=>c136 (hp.ext he) hok.hw hok.hh hok.len hr
 have sp_: ∀{H1:Heap} {R1:Value→Heap→Prop} (z:Int),(∀H',Ext H1 H'→R1 (.agg (ints (spl z).l).toArray) H')→CallsH Tryz.prog 102 #[.int .i64 z] H1 R1:=fun z hr=>c102 hr
 obtain⟨A,hA⟩: ∃A,A=spl (picAt w h P i j):=⟨_,rfl⟩
 obtain⟨B,hB⟩: ∃B,B=spl (picAt w h P (i+1) j):=⟨_,rfl⟩
 obtain⟨C,hC⟩: ∃C,C=spl (picAt w h P i (j+1)):=⟨_,rfl⟩
 obtain⟨D,hD⟩: ∃D,D=spl (picAt w h P (i+1) (j+1)):=⟨_,rfl⟩
 rw[←hA,←hB,←hC,←hD] at hR hsmok
 rw[←hA] at y0
 rw[←hB] at y1
 rw[←hC] at y2
 rw[←hD] at y3
 have w0:IntKind.wrap .i64 (IntKind.wrap .i64 (256-s)*IntKind.wrap .i64 (256-t))=(256-s)*(256-t):=by
  unfold byte at hs ht
  have:=mul_bd (x:=256-s) (y:=256-t) (A:=256) (B:=256) (by omega) (by omega)
  rw[wrap_id (n:=256-s) (by omega) (by omega),wrap_id (n:=256-t) (by omega) (by omega),wrap_id (by omega) (by omega)]
 have w1:IntKind.wrap .i64 (s*IntKind.wrap .i64 (256-t))=s*(256-t):=by
  unfold byte at hs ht
  have:=mul_bd (x:=s) (y:=256-t) (A:=256) (B:=256) (by omega) (by omega)
  rw[wrap_id (n:=256-t) (by omega) (by omega),wrap_id (by omega) (by omega)]
 have w2:IntKind.wrap .i64 (IntKind.wrap .i64 (256-s)*t)=(256-s)*t:=by
  unfold byte at hs ht
  have:=mul_bd (x:=256-s) (y:=t) (A:=256) (B:=256) (by omega) (by omega)
  rw[wrap_id (n:=256-s) (by omega) (by omega),wrap_id (by omega) (by omega)]
 have w3:IntKind.wrap .i64 (s*t)=s*t:=by
  unfold byte at hs ht
  have:=mul_bd (x:=s) (y:=t) (A:=256) (B:=256) (by omega) (by omega)
  rw[wrap_id (by omega) (by omega)]
 rw[w0,w1,w2,w3]
 have wb:(0≤(256-s)*(256-t)∧(256-s)*(256-t)≤65536)∧(0≤s*(256-t)∧s*(256-t)≤65536)∧(0≤(256-s)*t∧(256-s)*t≤65536)∧(0≤s*t∧s*t≤65536):=by
  unfold byte at hs ht
  have q0:=mul_bd (x:=256-s) (y:=256-t) (A:=256) (B:=256) (by omega) (by omega)
  have q1:=mul_bd (x:=s) (y:=256-t) (A:=256) (B:=256) (by omega) (by omega)
  have q2:=mul_bd (x:=256-s) (y:=t) (A:=256) (B:=256) (by omega) (by omega)
  have q3:=mul_bd (x:=s) (y:=t) (A:=256) (B:=256) (by omega) (by omega)
  have p0:=Int.mul_nonneg (show 0≤256-s by omega) (show 0≤256-t by omega)
  have p1:=Int.mul_nonneg (show 0≤s by omega) (show 0≤256-t by omega)
  have p2:=Int.mul_nonneg (show 0≤256-s by omega) (show 0≤t by omega)
  have p3:=Int.mul_nonneg (show 0≤s by omega) (show 0≤t by omega)
  omega
 -- one product more
 have add1: ∀{acc x wt:Int},byte x→0≤wt∧wt≤65536→ -1000000000000≤acc∧acc≤1000000000000→IntKind.wrap .i64 (acc+IntKind.wrap .i64 (x*wt))=acc+x*wt∧0≤x*wt∧x*wt≤16777216:=by
  intro acc x wt hx hw ha
  have p:=Int.mul_nonneg hx.1 hw.1
  have q:=Int.mul_le_mul_of_nonneg_right hx.2 hw.1
  have q2:x*wt≤16777216:=by omega
  rw[wrap_id (n:=x*wt) (by omega) (by omega),wrap_id (by omega) (by omega)]
  exact⟨rfl,p,q2⟩
 refine(St.nil H).alc fun b4 H5 hs5=>⟨by decide,by decide,by decide,by decide,?_⟩
 intro J6 hJ6
 have after: ∀(bf:Nat) (H8:Heap),St H H8 [.cell bf (ints (A.l++B.l++C.l++D.l)).toArray 171]→J6 [.pointer (some ⟨bf,0,none⟩)] H8:=fun bf H8 hs8=>by
  refine hJ6 _ _ (hs8.alc fun b9 H10 hs10=>⟨rfl,hs10.putAllA 0 (l:=[(256-s)*(256-t),s*(256-t),(256-s)*t,s*t]) rfl rfl fun H11 hs11=>hs11.alc fun b12 H13 hs13=>?_⟩)
  intro X14 hX14
  have col: ∀(c:Nat) (H1:Heap) (L:List Int) (x0 x1 x2 x3:Int),c<4→L.length=4→(A.l++B.l++C.l++D.l)[c]?=some x0→(A.l++B.l++C.l++D.l)[4+c]?=some x1→(A.l++B.l++C.l++D.l)[8+c]?=some x2→(A.l++B.l++C.l++D.l)[12+c]?=some x3→byte x0→byte x1→byte x2→byte x3→
   St H H1 [.cell b12 (ints L).toArray 106,.cell b9 (ints [(256-s)*(256-t),s*(256-t),(256-s)*t,s*t]).toArray 106,.cell bf (ints (A.l++B.l++C.l++D.l)).toArray 171]→
   (∀H2,St H H2 [.cell b12 (ints (L.set c (wsum x0 x1 x2 x3 s t))).toArray 106,.cell b9 (ints [(256-s)*(256-t),s*(256-t),(256-s)*t,s*t]).toArray 106,.cell bf (ints (A.l++B.l++C.l++D.l)).toArray 171]→X14 [.int .i64 ((c+1:Nat):Int)] H2)→X14 [.int .i64 (c:Nat)] H1:=by
   intro c H1 L x0 x1 x2 x3 hc hL g0 g1 g2 g3 z0 z1 z2 z3 hs1 hK
   obtain⟨v0,v1,v2,v3⟩:=wb
   refine hX14 _ _ (br_y (by omega) ⟨_,rfl,rowIn_whole (hs1.block 1 rfl),?_⟩)
   intro X18 hX18
   have rd: ∀(k:Nat) (x:Int),(A.l++B.l++C.l++D.l)[4*k+c]?=some x→Sh.cell H1 (Addr.add (Addr.add ⟨bf,0,none⟩ (k*4)) (Int.toNat (c:Int)*1))=some (.int .i64 x):=fun k x hx=>by
    rw[Int.toNat_natCast,Nat.mul_one,add_none,add_none,Nat.zero_add,Nat.mul_comm k 4]
    exact hs1.rdA 2 rfl hx
   obtain⟨a0,p0,r0⟩:=add1 (acc:=32768) z0 v0 (by omega)
   obtain⟨a1,p1,r1⟩:=add1 (acc:=32768+x0*((256-s)*(256-t))) z1 v1 (by omega)
   obtain⟨a2,p2,r2⟩:=add1 (acc:=32768+x0*((256-s)*(256-t))+x1*(s*(256-t))) z2 v2 (by omega)
   obtain⟨a3,p3,r3⟩:=add1 (acc:=32768+x0*((256-s)*(256-t))+x1*(s*(256-t))+x2*((256-s)*t)) z3 v3 (by omega)
   refine hX18 _ _ _ (br_y (by decide) ⟨by decide,by decide,_,rfl,by decide,by decide,by omega,by omega,x0,rd 0 x0 (by simpa using g0),?_⟩)
   rw[a0]
   refine hX18 _ _ _ (br_y (by decide) ⟨by decide,by decide,_,rfl,by decide,by decide,by omega,by omega,x1,rd 1 x1 g1,?_⟩)
   rw[a1]
   refine hX18 _ _ _ (br_y (by decide) ⟨by decide,by decide,_,rfl,by decide,by decide,by omega,by omega,x2,rd 2 x2 g2,?_⟩)
   rw[a2]
   refine hX18 _ _ _ (br_y (by decide) ⟨by decide,by decide,_,rfl,by decide,by decide,by omega,by omega,x3,rd 3 x3 g3,?_⟩)
   rw[a3]
   refine hX18 _ _ _ (br_n (by decide) ⟨by decide,by omega,by omega,?_⟩)
   rw[Int.toNat_natCast,Nat.mul_one,add_none,Nat.zero_add]
   refine hs1.putA 0 rfl (by omega) fun H2 hs2=>?_
   have:=hK H2 hs2
   rw[wrap_id (by omega) (by omega)]
   exact this
  refine col 0 H13 [0,0,0,0] A.r B.r C.r D.r (by decide) rfl rfl rfl rfl rfl y0.1 y1.1 y2.1 y3.1 hs13 fun H14 hs14=>?_
  refine col 1 H14 _ A.g B.g C.g D.g (by decide) (by simp) rfl rfl rfl rfl y0.2.1 y1.2.1 y2.2.1 y3.2.1 hs14 fun H15 hs15=>?_
  refine col 2 H15 _ A.b B.b C.b D.b (by decide) (by simp) rfl rfl rfl rfl y0.2.2.1 y1.2.2.1 y2.2.2.1 y3.2.2.1 hs15 fun H16 hs16=>?_
  refine col 3 H16 _ A.a B.a C.a D.a (by decide) (by simp) rfl rfl rfl rfl y0.2.2.2 y1.2.2.2 y2.2.2.2 y3.2.2.2 hs16 fun H17 hs17=>?_
  refine hX14 _ _ (br_n (by decide) ⟨_,rfl,rowIn_whole (hs17.block 0 rfl),?_⟩)
  obtain⟨q1,q2,q3,q4⟩:=hsmok.bytes
  exact c115 q1 q2 q3 q4 fun H18 he18=>⟨_,rfl,hR H18 (hs17.step he18).ext⟩
 have rowE4: ∀{H1:Heap},Ext H5 H1→rowIn H1 ⟨b4,0,none⟩ (picA w h p l c):=fun he=>rowAt_ext he (rowIn_whole (hs5.block 0 rfl))
 refine⟨picA w h p l c,rfl,rowE4 (Ext.refl _),picA w h p l c,rfl,rowE4 (Ext.refl _),picA w h p l c,rfl,rowE4 (Ext.refl _),picA w h p l c,rfl,rowE4 (Ext.refl _),?_⟩
 have ex5:Ext H H5:=hs5.ext
 have x0:Ext H5 H5:=Ext.refl _
 have lay: ∀{H1:Heap} (b:Nat),St H H1 [.cell b (ints (List.replicate 16 0)).toArray 171]→(List.toArray (setL (setL (setL (setL [Value.int .i64 0,.int .i64 0,.int .i64 0,.int .i64 0,.int .i64 0,.int .i64 0,.int .i64 0,.int .i64 0,.int .i64 0,.int .i64 0,.int .i64 0,.int .i64 0,.int .i64 0,.int .i64 0,.int .i64 0,.int .i64 0] 0 (ints A.l).toArray.toList) 4 (ints B.l).toArray.toList) 8 (ints C.l).toArray.toList) 12 (ints D.l).toArray.toList)).size=16∧stAt H1 ⟨b,0,none⟩ (Array.toList (List.toArray (setL (setL (setL (setL [Value.int .i64 0,.int .i64 0,.int .i64 0,.int .i64 0,.int .i64 0,.int .i64 0,.int .i64 0,.int .i64 0,.int .i64 0,.int .i64 0,.int .i64 0,.int .i64 0,.int .i64 0,.int .i64 0,.int .i64 0,.int .i64 0] 0 (ints A.l).toArray.toList) 4 (ints B.l).toArray.toList) 8 (ints C.l).toArray.toList) 12 (ints D.l).toArray.toList))) fun H2=>J6 [.pointer (some ⟨b,0,none⟩)] H2:=fun b hs1=>
  ⟨rfl,hs1.putAllA 0 (l:=A.l++B.l++C.l++D.l) rfl rfl fun H2 hs2=>after b H2 hs2⟩
 have fin1: ∀{H1:Heap},Ext H5 H1→alc H1 (.cells #[.int .i64 0,.int .i64 0,.int .i64 0,.int .i64 0,.int .i64 0,.int .i64 0,.int .i64 0,.int .i64 0,.int .i64 0,.int .i64 0,.int .i64 0,.int .i64 0,.int .i64 0,.int .i64 0,.int .i64 0,.int .i64 0] 171) fun b H2=>(List.toArray (setL (setL (setL (setL [Value.int .i64 0,.int .i64 0,.int .i64 0,.int .i64 0,.int .i64 0,.int .i64 0,.int .i64 0,.int .i64 0,.int .i64 0,.int .i64 0,.int .i64 0,.int .i64 0,.int .i64 0,.int .i64 0,.int .i64 0,.int .i64 0] 0 (ints A.l).toArray.toList) 4 (ints B.l).toArray.toList) 8 (ints C.l).toArray.toList) 12 (ints D.l).toArray.toList)).size=16∧stAt H2 ⟨b,0,none⟩ (Array.toList (List.toArray (setL (setL (setL (setL [Value.int .i64 0,.int .i64 0,.int .i64 0,.int .i64 0,.int .i64 0,.int .i64 0,.int .i64 0,.int .i64 0,.int .i64 0,.int .i64 0,.int .i64 0,.int .i64 0,.int .i64 0,.int .i64 0,.int .i64 0,.int .i64 0] 0 (ints A.l).toArray.toList) 4 (ints B.l).toArray.toList) 8 (ints C.l).toArray.toList) 12 (ints D.l).toArray.toList))) fun H3=>J6 [.pointer (some ⟨b,0,none⟩)] H3:=fun{H1} he=>(St.of_ext (ex5.trans he)).alc fun b H2 hs2=>lay b hs2
 have spA: ∀{H1:Heap} {R1:Value→Heap→Prop},(∀H',Ext H1 H'→R1 (.agg (ints A.l).toArray) H')→CallsH Tryz.prog 102 #[.int .i64 (picAt w h P i j)] H1 R1:=fun hr=>sp_ _ fun H' he=>by rw[←hA];exact hr H' he
 have spB: ∀{H1:Heap} {R1:Value→Heap→Prop},(∀H',Ext H1 H'→R1 (.agg (ints B.l).toArray) H')→CallsH Tryz.prog 102 #[.int .i64 (picAt w h P (i+1) j)] H1 R1:=fun hr=>sp_ _ fun H' he=>by rw[←hB];exact hr H' he
 have spC: ∀{H1:Heap} {R1:Value→Heap→Prop},(∀H',Ext H1 H'→R1 (.agg (ints C.l).toArray) H')→CallsH Tryz.prog 102 #[.int .i64 (picAt w h P i (j+1))] H1 R1:=fun hr=>sp_ _ fun H' he=>by rw[←hC];exact hr H' he
 have spD: ∀{H1:Heap} {R1:Value→Heap→Prop},(∀H',Ext H1 H'→R1 (.agg (ints D.l).toArray) H')→CallsH Tryz.prog 102 #[.int .i64 (picAt w h P (i+1) (j+1))] H1 R1:=fun hr=>sp_ _ fun H' he=>by rw[←hD];exact hr H' he
 clear sp_
 repeat' first
  |(refine⟨rfl,by decide,rfl,by decide,rfl,by decide,rfl,by decide,?_⟩;first|exact fin1 ‹Ext H5 _› |exact lay _ ‹St H _ [Rs.cell _ (ints (List.replicate 16 0)).toArray _]›)
  |(refine at_ _ _ (ex5.trans ‹Ext H5 _›) fun Hn hn=>⟨_,rfl,?_⟩;have hxn:=Ext.trans ‹Ext H5 _› hn;(try have hsn:=St.step ‹St H _ [Rs.cell _ (ints (List.replicate 16 0)).toArray _]› hn);(try refine⟨.inl hn,?_⟩))
  |((first|refine spA fun Hn hn=>⟨_,rfl,?_⟩|refine spB fun Hn hn=>⟨_,rfl,?_⟩|refine spC fun Hn hn=>⟨_,rfl,?_⟩|refine spD fun Hn hn=>⟨_,rfl,?_⟩);have hxn:=Ext.trans ‹Ext H5 _› hn;(try have hsn:=St.step ‹St H _ [Rs.cell _ (ints (List.replicate 16 0)).toArray _]› hn);(try refine⟨.inl hn,?_⟩))
  |(refine St.alcE (St.of_ext (ex5.trans ‹Ext H5 _›)) fun bn Hn hn hs0=>?_;have hsn:St H Hn [.cell bn (ints (List.replicate 16 0)).toArray 171]:=hs0;have hxn:=Ext.trans ‹Ext H5 _› hn;clear hs0;(try refine⟨.inl hn,?_⟩))
  |refine⟨?_,?_⟩
end Go.Proofs
namespace Go.Proofs
open Go.Sh
structure DocL where
 w:Int
 h:Int
 next:Int
 ks:List Lay
def zeroD:DocL:=⟨0,0,0,[]⟩
def doD(D:DocL)(e:Ed):Int×DocL:=if (doL D.w D.h D.next D.ks e).1≠0 then((doL D.w D.h D.next D.ks e).1,zeroD) else(0,⟨D.w,D.h,(doL D.w D.h D.next D.ks e).2.1,(doL D.w D.h D.next D.ks e).2.2⟩)
def oneM:M6:=⟨65536,0,0,65536,0,0⟩
structure goodF(w h next:Int)(f:LayF):Prop where
 id:1≤f.id∧f.id<next
 kind:0≤f.kind∧f.kind≤2
 opacity:0≤f.opacity∧f.opacity≤255
 mode:0≤f.mode∧f.mode≤11
 maskLen:f.mask=[]∨(f.mask.length:Int)=w*h
 maskV: ∀c∈f.mask,c=0∨c=255
 bare:f.kind≠0→f.w=0∧f.h=0∧f.p=[]∧f.map=oneM∧f.smooth=false
 plain:f.kind≠2→f.table=2∧f.params=[]
 adj:f.kind=2→f.mode=0
 ras:f.kind=0→sizedB f.w f.h=true∧(f.p.length:Int)=f.w*f.h∧f.p.all pixelB=true∧(backM f.map).1=0
 tab:tabB f.table f.params=true
mutual
def gT(G:LayF→Prop):Lay→Prop
 | .mk f ks=>G f∧(f.kind=1∨ks=[])∧gKs G ks
def gKs(G:LayF→Prop):List Lay→Prop
 |[]=>True
 |t::ts=>gT G t∧gKs G ts
end
mutual
def idsT:Lay→List Int
 | .mk f ks=>f.id::idsKs ks
def idsKs:List Lay→List Int
 |[]=>[]
 |t::ts=>idsT t++idsKs ts
end
structure Inv(D:DocL):Prop where
 size:sizedB D.w D.h=true
 next:1≤D.next
 cnt:cntKs D.ks≤4096
 dep:depKs D.ks≤64
 ids:(idsKs D.ks).Nodup
 good:gKs (goodF D.w D.h D.next) D.ks
variable {G:LayF→Prop}
theorem gKs_app{a b:List Lay}:gKs G (a++b)↔gKs G a∧gKs G b:=by
 induction a with
 |nil=>simp[gKs]
 |cons t a ih=>rw[List.cons_append,gKs,ih,gKs,and_assoc]
theorem gKs_iff{ts:List Lay}:gKs G ts↔ ∀t∈ts,gT G t:=by
 induction ts with
 |nil=>simp[gKs]
 |cons t ts ih=>rw[gKs,ih,List.forall_mem_cons]
theorem gT_imp{G':LayF→Prop}(h: ∀f,G f→G' f): ∀t,gT G t→gT G' t:=Lay.ind fun f ks ih hg=>by
 rw[gT] at hg ⊢
 exact⟨h f hg.1,hg.2.1,gKs_iff.2 fun t ht=>ih t ht (gKs_iff.1 hg.2.2 t ht)⟩
theorem gKs_imp{G':LayF→Prop}(h: ∀f,G f→G' f){ts:List Lay}(hg:gKs G ts):gKs G' ts:=gKs_iff.2 fun t ht=>gT_imp h t (gKs_iff.1 hg t ht)
def gUp(G:LayF→Prop):List FrL→Prop
 |[]=>True
 |fr::u=>gKs G fr.pre∧gKs G fr.post∧G fr.f∧fr.f.kind=1∧gUp G u
theorem g_unplug: ∀{u:List FrL} {ks:List Lay},gKs G (plugL u ks)→ks≠[]→gUp G u∧gKs G ks
 |[],ks,h,_=>⟨trivial,h⟩
 |fr::u,ks,h,hne=>by
  rw[plugL] at h
  obtain⟨h1,h2⟩:=g_unplug h (by simp)
  rw[gKs_app,gKs,gT] at h2
  refine⟨⟨h2.1,h2.2.2,h2.2.1.1,?_,h1⟩,h2.2.1.2.2⟩
  rcases h2.2.1.2.1 with h|h
  ·exact h
  ·exact absurd h hne
theorem g_plug: ∀{u:List FrL} {ks:List Lay},gUp G u→gKs G ks→gKs G (plugL u ks)
 |[],ks,_,h=>h
 |fr::u,ks,hu,h=>by
  rw[plugL]
  refine g_plug hu.2.2.2.2 ?_
  rw[gKs_app,gKs,gT]
  exact⟨hu.1,⟨hu.2.2.1,.inl hu.2.2.2.1,h⟩,hu.2.1⟩
theorem g_node{fr:FrL}{u:List FrL}{ks:List Lay}(h:gKs G (plugL (fr::u) ks)):gUp G u∧gKs G fr.pre∧gT G (.mk fr.f ks)∧gKs G fr.post:=by
 rw[plugL] at h
 obtain⟨h1,h2⟩:=g_unplug h (by simp)
 rw[gKs_app,gKs] at h2
 exact⟨h1,h2.1,h2.2.1,h2.2.2⟩
theorem g_set{fr:FrL}{u:List FrL}{ks:List Lay}(h1:gUp G u)(h2:gKs G fr.pre)(h3:gT G (.mk fr.f ks))(h4:gKs G fr.post):gKs G (plugL (fr::u) ks):=by
 rw[plugL]
 refine g_plug h1 ?_
 rw[gKs_app,gKs]
 exact⟨h2,h3,h4⟩
def idsUp:List FrL→List Int
 |[]=>[]
 |fr::u=>fr.f.id::(idsKs fr.pre++idsKs fr.post++idsUp u)
theorem idsKs_app(a b:List Lay):idsKs (a++b)=idsKs a++idsKs b:=by
 induction a with
 |nil=>simp[idsKs]
 |cons t a ih=>rw[List.cons_append,idsKs,ih,idsKs,List.append_assoc]
theorem ids_plug: ∀(u:List FrL) (ks:List Lay),(idsKs (plugL u ks)).Perm (idsKs ks++idsUp u)
 |[],ks=>by rw[idsUp,List.append_nil];exact List.Perm.refl _
 |fr::u,ks=>by
  rw[plugL]
  refine(ids_plug u _).trans (List.perm_iff_count.2 fun x=>?_)
  simp only[idsKs_app,idsKs,idsT,idsUp,List.count_append,List.count_cons]
  ac_rfl
def depUp:List FrL→Nat→Nat
 |[],d=>d
 |fr::u,d=>depUp u (max (depKs fr.pre) (max (1+d) (depKs fr.post)))
theorem dep_plug: ∀(u:List FrL) (ks:List Lay),depKs (plugL u ks)=depUp u (depKs ks)
 |[],ks=>rfl
 |fr::u,ks=>by rw[plugL,dep_plug u,depKs_app,depKs,depL,depUp]
theorem depUp_mono: ∀(u:List FrL) {d d':Nat},d≤d'→depUp u d≤depUp u d'
 |[],d,d',h=>h
 |fr::u,d,d',h=>by rw[depUp,depUp];exact depUp_mono u (by omega)
theorem fl_plug(id:Int): ∀(t:Lay) (up:List FrL) (pre post:List Lay) (z:ZL),flT up pre post id t=some z→plugL z.1 z.2=plugL up (pre++t::post)∧ ∃fr u,z.1=fr::u∧fr.f.id=id:=by
 refine Lay.ind fun f ks ih up pre post z hz=>?_
 rw[flT] at hz
 split at hz
 ·rename_i h;cases hz;exact⟨rfl,_,_,rfl,h⟩
 ·have: ∀(ts:List Lay),(∀t∈ts,t∈ks)→ ∀(u:List FrL) (pre0:List Lay),flK u pre0 id ts=some z→plugL z.1 z.2=plugL u (pre0++ts)∧ ∃fr u,z.1=fr::u∧fr.f.id=id:=by
   intro ts
   induction ts with
   |nil=>intro _ u pre0 h;rw[flK] at h;cases h
   |cons t ts ih2=>
    intro hm u pre0 h
    rw[flK] at h
    split at h
    ·rename_i z' hz'
     cases h
     exact ih t (hm t List.mem_cons_self) _ _ _ _ hz'
    ·have:=ih2 (fun t ht=>hm t (List.mem_cons_of_mem _ ht)) _ _ h
     rw[List.append_assoc] at this
     exact this
  exact this ks (fun _ h=>h) _ _ hz
theorem flK_plug{id:Int}: ∀(ts:List Lay) (up:List FrL) (pre:List Lay) (z:ZL),flK up pre id ts=some z→plugL z.1 z.2=plugL up (pre++ts)∧ ∃fr u,z.1=fr::u∧fr.f.id=id
 |[],up,pre,z,h=>by rw[flK] at h;cases h
 |t::ts,up,pre,z,h=>by
  rw[flK] at h
  split at h
  ·rename_i z' hz'
   cases h
   exact fl_plug id t _ _ _ _ hz'
  ·have:=flK_plug ts _ _ _ h
   rw[List.append_assoc] at this
   exact this
theorem fl_cases(id:Int)(D:List Lay):flK [] [] id D=none∨ ∃fr u ks,flK [] [] id D=some (fr::u,ks)∧fr.f.id=id∧plugL (fr::u) ks=D:=by
 cases h:flK [] [] id D with
 |none=>exact .inl rfl
 |some z=>
  obtain⟨h1,fr,u,h2,h3⟩:=flK_plug D _ _ z h
  obtain⟨z1,z2⟩:=z
  simp only at h2 h1
  subst h2
  exact .inr ⟨fr,u,z2,rfl,h3,h1⟩
theorem Inv.okL{w h next:Int}(hsz:sizedB w h=true): ∀t,gT (goodF w h next) t→cntL t≤1000000→okL t:=Lay.ind fun f ks ih hg hc=>by
 rw[gT] at hg
 rw[cntL] at hc
 have hlen:=len_cnt ks
 obtain⟨q1,q2,q3,q4,q5⟩:=of_decide_eq_true hsz
 rw[Go.Proofs.okL]
 refine⟨?_,?_,?_,by omega,okKs_iff.2 fun t ht=>ih t ht (gKs_iff.1 hg.2.2 t ht) (by have:=cnt_mem ht;omega)⟩
 ·by_cases hk:f.kind=0
  ·obtain⟨h1,h2,_⟩:=hg.1.ras hk
   obtain⟨_,_,_,_,h3⟩:=of_decide_eq_true h1
   omega
  ·rw[(hg.1.bare hk).2.2.1];simp
 ·rcases hg.1.maskLen with h|h
  ·rw[h];simp
  ·omega
 ·by_cases hk:f.kind=2
  ·have ht:=tabB_kind hg.1.tab
   unfold kindP at ht
   split at ht
   ·have:=of_decide_eq_true ht;omega
   ·split at ht
    ·have:=of_decide_eq_true ht;omega
    ·split at ht
     ·have:=of_decide_eq_true ht;omega
     ·split at ht
      ·have:=of_decide_eq_true ht;omega
      ·cases ht
  ·rw[(hg.1.plain hk).2];simp
theorem Inv.ok{D:DocL}(h:Inv D):okKs D.ks:=okKs_iff.2 fun t ht=>Inv.okL h.size t (gKs_iff.1 h.good t ht) (by have:=cnt_mem ht;have:=h.cnt;omega)
theorem Inv.found{D:DocL}(h:Inv D){id:Int}{fr:FrL}{u:List FrL}{ks:List Lay}(hf:flK [] [] id D.ks=some (fr::u,ks)):goodF D.w D.h D.next fr.f∧(fr.f.kind=1∨ks=[]):=by
 have hp:=(flK_plug D.ks _ _ _ hf).1
 have hg:=h.good
 have hp:plugL (fr::u) ks=D.ks:=hp
 rw[←hp] at hg
 have:=(g_node hg).2.2.1
 rw[gT] at this
 exact⟨this.1,this.2.1⟩
theorem Inv.ras{D:DocL}(h:Inv D){id:Int}{fr:FrL}{u:List FrL}{ks:List Lay}(hf:flK [] [] id D.ks=some (fr::u,ks)):okRas fr.f:=fun hk=>⟨((h.found hf).1.ras hk).1,((h.found hf).1.ras hk).2.1⟩
theorem chg_inv{D:DocL}(h:Inv D){g:LayF→Int×LayF}{id:Int}(hg: ∀f,goodF D.w D.h D.next f→(g f).1=0→goodF D.w D.h D.next (g f).2∧(g f).2.id=f.id∧(g f).2.kind=f.kind)(h0:(chgL g D.ks id).1=0):Inv ⟨D.w,D.h,D.next,(chgL g D.ks id).2⟩:=by
 rcases fl_cases id D.ks with hn|⟨fr,u,ks,hf,hid,hp⟩
 ·rw[chg_none hn] at h0;exact absurd h0 (by decide)
 ·obtain⟨g1,g2⟩:=h.found hf
  by_cases he:(g fr.f).1=0
  ·have hge:g fr.f=(0,(g fr.f).2):=Prod.ext he rfl
   have hc:=chg_ok (g:=g) hf hge
   obtain⟨k1,k2,k3⟩:=hg fr.f g1 he
   rw[hc]
   have hgd:=h.good
   have hi:=h.ids
   have hcn:=h.cnt
   have hdp:=h.dep
   rw[←hp] at hgd hi hcn hdp
   obtain⟨u1,u2,u3,u4⟩:=g_node hgd
   rw[gT] at u3
   refine⟨h.size,h.next,?_,?_,?_,?_⟩
   ·show cntKs (plugL (⟨fr.pre,(g fr.f).2,fr.post⟩::u) ks)≤4096
    rw[cnt_plug] at hcn ⊢;exact hcn
   ·show depKs (plugL (⟨fr.pre,(g fr.f).2,fr.post⟩::u) ks)≤64
    rw[dep_plug] at hdp ⊢;exact hdp
   ·refine((ids_plug _ _).nodup_iff).2 ?_
    have:=((ids_plug _ _).nodup_iff).1 hi
    rw[idsUp] at this ⊢
    rw[k2];exact this
   ·refine g_set (fr:=⟨fr.pre,(g fr.f).2,fr.post⟩) u1 u2 ?_ u4
    rw[gT]
    exact⟨k1,by rw[k3];exact u3.2.1,u3.2.2⟩
  ·have:=chg_bad (g:=g) hf (show g fr.f=((g fr.f).1,(g fr.f).2) from rfl) he
   rw[this] at h0;exact absurd h0 he
end Go.Proofs
namespace Go.Proofs
open Go.Sh
theorem look_good{w h next:Int}{e:Ed}{f:LayF}(hg:goodF w h next f)(h0:(lookF e f).1=0):goodF w h next (lookF e f).2∧(lookF e f).2.id=f.id∧(lookF e f).2.kind=f.kind:=by
 unfold lookF at h0 ⊢
 split at h0
 ·simp at h0
 ·rename_i c1
  split at h0
  ·simp at h0
  ·rename_i c2
   rw[if_neg c1,if_neg c2]
   refine⟨⟨hg.id,hg.kind,by show 0≤e.n∧e.n≤255;omega,by show 0≤e.m∧e.m≤11;omega,hg.maskLen,hg.maskV,hg.bare,hg.plain,fun hk=>?_,hg.ras,hg.tab⟩,rfl,rfl⟩
   show e.m=0
   exact Decidable.byContradiction fun hm=>c2 ⟨hk,hm⟩
theorem hide_good{w h next:Int}{e:Ed}{f:LayF}(hg:goodF w h next f)(h0:(hideF e f).1=0):goodF w h next (hideF e f).2∧(hideF e f).2.id=f.id∧(hideF e f).2.kind=f.kind:=by
 unfold hideF at h0 ⊢
 split at h0
 ·simp at h0
 ·rename_i c1
  rw[if_neg c1]
  exact⟨⟨hg.id,hg.kind,hg.opacity,hg.mode,hg.maskLen,hg.maskV,hg.bare,hg.plain,hg.adj,hg.ras,hg.tab⟩,rfl,rfl⟩
theorem paint_good{w h next:Int}{e:Ed}{f:LayF}(hg:goodF w h next f)(h0:(paintF e f).1=0):goodF w h next (paintF e f).2∧(paintF e f).2.id=f.id∧(paintF e f).2.kind=f.kind:=by
 unfold paintF at h0 ⊢
 split at h0
 ·simp at h0
 rename_i c1
 split at h0
 ·simp at h0
 rename_i c2
 split at h0
 ·simp at h0
 rename_i c3
 split at h0
 ·simp at h0
 rename_i c4
 rw[if_neg c1,if_neg c2,if_neg c3,if_neg c4]
 refine⟨⟨hg.id,hg.kind,hg.opacity,hg.mode,hg.maskLen,hg.maskV,fun hk=>absurd hk c1,hg.plain,hg.adj,fun hk=>?_,hg.tab⟩,rfl,rfl⟩
 obtain⟨r1,r2,r3,r4⟩:=hg.ras hk
 refine⟨r1,?_,?_,r4⟩
 ·show((paintP e f.w f.p).length:Int)=_
  unfold paintP;rw[List.length_map,List.length_range];exact r2
 ·show(paintP e f.w f.p).all pixelB=true
  rw[List.all_eq_true]
  intro v hv
  unfold paintP at hv
  obtain⟨q,hq,rfl⟩:=List.mem_map.1 hv
  have hql:=List.mem_range.1 hq
  split
  ·rename_i hin
   have hr:=idxP_rng hin
   have hl:(e.p.length:Int)=e.w*e.h:=Decidable.byContradiction fun hh=>c2 (.inr (.inr (.inr (.inr hh))))
   have hlt:(idxP e f.w q).toNat<e.p.length:=by omega
   rw[List.getD_eq_getElem?_getD,List.getElem?_eq_getElem hlt]
   have hc3:e.p.any (fun v=> !pixelB v)=false:=by simpa using c3
   have:=List.any_eq_false.1 hc3 _ (List.getElem_mem hlt)
   simpa using this
  ·rw[List.getD_eq_getElem?_getD,List.getElem?_eq_getElem hql]
   exact List.all_eq_true.1 r3 _ (List.getElem_mem hql)
theorem mask_good{w h next:Int}(hsz:sizedB w h=true){e:Ed}{f:LayF}(hg:goodF w h next f)(h0:(maskF w h e f).1=0):goodF w h next (maskF w h e f).2∧(maskF w h e f).2.id=f.id∧(maskF w h e f).2.kind=f.kind:=by
 obtain⟨q1,q2,q3,q4,q5⟩:=of_decide_eq_true hsz
 have hpos:0≤w*h:=Int.mul_nonneg (by omega) (by omega)
 unfold maskF at h0 ⊢
 split at h0
 ·simp at h0
 rename_i c1
 rw[if_neg c1]
 split at h0
 ·rename_i c2
  rw[if_pos c2]
  exact⟨⟨hg.id,hg.kind,hg.opacity,hg.mode,.inl rfl,fun _ hc=>(by cases hc),hg.bare,hg.plain,hg.adj,hg.ras,hg.tab⟩,rfl,rfl⟩
 rename_i c2
 rw[if_neg c2]
 split at h0
 ·simp at h0
 rename_i c3
 rw[if_neg c3]
 refine⟨⟨hg.id,hg.kind,hg.opacity,hg.mode,.inr ?_,fun c hc=>?_,hg.bare,hg.plain,hg.adj,hg.ras,hg.tab⟩,rfl,rfl⟩
 ·show((maskL w h (fun x y=>withinB e.shape x y != (e.n==1))).length:Int)=w*h
  unfold maskL;rw[List.length_map,List.length_range];omega
 ·unfold maskL at hc
  obtain⟨q,hq,rfl⟩:=List.mem_map.1 hc
  split
  ·exact .inr rfl
  ·exact .inl rfl
theorem place_good{w h next:Int}{e:Ed}{f:LayF}(hg:goodF w h next f)(h0:(placeF e f).1=0):goodF w h next (placeF e f).2∧(placeF e f).2.id=f.id∧(placeF e f).2.kind=f.kind:=by
 unfold placeF at h0 ⊢
 split at h0
 ·simp at h0
 rename_i c1
 split at h0
 ·simp at h0
 rename_i c2
 split at h0
 ·rename_i c3;exact absurd h0 c3
 rename_i c3
 rw[if_neg c1,if_neg c2,if_neg c3]
 refine⟨⟨hg.id,hg.kind,hg.opacity,hg.mode,hg.maskLen,hg.maskV,fun hk=>absurd hk c1,hg.plain,hg.adj,fun hk=>?_,hg.tab⟩,rfl,rfl⟩
 obtain⟨r1,r2,r3,r4⟩:=hg.ras hk
 exact⟨r1,r2,r3,Decidable.byContradiction c3⟩
theorem adjust_good{w h next:Int}{e:Ed}{f:LayF}(hg:goodF w h next f)(h0:(adjustF e f).1=0):goodF w h next (adjustF e f).2∧(adjustF e f).2.id=f.id∧(adjustF e f).2.kind=f.kind:=by
 unfold adjustF at h0 ⊢
 split at h0
 ·simp at h0
 rename_i c1
 split at h0
 ·simp at h0
 rename_i c2
 rw[if_neg c1,if_neg c2]
 exact⟨⟨hg.id,hg.kind,hg.opacity,hg.mode,hg.maskLen,hg.maskV,hg.bare,fun hk=>absurd hk c1,hg.adj,hg.ras,by simpa using c2⟩,rfl,rfl⟩
theorem home_cases(D:List Lay)(to:Int){v:List FrL}{kh:List Lay}(h:homeL D to=(0,v,kh)):plugL v kh=D∧ ∀{G:LayF→Prop},gKs G D→gUp G v∧gKs G kh:=by
 unfold homeL at h
 split at h
 ·cases h;exact⟨rfl,fun hg=>⟨trivial,hg⟩⟩
 ·rcases fl_cases to D with hn|⟨fr,u,ks,hf,hid,hp⟩
  ·rw[hn] at h;cases h
  ·rw[hf] at h
   simp only at h
   split at h
   ·rename_i hk
    cases h
    refine⟨hp,fun{G} hg=>?_⟩
    rw[←hp] at hg
    obtain⟨u1,u2,u3,u4⟩:=g_node hg
    rw[gT] at u3
    exact⟨⟨u2,u4,u3.1,hk,u1⟩,u3.2.2⟩
   ·cases h
theorem home_tri{D:List Lay}{to:Int}(h:(homeL D to).1=0):homeL D to=(0,(homeL D to).2.1,(homeL D to).2.2):=by
 rw[←h]
theorem put_ok{v:List FrL}{kh:List Lay}{a:Int}{l:Lay}(h0:(putL v kh a l).1=0): ∃i,atL a kh.length=some i∧(putL v kh a l).2=plugL v (kh.take i++l::kh.drop i)∧depKs (plugL v (kh.take i++l::kh.drop i))≤64:=by
 unfold putL at h0 ⊢
 split at h0
 ·simp at h0
 ·rename_i i hi
  refine⟨i,hi,rfl,?_⟩
  simp only at h0
  split at h0
  ·simp at h0
  ·omega
theorem put_ids(v:List FrL)(kh:List Lay)(i:Nat)(l:Lay):(idsKs (plugL v (kh.take i++l::kh.drop i))).Perm (idsT l++idsKs (plugL v kh)):=by
 refine(ids_plug _ _).trans ?_
 refine List.Perm.trans ?_ (List.Perm.append_left _ (ids_plug v kh).symm)
 refine List.perm_iff_count.2 fun x=>?_
 have h:=idsKs_app (kh.take i) (kh.drop i)
 rw[List.take_append_drop] at h
 rw[h]
 simp only[idsKs_app,idsKs,List.count_append]
 ac_rfl
theorem put_cnt(v:List FrL)(kh:List Lay)(i:Nat)(l:Lay):cntKs (plugL v (kh.take i++l::kh.drop i))=cntL l+cntKs (plugL v kh):=by
 rw[cnt_plug,cnt_plug,cntKs_app,cntKs]
 have h:=cntKs_app (kh.take i) (kh.drop i)
 rw[List.take_append_drop] at h
 omega
theorem put_g{G:LayF→Prop}{v:List FrL}{kh:List Lay}{i:Nat}{l:Lay}(h1:gUp G v)(h2:gKs G kh)(h3:gT G l):gKs G (plugL v (kh.take i++l::kh.drop i)):=by
 refine g_plug h1 ?_
 have h:=gKs_app (G:=G) (a:=kh.take i) (b:=kh.drop i)
 rw[List.take_append_drop] at h
 rw[gKs_app,gKs]
 exact⟨(h.1 h2).1,h3,(h.1 h2).2⟩
theorem ids_lt{w h next:Int}: ∀t,gT (goodF w h next) t→ ∀x∈idsT t,1≤x∧x<next:=Lay.ind fun f ks ih hg x hx=>by
 rw[gT] at hg
 rw[idsT] at hx
 rcases List.mem_cons.1 hx with rfl|hx
 ·exact hg.1.id
 ·have: ∀(ts:List Lay),(∀t∈ts,t∈ks)→x∈idsKs ts→1≤x∧x<next:=by
   intro ts
   induction ts with
   |nil=>intro _ h;cases h
   |cons t ts ih2=>
    intro hm h
    rw[idsKs,List.mem_append] at h
    rcases h with h|h
    ·exact ih t (hm t List.mem_cons_self) (gKs_iff.1 hg.2.2 t (hm t List.mem_cons_self)) x h
    ·exact ih2 (fun t ht=>hm t (List.mem_cons_of_mem _ ht)) h
  exact this ks (fun _ h=>h) hx
theorem ids_ltKs{w h next:Int}: ∀{ts:List Lay},gKs (goodF w h next) ts→ ∀x∈idsKs ts,1≤x∧x<next
 |[],_,x,hx=>by cases hx
 |t::ts,hg,x,hx=>by
  rw[gKs] at hg
  rw[idsKs,List.mem_append] at hx
  rcases hx with hx|hx
  ·exact ids_lt t hg.1 x hx
  ·exact ids_ltKs hg.2 x hx
theorem good_next{w h next:Int}{f:LayF}(hg:goodF w h next f):goodF w h (next+1) f:=⟨by have:=hg.id;omega,hg.kind,hg.opacity,hg.mode,hg.maskLen,hg.maskV,hg.bare,hg.plain,hg.adj,hg.ras,hg.tab⟩
theorem pixel0:pixelB 0=true:=by decide
theorem new_good{w h next:Int}{e:Ed}(hnx:1≤next)(h1: ¬(e.n<0∨e.n>2))(h2: ¬(e.n=0∧sizedB e.w e.h=false)):goodF w h (next+1) (newL next e):=by
 refine⟨⟨hnx,by show next<next+1;omega⟩,by show 0≤e.n∧e.n≤2;omega,⟨by show(0:Int)≤255;decide,by show(255:Int)≤255;decide⟩,⟨by show(0:Int)≤0;decide,by show(0:Int)≤11;decide⟩,.inl rfl,fun _ hc=>(by cases hc),fun hk=>?_,fun _=>⟨rfl,rfl⟩,fun _=>rfl,fun hk=>?_,by show tabB 2 []=true;decide⟩
 ·have hk:e.n≠0:=hk
  unfold newL;rw[if_neg hk,if_neg hk,if_neg hk];exact⟨rfl,rfl,rfl,rfl,rfl⟩
 ·have hk:e.n=0:=hk
  have hsz:sizedB e.w e.h=true:=by
   cases hs:sizedB e.w e.h with
   |true=>rfl
   |false=>exact absurd ⟨hk,hs⟩ h2
  obtain⟨q1,q2,q3,q4,q5⟩:=of_decide_eq_true hsz
  have hpos:0≤e.w*e.h:=Int.mul_nonneg (by omega) (by omega)
  unfold newL
  rw[if_pos hk,if_pos hk,if_pos hk]
  refine⟨hsz,by rw[List.length_replicate];exact Int.toNat_of_nonneg hpos,?_,show(backM oneM).1=0 from by decide⟩
  rw[List.all_eq_true]
  intro v hv
  rw[(List.mem_replicate.1 hv).2]
  exact pixel0
theorem add_inv{D:DocL}(h:Inv D){e:Ed}(h0:(addL D.next D.ks e).1=0):Inv ⟨D.w,D.h,D.next+1,(addL D.next D.ks e).2⟩:=by
 unfold addL at h0 ⊢
 split at h0
 ·simp at h0
 rename_i c1
 split at h0
 ·simp at h0
 rename_i c2
 split at h0
 ·rename_i c3;exact absurd h0 c3
 rename_i c3
 split at h0
 ·rename_i c4;exact absurd h0 c4
 rename_i c4
 split at h0
 ·simp at h0
 rename_i c5
 rw[if_neg c1,if_neg c2,if_neg c3,if_neg c4,if_neg c5]
 have hho:=home_tri (Decidable.byContradiction c3)
 obtain⟨hp,hgu⟩:=home_cases D.ks e.to hho
 obtain⟨i,hi,hpu,hdp⟩:=put_ok (Decidable.byContradiction c4)
 obtain⟨g1,g2⟩:=hgu (gKs_imp (fun f=>good_next) h.good)
 rw[hpu]
 refine⟨h.size,by have:=h.next;show 1≤D.next+1;omega,?_,hdp,?_,?_⟩
 ·show cntKs (plugL _ _)≤4096
  rw[put_cnt,hp,cntL,cntKs];omega
 ·refine((put_ids _ _ i _).nodup_iff).2 ?_
  rw[hp,idsT,idsKs]
  show((newL D.next e).id::([]++idsKs D.ks)).Nodup
  rw[List.nil_append,List.nodup_cons]
  exact⟨fun hm=>by
   have h1:=(ids_ltKs h.good _ hm).2
   have h2:(newL D.next e).id=D.next:=rfl
   omega,h.ids⟩
 ·refine put_g g1 g2 ?_
  rw[gT]
  exact⟨new_good h.next c1 c2,.inr rfl,trivial⟩
theorem out_inv{D:DocL}(h:Inv D){id:Int}{fr:FrL}{u:List FrL}{ks:List Lay}(hf:flK [] [] id D.ks=some (fr::u,ks)):
 Inv ⟨D.w,D.h,D.next,plugL u (fr.pre++fr.post)⟩∧gT (goodF D.w D.h D.next) (.mk fr.f ks)∧(idsT (.mk fr.f ks)++idsKs (plugL u (fr.pre++fr.post))).Nodup∧cntL (.mk fr.f ks)+cntKs (plugL u (fr.pre++fr.post))=cntKs D.ks:=by
 have hp:plugL (fr::u) ks=D.ks:=(flK_plug D.ks _ _ _ hf).1
 have hgd:=h.good
 have hi:=h.ids
 have hcn:=h.cnt
 have hdp:=h.dep
 rw[←hp] at hgd hi hcn hdp
 obtain⟨u1,u2,u3,u4⟩:=g_node hgd
 have hids:(idsKs (plugL (fr::u) ks)).Perm (idsT (.mk fr.f ks)++idsKs (plugL u (fr.pre++fr.post))):=by
  refine(ids_plug _ _).trans (List.Perm.trans ?_ (List.Perm.append_left _ (ids_plug u _).symm))
  refine List.perm_iff_count.2 fun x=>?_
  simp only[idsUp,idsT,idsKs_app,List.count_append,List.count_cons]
  ac_rfl
 have hno:=(hids.nodup_iff).1 hi
 have hct:cntL (.mk fr.f ks)+cntKs (plugL u (fr.pre++fr.post))=cntKs D.ks:=by
  rw[←hp,cnt_plug,cnt_plug,cntUp,cntKs_app,cntL];omega
 refine⟨⟨h.size,h.next,by have:=h.cnt;show cntKs (plugL u (fr.pre++fr.post))≤4096;omega,?_,(List.nodup_append.1 hno).2.1,?_⟩,u3,hno,hct⟩
 ·show depKs (plugL u (fr.pre++fr.post))≤64
  rw[dep_plug] at hdp ⊢
  refine Nat.le_trans ?_ hdp
  rw[depUp,depKs_app]
  exact depUp_mono u (by omega)
 ·exact g_plug u1 (gKs_app.2 ⟨u2,u4⟩)
theorem move_inv{D:DocL}(h:Inv D){e:Ed}(h0:(moveL D.ks e).1=0):Inv ⟨D.w,D.h,D.next,(moveL D.ks e).2⟩:=by
 rcases fl_cases e.id D.ks with hn|⟨fr,u,ks,hf,hid,hp⟩
 ·unfold moveL at h0;rw[hn] at h0;simp at h0
 ·obtain⟨o1,o2,o3,o4⟩:=out_inv h hf
  unfold moveL at h0 ⊢
  rw[hf] at h0 ⊢
  simp only at h0 ⊢
  split at h0
  ·rename_i c;exact absurd h0 c
  rename_i c1
  split at h0
  ·simp at h0
  rename_i c2
  split at h0
  ·rename_i c;exact absurd h0 c
  rename_i c3
  rw[if_neg c1,if_neg c2,if_neg c3]
  have hho:=home_tri (Decidable.byContradiction c3)
  obtain⟨hp2,hgu⟩:=home_cases _ e.to hho
  obtain⟨i,hi,hpu,hdp⟩:=put_ok h0
  obtain⟨g1,g2⟩:=hgu o1.good
  rw[hpu]
  refine⟨h.size,h.next,?_,hdp,?_,put_g g1 g2 o2⟩
  ·show cntKs (plugL _ _)≤4096
   have:=h.cnt
   rw[put_cnt,hp2];omega
  ·refine((put_ids _ _ i _).nodup_iff).2 ?_
   rw[hp2];exact o3
theorem do_inv{D:DocL}(h:Inv D){e:Ed}(h0:(doD D e).1=0):Inv (doD D e).2:=by
 unfold doD at h0 ⊢
 by_cases hd:(doL D.w D.h D.next D.ks e).1≠0
 ·rw[if_pos hd] at h0;exact absurd h0 hd
 rw[if_neg hd]
 unfold doL at hd ⊢
 by_cases hk:e.kind<1∨e.kind>9
 ·rw[if_pos hk] at hd;simp at hd
 rw[if_neg hk] at hd ⊢
 by_cases hs:(stepL D.w D.h D.next D.ks e).1≠0
 ·rw[if_pos hs] at hd;exact absurd hs hd
 rw[if_neg hs]
 have hs:=Decidable.byContradiction hs
 show Inv ⟨D.w,D.h,nextL D.next e,(stepL D.w D.h D.next D.ks e).2⟩
 unfold stepL at hs ⊢
 by_cases k1:e.kind=1
 ·rw[if_pos k1] at hs ⊢;rw[show nextL D.next e=D.next+1 from by unfold nextL;rw[if_pos k1]];exact add_inv h hs
 rw[if_neg k1] at hs ⊢
 rw[show nextL D.next e=D.next from by unfold nextL;rw[if_neg k1]]
 by_cases k2:e.kind=2
 ·rw[if_pos k2] at hs ⊢
  rcases fl_cases e.id D.ks with hn|⟨fr,u,ks,hf,hid,hp⟩
  ·unfold removeL at hs;rw[hn] at hs;simp at hs
  ·have:=(out_inv h hf).1
   unfold removeL;rw[hf];exact this
 rw[if_neg k2] at hs ⊢
 by_cases k3:e.kind=3
 ·rw[if_pos k3] at hs ⊢;exact move_inv h hs
 rw[if_neg k3] at hs ⊢
 by_cases k4:e.kind=4
 ·rw[if_pos k4] at hs ⊢;exact chg_inv h (fun f=>paint_good) hs
 rw[if_neg k4] at hs ⊢
 by_cases k5:e.kind=5
 ·rw[if_pos k5] at hs ⊢;exact chg_inv h (fun f=>look_good) hs
 rw[if_neg k5] at hs ⊢
 by_cases k6:e.kind=6
 ·rw[if_pos k6] at hs ⊢;exact chg_inv h (fun f=>hide_good) hs
 rw[if_neg k6] at hs ⊢
 by_cases k7:e.kind=7
 ·rw[if_pos k7] at hs ⊢;exact chg_inv h (fun f=>mask_good h.size) hs
 rw[if_neg k7] at hs ⊢
 by_cases k8:e.kind=8
 ·rw[if_pos k8] at hs ⊢;exact chg_inv h (fun f=>place_good) hs
 rw[if_neg k8] at hs ⊢
 by_cases k9:e.kind=9
 ·rw[if_pos k9] at hs ⊢;exact chg_inv h (fun f=>adjust_good) hs
 ·rw[if_neg k9] at hs;simp at hs
theorem new_inv{w h:Int}(hs:sizedB w h=true):Inv ⟨w,h,1,[]⟩:=⟨hs,Int.le_refl _,by simp[cntKs],by simp[depKs],by simp[idsKs],trivial⟩
theorem do_next{D:DocL}{e:Ed}(h0:(doD D e).1=0):D.next≤(doD D e).2.next∧(doD D e).2.next≤D.next+1∧(doD D e).2.w=D.w∧(doD D e).2.h=D.h:=by
 unfold doD at h0 ⊢
 by_cases hd:(doL D.w D.h D.next D.ks e).1≠0
 ·rw[if_pos hd] at h0;exact absurd h0 hd
 rw[if_neg hd]
 unfold doL at hd ⊢
 by_cases hk:e.kind<1∨e.kind>9
 ·rw[if_pos hk] at hd;simp at hd
 rw[if_neg hk] at hd ⊢
 by_cases hs:(stepL D.w D.h D.next D.ks e).1≠0
 ·rw[if_pos hs] at hd;exact absurd hs hd
 rw[if_neg hs]
 refine⟨?_,?_,rfl,rfl⟩<;>(show _;unfold nextL;split<;>simp<;>omega)
end Go.Proofs
namespace Go.Proofs
open Go.Sh
variable {H0 H:Heap} {σ:List Rs} {R:Value→Heap→Prop}
theorem shr1'(x:Int):shrI .i64 x (1:Int)=x/2:=shrTo x rfl rfl (by decide)
structure MapOk(m:M6):Prop where
 ok:((-16777216≤m.a∧m.a≤16777216)∧(-16777216≤m.b∧m.b≤16777216)∧(-16777216≤m.c∧m.c≤16777216)∧(-16777216≤m.d∧m.d≤16777216)∧(-68719476736≤m.e∧m.e≤68719476736)∧(-68719476736≤m.f∧m.f≤68719476736))
theorem backM_ok(m:M6):MapOk (backM m).2:=by
 unfold backM
 split
 ·exact⟨by decide⟩
 split
 ·exact⟨by decide⟩
 split
 ·exact⟨by decide⟩
 split
 ·exact⟨by decide⟩
 ·rename_i h;exact⟨(rightM_iff _).1 (by simpa using h)⟩
theorem atU_eq{b0 b1 b4 x y:Int}(h0: -16777216≤b0∧b0≤16777216)(h1: -16777216≤b1∧b1≤16777216)(h4: -68719476736≤b4∧b4≤68719476736)(hx:0≤x∧x≤65536)(hy:0≤y∧y≤65536):
 IntKind.wrap .i64 (shrI .i64 (IntKind.wrap .i64 (IntKind.wrap .i64 (b0*IntKind.wrap .i64 (IntKind.wrap .i64 (2*x)+1))+IntKind.wrap .i64 (b1*IntKind.wrap .i64 (IntKind.wrap .i64 (2*y)+1)))) 1+b4)=atU b0 b1 b4 x y∧ -1000000000000000≤atU b0 b1 b4 x y∧atU b0 b1 b4 x y≤1000000000000000:=by
 have p0:=mul_bd (x:=b0) (y:=2*x+1) (A:=16777216) (B:=131073) h0 (by omega)
 have p1:=mul_bd (x:=b1) (y:=2*y+1) (A:=16777216) (B:=131073) h1 (by omega)
 unfold atU
 rw[wrap_id (n:=2*x) (by omega) (by omega),wrap_id (n:=2*y) (by omega) (by omega),wrap_id (n:=2*x+1) (by omega) (by omega),wrap_id (n:=2*y+1) (by omega) (by omega)]
 generalize b0*(2*x+1)=q0 at*
 generalize b1*(2*y+1)=q1 at*
 rw[wrap_id (n:=q0) (by omega) (by omega),wrap_id (n:=q1) (by omega) (by omega),wrap_id (n:=q0+q1) (by omega) (by omega),shr1',wrap_id (by omega) (by omega)]
 exact⟨rfl,by omega,by omega⟩
theorem c131{w h:Int}{p:Option Addr}{l c:Nat}{P:List Int}{m:M6}{x y:Int}{sm:Bool}(hp:IS H p l (ints P))(hok:PicOk w h P)(hm:MapOk m)(hx:0≤x∧x≤65536)(hy:0≤y∧y≤65536)(hR: ∀H',Ext H H'→R (.int .i64 (atP w h P m x y sm)) H'):CallsH Tryz.prog 131 #[.agg (picA w h p l c),.agg (ints m.l).toArray,.int .i64 x,.int .i64 y,.bool sm] H R:=by
 obtain⟨m0,m1,m2,m3,m4,m5⟩:=hm.ok
 obtain⟨eu,bu1,bu2⟩:=atU_eq m0 m1 m4 hx hy
 obtain⟨ev,bv1,bv2⟩:=atU_eq m2 m3 m5 hx hy
 refine Tryz.s131 ?_
 unfold Tryz.S131
 refine(St.nil H).alc fun b6 H7 hs7=>hs7.alc fun b8 H9 hs9=>⟨by decide,by decide,m.a,hs9.rdA 0 (j:=0) rfl rfl,by decide,by decide,m.b,hs9.rdA 0 (j:=1) rfl rfl,by decide,by decide,by decide,m.e,hs9.rdA 0 (j:=4) rfl rfl,by decide,by decide,m.c,hs9.rdA 0 (j:=2) rfl rfl,by decide,by decide,m.d,hs9.rdA 0 (j:=3) rfl rfl,by decide,by decide,by decide,m.f,hs9.rdA 0 (j:=5) rfl rfl,?_⟩
 rw[eu,ev]
 unfold atP at hR
 refine br_i (fun hsm=>?_) fun hsm=>?_
 ·rw[if_pos hsm] at hR
  refine⟨_,rfl,rowIn_whole (hs9.block 1 rfl),c135 (hp.ext hs9.ext) hok ⟨bu1,bu2⟩ ⟨bv1,bv2⟩ fun H18 he18=>⟨_,rfl,hR H18 (hs9.step he18).ext⟩⟩
 ·rw[if_neg (by rw[hsm];decide)] at hR
  refine⟨_,rfl,rowIn_whole (hs9.block 1 rfl),by decide,by decide,?_⟩
  rw[shr16',shr16']
  exact c136 (hp.ext hs9.ext) hok.hw hok.hh hok.len fun H18 he18=>⟨_,rfl,hR H18 (hs9.step he18).ext⟩
def partP(f:LayF)(at_:Int):Int:=if f.mask.length=0 then f.opacity else mulP f.opacity (f.mask.getD at_.toNat 0)
def overP(f:LayF)(g s out:Int):Int:=if s≠0∧g>0 then joinP (blendP f.mode (fadeP (spl s) g) (spl out)) else out
def adjustP(f:LayF)(g out:Int):Int:=joinP (adjP (tabL f.table f.params) g (spl out))
def seenP(f:LayF)(x y:Int):Int:=atP f.w f.h f.p (backM f.map).2 x y f.smooth
mutual
def layPx(W x y:Int):Lay→Int→Int
 | .mk f ks,out=>if f.hidden=true then out else if f.kind=2 then adjustP f (partP f (y*W+x)) out else overP f (partP f (y*W+x)) (if f.kind=0 then seenP f x y else lsPx W x y ks 0) out
def lsPx(W x y:Int):List Lay→Int→Int
 |[],out=>out
 |t::ts,out=>lsPx W x y ts (layPx W x y t out)
end
theorem lsPx_app(W x y:Int): ∀(a b:List Lay) (out:Int),lsPx W x y (a++b) out=lsPx W x y b (lsPx W x y a out)
 |[],b,out=>by rw[List.nil_append,lsPx]
 |t::a,b,out=>by rw[List.cons_append,lsPx,lsPx,lsPx_app W x y a b]
theorem part_byte{w h next:Int}{f:LayF}(hf:goodF w h next f)(i:Int):byte (partP f i):=by
 have ho:=hf.opacity
 unfold partP
 split
 ·exact ho
 ·refine mulP_byte ho ?_
  rw[List.getD_eq_getElem?_getD]
  cases hm:f.mask[i.toNat]? with
  |none=>unfold byte;decide
  |some c=>
   have:=hf.maskV c (List.mem_of_getElem? hm)
   unfold byte
   simp only[Option.getD_some]
   omega
theorem ras_pic{w h next:Int}{f:LayF}(hf:goodF w h next f)(hk:f.kind=0):PicOk f.w f.h f.p:=by
 obtain⟨h1,h2,h3,h4⟩:=hf.ras hk
 unfold sizedB at h1
 obtain⟨q1,q2,q3,q4,q5⟩:=of_decide_eq_true h1
 exact⟨by omega,by omega,h2,h3⟩
theorem over_px{w h next:Int}{f:LayF}{g s out:Int}(hg:byte g)(hs:pixelB s=true)(ho:pixelB out=true):pixelB (overP f g s out)=true:=by
 unfold overP
 split
 ·exact ok_join (blendP_ok _ (fadeP_ok (spl_ok hs) hg) (spl_ok ho))
 ·exact ho
theorem adjust_px{f:LayF}{g out:Int}(ht:tabB f.table f.params=true)(hg:byte g)(ho:pixelB out=true):pixelB (adjustP f g out)=true:=ok_join (adjP_ok (tabL_ok ht) hg (spl_ok ho))
theorem lay_px{w h next:Int}(W x y:Int): ∀t,gT (goodF w h next) t→ ∀out,pixelB out=true→pixelB (layPx W x y t out)=true:=by
 refine Lay.ind fun f ks ih hg out ho=>?_
 obtain⟨hf,_,hks⟩:=hg
 have ls: ∀(ts:List Lay),(∀t∈ts,t∈ks)→ ∀out,pixelB out=true→pixelB (lsPx W x y ts out)=true:=by
  intro ts
  induction ts with
  |nil=>intro _ out ho;rw[lsPx];exact ho
  |cons t ts ih2=>
   intro hsub out ho
   rw[lsPx]
   exact ih2 (fun u hu=>hsub u (List.mem_cons_of_mem _ hu)) _ (ih t (hsub t List.mem_cons_self) (gKs_iff.1 hks t (hsub t List.mem_cons_self)) out ho)
 have hb:=part_byte hf (y*W+x)
 rw[layPx]
 split
 ·exact ho
 split
 ·exact adjust_px hf.tab hb ho
 ·split
  ·rename_i hk0
   exact over_px (w:=w) (h:=h) (next:=next) hb (atP_ok (ras_pic hf hk0) _ _ _ _) ho
  ·exact over_px (w:=w) (h:=h) (next:=next) hb (ls ks (fun _ h=>h) 0 pixZ0) ho
theorem ls_px{w h next:Int}(W x y:Int){ts:List Lay}(hg:gKs (goodF w h next) ts): ∀{out:Int},pixelB out=true→pixelB (lsPx W x y ts out)=true:=by
 induction ts with
 |nil=>intro out ho;rw[lsPx];exact ho
 |cons t ts ih=>
  intro out ho
  rw[lsPx]
  exact ih hg.2 (lay_px W x y t hg.1 out ho)
end Go.Proofs
namespace Go.Proofs
open Go.Sh
variable {H0 H:Heap} {σ:List Rs} {R:Value→Heap→Prop}
def DocR(H:Heap)(A:Array Value)(D:DocL):Prop:= ∃K ks,A=docA D.w D.h D.next K∧grp H K ks∧layKs ks=D.ks
theorem DocR.ext{H H':Heap}{A:Array Value}{D:DocL}(h:DocR H A D)(he:Ext H H'):DocR H' A D:=let ⟨K,ks,h1,h2,h3⟩:=h;⟨K,ks,h1,h2.ext he,h3⟩
theorem DocR.size{H:Heap}{A:Array Value}{D:DocL}(h:DocR H A D):A.size=4:=by obtain⟨K,ks,rfl,_⟩:=h;rfl
theorem DocR.one{H:Heap}{A:Array Value}{D:DocL}(h:DocR H A D): ∀v∈A.toList,v.oneCell'=true:=by obtain⟨K,ks,rfl,_⟩:=h;exact docA_one _ _ _ _
theorem DocR.zero(H:Heap):DocR H (docA 0 0 0 .nil) zeroD:=⟨.nil,[],rfl,grp.nil H,rfl⟩
theorem DocR.new(H:Heap)(w h:Int):DocR H (docA w h 1 .nil) ⟨w,h,1,[]⟩:=⟨.nil,[],rfl,grp.nil H,rfl⟩
def parentL(D:List Lay)(id:Int):Int×Int×Bool:=
 match flK [] [] id D with
 |some (fr::u,_)=>(match u with|[]=>0|fp::_=>fp.f.id,fr.pre.length,true)
 |_=>(0,0,false)
def zeroF:LayF:=⟨0,0,false,0,0,0,0,[],[],⟨0,0,0,0,0,0⟩,false,0,[]⟩
def findL(D:List Lay)(id:Int):Option Lay:=
 match flK [] [] id D with
 |some (fr::_,ks)=>some (.mk fr.f ks)
 |_=>none
theorem rd_root{K:Sl3}{ks:List T}(hg:grp H K ks):rdT H (rootT K ks):=by
 unfold rootT
 rw[rdT]
 exact⟨⟨rfl,fun i v h=>by simp[rootF,ints] at h⟩,⟨rfl,fun i v h=>by simp[rootF,kints] at h⟩,⟨rfl,fun i v h=>by simp[rootF,ints] at h⟩,hg⟩
theorem fz_rd(id:Int): ∀(t:T) {H:Heap} (up:List Fr) (K:Sl3) (pre post:List T) (z:Z),grp H K (pre++t::post)→fzT up K pre post id t=some z→(∃fr u,z.1=fr::u∧ ∃a,fr.ad=some a∧rowIn H a (cellsT (fr.node z.2.1 z.2.2)).toArray∧rdT H (fr.node z.2.1 z.2.2))∧
 (∀(fp:Fr) (up':List Fr) (ap:Addr) (Kp:Sl3) (ksp:List T),up=fp::up'→fp.ad=some ap→rowIn H ap (cellsT (fp.node Kp ksp)).toArray→ ∃fr fq u,z.1=fr::fq::u∧ ∃aq Kq ksq,fq.ad=some aq∧rowIn H aq (cellsT (fq.node Kq ksq)).toArray):=by
 refine T.ind fun f P M A K' ks ih {H} up K pre post z hg hz=>?_
 obtain⟨a,h1,h2,h3⟩:=hg.get (i:=pre.length) (t:= .mk f P M A K' ks) (by rw[List.getElem?_append_right (Nat.le_refl _),Nat.sub_self];rfl)
 have had:(⟨K,pre,f,P,M,A,post⟩:Fr).ad=some (a.add (pre.length*19)):=by unfold Fr.ad;rw[h1];rfl
 rw[fzT] at hz
 split at hz
 ·cases hz
  exact⟨⟨_,_,rfl,_,had,h2,h3⟩,fun fp up' ap Kp ksp hup hap hrow=>⟨_,fp,up',by rw[hup],ap,Kp,ksp,hap,hrow⟩⟩
 ·have: ∀(ts done:List T),ks=done++ts→ ∀(u:List Fr),fzK (⟨K,pre,f,P,M,A,post⟩::up) K' done id ts=some z→(∃fr u,z.1=fr::u∧ ∃a,fr.ad=some a∧rowIn H a (cellsT (fr.node z.2.1 z.2.2)).toArray∧rdT H (fr.node z.2.1 z.2.2))∧
   ∃fr fq u,z.1=fr::fq::u∧ ∃aq Kq ksq,fq.ad=some aq∧rowIn H aq (cellsT (fq.node Kq ksq)).toArray:=by
   intro ts
   induction ts with
   |nil=>intro done _ u h;rw[fzK] at h;cases h
   |cons t ts ih2=>
    intro done hd u h
    rw[fzK] at h
    split at h
    ·rename_i z' hz'
     cases h
     obtain⟨g1,g2⟩:=ih t (by rw[hd];simp) _ _ _ _ _ (by rw[←hd];exact rdT.grp h3) hz'
     exact⟨g1,g2 _ _ _ K' ks rfl had h2⟩
    ·exact ih2 (done++[t]) (by rw[hd];simp) u h
  obtain⟨g1,g2⟩:=this ks [] rfl [] hz
  exact⟨g1,fun _ _ _ _ _ _ _ _=>g2⟩
theorem fzK_rd {id : Int} : ∀ (ts : List T) {H : Heap} (up : List Fr) (K : Sl3) (pre : List T) (z : Z), grp H K (pre ++ ts) → fzK up K pre id ts = some z → (∃ fr u, z.1 = fr :: u ∧ ∃ a, fr.ad = some a ∧ rowIn H a (cellsT (fr.node z.2.1 z.2.2)).toArray ∧ rdT H (fr.node z.2.1 z.2.2)) ∧
    (∀ (fp : Fr) (up' : List Fr) (ap : Addr) (Kp : Sl3) (ksp : List T), up = fp :: up' → fp.ad = some ap → rowIn H ap (cellsT (fp.node Kp ksp)).toArray → ∃ fr fq u, z.1 = fr :: fq :: u ∧ ∃ aq Kq ksq, fq.ad = some aq ∧ rowIn H aq (cellsT (fq.node Kq ksq)).toArray)
  | [], H, up, K, pre, z, _, h => by rw [fzK] at h; cases h
  | t :: ts, H, up, K, pre, z, hg, h => by
    rw [fzK] at h
    split at h
    · rename_i z' hz'
      cases h
      exact fz_rd id t _ _ _ _ _ hg hz'
    · exact fzK_rd ts up K (pre ++ [t]) z (by rw [List.append_assoc]; exact hg) h
theorem root_find{b:Nat}{K:Sl3}{ks:List T}{H1:Heap}(hg:grp H K ks)(he:Ext H H1)(hb:H1[b]?=some (.cells (cellsT (rootT K [])).toArray 70)){id:Int}(hc:cntKs (layKs ks)≤1000000000)
 (hR: ∀H',Ext H1 H'→(∀z,fzK [rootFr b] K [] id ks=some z→(resZ (some z)).1≠none)→
  R (.tuple #[.pointer (resZ (fzK [rootFr b] K [] id ks)).1,.pointer (resZ (fzK [rootFr b] K [] id ks)).2.1,.int .i64 (resZ (fzK [rootFr b] K [] id ks)).2.2]) H'):CallsH Tryz.prog 65 #[.pointer (some ⟨b,0,none⟩),.int .i64 id] H1 R:=
 c65 (rootT K ks) (fr:=rootFr b) (up:=[]) (root_ad b) (rowIn_whole hb) (rd_root (hg.ext he)) (by show cntKs (layKs ks)≤_;omega) hR
theorem c67{A:Array Value}{D:DocL}{id:Int}(hd:DocR H A D)(hc:cntKs D.ks≤1000000000)(hR: ∀H',Ext H H'→R (.tuple #[.int .i64 (parentL D.ks id).1,.int .i64 (parentL D.ks id).2.1,.bool (parentL D.ks id).2.2]) H'):CallsH Tryz.prog 67 #[.agg A,.int .i64 id] H R:=by
 obtain⟨K,ks,rfl,hg,hl⟩:=hd
 rw[←hl] at hc hR
 refine Tryz.s67 ?_
 unfold Tryz.S67
 refine(St.nil H).alc fun b3 H4 hs4=>?_
 refine c37 (hs4.block 0 rfl) fun rb H6 hp6=>⟨_,rfl,?_⟩
 have he6:=hs4.ext.trans hp6.ext
 refine root_find hg he6 (hp6.block 0 rfl) hc fun H9 he9 hne=>⟨_,_,_,rfl,?_⟩
 have he:=he6.trans he9
 rcases find_cases rb K ks id with ⟨hz,hf⟩|⟨fr,u,K',ks',hz,hid,hf⟩
 ·rw[hz]
  have hpl:parentL (layKs ks) id=(0,0,false):=by unfold parentL;rw[hf]
  have:=hR H9 he
  rw[hpl] at this
  exact br_t rfl this
 ·obtain⟨g1,g2⟩:=fzK_rd ks _ _ _ _ (hg.ext he) hz
  obtain⟨fr',fq,u',hz1,aq,Kq,ksq,haq,hrq⟩:=g2 (rootFr rb) [] ⟨rb,0,none⟩ K ks rfl (root_ad rb) (rowAt_ext he9 (rowIn_whole (hp6.block 0 rfl)))
  obtain⟨fr2,u2,hz2,a2,ha2,hr2,_⟩:=g1
  simp only at hz1 hz2
  rw[hz1] at hz2
  cases hz2
  have hfr:fr'=fr:=by simp only[List.cons.injEq] at hz1;exact hz1.1.symm
  subst hfr
  have hu:u++[rootFr rb]=fq::u':=by simp only[List.cons.injEq] at hz1;exact hz1.2
  have hpl:parentL (layKs ks) id=(fq.f.id,((fr'.pre.length:Nat):Int),true):=by
   unfold parentL
   rw[hf]
   cases u with
   |nil=>
    simp only[List.nil_append,List.cons.injEq] at hu
    rw[←hu.1]
    show((0:Int),(((layKs fr'.pre).length:Nat):Int),true)=_
    rw[layKs_len];rfl
   |cons x u=>
    simp only[List.cons_append,List.cons.injEq] at hu
    rw[←hu.1]
    show(x.f.id,(((layKs fr'.pre).length:Nat):Int),true)=_
    rw[layKs_len]
  have:=hR H9 he
  rw[hpl] at this
  rw[hz,hz1]
  refine br_f (by show Option.isNone fr'.ad=false;rw[ha2];rfl) ⟨aq,haq,fq.f.id,hrq 0 _ rfl,this⟩
def LayR(H:Heap)(A:Array Value)(l:Lay):Prop:= ∃t,A=(cellsT t).toArray∧rdT H t∧layT t=l
theorem LayR.ext{H H':Heap}{A:Array Value}{l:Lay}(h:LayR H A l)(he:Ext H H'):LayR H' A l:=let ⟨t,h1,h2,h3⟩:=h;⟨t,h1,rdT.ext he t h2,h3⟩
theorem LayR.zero(H:Heap):LayR H (cellsL zeroF Sl3.nil.v Sl3.nil.v Sl3.nil.v Sl3.nil.v).toArray (.mk zeroF []):=by
 refine⟨.mk zeroF .nil .nil .nil .nil [],rfl,?_,rfl⟩
 rw[rdT]
 exact⟨⟨rfl,fun i v h=>by simp[zeroF,ints] at h⟩,⟨rfl,fun i v h=>by simp[zeroF,kints] at h⟩,⟨rfl,fun i v h=>by simp[zeroF,ints] at h⟩,grp.nil H⟩
theorem c32{A:Array Value}{D:DocL}{id:Int}(hd:DocR H A D)(hc:cntKs D.ks≤1000000000)(hok:okKs D.ks)(hokf: ∀l,findL D.ks id=some l→okL l)
 (h0:findL D.ks id=none→ ∀H',Ext H H'→R (.tuple #[.agg (cellsL zeroF Sl3.nil.v Sl3.nil.v Sl3.nil.v Sl3.nil.v).toArray,.bool false]) H')
 (h1: ∀l,findL D.ks id=some l→ ∀t' H',layT t'=l→St H H' (resT t'++[])→R (.tuple #[.agg (cellsT t').toArray,.bool true]) H'):CallsH Tryz.prog 32 #[.agg A,.int .i64 id] H R:=by
 obtain⟨K,ks,rfl,hg,hl⟩:=hd
 rw[←hl] at hc hok hokf h0 h1
 refine Tryz.s32 ?_
 unfold Tryz.S32
 refine(St.nil H).alc fun b3 H4 hs4=>hs4.alc fun b5 H6 hs6=>?_
 refine c37 (hs6.block 1 rfl) fun rb H8 hp8=>⟨_,rfl,?_⟩
 have he8:=hs6.ext.trans hp8.ext
 refine root_find hg he8 (hp8.block 0 rfl) hc fun H11 he11 hne=>⟨_,_,_,rfl,?_⟩
 have he:=he8.trans he11
 have hs11:=(hs6.step hp8.ext).step he11
 rcases find_cases rb K ks id with ⟨hz,hf⟩|⟨fr,u,K',ks',hz,hid,hf⟩
 ·rw[hz]
  have hfl:findL (layKs ks) id=none:=by unfold findL;rw[hf]
  refine br_t rfl ⟨rfl,hs11.putAll 0 rfl rfl (cellsL_one zeroF .nil .nil .nil .nil) fun H15 hs15=>⟨(cellsL zeroF Sl3.nil.v Sl3.nil.v Sl3.nil.v Sl3.nil.v).toArray,rfl,rowIn_whole (hs15.block 0 rfl),h0 hfl H15 hs15.ext⟩⟩
 ·obtain⟨⟨fr2,u2,hz2,a2,ha2,hr2,hrd2⟩,_⟩:=fzK_rd ks _ _ _ _ (hg.ext he) hz
  simp only[List.cons.injEq] at hz2
  obtain⟨rfl,_⟩:=hz2
  have hfl:findL (layKs ks) id=some (layT (fr.node K' ks')):=by unfold findL;rw[hf];rfl
  have hre:(resZ (fzK [rootFr rb] K [] id ks)).1=some a2:=by rw[hz,←ha2];cases u<;>rfl
  refine br_f (by rw[hre];rfl) ⟨a2,hre,_,rfl,hr2,?_⟩
  refine c66 (fr.node K' ks') hrd2 (hokf _ hfl) fun t' H20 hlay hs20=>⟨_,rfl,by simp[cellsT_len],?_⟩
  have hs21:=hs11.callR hs20
  refine hs21.putAll 0 rfl (by simp[cellsT_len]) (by simpa using cellsT_one t') fun H22 hs22=>⟨(cellsT t').toArray,by simp[cellsT_len],rowIn_whole (hs22.block 0 rfl),?_⟩
  have hd2:St H H22 (resT t'++[]):=by rw[List.append_nil];exact hs22.drop 2
  exact h1 _ hfl t' H22 hlay hd2
end Go.Proofs
namespace Go.Proofs
open Go.Sh
variable {H0 H:Heap} {σ:List Rs} {R:Value→Heap→Prop}
theorem eq_take{α:Type}{xs ys:List α}{k:Nat}{x y:α}(h:xs.take k=ys.take k)(hx:xs[k]?=some x)(hy:ys[k]?=some y):xs.take (k+1)=ys.take (k+1)↔x=y:=by
 rw[take_succ hx,take_succ hy,h];simp
theorem M6_l{m n:M6}:m.l=n.l↔m=n:=by
 cases m;cases n;simp[M6.l]
end Go.Proofs
namespace Go.Proofs
open Go.Sh
variable {H0 H:Heap} {σ:List Rs} {R:Value→Heap→Prop}
def ed0(kind id to at_ n m x y w h:Int):Ed:=⟨kind,id,to,at_,n,m,x,y,w,h,[],[],zeroM,[]⟩
def es0:EdS:=⟨.nil,.nil,.nil⟩
theorem ed0_ok(H:Heap)(kind id to at_ n m x y w h:Int):EdOk H (ed0 kind id to at_ n m x y w h) es0:=
 ⟨⟨⟨rfl,fun i v h=>by simp[ed0,ints] at h⟩,IS2.nil H,⟨rfl,fun i v h=>by simp[ed0,ints] at h⟩⟩,by simp[ed0],by simp[ed0]⟩
end Go.Proofs
namespace Go.Sh
variable {H0 H H':Heap} {σ τ:List Rs}
def starAll:List Rs→Rs
 |[]=> .emp
 |r::l=> .star r (starAll l)
theorem St.addEmp(hs:St H0 H σ):St H0 H (.emp::σ):=hs.new (Ext.refl H) (fp:=[]) rfl (by simp) (by simp)
theorem St.packAll: ∀(l:List Rs) {σ:List Rs},St H0 H (l++σ)→St H0 H (starAll l::σ)
 |[],σ,hs=>hs.addEmp
 |r::l,σ,hs=>by
  have h1:St H0 H (l++(r::σ)):=hs.perm List.perm_middle.symm
  exact(St.packAll l h1).swap.cat
theorem St.unpackAll: ∀(l:List Rs) {σ:List Rs},St H0 H (starAll l::σ)→St H0 H (l++σ)
 |[],σ,hs=>hs.tail
 |r::l,σ,hs=>by
  have h1:St H0 H (l++(r::σ)):=St.unpackAll l hs.cut.swap
  exact h1.perm List.perm_middle
end Go.Sh
namespace Go.Proofs
open Go.Sh
variable {H0 H:Heap} {σ:List Rs} {R:Value→Heap→Prop}
def docRs(A:Array Value)(D:DocL):Rs:= .ex fun(x:Sl3×List T)=> .pu (A=docA D.w D.h D.next x.1∧layKs x.2=D.ks) (starAll (resG x.1 x.2))
theorem St_docIn{A:Array Value}{D:DocL}{K:Sl3}{ks:List T}(hA:A=docA D.w D.h D.next K)(hl:layKs ks=D.ks)(hs:St H0 H (resG K ks++σ)):St H0 H (docRs A D::σ):=
 St.inex (f:=fun(x:Sl3×List T)=> .pu (A=docA D.w D.h D.next x.1∧layKs x.2=D.ks) (starAll (resG x.1 x.2))) (K,ks) (St.with ⟨hA,hl⟩ (St.packAll _ hs))
theorem St_docOut{A:Array Value}{D:DocL}(hs:St H0 H (docRs A D::σ)): ∃K ks,A=docA D.w D.h D.next K∧layKs ks=D.ks∧St H0 H (resG K ks++σ):=by
 obtain⟨⟨K,ks⟩,h1⟩:=St.unex hs
 obtain⟨⟨h2,h3⟩,h4⟩:=St.fact h1
 exact⟨K,ks,h2,h3,St.unpackAll _ h4⟩
theorem _root_.Go.Sh.St.doc(hs:St H0 H σ)(i:Nat){A:Array Value}{D:DocL}(hi:σ[i]?=some (docRs A D)):DocR H A D:=by
 obtain⟨K,ks,h1,h2,h3⟩:=St_docOut (hs.front i hi)
 exact⟨K,ks,h1,h3.grp,h2⟩
theorem _root_.Go.Sh.St.docNil(hs:St H0 H σ)(w h next:Int):St H0 H (docRs (docA w h next .nil) ⟨w,h,next,[]⟩::σ):=
 St_docIn (K:= .nil) (ks:=[]) rfl rfl (hs.nilSl _ _)
theorem do_gen{A:Array Value}{D:DocL}{e:Ed}{s:EdS}(hs:St H0 H σ)(hd:DocR H A D)(hok:okKs D.ks)(hcn:cntKs D.ks≤1000000000)(hnx:0≤D.next∧D.next≤1000000000000000)(hsz:e.kind=7→sizedB D.w D.h=true)(hras: ∀fr u ks',flK [] [] e.id D.ks=some (fr::u,ks')→okRas fr.f)(hed:EdOk H e s)
 (hR: ∀A' H',DocR H' A' (doD D e).2→St H0 H' (docRs A' (doD D e).2::σ)→R (.tuple #[.agg A',.int .i64 (doD D e).1]) H'):
 CallsH Tryz.prog 21 #[.agg A,.agg (edL e s).toArray] H R:=by
 obtain⟨K,ks,rfl,hg,hl⟩:=hd
 rw[←hl] at hok hcn hras
 refine c21 hg hok hcn hnx hsz hed hras (fun H' hne he=>?_) fun K' ks' H' h0 hl' hs'=>?_
 ·rw[hl] at hne ⊢
  have e1:doD D e=((doL D.w D.h D.next D.ks e).1,zeroD):=by unfold doD;rw[if_pos hne]
  have:=hR (docA 0 0 0 .nil) H' (by rw[e1];exact DocR.zero H') (by rw[e1];exact(hs.step he).docNil 0 0 0)
  rw[e1] at this;exact this
 ·rw[hl] at h0 hl' ⊢
  have e1:doD D e=(0,⟨D.w,D.h,(doL D.w D.h D.next D.ks e).2.1,(doL D.w D.h D.next D.ks e).2.2⟩):=by unfold doD;rw[if_neg (by rw[h0];simp)]
  have hs2:St H0 H' (docRs (docA D.w D.h (doL D.w D.h D.next D.ks e).2.1 K') ⟨D.w,D.h,(doL D.w D.h D.next D.ks e).2.1,(doL D.w D.h D.next D.ks e).2.2⟩::σ):=St_docIn rfl hl' (hs.call hs')
  have:=hR (docA D.w D.h (doL D.w D.h D.next D.ks e).2.1 K') H' (by rw[e1];exact hs2.doc 0 rfl) (by rw[e1];exact hs2)
  rw[e1] at this;exact this
theorem do_st{A:Array Value}{D:DocL}{e:Ed}{s:EdS}(hs:St H0 H σ)(hd:DocR H A D)(hi:Inv D)(hnx:D.next≤1000000000000000)(hed:EdOk H e s)(hR: ∀A' H',DocR H' A' (doD D e).2→St H0 H' (docRs A' (doD D e).2::σ)→R (.tuple #[.agg A',.int .i64 (doD D e).1]) H'):
 CallsH Tryz.prog 21 #[.agg A,.agg (edL e s).toArray] H R:=by
 have h1:=hi.next
 have h2:=hi.cnt
 exact do_gen hs hd hi.ok (by omega) ⟨by omega,hnx⟩ (fun _=>hi.size) (fun fr u ks' hf=>hi.ras hf) hed hR
end Go.Proofs
namespace Go.Proofs
open Go.Sh
variable {H0 H:Heap} {σ:List Rs} {R:Value→Heap→Prop}
theorem c114{t:T}{w h next at_:Int}(ht:rdT H t)(hf:goodF w h next t.f)(hat:0≤at_∧at_<w*h)(hR: ∀H',Ext H H'→R (.int .i64 (partP t.f at_)) H'):CallsH Tryz.prog 114 #[.agg (cellsT t).toArray,.int .i64 at_] H R:=by
 cases t with|mk f P M A K ks=>
 rw[rdT] at ht
 have hM:=ht.2.1
 have hf:goodF w h next f:=hf
 have hl:=hM.length
 have ho:=hf.opacity
 refine Tryz.s114 ?_
 unfold Tryz.S114
 refine(St.nil H).alc fun b3 H4 hs4=>⟨M.p,M.l,M.c,hs4.get 0 rfl (j:=8) rfl,br_eq (fun h0=>?_) fun h0=>?_⟩
 ·have:=hR H4 hs4.ext
  rw[show partP (T.mk f P M A K ks).f at_=f.opacity from by show partP f at_=_;unfold partP;rw[if_pos (by omega)]] at this
  exact⟨f.opacity,hs4.get 0 rfl (j:=3) rfl,this⟩
 ·have hlen:(f.mask.length:Int)=w*h:=by
   rcases hf.maskLen with hm|hm
   ·exfalso;rw[hm] at hl;simp at hl;omega
   ·exact hm
  have hlt:at_.toNat<f.mask.length:=by omega
  have hv:=List.getElem?_eq_getElem hlt
  have hc:=hf.maskV _ (List.getElem_mem hlt)
  refine⟨f.opacity,hs4.get 0 rfl (j:=3) rfl,M.p,M.l,M.c,hs4.get 0 rfl (j:=8) rfl,(hM.ext hs4.ext).rd (k:= .u8) (i:=at_) hat.1 (by omega) hv ?_⟩
  rw[wrap_id (by omega) (by omega)]
  refine mul_call (by omega) (by omega) ⟨_,rfl,?_⟩
  have:=hR H4 hs4.ext
  rw[show partP (T.mk f P M A K ks).f at_=mulP f.opacity f.mask[at_.toNat] from by
   show partP f at_=_
   unfold partP
   rw[if_neg (by omega),List.getD_eq_getElem?_getD,hv];rfl] at this
  exact this
structure Pn where
 W:Int
 hd:Int
 next:Int
 K:Sl3
 x:Int
 y:Int
 w:Int
 h:Int
def Pn.A(p:Pn):Array Value:=#[.int .i64 p.W,.int .i64 p.hd,.int .i64 p.next,p.K.v,.int .i64 p.x,.int .i64 p.y,.int .i64 p.w,.int .i64 p.h]
structure PnOk(p:Pn):Prop where
 W:0≤p.W∧p.W≤32768
 hd:0≤p.hd∧p.hd≤32768
 x:0≤p.x
 y:0≤p.y
 w:0≤p.w∧p.x+p.w≤p.W
 h:0≤p.h∧p.y+p.h≤p.hd
def Pn.n(p:Pn):Nat:=(p.w*p.h).toNat
def Pn.X(p:Pn)(i:Nat):Int:=p.x+(i:Int)%p.w
def Pn.Y(p:Pn)(i:Nat):Int:=p.y+(i:Int)/p.w
theorem PnOk.area{p:Pn}(hp:PnOk p):0≤p.w*p.h∧p.w*p.h≤1073741824:=by
 have h1:=hp.w;have h2:=hp.h;have h3:=hp.W;have h4:=hp.hd;have h5:=hp.x;have h6:=hp.y
 have:=mul_bd (x:=p.w) (y:=p.h) (A:=32768) (B:=32768) (by omega) (by omega)
 exact⟨Int.mul_nonneg h1.1 h2.1,by omega⟩
theorem PnOk.n{p:Pn}(hp:PnOk p):(p.n:Int)=p.w*p.h:=by have:=hp.area;unfold Pn.n;omega
theorem PnOk.at{p:Pn}(hp:PnOk p){i:Nat}(hi:i<p.n):0<p.w∧(0≤p.X i∧p.X i<p.W)∧(0≤p.Y i∧p.Y i<p.hd)∧(0≤(i:Int)%p.w∧(i:Int)%p.w<p.w)∧(0≤(i:Int)/p.w∧(i:Int)/p.w<p.h):=by
 have hn:=hp.n
 have h1:=hp.w;have h2:=hp.h;have h5:=hp.x;have h6:=hp.y
 have hw:0<p.w:=by
  by_cases h:0<p.w
  ·exact h
  ·have:p.w=0:=by omega
   rw[this,Int.zero_mul] at hn;omega
 have e1:=Int.emod_nonneg (i:Int) (show p.w≠0 by omega)
 have e2:=Int.emod_lt_of_pos (i:Int) hw
 have e3:0≤(i:Int)/p.w:=Int.ediv_nonneg (by omega) (by omega)
 have e4:(i:Int)/p.w<p.h:=Int.ediv_lt_of_lt_mul hw (by rw[Int.mul_comm];omega)
 unfold Pn.X Pn.Y
 omega
theorem PnOk.place{p:Pn}(hp:PnOk p){i:Nat}(hi:i<p.n):0≤p.Y i*p.W+p.X i∧p.Y i*p.W+p.X i<p.W*p.hd:=by
 obtain⟨_,hx,hy,_,_⟩:=hp.at hi
 have hq:((p.W*p.hd).toNat:Int)=p.W*p.hd:=Int.toNat_of_nonneg (Int.mul_nonneg hp.W.1 hp.hd.1)
 have:=in_pic (n:=(p.W*p.hd).toNat) hq hx hy
 omega
def eachA(p:Pn)(i:Nat)(ys:Array Value):Array Value:=(([]:List Value)++[Value.int .i64 i,Value.int .i64 (p.X i),Value.int .i64 (p.Y i),Value.int .i64 (p.Y i*p.W+p.X i)]++ys.toList).toArray
theorem each_call{p:Pn}{g:Nat}{ys:Array Value}{T:Nat→List Rs}(hp:PnOk p)(hs:St H0 H (T 0++σ))
 (step: ∀i,i<p.n→ ∀{σ':List Rs} {H1:Heap} {R1:Value→Heap→Prop},St H0 H1 (T i++σ')→(∀H',St H0 H' (T (i+1)++σ')→R1 (.tuple #[]) H')→CallsH Tryz.prog g (eachA p i ys) H1 R1)
 (hR: ∀H',St H0 H' (T p.n++σ)→R (.tuple #[]) H'):CallsH Tryz.prog 112 #[.agg p.A,.func (.func g) #[] ys] H R:=by
 have hn:=hp.n
 have har:=hp.area
 refine Tryz.s112 ?_
 unfold Tryz.S112
 refine hs.alc fun b3 H4 hs4=>⟨p.w,hs4.get 0 rfl (j:=6) rfl,p.h,hs4.get 0 rfl (j:=7) rfl,?_⟩
 rw[wrap_id (n:=p.w*p.h) (by omega) (by omega)]
 intro X7 hX7
 have mid: ∀{H1:Heap} {i:Nat},St H0 H1 (.cell b3 p.A 138::(T i++σ))→St H0 H1 (T i++(.cell b3 p.A 138::σ)):=fun h=>h.perm List.perm_middle.symm
 have go: ∀i,i≤p.n→ ∀H1,St H0 H1 (T i++(.cell b3 p.A 138::σ))→X7 [.int .i64 (i:Nat)] H1:=by
  refine upto fun i hi ih H1 hs1=>hX7 _ _ (br_dec (fun hlt=>?_) fun hge=>?_)
  ·have hi':i<p.n:=by omega
   obtain⟨hw,hx,hy,hm,hd⟩:=hp.at hi'
   have hpl:=hp.place hi'
   have hW:=hp.W
   have hhd:=hp.hd
   have hh:=hp.h
   have hy0:=hp.y
   have h9:St H0 H1 (.cell b3 p.A 138::(T i++σ)):=hs1.perm List.perm_middle
   refine⟨p.x,h9.get 0 rfl (j:=4) rfl,p.w,h9.get 0 rfl (j:=6) rfl,by omega,p.y,h9.get 0 rfl (j:=5) rfl,p.w,h9.get 0 rfl (j:=6) rfl,by omega,p.W,h9.get 0 rfl (j:=0) rfl,?_⟩
   have hX:p.x+(i:Int)%p.w=p.X i:=rfl
   have hY:p.y+(i:Int)/p.w=p.Y i:=rfl
   have hYW:=mul_bd (x:=p.Y i) (y:=p.W) (A:=32768) (B:=32768) (by omega) (by omega)
   rw[Int.tmod_eq_emod_of_nonneg (show(0:Int)≤i by omega),Int.tdiv_eq_ediv_of_nonneg (show(0:Int)≤i by omega),wrap_id (n:=(i:Int)/p.w) (by omega) (by omega),hX,hY,wrap_id (n:=p.X i) (by omega) (by omega),wrap_id (n:=p.Y i) (by omega) (by omega),wrap_id (n:=p.Y i*p.W) (by omega) (by omega),wrap_id (n:=p.Y i*p.W+p.X i) (by omega) (by omega)]
   refine step i hi' hs1 fun H' hs'=>⟨rfl,?_⟩
   rw[wrap_id (by omega) (by omega)]
   exact ih hi' H' hs'
  ·obtain rfl:i=p.n:=by omega
   refine hR H1 (hs1.perm List.perm_middle).tail
 exact go 0 (Nat.zero_le _) H4 (mid hs4)
def twoL(new old:List Int)(i:Nat):List Int:=new.take i++old.drop i
theorem twoL_len{new old:List Int}{i:Nat}(h:new.length=old.length)(hi:i≤old.length):(twoL new old i).length=old.length:=by unfold twoL;simp;omega
theorem twoL_set{new old:List Int}{i:Nat}{v:Int}(h:new.length=old.length)(hi:i<old.length)(hv:v=new.getD i 0):(twoL new old i).set i v=twoL new old (i+1):=by
 unfold twoL
 have ht:new.take (i+1)=new.take i++[v]:=by rw[List.take_add_one,getD_some new 0 (by omega),hv];rfl
 rw[List.set_append_right _ _ (by rw[List.length_take];omega),List.length_take,Nat.min_eq_left (by omega),Nat.sub_self,List.drop_eq_getElem_cons hi,List.set_cons_zero,ht,List.append_assoc]
 rfl
theorem twoL_at{new old:List Int}{i:Nat}(h:new.length=old.length)(hi:i<old.length):(twoL new old i)[i]?=some (old.getD i 0):=by
 unfold twoL
 rw[List.getElem?_append_right (by rw[List.length_take];omega),List.length_take,Nat.min_eq_left (by omega),Nat.sub_self,List.getElem?_drop,Nat.add_zero]
 exact getD_some old 0 hi
theorem twoL_zero(new old:List Int):twoL new old 0=old:=by simp[twoL]
theorem twoL_all{new old:List Int}(h:new.length=old.length):twoL new old old.length=new:=by unfold twoL;rw[List.take_of_length_le (by omega),List.drop_eq_nil_of_le (by omega),List.append_nil]
theorem rdB(hs:St H0 H σ)(q:Nat){b n:Nat}{l:List Int}{ty:TypeId}(hq:σ[q]?=some (.cell b (ints l).toArray ty))(hn:l.length=n){i:Nat}(hi:i<n){K:Int→Prop}(hK:K (l.getD i 0)):
 ∃a:Addr,(some ⟨b,0,none⟩:Option Addr)=some a∧0≤(i:Int)∧(i:Int)<((n:Nat):Int)∧ ∃v:Int,Sh.cell H (Addr.add a (Int.toNat (i:Int)*1))=some (.int .i64 v)∧K v:=by
 refine⟨_,rfl,by omega,by omega,l.getD i 0,?_,hK⟩
 rw[Int.toNat_natCast,Nat.mul_one,add_none,Nat.zero_add]
 exact hs.rdA q hq (getD_some l 0 (by omega))
end Go.Proofs
namespace Go.Proofs
open Go.Sh
variable {H0 H:Heap} {σ:List Rs} {R:Value→Heap→Prop}
def slV(b n:Nat):Value:= .slice (some ⟨b,0,none⟩) n n
def ptV1(b:Nat):Value:= .pointer (some ⟨b,0,none⟩)
def plL(p:Pn)(f:Nat→Int):List Int:=(List.range p.n).map f
theorem plL_len(p:Pn)(f:Nat→Int):(plL p f).length=p.n:=by simp[plL]
theorem plL_at{p:Pn}{f:Nat→Int}{i:Nat}(h:i<p.n):(plL p f).getD i 0=f i:=tab_getD h
def seenL(p:Pn)(f:LayF):List Int:=plL p fun i=>seenP f (p.X i) (p.Y i)
theorem source_step{p:Pn}(hp:PnOk p){f:LayF}{P M A K:Sl3}{w h next:Int}(hr:IS H0 P.p P.l (ints f.p))(hf:goodF w h next f)(hk:f.kind=0){bo bp bm bl bs:Nat}{i:Nat}(hi:i<p.n){σ':List Rs}{H1:Heap}{R1:Value→Heap→Prop}
 (hs:St H0 H1 ([.cell bo (ints (fillA (seenL p f) i)).toArray 3,.cell bs #[slV bo p.n] 39,.cell bp (picA f.w f.h P.p P.l P.c) 168,.cell bm (ints (backM f.map).2.l).toArray 42,.cell bl (cellsL f P.v M.v A.v K.v).toArray 70]++σ'))
 (hR: ∀H',St H0 H' ([.cell bo (ints (fillA (seenL p f) (i+1))).toArray 3,.cell bs #[slV bo p.n] 39,.cell bp (picA f.w f.h P.p P.l P.c) 168,.cell bm (ints (backM f.map).2.l).toArray 42,.cell bl (cellsL f P.v M.v A.v K.v).toArray 70]++σ')→R1 (.tuple #[]) H'):
 CallsH Tryz.prog 130 (eachA p i #[ptV1 bp,ptV1 bm,ptV1 bl,ptV1 bs]) H1 R1:=by
 obtain⟨_,hx,hy,_,_⟩:=hp.at hi
 have hW:=hp.W;have hhd:=hp.hd
 show CallsH Tryz.prog 130 #[.int .i64 i,.int .i64 (p.X i),.int .i64 (p.Y i),.int .i64 (p.Y i*p.W+p.X i),.pointer (some ⟨bp,0,none⟩),.pointer (some ⟨bm,0,none⟩),.pointer (some ⟨bl,0,none⟩),.pointer (some ⟨bs,0,none⟩)] H1 R1
 refine Tryz.s130 ?_
 unfold Tryz.S130
 refine⟨some ⟨bo,0,none⟩,p.n,p.n,hs.get 1 rfl (j:=0) rfl,_,rfl,rowIn_whole (hs.block 2 rfl),_,rfl,rowIn_whole (hs.block 3 rfl),f.smooth,hs.get 4 rfl (j:=15) rfl,?_⟩
 refine c131 (hr.ext hs.ext) (ras_pic hf hk) (backM_ok f.map) (by omega) (by omega) fun H14 he14=>⟨_,rfl,.inl he14,_,rfl,by omega,by omega,?_⟩
 rw[Int.toNat_natCast,Nat.mul_one,add_none,Nat.zero_add]
 refine(hs.step he14).putA 0 rfl (by rw[fillA_len (by rw[seenL,plL_len];omega),seenL,plL_len];exact hi) fun H17 hs17=>hR H17 ?_
 have e:=fill_put (L:=seenL p f) (k:=i) (v:=seenP f (p.X i) (p.Y i)) (by rw[seenL,plL_len];exact hi) (by rw[seenL,plL_at hi])
 rw[←e]
 exact hs17
def partAt(p:Pn)(f:LayF)(i:Nat):Int:=partP f (p.Y i*p.W+p.X i)
def overL(p:Pn)(f:LayF)(S O:List Int):List Int:=plL p fun i=>overP f (partAt p f i) (S.getD i 0) (O.getD i 0)
def adjL(p:Pn)(f:LayF)(O:List Int):List Int:=plL p fun i=>adjustP f (partAt p f i) (O.getD i 0)
theorem all_getD{l:List Int}(h:l.all pixelB=true)(i:Nat):pixelB (l.getD i 0)=true:=by
 by_cases hi:i<l.length
 ·rw[List.getD_eq_getElem?_getD,List.getElem?_eq_getElem hi];exact List.all_eq_true.1 h _ (List.getElem_mem hi)
 ·rw[List.getD_eq_getElem?_getD,List.getElem?_eq_none (by omega)];exact pixZ0
theorem plL_all{p:Pn}{f:Nat→Int}(h: ∀i,i<p.n→pixelB (f i)=true):(plL p f).all pixelB=true:=by
 rw[List.all_eq_true]
 intro v hv
 obtain⟨i,hi,rfl⟩:=List.mem_map.1 hv
 exact h i (List.mem_range.1 hi)
theorem over_step{p:Pn}(hp:PnOk p){t:T}{next:Int}{S O:List Int}(hS:S.length=p.n)(hO:O.length=p.n)(hSp:S.all pixelB=true)(hOp:O.all pixelB=true)(ht:rdT H0 t)(hf:goodF p.W p.hd next t.f){bo bs bl bx by_:Nat}{i:Nat}(hi:i<p.n){σ':List Rs}{H1:Heap}{R1:Value→Heap→Prop}
 (hs:St H0 H1 ([.cell bo (ints (twoL (overL p t.f S O) O i)).toArray 3,.cell bx #[slV bo p.n] 39,.cell bs (ints S).toArray 3,.cell by_ #[slV bs p.n] 39,.cell bl (cellsT t).toArray 70]++σ'))
 (hR: ∀H',St H0 H' ([.cell bo (ints (twoL (overL p t.f S O) O (i+1))).toArray 3,.cell bx #[slV bo p.n] 39,.cell bs (ints S).toArray 3,.cell by_ #[slV bs p.n] 39,.cell bl (cellsT t).toArray 70]++σ')→R1 (.tuple #[]) H'):
 CallsH Tryz.prog 113 (eachA p i #[ptV1 bl,ptV1 by_,ptV1 bx]) H1 R1:=by
 have hpl:=hp.place hi
 have hNl:(overL p t.f S O).length=O.length:=by rw[overL,plL_len,hO]
 have hiO:i<O.length:=by omega
 have hg:=part_byte hf (p.Y i*p.W+p.X i)
 have hso:=spl_ok (all_getD hSp i)
 have hoo:=spl_ok (all_getD hOp i)
 have hval:(overL p t.f S O).getD i 0=overP t.f (partAt p t.f i) (S.getD i 0) (O.getD i 0):=plL_at hi
 have hmode:(cellsT t).toArray[4]?=some (.int .i64 t.f.mode):=by cases t;rfl
 -- where nothing is laid
 have skip: ∀H',St H0 H' ([.cell bo (ints (twoL (overL p t.f S O) O i)).toArray 3,.cell bx #[slV bo p.n] 39,.cell bs (ints S).toArray 3,.cell by_ #[slV bs p.n] 39,.cell bl (cellsT t).toArray 70]++σ')→overP t.f (partAt p t.f i) (S.getD i 0) (O.getD i 0)=O.getD i 0→R1 (.tuple #[]) H':=fun H' h e=>hR H' (by
  have e2:=twoL_set hNl hiO (v:=O.getD i 0) (by rw[hval,e])
  have e3:(twoL (overL p t.f S O) O i).set i (O.getD i 0)=twoL (overL p t.f S O) O i:=by
   have h1:=twoL_at (new:=overL p t.f S O) hNl hiO
   obtain⟨h2,h3⟩:=List.getElem?_eq_some_iff.1 h1
   rw[←h3,List.set_getElem_self]
  rw[←e2,e3];exact h)
 show CallsH Tryz.prog 113 #[.int .i64 i,.int .i64 (p.X i),.int .i64 (p.Y i),.int .i64 (p.Y i*p.W+p.X i),.pointer (some ⟨bl,0,none⟩),.pointer (some ⟨by_,0,none⟩),.pointer (some ⟨bx,0,none⟩)] H1 R1
 refine Tryz.s113 ?_
 unfold Tryz.S113
 refine⟨_,by simp[cellsT_len],rowIn_whole (hs.block 4 rfl),c114 (rdT.ext hs.ext t ht) hf hpl fun H10 he10=>⟨_,rfl,?_⟩⟩
 have hs10:=hs.step he10
 refine⟨some ⟨bs,0,none⟩,p.n,p.n,hs10.get 3 rfl (j:=0) rfl,rdB hs10 2 rfl hS hi (br_ne (fun hne=>br_dec (fun hgt=>?_) fun hgt=>?_) fun h0=>?_)⟩
 ·have hov:overP t.f (partAt p t.f i) (S.getD i 0) (O.getD i 0)=joinP (blendP t.f.mode (fadeP (spl (S.getD i 0)) (partAt p t.f i)) (spl (O.getD i 0))):=by
   unfold overP;rw[if_pos ⟨hne,hgt⟩]
  refine⟨some ⟨bo,0,none⟩,p.n,p.n,hs10.get 1 rfl (j:=0) rfl,t.f.mode,?_,some ⟨bs,0,none⟩,p.n,p.n,hs10.get 3 rfl (j:=0) rfl,rdB hs10 2 rfl hS hi ⟨some ⟨bo,0,none⟩,p.n,p.n,hs10.get 1 rfl (j:=0) rfl,_,rfl,by omega,by omega,O.getD i 0,?_,?_⟩⟩
  ·have:=hs10.get 4 rfl (j:=4) hmode
   simpa using this
  ·rw[Int.toNat_natCast,Nat.mul_one,add_none,Nat.zero_add]
   exact hs10.rdA 0 rfl (twoL_at hNl hiO)
  refine c102 fun H24 he24=>⟨_,rfl,.inl he24,?_⟩
  obtain⟨q1,q2,q3,q4⟩:=hso.bytes
  refine c117 (c:=spl (S.getD i 0)) q1 q2 q3 q4 hg fun H27 he27=>⟨_,rfl,.inl he27,?_⟩
  refine c102 fun H30 he30=>⟨_,rfl,.inl he30,?_⟩
  refine c116 (fadeP_ok hso hg) (d:=spl (O.getD i 0)) hoo fun H33 he33=>⟨_,rfl,.inl he33,?_⟩
  obtain⟨z1,z2,z3,z4⟩:=(blendP_ok t.f.mode (fadeP_ok hso hg) hoo).bytes
  refine c115 z1 z2 z3 z4 fun H36 he36=>⟨_,rfl,.inl he36,_,rfl,by omega,by omega,?_⟩
  have hs36:=hs10.step ((((he24.trans he27).trans he30).trans he33).trans he36)
  rw[Int.toNat_natCast,Nat.mul_one,add_none,Nat.zero_add]
  refine hs36.putA 0 rfl (by rw[twoL_len hNl (by omega)];exact hiO) fun H39 hs39=>hR H39 ?_
  rw[←twoL_set hNl hiO (v:=joinP (blendP t.f.mode (fadeP (spl (S.getD i 0)) (partP t.f (p.Y i*p.W+p.X i))) (spl (O.getD i 0)))) (by rw[hval,hov];rfl)]
  exact hs39
 ·exact skip H10 hs10 (by unfold overP;rw[if_neg (fun hh=>hgt hh.2)])
 ·exact skip H10 hs10 (by unfold overP;rw[if_neg (fun hh=>hh.1 h0)])
theorem adj_step{p:Pn}(hp:PnOk p){t:T}{next:Int}{O:List Int}(hO:O.length=p.n)(hOp:O.all pixelB=true)(ht:rdT H0 t)(hf:goodF p.W p.hd next t.f){bo bl bx bt by_:Nat}{i:Nat}(hi:i<p.n){σ':List Rs}{H1:Heap}{R1:Value→Heap→Prop}
 (hs:St H0 H1 ([.cell bo (ints (twoL (adjL p t.f O) O i)).toArray 3,.cell bx #[slV bo p.n] 39,.cell bt (ints (tabL t.f.table t.f.params)).toArray 3,.cell by_ #[slV bt 256] 39,.cell bl (cellsT t).toArray 70]++σ'))
 (hR: ∀H',St H0 H' ([.cell bo (ints (twoL (adjL p t.f O) O (i+1))).toArray 3,.cell bx #[slV bo p.n] 39,.cell bt (ints (tabL t.f.table t.f.params)).toArray 3,.cell by_ #[slV bt 256] 39,.cell bl (cellsT t).toArray 70]++σ')→R1 (.tuple #[]) H'):
 CallsH Tryz.prog 127 (eachA p i #[ptV1 bl,ptV1 bx,ptV1 by_]) H1 R1:=by
 have hpl:=hp.place hi
 have hNl:(adjL p t.f O).length=O.length:=by rw[adjL,plL_len,hO]
 have hiO:i<O.length:=by omega
 have hg:=part_byte hf (p.Y i*p.W+p.X i)
 have hoo:=spl_ok (all_getD hOp i)
 have hval:(adjL p t.f O).getD i 0=adjustP t.f (partAt p t.f i) (O.getD i 0):=plL_at hi
 have htb:=tabL_ok hf.tab
 generalize hc:spl (O.getD i 0)=c at hoo
 generalize htl:tabL t.f.table t.f.params=tl at hs hR htb
 have htlen:tl.length=256:=by rw[←htl];exact tabL_len _ _
 obtain⟨q1,q2,q3,q4⟩:=hoo.bytes
 have bm: ∀{x:Int},byte x→0≤x∧x≤1000000:=fun h=>⟨h.1,by have:=h.2;omega⟩
 show CallsH Tryz.prog 127 #[.int .i64 i,.int .i64 (p.X i),.int .i64 (p.Y i),.int .i64 (p.Y i*p.W+p.X i),.pointer (some ⟨bl,0,none⟩),.pointer (some ⟨bx,0,none⟩),.pointer (some ⟨by_,0,none⟩)] H1 R1
 refine Tryz.s127 ?_
 unfold Tryz.S127
 refine⟨_,by simp[cellsT_len],rowIn_whole (hs.block 4 rfl),c114 (rdT.ext hs.ext t ht) hf hpl fun H10 he10=>⟨_,rfl,?_⟩⟩
 have hs10:=hs.step he10
 generalize hge:partP t.f (p.Y i*p.W+p.X i)=g at hg
 refine⟨some ⟨bo,0,none⟩,p.n,p.n,hs10.get 1 rfl (j:=0) rfl,_,rfl,by omega,by omega,O.getD i 0,?_,?_⟩
 ·rw[Int.toNat_natCast,Nat.mul_one,add_none,Nat.zero_add]
  exact hs10.rdA 0 rfl (twoL_at hNl hiO)
 refine c102 fun H16 he16=>⟨_,rfl,?_⟩
 rw[splitL_spl,hc]
 have hs16:=hs10.step he16
 refine hs16.alc fun b18 H19 hs19=>⟨rfl,hs19.putAllA 0 (l:=c.l) rfl rfl fun H20 hs20=>⟨some ⟨bt,0,none⟩,256,256,hs20.get 4 rfl (j:=0) rfl,_,rfl,rowIn_whole (hs20.block 0 rfl),?_⟩⟩
 refine c128 (hs20.isA 3 rfl htlen) htb q1 q2 q3 q4 fun H24 he24=>⟨_,rfl,?_⟩
 refine(hs20.step he24).alc fun b26 H27 hs27=>⟨rfl,hs27.putAllA 0 (l:=(mapP tl c).l) rfl rfl fun H28 hs28=>?_⟩
 have k1:=mapP1_bd (c:=c.r) htb q4
 have k2:=mapP1_bd (c:=c.g) htb q4
 have k3:=mapP1_bd (c:=c.b) htb q4
 have y1:byte (mapP1 tl c.r c.a):=by unfold byte at*;omega
 have y2:byte (mapP1 tl c.g c.a):=by unfold byte at*;omega
 have y3:byte (mapP1 tl c.b c.a):=by unfold byte at*;omega
 have hg2:byte (255-g):=by unfold byte at*;omega
 have wg:IntKind.wrap .i64 (255-g)=255-g:=by unfold byte at*;exact wrap_id (by omega) (by omega)
 have one: ∀{x m:Int},byte x→byte m→min c.a (IntKind.wrap .i64 (mulP m g+mulP x (255-g)))=min c.a (mulP m g+mulP x (255-g)):=fun hx hm=>by
  have u1:=mulP_byte hm hg
  have u2:=mulP_byte hx hg2
  unfold byte at u1 u2
  rw[wrap_id (by omega) (by omega)]
 intro X29 hX29
 refine hX29 _ _ (br_y (by decide) ⟨by decide,by decide,c.a,hs28.rdA 1 (j:=3) rfl rfl,by decide,by decide,mapP1 tl c.r c.a,hs28.rdA 0 (j:=0) rfl rfl,by decide,by decide,c.r,hs28.rdA 1 (j:=0) rfl rfl,mul_call (bm y1) (bm hg) ⟨_,rfl,.inl (Ext.refl _),?_⟩⟩)
 rw[wg]
 refine mul_call (bm q1) (bm hg2) ⟨_,rfl,.inl (Ext.refl _),by decide,by decide,?_⟩
 rw[one q1 y1]
 refine hs28.putA 1 (j:=0) rfl (Nat.le_of_ble_eq_true rfl) fun H29 hs29=>?_
 refine hX29 _ _ (br_y (by decide) ⟨by decide,by decide,c.a,hs29.rdA 1 (j:=3) rfl rfl,by decide,by decide,mapP1 tl c.g c.a,hs29.rdA 0 (j:=1) rfl rfl,by decide,by decide,c.g,hs29.rdA 1 (j:=1) rfl rfl,mul_call (bm y2) (bm hg) ⟨_,rfl,.inl (Ext.refl _),?_⟩⟩)
 rw[wg]
 refine mul_call (bm q2) (bm hg2) ⟨_,rfl,.inl (Ext.refl _),by decide,by decide,?_⟩
 rw[one q2 y2]
 refine hs29.putA 1 (j:=1) rfl (Nat.le_of_ble_eq_true rfl) fun H30 hs30=>?_
 refine hX29 _ _ (br_y (by decide) ⟨by decide,by decide,c.a,hs30.rdA 1 (j:=3) rfl rfl,by decide,by decide,mapP1 tl c.b c.a,hs30.rdA 0 (j:=2) rfl rfl,by decide,by decide,c.b,hs30.rdA 1 (j:=2) rfl rfl,mul_call (bm y3) (bm hg) ⟨_,rfl,.inl (Ext.refl _),?_⟩⟩)
 rw[wg]
 refine mul_call (bm q3) (bm hg2) ⟨_,rfl,.inl (Ext.refl _),by decide,by decide,?_⟩
 rw[one q3 y3]
 refine hs30.putA 1 (j:=2) rfl (Nat.le_of_ble_eq_true rfl) fun H31 hs31=>?_
 have hs31:St H0 H31 (.cell b26 (ints (mapP tl c).l).toArray 106:: .cell b18 (ints (adjP tl g c).l).toArray 106::([.cell bo (ints (twoL (adjL p t.f O) O i)).toArray 3,.cell bx #[slV bo p.n] 39,.cell bt (ints tl).toArray 3,.cell by_ #[slV bt 256] 39,.cell bl (cellsT t).toArray 70]++σ')):=hs31
 refine hX29 _ _ (br_n (by decide) ⟨some ⟨bo,0,none⟩,p.n,p.n,hs31.get 3 rfl (j:=0) rfl,_,rfl,rowIn_whole (hs31.block 1 rfl),?_⟩)
 obtain⟨z1,z2,z3,z4⟩:=(adjP_ok htb hg hoo).bytes
 refine c115 z1 z2 z3 z4 fun H48 he48=>⟨_,rfl,.inl he48,_,rfl,by omega,by omega,?_⟩
 rw[Int.toNat_natCast,Nat.mul_one,add_none,Nat.zero_add]
 refine(hs31.step he48).putA 2 rfl (by rw[twoL_len hNl (by omega)];exact hiO) fun H51 hs51=>hR H51 ?_
 rw[←twoL_set hNl hiO (v:=joinP (adjP tl g c)) (by rw[hval];unfold adjustP partAt;rw[htl,hge,hc])]
 exact hs51.tail.tail
end Go.Proofs
namespace Go.Proofs
open Go.Sh
variable {H0 H:Heap} {σ:List Rs} {R:Value→Heap→Prop}
theorem plL_congr{p:Pn}{f g:Nat→Int}(h: ∀i,i<p.n→f i=g i):plL p f=plL p g:=by
 unfold plL
 exact List.map_congr_left fun i hi=>h i (List.mem_range.1 hi)
def picL(p:Pn)(ls:List Lay):List Int:=plL p fun i=>lsPx p.W (p.X i) (p.Y i) ls 0
theorem picL_px{p:Pn}{ls:List Lay}{w h next:Int}(hg:gKs (goodF w h next) ls):(picL p ls).all pixelB=true:=plL_all fun i hi=>ls_px _ _ _ hg pixZ0
theorem picL_nil(p:Pn):picL p []=List.replicate p.n 0:=by
 unfold picL plL
 refine List.ext_getElem (by simp) fun i h1 h2=>?_
 simp[lsPx]
theorem replA{p:Pn}(hp:PnOk p):(List.toArray (reps (Int.toNat (p.w*p.h)) (Array.toList #[Value.int .i64 0])))=(ints (List.replicate p.n 0)).toArray:=repsA p.n
theorem c110{p:Pn}(hp:PnOk p){t:T}{next:Int}{O:List Int}(hO:O.length=p.n)(hOp:O.all pixelB=true)(ht:rdT H0 t)(hf:goodF p.W p.hd next t.f){bo:Nat}(hs:St H0 H (.cell bo (ints O).toArray 3::σ))(hA:t.f.params.length≤1000000000000)
 (hR: ∀H',St H0 H' (.cell bo (ints (adjL p t.f O)).toArray 3::σ)→R (.tuple #[]) H'):CallsH Tryz.prog 110 #[.agg p.A,.agg (cellsT t).toArray,slV bo p.n] H R:=by
 show CallsH Tryz.prog 110 #[.agg p.A,.agg (cellsT t).toArray,.slice (some ⟨bo,0,none⟩) p.n p.n] H R
 have hN:(adjL p t.f O).length=O.length:=by rw[adjL,plL_len,hO]
 cases t with|mk f P M A K ks=>
 have ht':=ht
 rw[rdT] at ht'
 have hAr:=ht'.2.2.1
 have hAl:=hAr.length
 have hA:f.params.length≤1000000000000:=hA
 refine Tryz.s110 ?_
 unfold Tryz.S110
 refine hs.alc fun b4 H5 hs5=>hs5.alc fun b6 H7 hs7=>hs7.alc fun b8 H9 hs9=>⟨f.table,hs9.get 1 rfl (j:=16) rfl,A.p,A.l,A.c,hs9.get 1 rfl (j:=17) rfl,?_⟩
 refine tab_call (hAr.ext hs9.ext) (by omega) hf.tab fun bt H13 hs13=>⟨_,_,_,_,rfl,?_⟩
 refine(hs9.call hs13).alc fun b16 H17 hs17=>hs17.putAll 0 rfl rfl (by simp[Value.oneCell']) fun H18 hs18=>⟨p.A,rfl,rowIn_whole (hs18.block 4 rfl),?_⟩
 have h18:St H0 H18 ([.cell bo (ints O).toArray 3,.cell b8 #[slV bo p.n] 39,.cell bt (ints (tabL f.table f.params)).toArray 3,.cell b16 #[slV bt 256] 39,.cell b6 (cellsT (.mk f P M A K ks)).toArray 70]++(.cell b4 p.A 138::σ)):=
  hs18.perm ((permC (a:=[_,_,_,_,_,_]) (b:=[_,_,_,_,_,_]) fun _ y=>by simp only[List.count_cons,List.count_nil];ac_rfl).append_right σ)
 refine each_call (T:=fun i=>[.cell bo (ints (twoL (adjL p f O) O i)).toArray 3,.cell b8 #[slV bo p.n] 39,.cell bt (ints (tabL f.table f.params)).toArray 3,.cell b16 #[slV bt 256] 39,.cell b6 (cellsT (.mk f P M A K ks)).toArray 70]) hp (by rw[twoL_zero];exact h18) (fun i hi {σ' H1 R1} h1 h2=>adj_step hp hO hOp ht hf hi h1 h2) fun H21 hs21=>⟨rfl,hR H21 ?_⟩
 rw[show twoL (adjL p f O) O p.n=adjL p f O from by rw[←hO];exact twoL_all hN] at hs21
 exact(((((hs21.del 1).del 1).del 1).del 1).del 1)
def srcL(p:Pn)(t:T):List Int:=if t.f.kind=0 then seenL p t.f else picL p (layKs t.kids)
def PicOkT(t:T):Prop:= ∀{H:Heap} {R:Value→Heap→Prop} {p:Pn} {next:Int},PnOk p→grp H t.K t.kids→gKs (goodF p.W p.hd next) (layKs t.kids)→okKs (layKs t.kids)→t.kids.length≤1000000000→(∀b H',St H H' [.cell b (ints (picL p (layKs t.kids))).toArray 3]→R (slV b p.n) H')→CallsH Tryz.prog 81 #[.agg p.A,t.K.v] H R
theorem c111{p:Pn}(hp:PnOk p){t:T}{next:Int}(iht:PicOkT t)(ht:rdT H t)(hg:gT (goodF p.W p.hd next) (layT t))(hok:okL (layT t))(hk2:t.f.kind≠2)(hR: ∀b H',St H H' [.cell b (ints (srcL p t)).toArray 3]→R (slV b p.n) H'):CallsH Tryz.prog 111 #[.agg p.A,.agg (cellsT t).toArray] H R:=by
 have har:=hp.area
 cases t with|mk f P M A K ks=>
 have ht':=ht
 rw[rdT] at ht'
 rw[layT] at hg hok
 obtain⟨hf,_,hgk⟩:=hg
 obtain⟨o1,o2,o3,o4,o5⟩:=hok
 have hkind:=hf.kind
 have hk2:f.kind≠2:=hk2
 refine Tryz.s111 ?_
 unfold Tryz.S111
 refine(St.nil H).alc fun b3 H4 hs4=>hs4.alc fun b5 H6 hs6=>⟨f.kind,hs6.get 0 rfl (j:=1) rfl,br_eq (fun hk0=>?_) fun hk0=>br_eq (fun hk1=>?_) fun hk1=>by omega⟩
 ·refine⟨f.w,hs6.get 0 rfl (j:=5) rfl,f.h,hs6.get 0 rfl (j:=6) rfl,P.p,P.l,P.c,hs6.get 0 rfl (j:=7) rfl,hs6.alc fun b11 H12 hs12=>⟨rfl,hs12.putAll 0 rfl rfl (by simp[Value.oneCell']) fun H13 hs13=>⟨(ints f.map.l).toArray,rfl,?_,?_⟩⟩⟩
  ·exact rowIn_block (hs13.block 1 rfl) fun j v hv=>by
    have hj:j<6:=(Array.getElem?_eq_some_iff.1 hv).1
    rw[←hv]
    rcases j with _|_|_|_|_|_|j<;>first|rfl|omega
  refine c78 fun H16 he16=>⟨_,_,rfl,?_⟩
  refine(hs13.step he16).alc fun b19 H20 hs20=>⟨rfl,hs20.putAllA 0 (l:=(backM f.map).2.l) rfl rfl fun H21 hs21=>⟨p.w,hs21.get 3 rfl (j:=6) rfl,p.h,hs21.get 3 rfl (j:=7) rfl,?_⟩⟩
  rw[wrap_id (n:=p.w*p.h) (by omega) (by omega)]
  refine⟨har.1,Int.le_refl _,by omega,by omega,?_⟩
  rw[replA hp]
  refine hs21.alc fun b24 H25 hs25=>hs25.alc fun b26 H27 hs27=>hs27.putAll 0 rfl rfl (by simp[Value.oneCell']) fun H28 hs28=>⟨p.A,rfl,rowIn_whole (hs28.block 5 rfl),?_⟩
  have hs28:St H H28 [.cell b26 #[slV b24 p.n] 39,.cell b24 (ints (List.replicate p.n 0)).toArray 3,.cell b19 (ints (backM f.map).2.l).toArray 42,.cell b11 (picA f.w f.h P.p P.l P.c) 168,.cell b5 (cellsL f P.v M.v A.v K.v).toArray 70,.cell b3 p.A 138]:=hs28
  have h28:St H H28 ([.cell b24 (ints (List.replicate p.n 0)).toArray 3,.cell b26 #[slV b24 p.n] 39,.cell b11 (picA f.w f.h P.p P.l P.c) 168,.cell b19 (ints (backM f.map).2.l).toArray 42,.cell b5 (cellsL f P.v M.v A.v K.v).toArray 70]++[.cell b3 p.A 138]):=
   hs28.perm (permC (a:=[_,_,_,_,_,_]) (b:=[_,_,_,_,_,_]) fun _ y=>by simp only[List.count_cons,List.count_nil];ac_rfl)
  have e0:List.replicate p.n 0=fillA (seenL p f) 0:=by rw[fillA_zero,seenL,plL_len]
  rw[e0] at h28
  refine each_call (T:=fun i=>[.cell b24 (ints (fillA (seenL p f) i)).toArray 3,.cell b26 #[slV b24 p.n] 39,.cell b11 (picA f.w f.h P.p P.l P.c) 168,.cell b19 (ints (backM f.map).2.l).toArray 42,.cell b5 (cellsL f P.v M.v A.v K.v).toArray 70]) hp h28 (fun i hi {σ' H1 R1} h1 h2=>source_step hp ht'.1 hf hk0 hi h1 h2) fun H31 hs31=>⟨rfl,some ⟨b24,0,none⟩,p.n,p.n,hs31.get 1 rfl (j:=0) rfl,hR b24 H31 ?_⟩
  have e1:fillA (seenL p f) p.n=seenL p f:=by have:=fillA_all (seenL p f);rw[seenL,plL_len] at this;exact this
  rw[e1] at hs31
  rw[show srcL p (.mk f P M A K ks)=seenL p f from by unfold srcL;rw[if_pos (show(T.mk f P M A K ks).f.kind=0 from hk0)];rfl]
  exact hs31.take 1
 ·refine⟨p.A,rfl,rowIn_whole (hs6.block 1 rfl),K.p,K.l,K.c,hs6.get 0 rfl (j:=18) rfl,?_⟩
  rw[show srcL p (.mk f P M A K ks)=picL p (layKs ks) from by unfold srcL;rw[if_neg (show ¬(T.mk f P M A K ks).f.kind=0 from hk0)];rfl] at hR
  rw[layKs_len] at o4
  refine iht hp (grp.ext ⟨ht'.2.2.2.1,ht'.2.2.2.2⟩ hs6.ext) hgk o5 o4 fun b H36 hs36=>⟨_,_,_,rfl,hR b H36 ?_⟩
  exact(hs6.call hs36).take 1
theorem list_of{ks:List T}(ih: ∀t∈ks,PicOkT t){K:Sl3}{p:Pn}{next:Int}(hp:PnOk p)(hg:grp H K ks)(hgk:gKs (goodF p.W p.hd next) (layKs ks))(hok:okKs (layKs ks))(hl:ks.length≤1000000000)(hR: ∀b H',St H H' [.cell b (ints (picL p (layKs ks))).toArray 3]→R (slV b p.n) H'):CallsH Tryz.prog 81 #[.agg p.A,K.v] H R:=by
 show CallsH Tryz.prog 81 #[.agg p.A,.slice K.p K.l K.c] H R
 have har:=hp.area
 have hKl:=hg.1.1
 refine Tryz.s81 ?_
 unfold Tryz.S81
 refine(St.nil H).alc fun b3 H4 hs4=>⟨p.w,hs4.get 0 rfl (j:=6) rfl,p.h,hs4.get 0 rfl (j:=7) rfl,?_⟩
 rw[wrap_id (n:=p.w*p.h) (by omega) (by omega)]
 refine⟨har.1,Int.le_refl _,by omega,by omega,?_⟩
 rw[replA hp]
 refine hs4.alc fun b7 H8 hs8=>hs8.alc fun b9 H10 hs10=>hs10.putAll 0 rfl rfl (by simp[Value.oneCell']) fun H11 hs11=>?_
 intro X12 hX12
 have go: ∀k,k≤ks.length→ ∀H1,St H H1 [.cell b7 (ints (picL p ((layKs ks).take k))).toArray 3,.cell b9 #[slV b7 p.n] 39,.cell b3 p.A 138]→X12 [.int .i64 (k:Nat)] H1:=by
  refine upto fun k hk ihk H1 hs1=>hX12 _ _ (br_dec (fun hlt=>?_) fun hge=>?_)
  ·have hk':k<ks.length:=by omega
   have ht:=List.getElem?_eq_getElem hk'
   generalize ks[k]=t at ht
   have htm:=List.mem_of_getElem? ht
   have hlt2:(layKs ks)[k]?=some (layT t):=by rw[layKs_map,List.getElem?_map,ht];rfl
   have hmem:=List.mem_of_getElem? hlt2
   have hgt:=gKs_iff.1 hgk _ hmem
   have hot:=okKs_iff.1 hok _ hmem
   have htk:(layKs ks).take (k+1)=(layKs ks).take k++[layT t]:=by rw[List.take_add_one,hlt2];rfl
   have hgood:goodF p.W p.hd next t.f:=by cases t;exact hgt.1
   have hprev:gKs (goodF p.W p.hd next) ((layKs ks).take k):=gKs_iff.2 fun u hu=>gKs_iff.1 hgk u (List.mem_of_mem_take hu)
   have hOp:=picL_px (p:=p) hprev
   have hO:(picL p ((layKs ks).take k)).length=p.n:=plL_len _ _
   have hOat: ∀i,i<p.n→(picL p ((layKs ks).take k)).getD i 0=lsPx p.W (p.X i) (p.Y i) ((layKs ks).take k) 0:=fun i hi=>plL_at hi
   obtain⟨a,h1,h2,h3⟩:=(hg.ext hs1.ext).get ht
   have hrd:rdT H t:=rdKs_iff.1 hg.2 t htm
   have next': ∀H2,St H H2 [.cell b7 (ints (picL p ((layKs ks).take (k+1)))).toArray 3,.cell b9 #[slV b7 p.n] 39,.cell b3 p.A 138]→X12 [.int .i64 (IntKind.wrap .i64 ((k:Int)+1))] H2:=fun H2 hs2=>by
    rw[wrap_id (by omega) (by omega)]
    exact ihk hk' H2 hs2
   have hshape:layT t= .mk t.f (layKs t.kids):=by cases t;rfl
   have step: ∀i,lsPx p.W (p.X i) (p.Y i) ((layKs ks).take (k+1)) 0=layPx p.W (p.X i) (p.Y i) (.mk t.f (layKs t.kids)) (lsPx p.W (p.X i) (p.Y i) ((layKs ks).take k) 0):=fun i=>by
    rw[htk,lsPx_app,lsPx,lsPx,hshape]
   refine⟨a,h1,by omega,hlt,(cellsT t).toArray,by simp[cellsT_len],h2,hs1.alc fun b17 H18 hs18=>⟨by simp[cellsT_len],hs18.putAll 0 rfl (by simp[cellsT_len]) (by simpa using cellsT_one t) fun H19 hs19=>⟨t.f.hidden,?_,br_i (fun hh=>next' H19 ?_) fun hh=>⟨t.f.kind,?_,br_eq (fun hk2=>?_) fun hk2=>?_⟩⟩⟩⟩
   ·have:=hs19.get 0 rfl (j:=2) (v:= .bool t.f.hidden) (by cases t;rfl)
    simpa using this
   ·have e:picL p ((layKs ks).take (k+1))=picL p ((layKs ks).take k):=plL_congr fun i hi=>by rw[step i,layPx,if_pos hh]
    rw[e];exact hs19.tail
   ·have:=hs19.get 0 rfl (j:=1) (v:= .int .i64 t.f.kind) (by cases t;rfl)
    simpa using this
   ·refine⟨p.A,rfl,rowIn_whole (hs19.block 3 rfl),_,by simp[cellsT_len],rowIn_whole (hs19.block 0 rfl),some ⟨b7,0,none⟩,p.n,p.n,hs19.get 2 rfl (j:=0) rfl,?_⟩
    have h19:St H H19 [.cell b7 (ints (picL p ((layKs ks).take k))).toArray 3,.cell b17 (cellsT t).toArray 70,.cell b9 #[slV b7 p.n] 39,.cell b3 p.A 138]:=hs19.swap
    refine c110 hp hO hOp hrd hgood h19 (by rw[hshape] at hot;obtain⟨_,_,o3,_⟩:=hot;omega) fun H26 hs26=>⟨rfl,next' H26 ?_⟩
    have e:picL p ((layKs ks).take (k+1))=adjL p t.f (picL p ((layKs ks).take k)):=plL_congr fun i hi=>by
     rw[step i,layPx,if_neg (by rw[hh];decide),if_pos hk2,hOat i hi];rfl
    rw[e];exact hs26.del 1
   ·refine⟨p.A,rfl,rowIn_whole (hs19.block 3 rfl),_,by simp[cellsT_len],rowIn_whole (hs19.block 0 rfl),?_⟩
    refine c111 hp (ih t htm) (rdT.ext hs19.ext t hrd) hgt hot hk2 fun bs H30 hs30=>⟨_,_,_,rfl,?_⟩
    refine(hs19.call hs30).alc fun b32 H33 hs33=>hs33.putAll 0 rfl rfl (by simp[Value.oneCell',slV]) fun H34 hs34=>⟨p.A,rfl,rowIn_whole (hs34.block 5 rfl),?_⟩
    have hSl:(srcL p t).length=p.n:=by unfold srcL;split<;>exact plL_len _ _
    have hSp:(srcL p t).all pixelB=true:=by
     unfold srcL
     split
     ·rename_i hk0;exact plL_all fun i hi=>atP_ok (ras_pic hgood hk0) _ _ _ _
     ·exact picL_px (w:=p.W) (h:=p.hd) (next:=next) (by rw[hshape] at hgt;exact hgt.2.2)
    have h34:St H H34 ([.cell b7 (ints (picL p ((layKs ks).take k))).toArray 3,.cell b9 #[slV b7 p.n] 39,.cell bs (ints (srcL p t)).toArray 3,.cell b32 #[slV bs p.n] 39,.cell b17 (cellsT t).toArray 70]++[.cell b3 p.A 138]):=
     hs34.perm (permC (a:=[_,_,_,_,_,_]) (b:=[_,_,_,_,_,_]) fun _ y=>by simp only[List.count_cons,List.count_nil];ac_rfl)
    have hN:(overL p t.f (srcL p t) (picL p ((layKs ks).take k))).length=(picL p ((layKs ks).take k)).length:=by rw[overL,plL_len,hO]
    refine each_call (T:=fun i=>[.cell b7 (ints (twoL (overL p t.f (srcL p t) (picL p ((layKs ks).take k))) (picL p ((layKs ks).take k)) i)).toArray 3,.cell b9 #[slV b7 p.n] 39,.cell bs (ints (srcL p t)).toArray 3,.cell b32 #[slV bs p.n] 39,.cell b17 (cellsT t).toArray 70]) hp (by rw[twoL_zero];exact h34) (fun i hi {σ' H1 R1} h1 h2=>over_step hp hSl hO hSp hOp hrd hgood hi h1 h2) fun H37 hs37=>⟨rfl,next' H37 ?_⟩
    rw[show twoL (overL p t.f (srcL p t) (picL p ((layKs ks).take k))) (picL p ((layKs ks).take k)) p.n=overL p t.f (srcL p t) (picL p ((layKs ks).take k)) from by have:=twoL_all hN;rw[hO] at this;exact this] at hs37
    have e:picL p ((layKs ks).take (k+1))=overL p t.f (srcL p t) (picL p ((layKs ks).take k)):=plL_congr fun i hi=>by
     rw[step i,layPx,if_neg (by rw[hh];decide),if_neg hk2,hOat i hi]
     have es:(srcL p t).getD i 0=if t.f.kind=0 then seenP t.f (p.X i) (p.Y i) else lsPx p.W (p.X i) (p.Y i) (layKs t.kids) 0:=by
      unfold srcL
      by_cases hk0:t.f.kind=0
      ·rw[if_pos hk0,if_pos hk0];exact plL_at hi
      ·rw[if_neg hk0,if_neg hk0];exact plL_at hi
     rw[es];rfl
    rw[e]
    exact((hs37.del 2).del 2).del 2
  ·have hkl:k=ks.length:=by omega
   rw[hkl,List.take_of_length_le (by rw[layKs_len];exact Nat.le_refl _)] at hs1
   exact⟨some ⟨b7,0,none⟩,p.n,p.n,hs1.get 1 rfl (j:=0) rfl,hR b7 H1 (hs1.take 1)⟩
 refine go 0 (Nat.zero_le _) H11 ?_
 rw[List.take_zero,picL_nil]
 have hs11:St H H11 [.cell b9 #[slV b7 p.n] 39,.cell b7 (ints (List.replicate p.n 0)).toArray 3,.cell b3 p.A 138]:=hs11
 exact hs11.perm (permC (a:=[_,_,_]) (b:=[_,_,_]) fun _ y=>by simp only[List.count_cons,List.count_nil];ac_rfl)
theorem pic_all: ∀t,PicOkT t:=T.ind fun f P M A K ks ih=>fun{H R p next} hp hg hgk hok hl hR=>list_of ih hp hg hgk hok hl hR
theorem c81{ks:List T}{K:Sl3}{p:Pn}{next:Int}(hp:PnOk p)(hg:grp H K ks)(hgk:gKs (goodF p.W p.hd next) (layKs ks))(hok:okKs (layKs ks))(hl:ks.length≤1000000000)(hR: ∀b H',St H H' [.cell b (ints (picL p (layKs ks))).toArray 3]→R (slV b p.n) H'):CallsH Tryz.prog 81 #[.agg p.A,K.v] H R:=list_of (fun t _=>pic_all t) hp hg hgk hok hl hR
end Go.Proofs
namespace Go.Proofs
open Go.Sh
variable {H0 H:Heap} {σ:List Rs} {R:Value→Heap→Prop}
def regP(D:DocL)(x y w h:Int):Pn:=⟨D.w,D.h,0,.nil,x,y,w,h⟩
structure RegOk(D:DocL)(x y w h:Int):Prop where
 hx:0≤x
 hy:0≤y
 hw:0≤w∧w≤D.w-x
 hh:0≤h∧h≤D.h-y
theorem Inv.sides{D:DocL}(hi:Inv D):(1≤D.w∧D.w≤32768)∧(1≤D.h∧D.h≤32768):=by
 have:=hi.size
 unfold sizedB at this
 have:=of_decide_eq_true this
 omega
theorem Inv.few{D:DocL}(hi:Inv D):D.ks.length≤4096:=by have h1:=len_cnt D.ks;have:=hi.cnt;omega
theorem c47{A:Array Value}{D:DocL}{x y w h:Int}(hd:DocR H A D)(hi:Inv D)(hb:(-9223372036854775808≤x∧x≤9223372036854775807)∧(-9223372036854775808≤y∧y≤9223372036854775807))
 (h1:RegOk D x y w h→ ∀b H',St H H' [.cell b (ints (picL (regP D x y w h) D.ks)).toArray 3]→R (.tuple #[slV b (regP D x y w h).n,.int .i64 0]) H')
 (h0: ¬RegOk D x y w h→ ∀H',Ext H H'→R (.tuple #[.slice none 0 0,.int .i64 12]) H'):CallsH Tryz.prog 47 #[.agg A,.int .i64 x,.int .i64 y,.int .i64 w,.int .i64 h] H R:=by
 obtain⟨s1,s2⟩:=hi.sides
 have hfew:=hi.few
 obtain⟨K,ks,rfl,hg,hl⟩:=hd
 refine Tryz.s47 ?_
 unfold Tryz.S47
 refine(St.nil H).alc fun b6 H7 hs7=>?_
 intro J8 hJ8
 have bad: ¬RegOk D x y w h→R (.tuple #[.slice none 0 0,.int .i64 12]) H7:=fun hn=>h0 hn H7 hs7.ext
 refine br_dec (fun g=>bad fun hh=>by have:=hh.hx;omega) fun g1=>br_dec (fun g=>bad fun hh=>by have:=hh.hy;omega) fun g2=>br_dec (fun g=>bad fun hh=>by have:=hh.hw;omega) fun g3=>br_dec (fun g=>bad fun hh=>by have:=hh.hh;omega) fun g4=>⟨D.w,hs7.get 0 rfl (j:=0) rfl,br_dec (fun g=>bad fun hh=>by have:=hh.hw;omega) fun g5=>⟨D.h,hs7.get 0 rfl (j:=1) rfl,br_dec (fun g=>bad fun hh=>by have:=hh.hh;omega) fun g6=>⟨D.w,hs7.get 0 rfl (j:=0) rfl,?_⟩⟩⟩
 rw[wrap_id (n:=D.w-x) (by omega) (by omega)]
 refine br_dec (fun g=>bad fun hh=>by have:=hh.hw;omega) fun g7=>⟨D.h,hs7.get 0 rfl (j:=1) rfl,?_⟩
 rw[wrap_id (n:=D.h-y) (by omega) (by omega)]
 refine br_dec (fun g=>bad fun hh=>by have:=hh.hh;omega) fun g8=>hJ8 _ ?_
 have hok:RegOk D x y w h:=⟨by omega,by omega,by omega,by omega⟩
 refine⟨_,rfl,rowIn_whole (hs7.block 0 rfl),rfl,by decide,K.p,K.l,K.c,hs7.get 0 rfl (j:=3) rfl,?_⟩
 have hp:PnOk ⟨D.w,D.h,D.next,K,x,y,w,h⟩:=⟨by show 0≤D.w∧D.w≤32768;omega,by show 0≤D.h∧D.h≤32768;omega,hok.hx,hok.hy,by have:=hok.hw;show 0≤w∧x+w≤D.w;omega,by have:=hok.hh;show 0≤h∧y+h≤D.h;omega⟩
 have hgood:=hi.good
 have hokl:=hi.ok
 rw[←hl] at hgood hokl hfew
 rw[layKs_len] at hfew
 refine c81 (p:=⟨D.w,D.h,D.next,K,x,y,w,h⟩) (K:=K) hp (hg.ext hs7.ext) hgood hokl (by omega) fun b H13 hs13=>⟨_,_,_,rfl,?_⟩
 rw[hl] at hs13
 exact h1 hok b H13 ((hs7.call hs13).take 1)
theorem reg_at{D:DocL}{x y:Int}{w h i j:Nat}(hi:i<w)(hj:j<h):(picL (regP D x y w h) D.ks).getD (j*w+i) 0=lsPx D.w (x+i) (y+j) D.ks 0:=by
 have hlt:j*w+i<w*h:=by
  have:(j+1)*w≤h*w:=Nat.mul_le_mul_right _ hj
  rw[Nat.add_mul,Nat.one_mul,Nat.mul_comm h w] at this
  omega
 have hn:(regP D x y w h).n=w*h:=by show((w:Int)*(h:Int)).toNat=w*h;rw[←Int.natCast_mul,Int.toNat_natCast]
 have e1:(regP D x y w h).X (j*w+i)=x+i:=by
  show x+((j*w+i:Nat):Int)%(w:Int)=x+i
  rw[←Int.natCast_emod,Nat.add_comm,Nat.add_mul_mod_self_right,Nat.mod_eq_of_lt hi]
 have e2:(regP D x y w h).Y (j*w+i)=y+j:=by
  show y+((j*w+i:Nat):Int)/(w:Int)=y+j
  rw[←Int.natCast_ediv,Nat.add_comm,Nat.add_mul_div_right _ _ (by omega),Nat.div_eq_of_lt hi,Nat.zero_add]
 have:=plL_at (p:=regP D x y w h) (f:=fun i=>lsPx (regP D x y w h).W ((regP D x y w h).X i) ((regP D x y w h).Y i) D.ks 0) (i:=j*w+i) (by rw[hn];exact hlt)
 rw[show picL (regP D x y w h) D.ks=plL (regP D x y w h) fun i=>lsPx (regP D x y w h).W ((regP D x y w h).X i) ((regP D x y w h).Y i) D.ks 0 from rfl,this]
 simp only[e1,e2]
 rfl
end Go.Proofs
namespace Go.Proofs
open Go.Sh
structure Rw where
 f:LayF
 to:Int
 deriving DecidableEq
mutual
def flatT(to:Int):Lay→List Rw
 | .mk f ks=>⟨f,to⟩::flatKs f.id ks
def flatKs(to:Int):List Lay→List Rw
 |[]=>[]
 |t::ts=>flatT to t++flatKs to ts
end
def ofG(to:Int)(L:List Rw):List Rw:=L.filter fun r=>decide (r.to=to)
def Rel(D:List Lay)(L:List Rw):Prop:= ∀to,ofG to L=ofG to (flatKs 0 D)
theorem ofG_app(to:Int)(a b:List Rw):ofG to (a++b)=ofG to a++ofG to b:=List.filter_append _ _
theorem ofG_nil{to:Int}{L:List Rw}(h: ∀r∈L,r.to≠to):ofG to L=[]:=List.filter_eq_nil_iff.2 fun r hr=>by simpa using h r hr
theorem ofG_cons_eq{to:Int}{r:Rw}(h:r.to=to)(L:List Rw):ofG to (r::L)=r::ofG to L:=by unfold ofG;rw[List.filter_cons,if_pos (by simpa using h)]
theorem ofG_cons_ne{to:Int}{r:Rw}(h:r.to≠to)(L:List Rw):ofG to (r::L)=ofG to L:=by unfold ofG;rw[List.filter_cons,if_neg (by simpa using h)]
theorem ofG_mem{to:Int}{L:List Rw}{r:Rw}:r∈ofG to L↔r∈L∧r.to=to:=by unfold ofG;rw[List.mem_filter];simp
theorem flatKs_app(to:Int)(a b:List Lay):flatKs to (a++b)=flatKs to a++flatKs to b:=by
 induction a with
 |nil=>rfl
 |cons t a ih=>rw[List.cons_append,flatKs,ih,flatKs,List.append_assoc]
theorem flatKs_cons(to:Int)(f:LayF)(ks ts:List Lay):flatKs to (.mk f ks::ts)=⟨f,to⟩::(flatKs f.id ks++flatKs to ts):=by rw[flatKs,flatT];rfl
theorem idsKs_cons(f:LayF)(ks ts:List Lay):idsKs (.mk f ks::ts)=f.id::(idsKs ks++idsKs ts):=by rw[idsKs,idsT];rfl
def idsR(L:List Rw):List Int:=L.map fun r=>r.f.id
theorem idsR_app(a b:List Rw):idsR (a++b)=idsR a++idsR b:=List.map_append
theorem flat_ids: ∀t to,idsR (flatT to t)=idsT t:=Lay.ind fun f ks ih to=>by
 rw[flatT,idsT,idsR,List.map_cons]
 have: ∀(ts:List Lay),(∀t∈ts,t∈ks)→ ∀g,idsR (flatKs g ts)=idsKs ts:=by
  intro ts
  induction ts with
  |nil=>intro _ g;rfl
  |cons t ts ih2=>intro hm g;rw[flatKs,idsKs,idsR_app,ih t (hm t List.mem_cons_self),ih2 fun t ht=>hm t (List.mem_cons_of_mem _ ht)]
 rw[show List.map (fun r=>r.f.id) (flatKs f.id ks)=idsKs ks from this ks (fun _ h=>h) f.id]
theorem flatKs_ids: ∀(ts:List Lay) (to:Int),idsR (flatKs to ts)=idsKs ts
 |[],to=>rfl
 |t::ts,to=>by rw[flatKs,idsKs,idsR_app,flat_ids,flatKs_ids ts]
theorem to_memT: ∀t g,∀x∈flatT g t,x.to=g∨x.to∈idsT t:=Lay.ind fun f ks ih g x hx=>by
 rw[flatT] at hx
 rw[idsT]
 rcases List.mem_cons.1 hx with rfl|hx
 ·exact .inl rfl
 ·have: ∀(ts:List Lay),(∀t∈ts,t∈ks)→ ∀x∈flatKs f.id ts,x.to=f.id∨x.to∈idsKs ts:=by
   intro ts
   induction ts with
   |nil=>intro _ x hx;cases hx
   |cons t ts ih2=>
    intro hm x hx
    rw[flatKs] at hx
    rw[idsKs]
    rcases List.mem_append.1 hx with hx|hx
    ·exact(ih t (hm t List.mem_cons_self) _ x hx).imp id fun h=>List.mem_append_left _ h
    ·exact(ih2 (fun t ht=>hm t (List.mem_cons_of_mem _ ht)) x hx).imp id fun h=>List.mem_append_right _ h
  rcases this ks (fun _ h=>h) x hx with h|h
  ·exact .inr (h▸List.mem_cons_self)
  ·exact .inr (List.mem_cons_of_mem _ h)
theorem to_mem: ∀{ts:List Lay} {g:Int},∀x∈flatKs g ts,x.to=g∨x.to∈idsKs ts
 |[],g,x,hx=>by cases hx
 |t::ts,g,x,hx=>by
  rw[flatKs] at hx
  rw[idsKs]
  rcases List.mem_append.1 hx with hx|hx
  ·exact(to_memT t g x hx).imp id fun h=>List.mem_append_left _ h
  ·exact(to_mem x hx).imp id fun h=>List.mem_append_right _ h
theorem ofG_other{to g:Int}{ks:List Lay}(h:to≠g)(hn:to∉idsKs ks):ofG to (flatKs g ks)=[]:=
 ofG_nil fun r hr he=>(to_mem r hr).elim (fun h2=>h (he▸h2)) fun h2=>hn (he▸h2)
def rowG(g:Int)(t:Lay):Rw:=⟨t.f,g⟩
theorem ofG_own{g:Int}: ∀{ks:List Lay},g∉idsKs ks→ofG g (flatKs g ks)=ks.map (rowG g)
 |[],_=>rfl
 | .mk f ks::ts,hn=>by
  rw[idsKs_cons] at hn
  simp only[List.mem_cons,List.mem_append,not_or] at hn
  rw[flatKs_cons,ofG_cons_eq (r:=⟨f,g⟩) rfl,ofG_app,ofG_other (fun h=>hn.1 h) hn.2.1,ofG_own hn.2.2]
  rfl
theorem ofG_hole{g g0:Int}{pre post ks:List Lay}{f:LayF}(h1:g∉idsKs pre)(h2:g∉idsKs post)(h0:g≠g0):ofG g (flatKs g0 (pre++ .mk f ks::post))=ofG g (flatKs f.id ks):=by
 rw[flatKs_app,ofG_app,ofG_other h0 h1,flatKs_cons,ofG_cons_ne (fun h=>h0 h.symm),ofG_app,ofG_other h0 h2,List.nil_append,List.append_nil]
def gid:List FrL→Int
 |[]=>0
 |fr::_=>fr.f.id
def preV:List FrL→List Rw
 |[]=>[]
 |fr::u=>preV u++(flatKs (gid u) fr.pre++[⟨fr.f,gid u⟩])
def postV:List FrL→List Rw
 |[]=>[]
 |fr::u=>flatKs (gid u) fr.post++postV u
theorem flat_plug: ∀(v:List FrL) (kh:List Lay),flatKs 0 (plugL v kh)=preV v++(flatKs (gid v) kh++postV v)
 |[],kh=>by simp[plugL,preV,postV,gid]
 |fr::u,kh=>by
  rw[plugL,flat_plug u,flatKs_app,flatKs_cons,preV,postV,gid]
  simp
theorem gid_up: ∀(u:List FrL),gid u=0∨gid u∈idsUp u
 |[]=> .inl rfl
 |fr::u=> .inr (by rw[idsUp,gid];simp)
theorem ofG_up{g:Int}(h0:g≠0): ∀(u:List FrL) (ks:List Lay),g∉idsUp u→ofG g (flatKs 0 (plugL u ks))=ofG g (flatKs (gid u) ks)
 |[],ks,_=>rfl
 |fr::u,ks,hn=>by
  rw[idsUp] at hn
  simp only[List.mem_cons,List.mem_append,not_or] at hn
  rw[plugL,ofG_up h0 u _ (by simp_all),ofG_hole (by simp_all) (by simp_all) fun h=>?_]
  ·rfl
  ·rcases gid_up u with h2|h2
   ·exact h0 (h.trans h2)
   ·rw[←h] at h2;simp_all
structure Ids(D:List Lay):Prop where
 nodup:(idsKs D).Nodup
 pos: ∀x∈idsKs D,x≠0
theorem Inv.ids'{D:DocL}(h:Inv D):Ids D.ks:=⟨h.ids,fun x hx=>by have:=ids_ltKs h.good x hx;omega⟩
theorem Ids.split{fr:FrL}{u:List FrL}{ks:List Lay}(h:Ids (plugL (fr::u) ks)):fr.f.id≠0∧fr.f.id∉idsKs ks∧fr.f.id∉idsUp u∧fr.f.id∉idsKs fr.pre∧fr.f.id∉idsKs fr.post∧(∀x∈idsKs ks,x≠0∧x∉idsUp (fr::u)):=by
 have hp:=ids_plug (fr::u) ks
 have hn:=(hp.nodup_iff).1 h.nodup
 have hz: ∀x,x∈idsKs ks++idsUp (fr::u)→x≠0:=fun x hx=>h.pos x (hp.mem_iff.2 hx)
 rw[List.nodup_append] at hn
 have hu:=hn.2.1
 have e2:(idsUp (fr::u)).Perm (fr.f.id::(idsKs fr.pre++idsKs fr.post++idsUp u)):=by rw[idsUp]
 have hu2:=(e2.nodup_iff).1 hu
 rw[List.nodup_cons] at hu2
 have hm:=hu2.1
 simp only[List.mem_append,not_or] at hm
 have hfm:fr.f.id∈idsUp (fr::u):=e2.mem_iff.2 List.mem_cons_self
 exact⟨hz _ (List.mem_append_right _ hfm),fun hk=>hn.2.2 _ hk _ hfm rfl,hm.2,hm.1.1,hm.1.2,fun x hx=>⟨hz x (List.mem_append_left _ hx),fun hxu=>hn.2.2 _ hx _ hxu rfl⟩⟩
theorem ofG_at{v:List FrL}{kh:List Lay}(h:Ids (plugL v kh)):ofG (gid v) (flatKs 0 (plugL v kh))=kh.map (rowG (gid v)):=by
 cases v with
 |nil=>exact ofG_own fun hm=>h.pos 0 hm rfl
 |cons fr u=>
  obtain⟨h0,h1,h2,h3,h4,_⟩:=h.split
  rw[plugL,show gid (fr::u)=fr.f.id from rfl,ofG_up h0 u _ h2,ofG_hole h3 h4]
  ·exact ofG_own h1
  ·rcases gid_up u with h5|h5
   ·rw[h5];exact h0
   ·intro he;rw[←he] at h5;exact h2 h5
theorem ofG_off{to:Int}{v:List FrL}{kh kh':List Lay}(h:ofG to (flatKs (gid v) kh)=ofG to (flatKs (gid v) kh')):ofG to (flatKs 0 (plugL v kh))=ofG to (flatKs 0 (plugL v kh')):=by
 rw[flat_plug,flat_plug,ofG_app,ofG_app,ofG_app,ofG_app,h]
theorem Rel.perm{D:List Lay}{L:List Rw}(h:Rel D L):L.Perm (flatKs 0 D):=List.perm_iff_count.2 fun x=>by
 have hc: ∀M:List Rw,M.count x=(ofG x.to M).count x:=fun M=>by unfold ofG;rw[List.count_filter (by simp)]
 rw[hc,hc (flatKs 0 D),h]
theorem Rel.mem{D:List Lay}{L:List Rw}(h:Rel D L){x:Rw}:x∈L↔x∈flatKs 0 D:=h.perm.mem_iff
theorem Rel.ids{D:List Lay}{L:List Rw}(h:Rel D L):(idsR L).Perm (idsKs D):=by
 rw[←flatKs_ids D 0];exact h.perm.map _
theorem Rel.nodup{D:List Lay}{L:List Rw}(h:Rel D L)(hi:Ids D):(idsR L).Nodup:=(h.ids.nodup_iff).2 hi.nodup
theorem Rel.len{D:List Lay}{L:List Rw}(h:Rel D L):L.length=cntKs D:=by
 rw[h.perm.length_eq]
 have: ∀t g,(flatT g t).length=cntL t:=Lay.ind fun f ks ih g=>by
  rw[flatT,cntL,List.length_cons]
  have: ∀(ts:List Lay),(∀t∈ts,t∈ks)→(flatKs f.id ts).length=cntKs ts:=by
   intro ts
   induction ts with
   |nil=>intro _;rfl
   |cons t ts ih2=>intro hm;rw[flatKs,cntKs,List.length_append,ih t (hm t List.mem_cons_self),ih2 fun t ht=>hm t (List.mem_cons_of_mem _ ht)]
  rw[this ks fun _ h=>h];omega
 have h2: ∀(ts:List Lay) (g:Int),(flatKs g ts).length=cntKs ts:=by
  intro ts
  induction ts with
  |nil=>intro g;rfl
  |cons t ts ih=>intro g;rw[flatKs,cntKs,List.length_append,this,ih]
 exact h2 D 0
theorem ids_inj{L:List Rw}(hn:(idsR L).Nodup): ∀{x y:Rw},x∈L→y∈L→x.f.id=y.f.id→x=y:=by
 induction L with
 |nil=>intro x y hx;cases hx
 |cons a L ih=>
  intro x y hx hy he
  rw[idsR,List.map_cons,List.nodup_cons] at hn
  rcases List.mem_cons.1 hx with hx|hx<;>rcases List.mem_cons.1 hy with hy|hy
  ·rw[hx,hy]
  ·exact absurd (List.mem_map.2 ⟨y,hy,by rw[←he,hx]⟩) hn.1
  ·exact absurd (List.mem_map.2 ⟨x,hx,by rw[he,hy]⟩) hn.1
  ·exact ih hn.2 hx hy he
theorem at_mem{fr:FrL}{u:List FrL}{ks:List Lay}:(⟨fr.f,gid u⟩:Rw)∈flatKs 0 (plugL (fr::u) ks):=by
 rw[flat_plug,preV];simp
theorem fl_none(id:Int): ∀(t:Lay) (up:List FrL) (pre post:List Lay),(flT up pre post id t=none↔id∉idsT t):=by
 refine Lay.ind fun f ks ih up pre post=>?_
 rw[flT,idsT]
 by_cases hf:f.id=id
 ·rw[if_pos hf];simp[hf]
 ·rw[if_neg hf]
  have: ∀(ts:List Lay),(∀t∈ts,t∈ks)→ ∀(u:List FrL) (pre0:List Lay),(flK u pre0 id ts=none↔id∉idsKs ts):=by
   intro ts
   induction ts with
   |nil=>intro _ u pre0;rw[flK,idsKs];simp
   |cons t ts ih2=>
    intro hm u pre0
    have h1:=ih t (hm t List.mem_cons_self) u pre0 ts
    have h2:=ih2 (fun t ht=>hm t (List.mem_cons_of_mem _ ht)) u (pre0++[t])
    rw[flK,idsKs,List.mem_append,not_or,←h1,←h2]
    cases flT u pre0 ts id t with
    |none=>simp
    |some z=>simp
  rw[this ks (fun _ h=>h),List.mem_cons,not_or]
  exact⟨fun h=>⟨fun h2=>hf h2.symm,h⟩,fun h=>h.2⟩
theorem flK_none{id:Int}: ∀(ts:List Lay) (u:List FrL) (pre0:List Lay),(flK u pre0 id ts=none↔id∉idsKs ts)
 |[],u,pre0=>by rw[flK,idsKs];simp
 |t::ts,u,pre0=>by
  have h1:=fl_none id t u pre0 ts
  have h2:=flK_none (id:=id) ts u (pre0++[t])
  rw[flK,idsKs,List.mem_append,not_or,←h1,←h2]
  cases flT u pre0 ts id t with
  |none=>simp
  |some z=>simp
inductive Path(L:List Rw):Int→List Int→Prop
 |nil:Path L 0 []
 |cons {r:Rw} {l:List Int}:r∈L→r.f.id≠0→Path L r.to l→Path L r.f.id (r.f.id::l)
theorem Path.zero{L:List Rw}{l:List Int}(h:Path L 0 l):l=[]:=by
 generalize hz:(0:Int)=z at h
 cases h with
 |nil=>rfl
 |cons _ h1 _=>exact absurd hz.symm h1
theorem Path.uniq{L:List Rw}(hn:(idsR L).Nodup){id:Int}{l:List Int}(h:Path L id l): ∀{l'},Path L id l'→l=l':=by
 induction h with
 |nil=>intro l' h';exact h'.zero.symm
 | @cons r l hr h0 _ ih=>
  intro l' h'
  generalize hz:r.f.id=z at h'
  cases h' with
  |nil=>exact absurd hz h0
  | @cons r' l2 hr' _ h2=>have e:=ids_inj hn hr hr' hz;subst e;rw[ih h2]
def idsV(v:List FrL):List Int:=v.map fun fr=>fr.f.id
theorem path_at{D:List Lay}{L:List Rw}(hr:Rel D L)(hi:Ids D): ∀(v:List FrL) (kh:List Lay),plugL v kh=D→Path L (gid v) (idsV v)
 |[],kh,_=> .nil
 |fr::u,kh,h=>by
  have h1:(⟨fr.f,gid u⟩:Rw)∈L:=hr.mem.2 (h▸at_mem)
  refine Path.cons (r:=⟨fr.f,gid u⟩) h1 ?_ (path_at hr hi u _ h)
  subst h
  exact hi.split.1
theorem path_allT{L:List Rw}: ∀t g c,(∀x∈flatT g t,x∈L∧x.f.id≠0)→Path L g c→(∀x∈flatT g t,∃c',Path L x.f.id c'∧c.length<c'.length∧c'.length≤c.length+depL t)∧ ∃x∈flatT g t,∃c',Path L x.f.id c'∧c'.length=c.length+depL t:=by
 refine Lay.ind fun f ks ih g c hm hp=>?_
 rw[flatT] at hm ⊢
 rw[depL]
 obtain⟨h1,h2⟩:=hm ⟨f,g⟩ List.mem_cons_self
 have hp1:Path L f.id (f.id::c):=Path.cons (r:=⟨f,g⟩) h1 h2 hp
 have: ∀(ts:List Lay),(∀t∈ts,t∈ks)→(∀x∈flatKs f.id ts,x∈L∧x.f.id≠0)→(∀x∈flatKs f.id ts,∃c',Path L x.f.id c'∧c.length+1<c'.length∧c'.length≤c.length+1+depKs ts)∧(ts=[]∨ ∃x∈flatKs f.id ts,∃c',Path L x.f.id c'∧c'.length=c.length+1+depKs ts):=by
  intro ts
  induction ts with
  |nil=>intro _ _;exact⟨fun x hx=>(by cases hx),.inl rfl⟩
  |cons t ts ih2=>
   intro hk hm2
   rw[flatKs] at hm2 ⊢
   rw[depKs]
   obtain⟨a1,x1,a2,c1,a3,a4⟩:=ih t (hk t List.mem_cons_self) f.id (f.id::c) (fun x hx=>hm2 x (List.mem_append_left _ hx)) hp1
   obtain⟨b1,b2⟩:=ih2 (fun t ht=>hk t (List.mem_cons_of_mem _ ht)) fun x hx=>hm2 x (List.mem_append_right _ hx)
   rw[List.length_cons] at a1 a4
   refine⟨fun x hx=>?_,.inr ?_⟩
   ·rcases List.mem_append.1 hx with hx|hx
    ·obtain⟨c',q1,q2,q3⟩:=a1 x hx;exact⟨c',q1,q2,by omega⟩
    ·obtain⟨c',q1,q2,q3⟩:=b1 x hx;exact⟨c',q1,q2,by omega⟩
   ·rcases Nat.lt_or_ge (depL t) (depKs ts) with hlt|hge
    ·rcases b2 with rfl|⟨x,hx,c',q1,q2⟩
     ·rw[depKs] at hlt;omega
     ·exact⟨x,List.mem_append_right _ hx,c',q1,by omega⟩
    ·exact⟨x1,List.mem_append_left _ a2,c1,a3,by omega⟩
 obtain⟨b1,b2⟩:=this ks (fun _ h=>h) fun x hx=>hm x (List.mem_cons_of_mem _ hx)
 refine⟨fun x hx=>?_,?_⟩
 ·rcases List.mem_cons.1 hx with rfl|hx
  ·exact⟨_,hp1,by simp,by rw[List.length_cons];omega⟩
  ·obtain⟨c',q1,q2,q3⟩:=b1 x hx;exact⟨c',q1,by omega,by omega⟩
 ·rcases b2 with rfl|⟨x,hx,c',q1,q2⟩
  ·exact⟨_,List.mem_cons_self,_,hp1,by simp[depKs]⟩
  ·exact⟨x,List.mem_cons_of_mem _ hx,c',q1,by omega⟩
theorem path_ks{L:List Rw}{g:Int}{c:List Int}(hp:Path L g c): ∀ts:List Lay,(∀x∈flatKs g ts,x∈L∧x.f.id≠0)→(∀x∈flatKs g ts,∃c',Path L x.f.id c'∧c.length<c'.length∧c'.length≤c.length+depKs ts)∧(ts=[]∨ ∃x∈flatKs g ts,∃c',Path L x.f.id c'∧c'.length=c.length+depKs ts)
 |[],_=>⟨fun x hx=>(by cases hx),.inl rfl⟩
 |t::ts,hm=>by
  rw[flatKs] at hm ⊢
  rw[depKs]
  obtain⟨a1,x1,a2,c1,a3,a4⟩:=path_allT t g c (fun x hx=>hm x (List.mem_append_left _ hx)) hp
  obtain⟨b1,b2⟩:=path_ks hp ts fun x hx=>hm x (List.mem_append_right _ hx)
  refine⟨fun x hx=>?_,.inr ?_⟩
  ·rcases List.mem_append.1 hx with hx|hx
   ·obtain⟨c',q1,q2,q3⟩:=a1 x hx;exact⟨c',q1,q2,by omega⟩
   ·obtain⟨c',q1,q2,q3⟩:=b1 x hx;exact⟨c',q1,q2,by omega⟩
  ·rcases Nat.lt_or_ge (depL t) (depKs ts) with hlt|hge
   ·rcases b2 with rfl|⟨x,hx,c',q1,q2⟩
    ·rw[depKs] at hlt;omega
    ·exact⟨x,List.mem_append_right _ hx,c',q1,by omega⟩
   ·exact⟨x1,List.mem_append_left _ a2,c1,a3,by omega⟩
end Go.Proofs
namespace Go.Proofs
open Go.Sh
def kidsI(g:Int):Nat→List Rw→List Nat
 |_,[]=>[]
 |b,r::L=>if r.to=g then b::kidsI g (b+1) L else kidsI g (b+1) L
theorem kidsI_len(g:Int): ∀(L:List Rw) (b:Nat),(kidsI g b L).length=(ofG g L).length
 |[],b=>rfl
 |r::L,b=>by
  rw[kidsI]
  by_cases h:r.to=g
  ·rw[if_pos h,ofG_cons_eq h,List.length_cons,List.length_cons,kidsI_len g L]
  ·rw[if_neg h,ofG_cons_ne h,kidsI_len g L]
theorem kidsI_app(g:Int): ∀(L M:List Rw) (b:Nat),kidsI g b (L++M)=kidsI g b L++kidsI g (b+L.length) M
 |[],M,b=>rfl
 |r::L,M,b=>by
  rw[List.cons_append,kidsI,kidsI,kidsI_app g L M,List.length_cons,show b+1+L.length=b+(L.length+1) from by omega]
  split<;>rfl
theorem kidsI_at{g:Int}: ∀{L:List Rw} {b i w:Nat},(kidsI g b L)[i]?=some w→ ∃A r B,L=A++r::B∧w=b+A.length∧r.to=g∧(ofG g A).length=i
 |[],b,i,w,h=>by simp[kidsI] at h
 |r::L,b,i,w,h=>by
  rw[kidsI] at h
  by_cases hg:r.to=g
  ·rw[if_pos hg] at h
   cases i with
   |zero=>simp at h;exact⟨[],r,L,rfl,by simp;omega,hg,rfl⟩
   |succ i=>
    rw[List.getElem?_cons_succ] at h
    obtain⟨A,r',B,h1,h2,h3,h4⟩:=kidsI_at h
    exact⟨r::A,r',B,by rw[h1];rfl,by rw[List.length_cons];omega,h3,by rw[ofG_cons_eq hg,List.length_cons,h4]⟩
  ·rw[if_neg hg] at h
   obtain⟨A,r',B,h1,h2,h3,h4⟩:=kidsI_at h
   exact⟨r::A,r',B,by rw[h1];rfl,by rw[List.length_cons];omega,h3,by rw[ofG_cons_ne hg,h4]⟩
def putAt(L:List Rw)(g:Int)(i:Nat):Nat:=((kidsI g 0 L)[i]?).getD L.length
def insR(L:List Rw)(r:Rw)(i:Nat):List Rw:=L.take (putAt L r.to i)++r::L.drop (putAt L r.to i)
theorem putAt_le(L:List Rw)(g:Int)(i:Nat):putAt L g i≤L.length:=by
 unfold putAt
 cases h:(kidsI g 0 L)[i]? with
 |none=>exact Nat.le_refl _
 |some w=>
  obtain⟨A,r,B,h1,h2,_⟩:=kidsI_at h
  show w≤L.length
  rw[h1,List.length_append];omega
theorem ins_off{to:Int}{L:List Rw}{r:Rw}(i:Nat)(h:r.to≠to):ofG to (insR L r i)=ofG to L:=by
 unfold insR
 rw[ofG_app,ofG_cons_ne h,←ofG_app,List.take_append_drop]
theorem ins_own{L:List Rw}{r:Rw}{i:Nat}(h:i≤(ofG r.to L).length):ofG r.to (insR L r i)=(ofG r.to L).take i++r::(ofG r.to L).drop i:=by
 unfold insR putAt
 cases hk:(kidsI r.to 0 L)[i]? with
 |none=>
  have h1:=List.getElem?_eq_none_iff.1 hk
  rw[kidsI_len] at h1
  rw[Option.getD_none,List.take_length,List.drop_length,ofG_app,ofG_cons_eq rfl,List.take_of_length_le h1,List.drop_eq_nil_of_le h1];rfl
 |some w=>
  obtain⟨A,r',B,h1,h2,h3,h4⟩:=kidsI_at hk
  subst h4
  rw[Option.getD_some,show w=A.length from by omega,h1,List.take_left,List.drop_left,ofG_app,ofG_cons_eq rfl,ofG_app,List.take_left,List.drop_left]
theorem rel_put{v:List FrL}{kh:List Lay}{L:List Rw}{i:Nat}{f:LayF}(hr:Rel (plugL v kh) L)(hi:Ids (plugL v kh))(hi':Ids (plugL v (kh.take i++ .mk f []::kh.drop i)))(hle:i≤kh.length):
 Rel (plugL v (kh.take i++ .mk f []::kh.drop i)) (insR L ⟨f,gid v⟩ i):=fun to=>by
 by_cases ht:gid v=to
 ·subst ht
  have e:=hr (gid v)
  rw[ofG_at hi] at e
  have h2:=ins_own (L:=L) (r:=⟨f,gid v⟩) (i:=i) (by show i≤(ofG (gid v) L).length;rw[e,List.length_map];exact hle)
  rw[h2,ofG_at hi']
  show List.take i (ofG (gid v) L)++_::List.drop i (ofG (gid v) L)=_
  rw[e,List.map_append,List.map_cons,List.map_take,List.map_drop];rfl
 ·rw[ins_off i ht,hr]
  refine ofG_off ?_
  conv=>lhs;rw[←List.take_append_drop i kh]
  rw[flatKs_app,flatKs_app,ofG_app,ofG_app,flatKs_cons,ofG_cons_ne ht];rfl
theorem ofG_filter(to:Int)(p:Rw→Bool)(L:List Rw):ofG to (L.filter p)=(ofG to L).filter p:=by
 unfold ofG;rw[List.filter_filter,List.filter_filter];congr 1;funext r;rw[Bool.and_comm]
theorem rel_filter{D D':List Lay}{L:List Rw}(hr:Rel D L)(p:Rw→Bool)(h:flatKs 0 D'=(flatKs 0 D).filter p):Rel D' (L.filter p):=fun to=>by rw[ofG_filter,hr,h,ofG_filter]
theorem ofG_map(to:Int){g:Rw→Rw}(hg: ∀r,(g r).to=r.to)(L:List Rw):ofG to (L.map g)=(ofG to L).map g:=by
 unfold ofG;rw[List.filter_map];congr 2;funext r;simp[hg]
theorem rel_map{D D':List Lay}{L:List Rw}(hr:Rel D L){g:Rw→Rw}(hg: ∀r,(g r).to=r.to)(h:flatKs 0 D'=(flatKs 0 D).map g):Rel D' (L.map g):=fun to=>by rw[ofG_map to hg,hr,h,ofG_map to hg]
theorem mid_out{A M B:List Rw}(hn:(idsR (A++(M++B))).Nodup):(A++(M++B)).filter (fun r=>decide (r.f.id∉idsR M))=A++B∧(A++(M++B)).filter (fun r=>decide (r.f.id∈idsR M))=M:=by
 have hm: ∀{X:List Rw} {r:Rw},r∈X→r.f.id∈idsR X:=fun h=>List.mem_map.2 ⟨_,h,rfl⟩
 rw[idsR_app,idsR_app,List.nodup_append,List.nodup_append] at hn
 have hA: ∀r∈A,r.f.id∉idsR M:=fun r hr h=>hn.2.2 _ (hm hr) _ (List.mem_append_left _ h) rfl
 have hB: ∀r∈B,r.f.id∉idsR M:=fun r hr h=>hn.2.1.2.2 _ h _ (hm hr) rfl
 constructor
 ·rw[List.filter_append,List.filter_append,List.filter_eq_self.2 (fun r hr=>decide_eq_true (hA r hr)),List.filter_eq_nil_iff.2 (fun r hr=>by simpa using hm hr),List.filter_eq_self.2 (fun r hr=>decide_eq_true (hB r hr))];rfl
 ·rw[List.filter_append,List.filter_append,List.filter_eq_nil_iff.2 (fun r hr=>by simpa using hA r hr),List.filter_eq_self.2 (fun r hr=>decide_eq_true (hm hr)),List.filter_eq_nil_iff.2 (fun r hr=>by simpa using hB r hr)];simp
def subS(fr:FrL)(ks:List Lay):List Int:=fr.f.id::idsKs ks
theorem flat_sub(fr:FrL)(u:List FrL)(ks:List Lay):flatKs 0 (plugL (fr::u) ks)=(preV u++flatKs (gid u) fr.pre)++((⟨fr.f,gid u⟩::flatKs fr.f.id ks)++(flatKs (gid u) fr.post++postV u)):=by
 rw[flat_plug,preV,postV,gid];simp
theorem sub_ids(fr:FrL)(u:List FrL)(ks:List Lay):idsR (⟨fr.f,gid u⟩::flatKs fr.f.id ks)=subS fr ks:=by
 unfold subS;rw[←flatKs_ids ks fr.f.id];rfl
theorem flat_nodup{D:List Lay}(h:Ids D):(idsR (flatKs 0 D)).Nodup:=by rw[flatKs_ids];exact h.nodup
theorem rel_out{fr:FrL}{u:List FrL}{ks:List Lay}{L:List Rw}(hr:Rel (plugL (fr::u) ks) L)(hi:Ids (plugL (fr::u) ks)):Rel (plugL u (fr.pre++fr.post)) (L.filter fun r=>decide (r.f.id∉subS fr ks)):=by
 refine rel_filter hr _ ?_
 have hn:=flat_nodup hi
 rw[flat_sub] at hn ⊢
 have:=(mid_out hn).1
 rw[sub_ids] at this
 rw[this,flat_plug,flatKs_app];simp
theorem sub_only{fr:FrL}{u:List FrL}{ks:List Lay}(hi:Ids (plugL (fr::u) ks)){s:Int}(hs:s∈subS fr ks):ofG s (flatKs 0 (plugL (fr::u) ks))=ofG s (flatKs fr.f.id ks):=by
 obtain⟨h0,h1,h2,h3,h4,h5⟩:=hi.split
 have hz:s≠0∧s∉idsUp u∧s∉idsKs fr.pre∧s∉idsKs fr.post:=by
  rcases List.mem_cons.1 hs with rfl|hs
  ·exact⟨h0,h2,h3,h4⟩
  ·obtain⟨q1,q2⟩:=h5 s hs
   rw[idsUp] at q2
   simp only[List.mem_cons,List.mem_append,not_or] at q2
   exact⟨q1,q2.2.2,q2.2.1.1,q2.2.1.2⟩
 rw[plugL,ofG_up hz.1 u _ hz.2.1,ofG_hole hz.2.2.1 hz.2.2.2]
 rcases gid_up u with h6|h6
 ·rw[h6];exact hz.1
 ·exact fun he=>hz.2.1 (he▸h6)
theorem path_in{fr:FrL}{u:List FrL}{ks:List Lay}{L:List Rw}(hr:Rel (plugL (fr::u) ks) L)(hi:Ids (plugL (fr::u) ks)){id:Int}{c:List Int}(hp:Path L id c):fr.f.id∈c↔id∈subS fr ks:=by
 have hn:=hr.nodup hi
 induction hp with
 |nil=>
  constructor
  ·intro h;cases h
  ·intro h
   exfalso
   have hh:=hi.split
   rcases List.mem_cons.1 h with h|h
   ·exact hh.1 h.symm
   ·exact(hh.2.2.2.2.2 0 h).1 rfl
 | @cons r l hm h0 _ ih=>
  have hm':=hr.mem.1 hm
  refine Iff.trans List.mem_cons (Iff.trans (or_congr Iff.rfl ih) ?_)
  constructor
  ·rintro(h|h)
   ·rw[←h];exact List.mem_cons_self
   ·have h1:r∈ofG r.to (flatKs 0 (plugL (fr::u) ks)):=ofG_mem.2 ⟨hm',rfl⟩
    rw[sub_only hi h] at h1
    refine List.mem_cons_of_mem _ ?_
    rw[←flatKs_ids ks fr.f.id]
    exact List.mem_map.2 ⟨r,(ofG_mem.1 h1).1,rfl⟩
  ·intro h
   rw[←sub_ids fr u ks] at h
   obtain⟨y,hy,he⟩:=List.mem_map.1 h
   have hy':y∈L:=hr.mem.2 (by rw[flat_sub];exact List.mem_append_right _ (List.mem_append_left _ hy))
   have:=ids_inj hn hy' hm he
   subst this
   rcases List.mem_cons.1 hy with rfl|hy
   ·exact .inl rfl
   ·right
    rcases to_mem y hy with h2|h2
    ·rw[h2];exact List.mem_cons_self
    ·exact List.mem_cons_of_mem _ h2
theorem Ids.perm{D D':List Lay}{x:List Int}(h:Ids D)(hp:(idsKs D').Perm (x++idsKs D))(hx:x.Nodup)(hz: ∀y∈x,y≠0∧y∉idsKs D):Ids D':=
 ⟨(
  hp.nodup_iff).2 (List.nodup_append.2 ⟨hx,h.nodup,fun a ha b hb hab=>(hz a ha).2 (hab▸hb)⟩),fun y hy=>by
  rcases List.mem_append.1 (hp.mem_iff.1 hy) with h1|h1
  ·exact(hz y h1).1
  ·exact h.pos y h1⟩
theorem rel_move{fr:FrL}{u v:List FrL}{ks kh:List Lay}{L:List Rw}{i:Nat}(hr:Rel (plugL (fr::u) ks) L)(hi:Ids (plugL (fr::u) ks))(hv:plugL v kh=plugL u (fr.pre++fr.post))(hle:i≤kh.length):
 Rel (plugL v (kh.take i++ .mk fr.f ks::kh.drop i)) (insR (L.filter fun r=>decide (r.f.id∉subS fr ks)) ⟨fr.f,gid v⟩ i++L.filter fun r=>decide (r.f.id∈subS fr ks)&&decide (r.f.id≠fr.f.id)):=by
 have hn:=flat_nodup hi
 have hids:(idsKs (plugL (fr::u) ks)).Perm (subS fr ks++idsKs (plugL u (fr.pre++fr.post))):=by
  refine(ids_plug _ _).trans (List.Perm.trans ?_ (List.Perm.append_left _ (ids_plug u _).symm))
  refine List.perm_iff_count.2 fun x=>?_
  simp only[idsUp,subS,idsKs_app,List.count_append,List.count_cons]
  ac_rfl
 have hnn:=(hids.nodup_iff).1 hi.nodup
 rw[List.nodup_append] at hnn
 have hdis: ∀s∈subS fr ks,s≠0∧s∉idsKs (plugL v kh):=fun s hs=>⟨hi.pos s (hids.mem_iff.2 (List.mem_append_left _ hs)),fun h=>hnn.2.2 s hs s (hv▸h) rfl⟩
 have hi1:Ids (plugL v kh):=⟨by rw[hv];exact hnn.2.1,fun x hx=>hi.pos x (hids.mem_iff.2 (List.mem_append_right _ (hv▸hx)))⟩
 have hr1:Rel (plugL v kh) (L.filter fun r=>decide (r.f.id∉subS fr ks)):=by rw[hv];exact rel_out hr hi
 have hf0:fr.f.id∈subS fr ks:=List.mem_cons_self
 have hi2:Ids (plugL v (kh.take i++ .mk fr.f []::kh.drop i)):=hi1.perm (x:=[fr.f.id]) (put_ids v kh i (.mk fr.f [])) (by simp) fun y hy=>by
  rw[List.mem_singleton] at hy;subst hy;exact hdis _ hf0
 have hi3:Ids (plugL v (kh.take i++ .mk fr.f ks::kh.drop i)):=hi1.perm (x:=subS fr ks) (put_ids v kh i (.mk fr.f ks)) hnn.1 hdis
 have hr2:=rel_put hr1 hi1 hi2 hle
 have e1: ∀ks',plugL v (kh.take i++ .mk fr.f ks'::kh.drop i)=plugL (⟨kh.take i,fr.f,kh.drop i⟩::v) ks':=fun ks'=>rfl
 have emv: ∀to,ofG to (L.filter fun r=>decide (r.f.id∈subS fr ks)&&decide (r.f.id≠fr.f.id))=ofG to (flatKs fr.f.id ks):=fun to=>by
  rw[ofG_filter,hr,←ofG_filter]
  have hf:(flatKs 0 (plugL (fr::u) ks)).filter (fun r=>decide (r.f.id∈subS fr ks)&&decide (r.f.id≠fr.f.id))=flatKs fr.f.id ks:=by
   have h1: ∀M:List Rw,M.filter (fun r=>decide (r.f.id∈subS fr ks)&&decide (r.f.id≠fr.f.id))=(M.filter fun r=>decide (r.f.id∈subS fr ks)).filter fun r=>decide (r.f.id≠fr.f.id):=fun M=>by
    rw[List.filter_filter];congr 1;funext r;rw[Bool.and_comm]
   rw[h1]
   rw[flat_sub] at hn ⊢
   have h2:=(mid_out hn).2
   rw[sub_ids] at h2
   rw[h2,List.filter_cons,if_neg (by simp),List.filter_eq_self.2]
   intro r hrm
   have:r.f.id∈idsKs ks:=by rw[←flatKs_ids ks fr.f.id];exact List.mem_map.2 ⟨r,hrm,rfl⟩
   exact decide_eq_true fun he=>hi.split.2.1 (he▸this)
  rw[hf]
 intro to
 rw[ofG_app,hr2,emv]
 by_cases ht:to∈subS fr ks
 ·rw[e1,e1,sub_only (fr:=⟨kh.take i,fr.f,kh.drop i⟩) hi3 ht]
  have:ofG to (flatKs 0 (plugL (⟨kh.take i,fr.f,kh.drop i⟩::v) []))=[]:=by
   rcases List.mem_cons.1 ht with rfl|ht'
   ·rw[sub_only (fr:=⟨kh.take i,fr.f,kh.drop i⟩) hi2 List.mem_cons_self];rfl
   ·refine ofG_nil fun r hrm he=>?_
    have hpi:(idsKs (plugL v (kh.take i++ .mk fr.f []::kh.drop i))).Perm ([fr.f.id]++idsKs (plugL v kh)):=put_ids v kh i (.mk fr.f [])
    rcases to_mem r hrm with h|h
    ·exact(hdis to ht).1 (he▸h)
    ·rw[he] at h
     rcases List.mem_append.1 (hpi.mem_iff.1 h) with h'|h'
     ·rw[List.mem_singleton] at h';rw[h'] at ht';exact hi.split.2.1 ht'
     ·exact(hdis to ht).2 h'
  rw[this,List.nil_append]
 ·have hne:to≠fr.f.id:=fun h=>ht (h▸hf0)
  have hz:ofG to (flatKs fr.f.id ks)=[]:=ofG_other hne fun h=>ht (List.mem_cons_of_mem _ h)
  rw[hz,List.append_nil,e1,e1]
  refine ofG_off ?_
  show ofG to (flatKs fr.f.id [])=ofG to (flatKs fr.f.id ks)
  rw[hz];rfl
def setR(id:Int)(f:LayF)(r:Rw):Rw:=if r.f.id=id then⟨f,r.to⟩ else r
theorem setR_to(id:Int)(f:LayF)(r:Rw):(setR id f r).to=r.to:=by unfold setR;split<;>rfl
theorem rel_set{fr:FrL}{u:List FrL}{ks:List Lay}{L:List Rw}{f:LayF}(hr:Rel (plugL (fr::u) ks) L)(hi:Ids (plugL (fr::u) ks))(hf:f.id=fr.f.id):Rel (plugL (⟨fr.pre,f,fr.post⟩::u) ks) (L.map (setR fr.f.id f)):=by
 refine rel_map hr (setR_to _ _) ?_
 have hn:=flat_nodup hi
 rw[flat_sub] at hn ⊢
 rw[flat_sub fr u ks]
 have hm: ∀{X:List Rw} {r:Rw},r∈X→r.f.id∈idsR X:=fun h=>List.mem_map.2 ⟨_,h,rfl⟩
 rw[idsR_app (preV u++flatKs (gid u) fr.pre),idsR_app (⟨fr.f,gid u⟩::flatKs fr.f.id ks),sub_ids,List.nodup_append,List.nodup_append] at hn
 have hmap: ∀X:List Rw,fr.f.id∉idsR X→X.map (setR fr.f.id f)=X:=fun X hX=>by
  conv=>rhs;rw[←List.map_id X]
  refine List.map_congr_left fun r hrm=>?_
  have hne:r.f.id≠fr.f.id:=fun he=>hX (he▸hm hrm)
  show(if r.f.id=fr.f.id then(⟨f,r.to⟩:Rw) else r)=r
  rw[if_neg hne]
 have hS:fr.f.id∈subS fr ks:=List.mem_cons_self
 have hset:setR fr.f.id f ⟨fr.f,gid u⟩=⟨f,gid u⟩:=by unfold setR;rw[if_pos rfl]
 rw[List.map_append,List.map_append (l₁:=_::_),List.map_cons,hmap _ (fun h=>hn.2.2 _ h _ (List.mem_append_left _ hS) rfl),hmap _ (fun h=>hn.2.1.2.2 _ hS _ h rfl),hmap (flatKs fr.f.id ks) (by rw[flatKs_ids];exact hi.split.2.1),hset]
 simp only[hf]
theorem set_map{L:List Rw}{i:Nat}{r:Rw}(hn:(idsR L).Nodup)(h:L[i]?=some r)(f:LayF):L.set i ⟨f,r.to⟩=L.map (setR r.f.id f):=by
 induction L generalizing i with
 |nil=>simp at h
 |cons a L ih=>
  rw[idsR,List.map_cons,List.nodup_cons] at hn
  cases i with
  |zero=>
   simp at h;subst h
   rw[List.set_cons_zero,List.map_cons]
   have:L.map (setR a.f.id f)=L:=by
    conv=>rhs;rw[←List.map_id L]
    refine List.map_congr_left fun r hrm=>?_
    have hne:r.f.id≠a.f.id:=fun he=>hn.1 (he▸List.mem_map.2 ⟨r,hrm,rfl⟩)
    show(if r.f.id=a.f.id then(⟨f,r.to⟩:Rw) else r)=r
    rw[if_neg hne]
   rw[this,setR,if_pos rfl]
  |succ i=>
   rw[List.getElem?_cons_succ] at h
   have hne:a.f.id≠r.f.id:=fun he=>hn.1 (he▸List.mem_map.2 ⟨r,List.mem_of_getElem? h,rfl⟩)
   rw[List.set_cons_succ,List.map_cons,ih hn.2 h,setR,if_neg hne]
theorem depUp_max: ∀(v:List FrL) (a b:Nat),depUp v (max a b)=max (depUp v a) (v.length+b)
 |[],a,b=>by simp[depUp]
 |fr::u,a,b=>by
  rw[depUp,depUp,show max (depKs fr.pre) (max (1+max a b) (depKs fr.post))=max (max (depKs fr.pre) (max (1+a) (depKs fr.post))) (1+b) from by omega,depUp_max u,List.length_cons]
  omega
theorem put_dep(v:List FrL)(kh:List Lay)(i:Nat)(l:Lay):depKs (plugL v (kh.take i++l::kh.drop i))=max (depKs (plugL v kh)) (v.length+depL l):=by
 have e:depKs (kh.take i++l::kh.drop i)=max (depKs kh) (depL l):=by
  conv=>rhs;rw[←List.take_append_drop i kh]
  rw[depKs_app,depKs_app,depKs];omega
 rw[dep_plug,dep_plug,e,depUp_max]
theorem rel_paths{D:List Lay}{L:List Rw}(hr:Rel D L)(hi:Ids D):(∀r∈L,∃c,Path L r.f.id c∧0<c.length∧c.length≤depKs D)∧(D=[]∨ ∃r∈L,∃c,Path L r.f.id c∧c.length=depKs D):=by
 have hm: ∀x∈flatKs 0 D,x∈L∧x.f.id≠0:=fun x hx=>⟨hr.mem.2 hx,hi.pos _ (by rw[←flatKs_ids D 0];exact List.mem_map.2 ⟨x,hx,rfl⟩)⟩
 obtain⟨h1,h2⟩:=path_ks (L:=L) .nil D hm
 refine⟨fun r hrm=>?_,h2.imp id fun⟨x,hx,c,q1,q2⟩=>⟨x,hr.mem.2 hx,c,q1,by simpa using q2⟩⟩
 obtain⟨c,q1,q2,q3⟩:=h1 r (hr.mem.1 hrm)
 exact⟨c,q1,by simpa using q2,by simpa using q3⟩
mutual
def likeT(L:List Rw):Lay→Bool
 | .mk f ks=>decide (ks.map Lay.f=(ofG f.id L).map Rw.f)&&likeKs L ks
def likeKs(L:List Rw):List Lay→Bool
 |[]=>true
 |t::ts=>likeT L t&&likeKs L ts
end
def likeG(L:List Rw)(to:Int)(ks:List Lay):Bool:=decide (ks.map Lay.f=(ofG to L).map Rw.f)&&likeKs L ks
theorem like_aux{E:List Lay}{L:List Rw}(hr:Rel E L)(hi:Ids E): ∀t:Lay,∀v kh,plugL v kh=E→gid v=t.f.id→(likeT L t=true↔t.kids=kh):=by
 refine Lay.ind fun f ks ih v kh hv hg=>?_
 rw[likeT,Bool.and_eq_true,decide_eq_true_iff]
 have hg':gid v=f.id:=hg
 rw[←hg',hr,←hv,ofG_at (by rw[hv];exact hi),List.map_map,show(Rw.f∘rowG (gid v))=Lay.f from rfl]
 show _↔ks=kh
 have: ∀(ts us pre:List Lay),(∀t∈ts,t∈ks)→plugL v (pre++us)=E→((ts.map Lay.f=us.map Lay.f∧likeKs L ts=true)↔ts=us):=by
  intro ts
  induction ts with
  |nil=>intro us pre _ _;cases us<;>simp[likeKs]
  |cons t ts ih2=>
   intro us pre hm hE
   cases us with
   |nil=>simp
   |cons s us=>
    rw[List.map_cons,List.map_cons,likeKs,Bool.and_eq_true,List.cons.injEq,List.cons.injEq]
    have h1:=ih2 us (pre++[s]) (fun t ht=>hm t (List.mem_cons_of_mem _ ht)) (by rw[List.append_assoc];exact hE)
    cases s with
    |mk sf sk=>
    have h2:=fun h=>ih t (hm t List.mem_cons_self) (⟨pre,sf,us⟩::v) sk hE h
    cases t with
    |mk tf tk=>
    constructor
    ·rintro⟨⟨q1,q2⟩,q3,q4⟩
     have q1':tf=sf:=q1
     subst q1'
     have:=(h2 rfl).1 q3
     exact⟨by rw[show tk=sk from this],h1.1 ⟨q2,q4⟩⟩
    ·rintro⟨q1,q2⟩
     injection q1 with q1 q3
     subst q1
     obtain⟨r1,r2⟩:=h1.2 q2
     exact⟨⟨rfl,r1⟩,(h2 rfl).2 q3,r2⟩
 exact this ks kh [] (fun _ h=>h) hv
theorem like_iff{D E:List Lay}{L:List Rw}(hr:Rel E L)(hi:Ids E):likeG L 0 D=true↔D=E:=by
 have h:=like_aux (L:=L) hr hi (.mk ⟨0,1,false,0,0,0,0,[],[],⟨0,0,0,0,0,0⟩,false,0,[]⟩ D) [] E rfl rfl
 exact h
end Go.Proofs
