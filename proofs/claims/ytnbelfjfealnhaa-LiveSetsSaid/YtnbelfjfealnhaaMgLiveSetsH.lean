/-
  OWN WORK. Several texts in one: TsRigB, LvE, LvF, LvG, LvH, LvI, OpBytes, OpTree.
-/
import Derived.Test.YtnbelfjfealnhaaMgLiveSetsG
import Derived.Test.YtnbelfjfealnhaaMgLiveSetsE
import Derived.Test.YtnbelfjfealnhaaMgLiveSetsF
import Derived.Test.YtnbelfjfealnhaaRows
import Derived.Test.YtnbelfjfealnhaaMgLiveSetsB
import Derived.ChangeSlices
import Derived.Deep.Slices

set_option linter.unusedVariables false
set_option linter.unusedSimpArgs false
set_option maxRecDepth 10000
namespace Go.Proofs
open Go.Sh
variable {H0 H:Heap} {σ:List Rs} {R:Value→Heap→Prop}
theorem cellMap{f:LayF}{P M A K:Value}{b:Nat}{ty:TypeId}(hb:H[b]?=some (.cells (cellsL f P M A K).toArray ty)):rowIn H (Addr.add ⟨b,0,none⟩ 9) (ints f.map.l).toArray:=by
 intro j v hv
 rw[List.getElem?_toArray] at hv
 have hj:j<6:=(List.getElem?_eq_some_iff.1 hv).1
 rw[add_none,add_none]
 refine cell_get hb ?_
 obtain rfl|rfl|rfl|rfl|rfl|rfl:j=0∨j=1∨j=2∨j=3∨j=4∨j=5:=by omega
 all_goals (rw[←hv];rfl)
end Go.Proofs
namespace Go.Proofs
open Go.Sh
variable {H0 H:Heap} {σ:List Rs} {R:Value→Heap→Prop}
def quietB(D E:DocL)(id:Int):Bool:=(!(findL D.ks id).isSome||unseenL D.ks id)&&(!(findL E.ks id).isSome||unseenL E.ks id)
def boxB(x0 x1 y0 y1:Int)(k:Ky):Bool:=decide (x0<x1∧(x0/16≤k.1∧k.1*16<x1)∧y0<y1∧y0/16≤k.2∧k.2*16<y1)
def boxE(e:Ed)(f:LayF)(E:DocL):Ky→Bool:=boxB (max 0 e.x) (min (min (e.x+e.w) f.w) E.w) (max 0 e.y) (min (min (e.y+e.h) f.h) E.h)
def keptL(D E:DocL)(e:Ed)(ks:List Ky):List Ky:=
 if quietB D E (tgtL E e)=true then ks else match findL E.ks (tgtL E e) with
  |some l=>if e.kind=4∧l.f.map=oneM then ks.filter fun k=> !boxE e l.f E k else[]
  |none=>[]
def LvS.doE(s:LvS)(e:Ed):Int×LvS:=if (doD s.D e).1≠0 then((doD s.D e).1,s) else(0,⟨(doD s.D e).2,keptL s.D (doD s.D e).2 e s.ks,s.n⟩)
theorem kept_sub{D E:DocL}{e:Ed}{ks:List Ky}:(keptL D E e ks).Sublist ks:=by
 unfold keptL
 split
 ·exact List.Sublist.refl _
 split
 ·split
  ·exact List.filter_sublist
  ·exact List.nil_sublist _
 ·exact List.nil_sublist _
theorem kept_tile{D:DocL}(hi:Inv D){e:Ed}(h0:(doD D e).1=0){ks:List Ky}(hk: ∀k∈ks,KeyOk D k): ∀k∈keptL D (doD D e).2 e ks,tileL (doD D e).2 k=tileL D k:=by
 obtain⟨_,_,hw,hh⟩:=do_next h0
 intro k hm
 have hkk:=hk k (kept_sub.subset hm)
 unfold keptL at hm
 by_cases hq:quietB D (doD D e).2 (tgtL (doD D e).2 e)=true
 ·unfold quietB at hq
  rw[Bool.and_eq_true,Bool.or_eq_true,Bool.or_eq_true] at hq
  refine tile_eq hw hh hi hkk fun x y _ _ _ _ _ _=>unseen_px hi h0 (fun h=>hq.1.resolve_left (by rw[h];decide)) (fun h=>hq.2.resolve_left (by rw[h];decide)) _ _ _ _
 rw[if_neg hq] at hm
 split at hm
 ·rename_i l hl
  split at hm
  ·rename_i hc
   obtain⟨hc1,hc2⟩:=hc
   rw[List.mem_filter] at hm
   have ht:tgtL (doD D e).2 e=e.id:=by unfold tgtL;rw[if_neg (by omega)]
   rw[ht] at hl
   refine tile_eq hw hh hi hkk fun x y x1 x2 x3 y1 y2 y3=>paint_px hi hc1 h0 hl hc2 fun hin=>?_
   obtain⟨⟨k1,_⟩,k3,_⟩:=hkk
   have hb:=hm.2
   unfold boxE boxB at hb
   rw[Bool.not_eq_true',decide_eq_false_iff_not] at hb
   rw[hw,hh] at hb
   omega
  ·cases hm
 ·cases hm
theorem LvOk.doE{s:LvS}(ok:LvOk s)(e:Ed):LvOk (s.doE e).2:=by
 unfold LvS.doE
 split
 ·exact ok
 ·rename_i h0
  have h0:=Decidable.byContradiction h0
  obtain⟨_,_,hw,hh⟩:=do_next h0
  refine⟨do_inv ok.inv h0,kept_sub.nodup ok.nodup,fun k hk=>?_,?_⟩
  ·have:=ok.keys k (kept_sub.subset hk)
   unfold KeyOk at this ⊢
   show(0≤k.1∧k.1*16<(doD s.D e).2.w)∧0≤k.2∧k.2*16<(doD s.D e).2.h
   rw[hw,hh];exact this
  ·have:=ok.len
   have h2:=(kept_sub (D:=s.D) (E:=(doD s.D e).2) (e:=e) (ks:=s.ks)).length_le
   show((keptL s.D (doD s.D e).2 e s.ks).length:Int)≤s.n
   omega
theorem LvOk.start{E:DocL}(hi:Inv E){n:Int}(hn:0≤n):LvOk ⟨E,[],n⟩:=⟨hi,by simp,by simp,hn⟩
theorem tileP_n{D E:DocL}(hw:E.w=D.w)(hh:E.h=D.h)(k:Ky):(tileP E k).n=(tileP D k).n:=by
 unfold tileP regP Pn.n
 rw[hw,hh]
theorem find_g{A:Array Value}{D:DocL}{id:Int}(hs:St H0 H σ)(hd:DocR H A D)(hi:Inv D)
 (hR: ∀B H',LayR H' B ((findL D.ks id).getD (.mk zeroF []))→St H0 H' σ→Ext H H'→R (.tuple #[.agg B,.bool (findL D.ks id).isSome]) H'):CallsH Try.prog 13 #[.agg A,.int .i64 id] H R:=by
 refine find_st (St.nil H) hd hi (fun hn H' hs'=>?_) fun l hl B H' hB hs'=>?_
 ·have:=hR (cellsL zeroF Sl3.nil.v Sl3.nil.v Sl3.nil.v Sl3.nil.v).toArray H' (by rw[hn];exact LayR.zero H') (hs.step hs'.ext) hs'.ext
  rw[hn] at this;exact this
 ·have:=hR B H' (by rw[hl];exact hB) (hs.step hs'.ext) hs'.ext
  rw[hl] at this;exact this
theorem lay_cells{B:Array Value}{l:Lay}(h:LayR H B l): ∃P M A K:Value,B=(cellsL l.f P M A K).toArray:=by
 obtain⟨t,rfl,_,rfl⟩:=h
 cases t with|mk f P M A K ks=>exact⟨P.v,M.v,A.v,K.v,rfl⟩
theorem del_rows{b:Nat}{D:DocL}{K:Sl3}{m c:Nat}{n:Int}{L:List Ent}(hn:(L.map Prod.fst).Nodup){x0 x1 y0 y1:Int}(hx:0≤x0∧x0≤100000)(hx1:x0<x1∧x1≤100000)(hy:0≤y0∧y0≤100000)(hy1:y1≤100000){J:Heap→Prop}
 (hJ: ∀H',St H0 H' (.cell b (lvA D K m n) 74:: .obj m (mapO (L.filter fun z=> !boxB x0 x1 y0 y1 z.1) c)::σ)→J H'){X:List Value→Heap→Prop}
 (hX: ∀(y:Int) (H1:Heap),(∀J63:List Value→Heap→Prop,(∀H64,(∀X65:List Value→Heap→Prop,(∀(x:Int) H67,(br (decide ((IntKind.wrap .i64 (x*16))<x1))
  (∃a68,(some ⟨b,0,none⟩:Option Addr)=some a68∧ ∃t:Option Nat,Sh.cell H67 (Addr.add a68 4)=some (.map t)∧delQ (.arr 2 3) (.int .i64) (.map t) (.agg #[.int .i64 x,.int .i64 y]) H67 fun H70=>X65 [.int .i64 (IntKind.wrap .i64 (x+1))] H70)
  (X [.int .i64 (IntKind.wrap .i64 (y+1))] H67))→X65 [.int .i64 x] H67)→X65 [.int .i64 (IntKind.wrap .i64 (Int.tdiv x0 16))] H64)→J63 [] H64)→
  br (decide (y0<y1)) (br (decide ((IntKind.wrap .i64 (y*16))<y1)) (J63 [] H1) (J H1)) (J H1))→X [.int .i64 y] H1)
 (hs:St H0 H (.cell b (lvA D K m n) 74:: .obj m (mapO L c)::σ)):X [.int .i64 (y0/16)] H:=by
 have hfl: ∀{P Q:Ent→Bool},(∀z,P z=Q z)→L.filter P=L.filter Q:=fun h=>List.filter_congr fun z _=>h z
 have hnp: ∀P:Ent→Bool,((L.filter P).map Prod.fst).Nodup:=fun P=>(List.Sublist.map _ List.filter_sublist).nodup hn
 generalize hp:(fun(y:Int) (z:Ent)=> !decide ((x0/16≤z.1.1∧z.1.1*16<x1)∧y0/16≤z.1.2∧z.1.2<y))=p
 generalize hN:(if y0<y1 then((y1+15)/16-y0/16).toNat else 0)=N
 have go: ∀j,j≤N→ ∀H1,St H0 H1 (.cell b (lvA D K m n) 74:: .obj m (mapO (L.filter (p (y0/16+(j:Int)))) c)::σ)→X [.int .i64 (y0/16+(j:Int))] H1:=by
  refine upto fun j hj ih H1 hs1=>hX _ _ fun J63 hJ63=>br_dec (fun hlt=>?_) fun hge=>?_
  ·rw[if_pos hlt] at hN
   rw[wrap_id (by omega) (by omega)]
   refine br_dec (fun hlt2=>hJ63 H1 ?_) fun hge2=>?_
   ·have hj':j<N:=by omega
    intro X65 hX65
    rw[Int.tdiv_eq_ediv_of_nonneg hx.1,wrap_id (by omega) (by omega)]
    generalize hq:(fun(x:Int) (z:Ent)=>p (y0/16+(j:Int)) z&& !decide (z.1.2=y0/16+(j:Int)∧x0/16≤z.1.1∧z.1.1<x))=q
    have go2: ∀i,i≤((x1+15)/16-x0/16).toNat→ ∀H1,St H0 H1 (.cell b (lvA D K m n) 74:: .obj m (mapO (L.filter (q (x0/16+(i:Int)))) c)::σ)→X65 [.int .i64 (x0/16+(i:Int))] H1:=by
     refine upto fun i hi ih2 H1 hs1=>hX65 _ _ ?_
     rw[wrap_id (n:=(x0/16+(i:Int))*16) (by omega) (by omega)]
     refine br_dec (fun hlt3=>?_) fun hge3=>?_
     ·refine⟨_,rfl,some m,hs1.get 0 rfl (j:=4) rfl,?_⟩
      refine ent_del (k:=(x0/16+(i:Int),y0/16+(j:Int))) (hnp _) (hs1.objGet 1 rfl) ?_
      rw[wrap_id (n:=x0/16+(i:Int)+1) (by omega) (by omega)]
      have:=ih2 (by omega) (H1.setIfInBounds m (mapO ((L.filter (q (x0/16+(i:Int)))).filter fun z=>decide (z.1≠(x0/16+(i:Int),y0/16+(j:Int)))) c))
      rw[show x0/16+((i+1:Nat):Int)=x0/16+(i:Int)+1 from by omega] at this
      refine this ?_
      have e:((L.filter (q (x0/16+(i:Int)))).filter fun z=>decide (z.1≠(x0/16+(i:Int),y0/16+(j:Int))))=L.filter (q (x0/16+(i:Int)+1)):=by
       rw[List.filter_filter]
       refine hfl fun z=>?_
       rw[←hq,←hp]
       obtain⟨⟨z1,z2⟩,z3⟩:=z
       rw[Bool.eq_iff_iff]
       simp only[ne_eq,Prod.mk.injEq,Bool.and_eq_true,Bool.not_eq_true',decide_eq_true_eq,decide_eq_false_iff_not]
       omega
      rw[e]
      exact hs1.objSet 1 _ rfl
     ·rw[wrap_id (n:=y0/16+(j:Int)+1) (by omega) (by omega)]
      have:=ih hj' H1
      rw[show y0/16+((j+1:Nat):Int)=y0/16+(j:Int)+1 from by omega] at this
      refine this ?_
      have e:L.filter (q (x0/16+(i:Int)))=L.filter (p (y0/16+(j:Int)+1)):=by
       refine hfl fun z=>?_
       rw[←hq,←hp]
       rw[Bool.eq_iff_iff]
       simp only[Bool.and_eq_true,Bool.not_eq_true',decide_eq_false_iff_not]
       omega
      rw[←e];exact hs1
    have:=go2 0 (Nat.zero_le _) H1
    rw[show x0/16+((0:Nat):Int)=x0/16 from by omega] at this
    refine this ?_
    have e:L.filter (q (x0/16))=L.filter (p (y0/16+(j:Int))):=by
     refine hfl fun z=>?_
     rw[←hq,←hp]
     rw[Bool.eq_iff_iff]
     simp only[Bool.and_eq_true,Bool.not_eq_true',decide_eq_false_iff_not]
     omega
    rw[e];exact hs1
   ·refine hJ H1 ?_
    have e:(L.filter fun z=> !boxB x0 x1 y0 y1 z.1)=L.filter (p (y0/16+(j:Int))):=by
     refine hfl fun z=>?_
     rw[←hp]
     unfold boxB
     rw[Bool.eq_iff_iff]
     simp only[Bool.not_eq_true',decide_eq_false_iff_not]
     omega
    rw[e];exact hs1
  ·rw[if_neg hge] at hN
   refine hJ H1 ?_
   have e:(L.filter fun z=> !boxB x0 x1 y0 y1 z.1)=L.filter (p (y0/16+(j:Int))):=by
    refine hfl fun z=>?_
    rw[←hp]
    unfold boxB
    rw[Bool.eq_iff_iff]
    simp only[Bool.not_eq_true',decide_eq_false_iff_not]
    omega
   rw[e];exact hs1
 have:=go 0 (Nat.zero_le _) H
 rw[show y0/16+((0:Nat):Int)=y0/16 from by omega] at this
 refine this ?_
 have e:L.filter (p (y0/16))=L:=by
  refine List.filter_eq_self.2 fun z _=>?_
  rw[←hp]
  simp only[Bool.not_eq_true',decide_eq_false_iff_not]
  omega
 rw[e];exact hs
theorem doE_err{s:LvS}{e:Ed}(h:(doD s.D e).1≠0):s.doE e=((doD s.D e).1,s):=by unfold LvS.doE;rw[if_pos h]
theorem doE_ok{s:LvS}{e:Ed}(h:(doD s.D e).1=0):s.doE e=(0,⟨(doD s.D e).2,keptL s.D (doD s.D e).2 e s.ks,s.n⟩):=by unfold LvS.doE;rw[if_neg (fun hh=>hh h)]
theorem c14{b:Nat}{s:LvS}{e:Ed}{es:EdS}(hs:St H0 H (lvRs b s::σ))(ok:LvOk s)(hnx:s.D.next≤100000000000000)(hed:EdOk H e es)(hR: ∀H',St H0 H' (lvRs b (s.doE e).2::σ)→R (.int .i64 (s.doE e).1) H'):
 CallsH Try.prog 14 #[.pointer (some ⟨b,0,none⟩),.agg (edL e es).toArray] H R:=by
 obtain⟨M,hM,hs⟩:=lvOut hs
 have hs:St H0 H (.cell b (lvA s.D M.K M.m s.n) 74:: .obj M.m (mapO M.L M.c)::docRs (docA s.D.w s.D.h s.D.next M.K) s.D::tlRs s.D M.L::σ):=hs
 obtain⟨s1,s2⟩:=ok.inv.sides
 have hi:=ok.inv
 refine Try.s14 ?_
 unfold Try.S14
 refine hs.alcE fun b3 H4 he4 hs4=>?_
 intro J5 hJ5
 have after: ∀(bd:Nat) (K':Sl3) (H1:Heap),(doD s.D e).1=0→St H0 H1 (.cell bd (docA (doD s.D e).2.w (doD s.D e).2.h (doD s.D e).2.next K') 33::docRs (docA (doD s.D e).2.w (doD s.D e).2.h (doD s.D e).2.next K') (doD s.D e).2:: .cell b3 (edL e es).toArray 28:: .cell b (lvA s.D M.K M.m s.n) 74:: .obj M.m (mapO M.L M.c)::docRs (docA s.D.w s.D.h s.D.next M.K) s.D::tlRs s.D M.L::σ)→J5 [.pointer (some ⟨bd,0,none⟩),.int .i64 0] H1:=by
  intro bd K' H1 h0 hs1
  have hi2:=do_inv hi h0
  obtain⟨hn1,hn2,hw,hh⟩:=do_next h0
  rw[doE_ok h0] at hR
  have hkt:=kept_tile hi h0 ok.keys
  have hM':=hM
  generalize hE:(doD s.D e).2=E at hs1 hi2 hn1 hn2 hw hh hR hkt
  refine hJ5 _ _ _ (br_ne (fun h=>absurd rfl h) fun _=>⟨_,rfl,docA s.D.w s.D.h s.D.next M.K,rfl,lv_row (hs1.block 3 rfl),hs1.alc fun b11 H12 hs12=>⟨rfl,hs12.putAll 0 rfl rfl (docA_one _ _ _ _) fun H13 hs13=>⟨docA E.w E.h E.next K',rfl,rowIn_whole (hs13.block 1 rfl),_,rfl,rfl,?_⟩⟩⟩)
  refine hs13.putRow 4 rfl (j:=0) (vs:=(docA E.w E.h E.next K').toList) (Nat.le_of_ble_eq_true rfl) (docA_one _ _ _ _) fun H16 hs16=>?_
  have h16:St H0 H16 (.cell b11 (docA s.D.w s.D.h s.D.next M.K) 33:: .cell bd (docA E.w E.h E.next K') 33::docRs (docA E.w E.h E.next K') E:: .cell b3 (edL e es).toArray 28:: .cell b (lvA E K' M.m s.n) 74:: .obj M.m (mapO M.L M.c)::docRs (docA s.D.w s.D.h s.D.next M.K) s.D::tlRs s.D M.L::σ):=hs16
  -- what is answered,with the tiles that are kept
  have fin: ∀(L':List Ent) (H':Heap),(∀x∈L',x∈M.L)→L'.map Prod.fst=keptL s.D E e s.ks→St H0 H' (.cell b (lvA E K' M.m s.n) 74:: .obj M.m (mapO L' M.c)::docRs (docA E.w E.h E.next K') E::tlRs s.D M.L::σ)→R (.int .i64 0) H':=fun L' H' hsub hmap hs'=>by
   refine hR H' (lvIn ⟨K',M.m,M.c,L'⟩ hmap ?_)
   have h1:=tlSub (E:=E) (L':=L') (hs'.front 3 rfl) fun x hx=>⟨hsub x hx,hkt x.1 (hmap▸List.mem_map_of_mem hx),tileP_n hw hh x.1⟩
   exact h1.perm (List.perm_middle (l₁:=[_,_,_])).symm
  have good: ∀(L':List Ent) (H':Heap) {τ:List Rs},(∀x∈L',x∈M.L)→L'.map Prod.fst=keptL s.D E e s.ks→St H0 H' (τ++(.cell b11 (docA s.D.w s.D.h s.D.next M.K) 33:: .cell bd (docA E.w E.h E.next K') 33::docRs (docA E.w E.h E.next K') E:: .cell b3 (edL e es).toArray 28:: .cell b (lvA E K' M.m s.n) 74:: .obj M.m (mapO L' M.c)::docRs (docA s.D.w s.D.h s.D.next M.K) s.D::tlRs s.D M.L::σ))→R (.int .i64 0) H':=fun L' H' τ hsub hmap hs'=>by
   have h1:=hs'.app.2
   have h2:St H0 H' (docRs (docA E.w E.h E.next K') E:: .cell b (lvA E K' M.m s.n) 74:: .obj M.m (mapO L' M.c)::tlRs s.D M.L::σ):=(((h1.del 6).del 3).del 0).del 0
   exact fin L' H' hsub hmap (h2.perm ((permC (a:=[_,_,_]) (b:=[_,_,_]) fun _ y=>by simp only[List.count_cons,List.count_nil];ac_rfl).append_right (tlRs s.D M.L::σ)))
  refine⟨_,rfl,rowIn_whole (h16.block 3 rfl),docA E.w E.h E.next K',rfl,rowIn_whole (h16.block 1 rfl),c37 (h16.doc 2 rfl) hi2 (by omega) fun H20 he20=>⟨_,rfl,docA s.D.w s.D.h s.D.next M.K,rfl,rowIn_whole ((h16.step he20).block 0 rfl),?_⟩⟩
  have h20:=h16.step he20
  generalize hid:tgtL E e=id
  refine find_g h20 (h20.doc 6 rfl) hi fun B H24 hB hs24 _=>⟨_,_,rfl,hs24.alc fun b27 H28 hs28=>⟨hB.size,hs28.putAll 0 rfl hB.size hB.one fun H29 hs29=>⟨docA E.w E.h E.next K',rfl,rowIn_whole (hs29.block 2 rfl),?_⟩⟩⟩
  refine find_g hs29 (hs29.doc 3 rfl) hi2 fun C H32 hC hs32 _=>⟨_,_,rfl,hs32.alc fun b35 H36 hs36=>⟨hC.size,hs36.putAll 0 rfl hC.size hC.one fun H37 hs37=>?_⟩⟩
  have quiet: ∀{H':Heap} {τ:List Rs},quietB s.D E id=true→St H0 H' (τ++(.cell b11 (docA s.D.w s.D.h s.D.next M.K) 33:: .cell bd (docA E.w E.h E.next K') 33::docRs (docA E.w E.h E.next K') E:: .cell b3 (edL e es).toArray 28:: .cell b (lvA E K' M.m s.n) 74:: .obj M.m (mapO M.L M.c)::docRs (docA s.D.w s.D.h s.D.next M.K) s.D::tlRs s.D M.L::σ))→R (.int .i64 0) H':=fun hq hs'=>good M.L _ (fun _ h=>h) (by unfold keptL;rw[hid,if_pos hq,hM]) hs'
  intro J38 hJ38
  have loud: ∀{H':Heap},quietB s.D E id=false→St H0 H' ([.cell b35 C 45,.cell b27 B 45]++(.cell b11 (docA s.D.w s.D.h s.D.next M.K) 33:: .cell bd (docA E.w E.h E.next K') 33::docRs (docA E.w E.h E.next K') E:: .cell b3 (edL e es).toArray 28:: .cell b (lvA E K' M.m s.n) 74:: .obj M.m (mapO M.L M.c)::docRs (docA s.D.w s.D.h s.D.next M.K) s.D::tlRs s.D M.L::σ))→J38 [] H':=by
   intro H39 hq hs39
   have h39:=hs39.drop 2
   refine hJ38 H39 ⟨docA E.w E.h E.next K',rfl,rowIn_whole (h39.block 1 rfl),find_g h39 (h39.doc 2 rfl) hi2 fun F H42 hF hs42 _=>⟨_,_,rfl,hs42.alc fun b45 H46 hs46=>⟨hF.size,hs46.putAll 0 rfl hF.size hF.one fun H47 hs47=>?_⟩⟩⟩
   have clr: ∀{H':Heap} {τ:List Rs},keptL s.D E e s.ks=[]→St H0 H' (τ++(.cell b11 (docA s.D.w s.D.h s.D.next M.K) 33:: .cell bd (docA E.w E.h E.next K') 33::docRs (docA E.w E.h E.next K') E:: .cell b3 (edL e es).toArray 28:: .cell b (lvA E K' M.m s.n) 74:: .obj M.m (mapO M.L M.c)::docRs (docA s.D.w s.D.h s.D.next M.K) s.D::tlRs s.D M.L::σ))→ ∃a,(some ⟨b,0,none⟩:Option Addr)=some a∧ ∃t:Option Nat,Sh.cell H' (Addr.add a 4)=some (.map t)∧ ∃r,t=some r∧ ∃(es:Array MapEntry) (c:Nat),H'[r]?=some (.map es c)∧sto H' r (.map #[] c) fun H77=>R (.int .i64 0) H77:=fun{H' τ} hk hs'=>by
    have h1:=hs'.app.2
    refine⟨_,rfl,some M.m,h1.get 4 rfl (j:=4) rfl,M.m,rfl,_,_,h1.objGet 5 rfl,?_⟩
    exact good [] _ (τ:=[]) (by simp) (by rw[hk];rfl) (h1.objSet 5 (mapO [] M.c) rfl)
   obtain⟨fP,fM,fA,fK,rfl⟩:=lay_cells hF
   intro J48 hJ48
   refine⟨e.kind,hs47.get 4 rfl (j:=0) rfl,br_ne (fun hk=>clr (τ:=[_]) ?_ hs47) fun hk=>⟨_,rfl,cellMap (hs47.block 0 rfl),c15 fun H80 he80=>⟨_,rfl,.inl he80,rfl,((findL E.ks id).getD (.mk zeroF [])).f.map.l,oneM.l,rfl,rfl,rfl,rfl,br_not (fun c=>clr (τ:=[_]) ?_ (hs47.step he80)) fun d4=>hJ48 H80 ?_⟩⟩⟩
   ·unfold keptL
    rw[hid,hq,if_neg (by decide)]
    split
    ·rw[if_neg (fun h=>hk h.1)]
    ·rfl
   ·unfold keptL
    rw[hid,hq,if_neg (by decide)]
    split
    ·rename_i l hl
     rw[hl] at c
     rw[if_neg (fun h=>of_decide_eq_false c (by rw[Option.getD_some,h.2]))]
    ·rfl
   have hone:=M6_l.1 (of_decide_eq_true d4)
   obtain⟨l,hl⟩: ∃l,findL E.ks id=some l:=by
    cases hf:findL E.ks id with
    |some l=>exact⟨l,rfl⟩
    |none=>rw[hf] at hone;exact absurd hone (by decide)
   rw[hl,Option.getD_some] at hone hs47
   have h80:=hs47.step he80
   have hkept:keptL s.D E e s.ks=s.ks.filter fun k=> !boxE e l.f E k:=by
    unfold keptL
    rw[hid,hq,if_neg (by decide),hl]
    simp only
    rw[if_pos ⟨hk,hone⟩]
   obtain⟨_,_,_,_,hc,_⟩:=paint_do hi hk h0
   obtain⟨hrng,_⟩:=paint_rng hc
   obtain⟨⟨q1,q2⟩,⟨q3,q4⟩,⟨q5,q6⟩,q7,q8⟩:=hrng
   refine⟨e.x,h80.get 4 rfl (j:=6) rfl,e.y,h80.get 4 rfl (j:=7) rfl,e.x,h80.get 4 rfl (j:=6) rfl,e.w,h80.get 4 rfl (j:=8) rfl,l.f.w,h80.get 0 rfl (j:=5) rfl,E.w,h80.get 2 rfl (j:=0) rfl,e.y,h80.get 4 rfl (j:=7) rfl,e.h,h80.get 4 rfl (j:=9) rfl,l.f.h,h80.get 0 rfl (j:=6) rfl,E.h,h80.get 2 rfl (j:=1) rfl,?_⟩
   rw[wrap_id (n:=e.x+e.w) (by omega) (by omega),wrap_id (n:=e.y+e.h) (by omega) (by omega)]
   have hbox:boxE e l.f E=boxB (max 0 e.x) (min (min (e.x+e.w) l.f.w) E.w) (max 0 e.y) (min (min (e.y+e.h) l.f.h) E.h):=rfl
   have bx:0≤max 0 e.x∧max 0 e.x≤100000∧min (min (e.x+e.w) l.f.w) E.w≤100000∧0≤max 0 e.y∧max 0 e.y≤100000∧min (min (e.y+e.h) l.f.h) E.h≤100000:=by omega
   generalize max 0 e.x=x0 at*
   generalize min (min (e.x+e.w) l.f.w) E.w=x1 at*
   generalize max 0 e.y=y0 at*
   generalize min (min (e.y+e.h) l.f.h) E.h=y1 at*
   obtain⟨b0,b1,b2,b3',b4,b5⟩:=bx
   have hmapf:(M.L.filter fun z=> !boxB x0 x1 y0 y1 z.1).map Prod.fst=s.ks.filter fun k=> !boxB x0 x1 y0 y1 k:=by
    rw[←hM,List.filter_map];rfl
   refine br_dec (fun hge=>?_) fun hlt=>⟨by decide,?_⟩
   ·refine good M.L H80 (τ:=[_]) (fun _ h=>h) ?_ h80
    rw[hkept,hbox,hM]
    refine(List.filter_eq_self.2 fun k _=>?_).symm
    unfold boxB
    rw[Bool.not_eq_true',decide_eq_false_iff_not]
    omega
   intro X60 hX60
   rw[Int.tdiv_eq_ediv_of_nonneg b3',wrap_id (n:=y0/16) (by omega) (by omega)]
   have h81:St H0 H80 (.cell b (lvA E K' M.m s.n) 74:: .obj M.m (mapO M.L M.c)::tlRs s.D M.L::docRs (docA E.w E.h E.next K') E::σ):=by
    have h1:St H0 H80 (docRs (docA E.w E.h E.next K') E:: .cell b (lvA E K' M.m s.n) 74:: .obj M.m (mapO M.L M.c)::tlRs s.D M.L::σ):=((((h80.drop 1).del 6).del 3).del 0).del 0
    exact h1.perm ((permC (a:=[_,_,_,_]) (b:=[_,_,_,_]) fun _ y=>by simp only[List.count_cons,List.count_nil];ac_rfl).append_right σ)
   refine del_rows (x0:=x0) (x1:=x1) (y0:=y0) (y1:=y1) (L:=M.L) (by rw[hM];exact ok.nodup) ⟨b0,b1⟩ ⟨by omega,b2⟩ ⟨b3',b4⟩ b5 (J:=fun H'=>R (.int .i64 0) H') (fun H' hs'=>?_) (fun y H1 hx=>hX60 y H1 fun J63 hJ63=>?_) h81
   ·refine fin _ H' (fun x hx=>(List.mem_filter.1 hx).1) (by rw[hmapf,hkept,hbox]) ?_
    exact hs'.perm (List.Perm.cons _ (List.Perm.cons _ (List.Perm.swap _ _ _)))
   ·exact hx J63 fun H64 hh=>hJ63 H64 ⟨by decide,hh⟩
  refine br_not (fun ha=>br_not (fun hb=>quiet (τ:=[_,_]) (by unfold quietB;rw[ha,hb];rfl) hs37) fun hb=>⟨docA E.w E.h E.next K',rfl,rowIn_whole (hs37.block 3 rfl),c38 (hs37.doc 4 rfl) hi2 fun H93 he93=>⟨_,rfl,br_i (fun hu=>quiet (τ:=[_,_]) (by unfold quietB;rw[ha,hu];simp) (hs37.step he93)) fun hu=>loud (by unfold quietB;rw[hb,hu];simp) (hs37.step he93)⟩⟩) fun ha=>⟨docA s.D.w s.D.h s.D.next M.K,rfl,rowIn_whole (hs37.block 2 rfl),c38 (hs37.doc 8 rfl) hi fun H97 he97=>⟨_,rfl,br_i (fun hu=>?_) fun hu=>loud (by unfold quietB;rw[ha,hu];simp) (hs37.step he97)⟩⟩
  have hs97:=hs37.step he97
  refine br_not (fun hb=>quiet (τ:=[_,_]) (by unfold quietB;rw[hu,hb];simp) hs97) fun hb=>⟨docA E.w E.h E.next K',rfl,rowIn_whole (hs97.block 3 rfl),c38 (hs97.doc 4 rfl) hi2 fun H93 he93=>⟨_,rfl,br_i (fun hv=>quiet (τ:=[_,_]) (by unfold quietB;rw[hu,hv];simp) (hs97.step he93)) fun hv=>loud (by unfold quietB;rw[hb,hv];simp) (hs97.step he93)⟩⟩
 have done: ∀(bd:Nat) (A':Array Value) (H1:Heap),DocR H1 A' (doD s.D e).2→St H0 H1 (.cell bd A' 33::docRs A' (doD s.D e).2:: .cell b3 (edL e es).toArray 28:: .cell b (lvA s.D M.K M.m s.n) 74:: .obj M.m (mapO M.L M.c)::docRs (docA s.D.w s.D.h s.D.next M.K) s.D::tlRs s.D M.L::σ)→J5 [.pointer (some ⟨bd,0,none⟩),.int .i64 (doD s.D e).1] H1:=fun bd A' H1 hd hs1=>by
  by_cases h0:(doD s.D e).1=0
  ·obtain⟨K',rfl⟩:=docA_arr hd
   rw[h0]
   exact after bd K' H1 h0 hs1
  ·rw[doE_err h0] at hR
   exact hJ5 _ _ _ (br_ne (fun _=>hR H1 (lvIn M hM (hs1.drop 3))) fun h=>absurd h h0)
 refine⟨_,rfl,docA s.D.w s.D.h s.D.next M.K,rfl,lv_row (hs4.block 1 rfl),(edL e es).toArray,rfl,rowIn_whole (hs4.block 0 rfl),?_,?_⟩
 ·refine do_st hs4 (hs4.doc 3 rfl) hi (by omega) ⟨hed.rd.ext he4,hed.shape,hed.params⟩ fun A' H107 hd' hs107=>⟨_,_,rfl,hs107.alcE fun b110 H111 he111 hs111=>⟨hd'.size,hs111.putAll 0 rfl hd'.size hd'.one fun H112 hs112=>done b110 A' H112 (hs112.doc 1 rfl) hs112⟩⟩
 ·refine hs4.alcE fun b113 H114 he114 hs114=>⟨.inl he114,?_⟩
  refine do_st hs114 (hs114.doc 4 rfl) hi (by omega) ⟨hed.rd.ext (he4.trans he114),hed.shape,hed.params⟩ fun A' H116 hd' hs116=>⟨_,_,rfl,hd'.size,hs116.putAll 1 rfl hd'.size hd'.one fun H119 hs119=>done b113 A' H119 (hs119.doc 0 rfl) hs119.swap⟩
end Go.Proofs
namespace Go.Proofs
open Go.Sh
variable {H0 H:Heap} {σ:List Rs} {R:Value→Heap→Prop}
theorem c19{p q:Option Addr}{l m c d:Nat}{xs ys:List Int}(hx:IS H p l (ints xs))(hy:IS H q m (ints ys))(hl:l≤1000000000000)(hR:R (.bool (decide (xs=ys))) H):CallsH Try.prog 19 #[.slice p l c,.slice q m d] H R:=by
 have hxl:=hx.length
 have hyl:=hy.length
 refine Try.s19 ?_
 unfold Try.S19
 refine br_ne (fun hne=>?_) fun heq=>?_
 ·rw[decide_eq_false (fun h=>hne (by rw[←hxl,←hyl,h]))] at hR;exact hR
 intro X3 hX3
 have go: ∀k,k≤xs.length→xs.take k=ys.take k→X3 [.int .i64 (k:Nat)] H:=by
  refine upto fun k hk ih he=>hX3 _ _ (br_dec (fun hlt=>?_) fun hge=>?_)
  ·have hk':k<xs.length:=by omega
   refine rdG (i:=(k:Int)) hx (by omega) hlt (rdG (i:=(k:Int)) hy (by omega) (by omega) (br_ne (fun hne=>?_) fun heq2=>?_))
   ·rw[decide_eq_false (fun h=>hne (by rw[h]))] at hR;exact hR
   ·rw[wrap_id (by omega) (by omega)]
    rw[Int.toNat_natCast] at heq2
    refine ih hk' ?_
    rw[List.take_add_one,List.take_add_one,he,getD_some xs 0 hk',getD_some ys 0 (by omega),heq2]
  ·obtain rfl:k=xs.length:=by omega
   rw[List.take_of_length_le (Nat.le_refl _),List.take_of_length_le (by omega)] at he
   rw[decide_eq_true he] at hR;exact hR
 exact go 0 (Nat.zero_le _) rfl
def lvE1:Ed:=ed0 1 0 0 (-1) 0 0 0 0 40 40
def lvE2:Ed:=⟨4,1,0,0,0,0,3,3,1,1,[255],[],zeroM,[]⟩
def lv0:DocL:=⟨40,40,1,[]⟩
def lv1:DocL:=(doD lv0 lvE1).2
def lv2:DocL:=(doD lv1 lvE2).2
def lvK9:List Ky:=readK (regP lv1 0 0 40 40) [] 1600
theorem lv_ok:(doD lv0 lvE1).1=0∧(doD lv1 lvE2).1=0∧lv1.next=2∧(lv1.w=40∧lv1.h=40)∧lv2.w=40∧lv2.h=40:=by decide+kernel
theorem lv_k9:lvK9.length=9:=by decide+kernel
theorem lv_k8:(keptL lv1 lv2 lvE2 lvK9).length=8∧(readK (regP lv2 0 0 40 40) (keptL lv1 lv2 lvE2 lvK9) 1600).length=9:=by decide+kernel
theorem lv_px:lsPx 40 3 3 lv2.ks 0=255:=by decide+kernel
theorem rd_again{D:DocL}{ks:List Ky}{n:Int}{p:Pn}{m:Nat}(h: ∀j,j<m→keyP p j∈ks):LvS.rd ⟨D,ks,n⟩ p m=⟨D,ks,n⟩:=by
 unfold LvS.rd
 simp only
 rw[readK_all h,Int.sub_self,Int.add_zero]
theorem read_in{p:Pn}{ks:List Ky}{m:Nat}: ∀j,j<m→keyP p j∈readK p ks m:=fun j hj=>readK_mem.2 (.inr ⟨j,hj,rfl⟩)
theorem regOk_whole{D:DocL}(hi:Inv D){w h:Int}(hw:D.w=w)(hh:D.h=h):RegOk D 0 0 w h:=by
 obtain⟨s1,s2⟩:=hi.sides
 exact⟨by decide,by decide,by omega,by omega⟩
theorem lv_doE(ks:List Ky):LvS.doE ⟨lv1,ks,9⟩ lvE2=(0,⟨lv2,keptL lv1 lv2 lvE2 ks,9⟩):=by
 have h:=lv_ok.2.1
 unfold LvS.doE lv2
 simp only
 rw[if_neg (fun hh=>hh h)]
theorem c6(hR: ∀H',Ext H H'→R (.bool true) H'):CallsH Try.prog 6 #[] H R:=by
 obtain⟨x1,x2,n1,⟨w1,h1⟩,w2,h2⟩:=lv_ok
 have i0:Inv lv0:=new_inv (by decide)
 have i1:Inv lv1:=do_inv i0 x1
 have i2:Inv lv2:=do_inv i1 x2
 have p1:(regP lv1 0 0 40 40).n=1600:=rfl
 have p2:(regP lv2 0 0 40 40).n=1600:=rfl
 refine Try.s6 (_u:=()) ?_
 unfold Try.S6
 refine c8 (fun _ H2 he2=>⟨_,_,rfl,?_⟩) fun h=>absurd h (by decide)
 refine(St.of_ext he2).alc fun b5 H6 hs6=>⟨rfl,hs6.putAll 0 rfl rfl (docA_one 40 40 1 .nil) fun H7 hs7=>⟨_,rfl,rowIn_whole (hs7.block 0 rfl),?_⟩⟩
 refine do_st (D:=lv0) (e:=lvE1) (s:=es0) hs7 (DocR.new H7 40 40) i0 (by decide) (ed0_ok H7 ..) fun A1 H10 hd1 hs10=>⟨_,_,rfl,hd1.size,hs10.putAll 1 rfl hd1.size hd1.one fun H13 hs13=>⟨A1,hd1.size,rowIn_whole (hs13.block 1 rfl),?_⟩⟩
 refine c10 hs13 (hs13.doc 0 rfl) i1 fun lb H16 hs16=>⟨_,rfl,br_f rfl ?_⟩
 have ok0:LvOk ⟨lv1,[],0⟩:=LvOk.start i1 (by decide)
 refine c11 (hs16.take 1) ok0 (by decide) (by decide) (fun _ bo H19 hs19=>⟨_,_,_,_,rfl,?_⟩) fun hn=>absurd (regOk_whole i1 w1 h1) hn
 have e1:LvS.rd ⟨lv1,[],0⟩ (regP lv1 0 0 40 40) (regP lv1 0 0 40 40).n=⟨lv1,lvK9,9⟩:=by
  show(⟨lv1,lvK9,0+((lvK9.length:Int)-0)⟩:LvS)=_
  rw[lv_k9];rfl
 have hs19:St H H19 [.cell bo (ints (picL (regP lv1 0 0 40 40) lv1.ks)).toArray 3,lvRs lb ⟨lv1,lvK9,9⟩]:=by rw[←e1];exact hs19
 have ok1:LvOk ⟨lv1,lvK9,9⟩:=e1▸ok0.rd ((regOk_whole i1 w1 h1).pn i1) (Nat.le_refl _)
 refine c12 hs19.tail ⟨_,rfl,?_⟩
 refine c11 hs19.swap ok1 (by decide) (by decide) (fun _ bo2 H26 hs26=>⟨_,_,_,_,rfl,?_⟩) fun hn=>absurd (regOk_whole i1 w1 h1) hn
 have e2:LvS.rd ⟨lv1,lvK9,9⟩ (regP lv1 0 0 40 40) (regP lv1 0 0 40 40).n=⟨lv1,lvK9,9⟩:=rd_again read_in
 have hs26:St H H26 [.cell bo2 (ints (picL (regP lv1 0 0 40 40) lv1.ks)).toArray 3,lvRs lb ⟨lv1,lvK9,9⟩,.cell bo (ints (picL (regP lv1 0 0 40 40) lv1.ks)).toArray 3]:=by rw[←e2];exact hs26.perm (List.Perm.refl _)
 refine c12 hs26.tail ⟨_,rfl,?_⟩
 refine(hs26.tail.take 1).alc fun b32 H33 hs33=>?_
 have hs33:St H H33 [.cell b32 (ints [255]).toArray 3,lvRs lb ⟨lv1,lvK9,9⟩]:=hs33
 have hed:EdOk H33 lvE2 ⟨⟨some ⟨b32,0,none⟩,1,1⟩,.nil,.nil⟩:=⟨⟨hs33.isA 0 rfl rfl,IS2.nil _,⟨rfl,fun i v h=>by simp[lvE2,ints] at h⟩⟩,by decide,by decide⟩
 refine c14 (e:=lvE2) (es:=⟨⟨some ⟨b32,0,none⟩,1,1⟩,.nil,.nil⟩) hs33.swap ok1 (by show lv1.next≤_;rw[n1];decide) hed fun H35 hs35=>⟨_,rfl,?_⟩
 have e4:=lv_doE lvK9
 have ok2:=ok1.doE lvE2
 rw[e4] at hs35 ok2 ⊢
 generalize hks:keptL lv1 lv2 lvE2 lvK9=ks8 at hs35 ok2
 have hs35:St H H35 [lvRs lb ⟨lv2,ks8,9⟩,.cell b32 (ints [255]).toArray 3]:=hs35
 have ok2:LvOk ⟨lv2,ks8,9⟩:=ok2
 refine c11 hs35 ok2 (show(9:Int)≤1000000000000 by decide) (by decide) (fun _ bo3 H38 hs38=>⟨_,_,_,_,rfl,?_⟩) fun hn=>absurd (regOk_whole i2 w2 h2) hn
 obtain⟨k8,k9⟩:=lv_k8
 rw[hks] at k8 k9
 have e3:(LvS.rd ⟨lv2,ks8,9⟩ (regP lv2 0 0 40 40) (regP lv2 0 0 40 40).n).n=10:=by
  show 9+(((readK (regP lv2 0 0 40 40) (ks8) 1600).length:Int)-((ks8).length:Int))=10
  rw[k8,k9];rfl
 have hs38:St H H38 (.cell bo3 (ints (picL (regP lv2 0 0 40 40) lv2.ks)).toArray 3::lvRs lb (LvS.rd ⟨lv2,ks8,9⟩ (regP lv2 0 0 40 40) (regP lv2 0 0 40 40).n)::[.cell b32 (ints [255]).toArray 3]):=hs38
 refine br_t rfl (br_t rfl (br_t rfl (br_t rfl ?_)))
 refine c12 hs38.tail ⟨_,rfl,?_⟩
 rw[e3]
 have hpx:=reg_at (D:=lv2) (x:=0) (y:=0) (w:=40) (h:=40) (i:=3) (j:=3) (by decide) (by decide)
 refine br_t rfl (br_t rfl (rdG (hs38.isA 0 rfl (plL_len _ _)) (by decide) (by rw[p2];decide) ?_))
 rw[show(picL (regP lv2 0 0 40 40) lv2.ks).getD (Int.toNat 123) 0=lsPx lv2.w (0+(3:Nat)) (0+(3:Nat)) lv2.ks 0 from hpx,w2]
 rw[show lsPx 40 (0+((3:Nat):Int)) (0+((3:Nat):Int)) lv2.ks 0=255 from lv_px]
 exact hR H38 hs38.ext
end Go.Proofs
namespace Go.Proofs
open Go.Sh
variable {H0 H:Heap} {σ:List Rs} {R:Value→Heap→Prop}
end Go.Proofs
namespace Go.Proofs
open Go.Sh
variable {H0 H:Heap} {σ:List Rs} {R:Value→Heap→Prop}
def zEd:Array Value:=#[.int .i64 0,.int .i64 0,.int .i64 0,.int .i64 0,.int .i64 0,.int .i64 0,.int .i64 0,.int .i64 0,.int .i64 0,.int .i64 0,.slice none 0 0,.slice none 0 0,.int .i64 0,.int .i64 0,.int .i64 0,.int .i64 0,.int .i64 0,.int .i64 0,.slice none 0 0]
theorem play_snoc(D:DocL)(es:List Ed)(e:Ed):playD D (es++[e])=nxt (playD D es) e:=by unfold playD;rw[List.foldl_append];rfl
theorem play_size{D:DocL}: ∀(es:List Ed),(playD D es).w=D.w∧(playD D es).h=D.h:=by
 intro es
 induction es generalizing D with
 |nil=>exact⟨rfl,rfl⟩
 |cons e es ih=>
  have h1:=nxt_size (D:=D) e
  have h2:=ih (D:=nxt D e)
  exact⟨h2.1.trans h1.1,h2.2.trans h1.2⟩
theorem play_loop{p:Option Addr}{l:Nat}{es:List (Ed×EdS)}(hes:EdsR H0 p l es)(hok: ∀x∈es,x.1.shape.length≤300∧x.1.params.length≤100)(hl:es.length≤1000){bd:Nat}{D:DocL}{J:Heap→Prop}{X:List Value→Heap→Prop}(hi:Inv D)(hnx:D.next≤1000)
 (hX: ∀(t:Int) (H1:Heap),br (decide (t<(l:Int))) (∃a20:Addr,p=some a20∧0≤t∧t<(l:Int)∧ ∃v21:Array Value,v21.size=19∧rowIn H1 (.add a20 (Int.toNat t*19)) v21∧alc H1 (.cells zEd 28) fun b22 H23=>v21.size=19∧stAt H23 ⟨b22,0,none⟩ v21.toList fun H24=> ∃v25:Array Value,v25.size=4∧rowIn H24 ⟨bd,0,none⟩ v25∧ ∃v26:Array Value,v26.size=19∧rowIn H24 ⟨b22,0,none⟩ v26∧CallsH Try.prog 9 #[.agg v25,.agg v26] H24 fun r27 H28=> ∃r29 r30,r27= .tuple #[.agg r29,.int .i64 r30]∧alc H28 (.cells #[.int .i64 0,.int .i64 0,.int .i64 0,.slice none 0 0] 33) fun b31 H32=>r29.size=4∧stAt H32 ⟨b31,0,none⟩ r29.toList fun H33=>br (r30==0)
  (∃v34:Array Value,v34.size=4∧rowIn H33 ⟨b31,0,none⟩ v34∧v34.size=4∧stAt H33 ⟨bd,0,none⟩ v34.toList fun H35=>X [.int .i64 (IntKind.wrap .i64 (t+1))] H35)
  (X [.int .i64 (IntKind.wrap .i64 (t+1))] H33)) (J H1)→X [.int .i64 t] H1)
 {A:Array Value}(hs:St H0 H (.cell bd A 33::docRs A D::σ))
 (hJ: ∀A H',(playD D (es.map Prod.fst)).next≤D.next+es.length→St H0 H' (.cell bd A 33::docRs A (playD D (es.map Prod.fst))::σ)→J H'):X [.int .i64 0] H:=by
 have hesl:=hes.len
 have go: ∀k,k≤es.length→ ∀(A:Array Value) (E:DocL) (H1:Heap),Inv E→E.next≤D.next+k→E=playD D ((es.take k).map Prod.fst)→St H0 H1 (.cell bd A 33::docRs A E::σ)→X [.int .i64 (k:Nat)] H1:=by
  refine upto fun k hk ih A E H1 hi hnx2 hE hs1=>hX _ _ (br_dec (fun hlt=>?_) fun hge=>?_)
  ·have hk':k<es.length:=by omega
   have hx:=List.getElem?_eq_getElem hk'
   generalize es[k]=x at hx
   obtain⟨e,s⟩:=x
   obtain⟨a,hp,hrow,hed⟩:=eds_ok (hes.ext hs1.ext) hok hx
   have hedH: ∀{H':Heap},Ext H0 H'→EdOk H' e s:=fun he=>let ⟨_,_,_,h3⟩:=eds_ok (hes.ext he) hok hx;h3
   have hE2:nxt E e=playD D ((es.take (k+1)).map Prod.fst):=by rw[take_succ hx,List.map_append,hE];exact(play_snoc _ _ _).symm
   have hn2:=nxt_next (D:=E) e
   have hA:=(hs1.doc 1 rfl).size
   refine⟨a,hp,by omega,hlt,_,rfl,hrow,hs1.alc fun b22 H23 hs23=>⟨rfl,hs23.putAll 0 rfl rfl (by simpa using edL_one e s) fun H24 hs24=>⟨A,hA,rowIn_whole (hs24.block 1 rfl),(edL e s).toArray,rfl,rowIn_whole (hs24.block 0 rfl),?_⟩⟩⟩
   refine do_st hs24 (hs24.doc 2 rfl) hi (by omega) (hedH hs24.ext) fun A' H28 hd' hs28=>⟨_,_,rfl,hs28.alc fun b31 H32 hs32=>⟨hd'.size,hs32.putAll 0 rfl hd'.size hd'.one fun H33 hs33=>?_⟩⟩
   rw[wrap_id (by omega) (by omega)]
   have h33:St H0 H33 (.cell b31 A' 33::docRs A' (doD E e).2:: .cell b22 (edL e s).toArray 28:: .cell bd A 33::docRs A E::σ):=hs33
   refine br_eq (fun h0=>?_) fun hne=>?_
   ·have hn:nxt E e=(doD E e).2:=by unfold nxt;rw[if_pos h0]
    refine⟨A',hd'.size,rowIn_whole (h33.block 0 rfl),hd'.size,h33.putAll 3 rfl (hd'.size.trans hA.symm) hd'.one fun H35 hs35=>ih hk' A' (nxt E e) H35 (nxt_inv hi e) (by omega) hE2 ?_⟩
    rw[←hn] at hs35
    have h35:St H0 H35 (.cell b31 A' 33::docRs A' (nxt E e):: .cell b22 (edL e s).toArray 28:: .cell bd A' 33::docRs A E::σ):=hs35
    exact(((h35.del 4).del 2).del 0).swap
   ·have hn:nxt E e=E:=by unfold nxt;rw[if_neg hne]
    rw[hn] at hE2
    exact ih hk' A E H33 hi (by omega) hE2 (h33.drop 3)
  ·obtain rfl:k=es.length:=by omega
   rw[List.take_of_length_le (Nat.le_refl _)] at hE
   subst hE
   exact hJ A H1 hnx2 hs1
 exact go 0 (Nat.zero_le _) A D H hi (by omega) rfl hs
end Go.Proofs
namespace Go.Proofs
open Go.Sh
variable {H0 H:Heap} {σ:List Rs} {R:Value→Heap→Prop}
theorem same_refl{A B:Array Value}{D:DocL}(hs:St H0 H σ)(hi:Inv D)(ha:DocR H A D)(hb:DocR H B D)(hR: ∀H',St H0 H' σ→Ext H H'→R (.bool true) H'):CallsH Try.prog 21 #[.agg A,.agg B] H R:=by
 refine c21 ha hb hi.ok (by have:=hi.cnt;omega) fun H' he=>?_
 rw[sameD_iff.2 rfl]
 exact hR H' (hs.step he) he
theorem sets_law{p q:Option Addr}{l c m d:Nat}{es fs:List (Ed×EdS)}{w h:Int}(hes:EdsR H p l es)(hfs:EdsR H q m fs)(hR: ∀H',Ext H H'→R (.bool true) H'):CallsH Try.prog 5 #[.slice p l c,.slice q m d,.int .i64 w,.int .i64 h] H R:=by
 refine Try.s5 ?_
 unfold Try.S5
 refine c6 fun H6 he6=>⟨_,rfl,br_f rfl ?_⟩
 intro J8 hJ8
 refine c7 (hes.ext he6) (by decide) fun H120 he120=>⟨_,rfl,br_not (fun _=>hR _ (he6.trans he120)) fun hsm=>?_⟩
 have h120:=he6.trans he120
 refine c7 (hfs.ext h120) (by decide) fun H123 he123=>⟨_,rfl,br_not (fun _=>hR _ (h120.trans he123)) fun hsm2=>?_⟩
 have h123:=h120.trans he123
 refine br_dec (fun _=>hR _ h123) fun hw1=>br_dec (fun _=>hR _ h123) fun hh1=>br_dec (fun _=>hR _ h123) fun hw2=>br_dec (fun _=>hR _ h123) fun hh2=>hJ8 _ ?_
 obtain⟨hmost,hok⟩:=smallB_ok hsm
 obtain⟨hmost2,hok2⟩:=smallB_ok hsm2
 have hinv:Inv ⟨9,9,1,[]⟩:=new_inv (by decide)
 have hwh:=mul_bd (x:=w) (y:=h) (A:=20) (B:=20) (by omega) (by omega)
 have hsz:sizedB w h=true:=decide_eq_true ⟨by omega,by omega,by omega,by omega,by omega⟩
 have hinv2:Inv ⟨w,h,1,[]⟩:=new_inv hsz
 refine c8 (fun _ H11 he11=>⟨_,_,rfl,?_⟩) fun h=>absurd h (by decide)
 refine(St.of_ext (h123.trans he11)).alc fun b14 H15 hs15=>⟨rfl,hs15.putAll 0 rfl rfl (docA_one 9 9 1 .nil) fun H16 hs16=>?_⟩
 refine c8 (fun _ H18 he18=>⟨_,_,rfl,?_⟩) fun h=>absurd (h.symm.trans hsz) (by decide)
 refine(hs16.step he18).alc fun b21 H22 hs22=>⟨rfl,hs22.putAll 0 rfl rfl (docA_one w h 1 .nil) fun H23 hs23=>?_⟩
 intro X24 hX24
 refine play_loop (D:=⟨9,9,1,[]⟩) hes hok (by omega) hinv (by decide) (fun t H1 hx=>hX24 t H1 hx) ((hs23.docNil 9 9 1).front 2 rfl) fun A H26 hnx hs26=>?_
 have hC:=playD_inv hinv (es.map Prod.fst)
 have hszC:=play_size (D:=⟨9,9,1,[]⟩) (es.map Prod.fst)
 have hs26:St H H26 (.cell b14 A 33::docRs A (playD ⟨9,9,1,[]⟩ (es.map Prod.fst)):: .cell b21 (docA w h 1 .nil) 33::[]):=hs26
 generalize playD ⟨9,9,1,[]⟩ (es.map Prod.fst)=C at hs26 hC hszC
 have hwC:C.w=9:=hszC.1
 have hhC:C.h=9:=hszC.2
 intro X43 hX43
 refine play_loop (D:=⟨w,h,1,[]⟩) hfs hok2 (by omega) hinv2 (show(1:Int)≤1000 by decide) (fun t H1 hx=>hX43 t H1 hx) ((hs26.docNil w h 1).front 3 rfl) fun B H45 hnx hs45=>?_
 have hE:=playD_inv hinv2 (fs.map Prod.fst)
 have hszE:=play_size (D:=⟨w,h,1,[]⟩) (fs.map Prod.fst)
 have hs45:St H H45 (.cell b21 B 33::docRs B (playD ⟨w,h,1,[]⟩ (fs.map Prod.fst)):: .cell b14 A 33::docRs A C::[]):=hs45
 generalize playD ⟨w,h,1,[]⟩ (fs.map Prod.fst)=E at hs45 hE hszE
 have hwE:E.w=w:=hszE.1
 have hhE:E.h=h:=hszE.2
 have hA:=(hs45.doc 3 rfl).size
 have hB:=(hs45.doc 1 rfl).size
 have roC:=regOk_whole hC hwC hhC
 have roE:=regOk_whole hE hwE hhE
 have sml: ∀{D:DocL} {x y:Int},(0≤x∧x≤20)→(0≤y∧y≤20)→(regP D 0 0 x y).n≤400:=fun{D x y} hx hy=>by
  have:=mul_bd (x:=x) (y:=y) (A:=20) (B:=20) (by omega) (by omega)
  show(x*y).toNat≤400
  omega
 have rdn: ∀{D:DocL} {x y n:Int},(0≤x∧x≤20)→(0≤y∧y≤20)→0≤n∧n≤10000→0≤(LvS.rd ⟨D,[],n⟩ (regP D 0 0 x y) (regP D 0 0 x y).n).n∧(LvS.rd ⟨D,[],n⟩ (regP D 0 0 x y) (regP D 0 0 x y).n).n≤n+400:=fun{D x y n} hx hy hn=>by
  have h1:=sml (D:=D) hx hy
  have h2:=readK_le (p:=regP D 0 0 x y) (ks:=[]) (regP D 0 0 x y).n
  rw[rd_n]
  simp only[List.length_nil] at h2 ⊢
  omega
 refine⟨A,hA,rowIn_whole (hs45.block 2 rfl),c10 hs45 (hs45.doc 3 rfl) hC fun lb H64 hs64=>⟨_,rfl,br_f rfl ?_⟩⟩
 refine c11 hs64 (LvOk.start hC (by decide)) (show(0:Int)≤_ by decide) (by decide) (fun _ bo H67 hs67=>⟨_,_,_,_,rfl,?_⟩) fun hn=>absurd roC hn
 have hn1:=rdn (D:=C) (x:=9) (y:=9) (n:=0) (by decide) (by decide) (by decide)
 have h67:St H H67 (lvRs lb (LvS.rd ⟨C,[],0⟩ (regP C 0 0 9 9) (regP C 0 0 9 9).n):: .cell b21 B 33::docRs B E:: .cell b14 A 33::docRs A C::[]):=hs67.tail
 generalize LvS.rd ⟨C,[],0⟩ (regP C 0 0 9 9) (regP C 0 0 9 9).n=s1 at h67 hn1
 refine⟨B,hB,rowIn_whole (h67.block 1 rfl),c20 h67 (h67.doc 2 rfl) hE fun H72 hs72=>⟨rfl,?_⟩⟩
 refine c11 hs72 (LvOk.start hE hn1.1) (show s1.n≤_ by omega) (by omega) (fun _ bp H74 hs74=>⟨_,_,_,_,rfl,?_⟩) fun hn=>absurd roE hn
 have hn2:=rdn (D:=E) (x:=w) (y:=h) (n:=s1.n) (by omega) (by omega) (by omega)
 have ok2:=(LvOk.start hE hn1.1).rd (roE.pn hE) (Nat.le_refl _)
 have hDE:=rd_D ⟨E,[],s1.n⟩ (regP E 0 0 w h) (regP E 0 0 w h).n
 have h74:St H H74 (.cell bp (ints (picL (regP E 0 0 w h) E.ks)).toArray 3::lvRs lb (LvS.rd ⟨E,[],s1.n⟩ (regP E 0 0 w h) (regP E 0 0 w h).n):: .cell b21 B 33::docRs B E:: .cell b14 A 33::docRs A C::[]):=hs74
 generalize LvS.rd ⟨E,[],s1.n⟩ (regP E 0 0 w h) (regP E 0 0 w h).n=s2 at h74 hn2 ok2 hDE
 have hDE:s2.D=E:=hDE
 refine c18 h74.swap ok2 fun X H78 hdX hs78=>⟨_,rfl,hs78.alc fun b80 H81 hs81=>⟨hdX.size,hs81.putAll 0 rfl hdX.size hdX.one fun H82 hs82=>?_⟩⟩
 rw[hDE] at hs82
 have h82:St H H82 (.cell b80 X 33::docRs X E::lvRs lb s2:: .cell bp (ints (picL (regP E 0 0 w h) E.ks)).toArray 3:: .cell b21 B 33::docRs B E:: .cell b14 A 33::docRs A C::[]):=hs82
 refine⟨A,hA,rowIn_whole (h82.block 6 rfl),c20 (h82.front 2 rfl) (h82.doc 7 rfl) hC fun H85 hs85=>⟨rfl,?_⟩⟩
 refine c11 hs85 (LvOk.start hC hn2.1) (show s2.n≤_ by omega) (by decide) (fun _ bq H87 hs87=>⟨_,_,_,_,rfl,?_⟩) fun hn=>absurd roC hn
 have ok3:=(LvOk.start hC hn2.1).rd (roC.pn hC) (Nat.le_refl _)
 have hDC:=rd_D ⟨C,[],s2.n⟩ (regP C 0 0 9 9) (regP C 0 0 9 9).n
 have h87:St H H87 (.cell bq (ints (picL (regP C 0 0 9 9) C.ks)).toArray 3::lvRs lb (LvS.rd ⟨C,[],s2.n⟩ (regP C 0 0 9 9) (regP C 0 0 9 9).n):: .cell b80 X 33::docRs X E:: .cell bp (ints (picL (regP E 0 0 w h) E.ks)).toArray 3:: .cell b21 B 33::docRs B E:: .cell b14 A 33::docRs A C::[]):=hs87
 generalize LvS.rd ⟨C,[],s2.n⟩ (regP C 0 0 9 9) (regP C 0 0 9 9).n=s3 at h87 ok3 hDC
 have hDC:s3.D=C:=hDC
 have pE:wholeL E=picL (regP E 0 0 w h) E.ks∧(wholeP E).n=(regP E 0 0 w h).n:=by unfold wholeL wholeP;rw[hwE,hhE];exact⟨rfl,rfl⟩
 have pC:wholeL C=picL (regP C 0 0 9 9) C.ks∧(wholeP C).n=(regP C 0 0 9 9).n:=by unfold wholeL wholeP;rw[hwC,hhC];exact⟨rfl,rfl⟩
 have lE:(picL (regP E 0 0 w h) E.ks).length=(regP E 0 0 w h).n:=plL_len _ _
 have lC:(picL (regP C 0 0 9 9) C.ks).length=(regP C 0 0 9 9).n:=plL_len _ _
 have nE:=sml (D:=E) (x:=w) (y:=h) (by omega) (by omega)
 have nC:=sml (D:=C) (x:=9) (y:=9) (by decide) (by decide)
 refine br_t rfl (br_t rfl ⟨B,hB,rowIn_whole (h87.block 5 rfl),c17 (h87.doc 6 rfl) hE fun bw H92 hs92=>⟨_,rfl,_,_,_,rfl,?_⟩⟩)
 rw[pE.1] at hs92
 rw[pE.2]
 have h92:=h87.call hs92
 refine c19 (h92.isA 5 rfl lE) (h92.isA 0 rfl lE) (Nat.le_trans nE (by decide)) ⟨_,rfl,?_⟩
 rw[decide_eq_true rfl]
 refine br_t rfl ⟨A,hA,rowIn_whole (h92.block 8 rfl),c17 (h92.doc 9 rfl) hC fun bv H100 hs100=>⟨_,rfl,_,_,_,rfl,?_⟩⟩
 rw[pC.1] at hs100
 rw[pC.2]
 have h100:=h92.call hs100
 refine c19 (h100.isA 2 rfl lC) (h100.isA 0 rfl lC) (Nat.le_trans nC (by decide)) ⟨_,rfl,?_⟩
 rw[decide_eq_true rfl]
 refine br_t rfl ⟨X,hdX.size,rowIn_whole (h100.block 4 rfl),B,hB,rowIn_whole (h100.block 7 rfl),?_⟩
 refine same_refl h100 hE (h100.doc 5 rfl) (h100.doc 8 rfl) fun H109 h109 _=>⟨_,rfl,br_t rfl ⟨A,hA,rowIn_whole (h109.block 9 rfl),?_⟩⟩
 refine c18 (h109.front 3 rfl) ok3 fun Y H113 hdY hs113=>⟨_,rfl,.inr ⟨A,hA,rowIn_whole (hs113.block 10 rfl),rfl⟩,?_⟩
 rw[hDC] at hdY
 exact same_refl hs113 hC hdY (hs113.doc 11 rfl) fun H116 h116 _=>⟨_,rfl,hR H116 h116.ext⟩
end Go.Proofs
namespace Go.Proofs
open Go.Sh Go.RowKit Go.ChangeShapes Go.WideShapes Go.ChangeAt
end Go.Proofs
namespace Go.Proofs
open Go.Sh Go.RowKit Go.ChangeShapes Go.WideShapes Go.ChangeAt Go.Deep
section
variable {H:Type} {enc:TypeId×Value→H} {W:World}
abbrev TrP(enc:TypeId×Value→H)(W:World)(fuel:Nat)(t:TypeId)(cs:List Value)(x:DataW H×List MemPlace):Prop:=DataW.trod enc Try.prog W 0 (fun _=>true) true fuel t cs=some x
theorem intsAt{fuel:Nat}{a0:Option Addr}{len cap:Nat}{x:DataW H×List MemPlace}(hf:TrP enc W fuel 23 [.slice a0 len cap] x): ∃ls,len≤cap∧IS W.heap a0 len (ints ls):=by
 rcases open_ints Try.underlying23 Try.underlying3 (by kernel_rfl) hf with ⟨hcs,_⟩|⟨a,len2,cap2,zs,hcs,_,hl,_,hz,_,hc,hw⟩
 ·simp at hcs
  obtain⟨rfl,rfl,rfl⟩:=hcs
  exact⟨[],Nat.le_refl _,⟨rfl,fun i v hv=>by simp[ints] at hv⟩⟩
 ·simp at hcs
  obtain⟨rfl,rfl,rfl⟩:=hcs
  have hzl:len≤zs.length:=by rw[hz];simp;omega
  refine⟨zs.take len,hl,⟨by rw[ints_len];simp;omega,fun i v hv=>⟨a,rfl,?_⟩⟩⟩
  have hi:i<len:=by have:=(List.getElem?_eq_some_iff.1 hv).1;rw[ints_len] at this;simp at this;omega
  have:=hc i (by omega)
  rw[cell_eq] at this
  rw[this]
  have hg:(zs.take len)[i]?=some (zs.getD i 0):=by
   rw[List.getElem?_take_of_lt hi,List.getD_eq_getElem?_getD,List.getElem?_eq_getElem (by omega)];rfl
  rw[ints_get hg] at hv
  exact hv
theorem fieldAt{t:TypeId}{fs:Array Field}{fuel:Nat}{cs:List Value}{x:DataW H×List MemPlace}(hs:Try.prog.underlying t=some (.struct fs))(h:TrP enc W fuel t cs x)(i:Nat){f:Field}{o ty c:Nat}(hf:fs[i]?=some f)(ho:f.offset=o)(ht:f.type=ty)(hc:Try.prog.cellsOf ty=c):
 ∃n y,n<fuel∧TrP enc W n ty ((cs.drop o).take c) y:=by
 obtain⟨xs,n,hfu,_,hl,hlen,hg⟩:=DataW.trod_struct hs h
 have:=hg i f hf
 have hi:=(Array.getElem?_eq_some_iff.1 hf).1
 rw[List.getElem?_eq_getElem (by omega),ho,ht,hc] at this
 exact⟨n,_,by omega,this⟩
theorem one_get{cs:List Value}{o:Nat}{v:Value}(h:(cs.drop o).take 1=[v]):cs[o]?=some v:=by
 have h4:((cs.drop o).take 1)[0]?=some v:=by rw[h];rfl
 rw[List.getElem?_take_of_lt (by omega),List.getElem?_drop] at h4
 simpa using h4
theorem intF{n:Nat}{cs:List Value}{o:Nat}{y:DataW H×List MemPlace}(h:TrP enc W n 3 ((cs.drop o).take 1) y): ∃m:Int,cs[o]?=some (.int .i64 m):=by
 obtain⟨m,hm,_,_⟩:=DataW.trod_int Try.underlying3 h
 exact⟨m,one_get hm⟩
theorem slF{t e n:Nat}{cs:List Value}{o:Nat}{y:DataW H×List MemPlace}(ht:Try.prog.underlying t=some (.slice e))(h:TrP enc W n t ((cs.drop o).take 1) y): ∃s:Sl3,cs[o]?=some s.v∧TrP enc W n t [s.v] y:=by
 rcases DataW.trod_slice ht h with ⟨h0,_⟩|⟨a,len,cap,elems,rest,m,_,h0,_⟩
 ·rw[h0] at h;exact⟨.nil,one_get h0,h⟩
 ·rw[h0] at h;exact⟨⟨some a,len,cap⟩,one_get h0,h⟩
theorem list19{α:Type}{l:List α}(h:l.length=19): ∃a b c d e f g i j k m n o p q r s t u,l=[a,b,c,d,e,f,g,i,j,k,m,n,o,p,q,r,s,t,u]:=by
 match l,h with
 |[a,b,c,d,e,f,g,i,j,k,m,n,o,p,q,r,s,t,u],_=>exact⟨a,b,c,d,e,f,g,i,j,k,m,n,o,p,q,r,s,t,u,rfl⟩
theorem sixF{t n:Nat}{cs:List Value}{o:Nat}{y:DataW H×List MemPlace}(ht:Try.prog.underlying t=some (.array 6 3))(h:TrP enc W n t ((cs.drop o).take 6) y):
 ∃m:M6,cs[o]?=some (.int .i64 m.a)∧cs[o+1]?=some (.int .i64 m.b)∧cs[o+2]?=some (.int .i64 m.c)∧cs[o+3]?=some (.int .i64 m.d)∧cs[o+4]?=some (.int .i64 m.e)∧cs[o+5]?=some (.int .i64 m.f):=by
 obtain⟨xs,m,_,_,hl,hlen,hg⟩:=DataW.trod_array ht h
 have hc:Try.prog.cellsOf 3=1:=by kernel_rfl
 have each: ∀i,i<6→ ∃z:Int,cs[o+i]?=some (.int .i64 z):=fun i hi=>by
  have:=hg i hi
  rw[hc,Nat.mul_one,List.getElem?_eq_getElem (by omega)] at this
  obtain⟨z,hz⟩:=intF this
  rw[List.getElem?_take_of_lt hi,List.getElem?_drop] at hz
  exact⟨z,hz⟩
 obtain⟨a,ha⟩:=each 0 (by omega)
 obtain⟨b,hb⟩:=each 1 (by omega)
 obtain⟨c,hc⟩:=each 2 (by omega)
 obtain⟨d,hd⟩:=each 3 (by omega)
 obtain⟨e,he⟩:=each 4 (by omega)
 obtain⟨f,hf⟩:=each 5 (by omega)
 exact⟨⟨a,b,c,d,e,f⟩,ha,hb,hc,hd,he,hf⟩
theorem ptAt{n:Nat}{cs:List Value}{y:DataW H×List MemPlace}(h:TrP enc W n 128 cs y): ∃p:Pt,cs=[.int .i64 p.1,.int .i64 p.2]:=by
 obtain⟨_,_,_,h0⟩:=fieldAt (o:=0) (ty:=3) (c:=1) Try.underlying128 h 0 rfl rfl rfl (by kernel_rfl)
 obtain⟨_,_,_,h1⟩:=fieldAt (o:=1) (ty:=3) (c:=1) Try.underlying128 h 1 rfl rfl rfl (by kernel_rfl)
 obtain⟨x,hx⟩:=intF h0
 obtain⟨y,hy⟩:=intF h1
 obtain⟨xs,m,_,_,hl,_⟩:=DataW.trod_struct Try.underlying128 h
 have hl2:cs.length=2:=by rw[hl];kernel_rfl
 match cs,hl2 with
 |[a,b],_=>
  simp only[List.getElem?_cons_zero,List.getElem?_cons_succ,Option.some.injEq] at hx hy
  subst hx;subst hy
  exact⟨(x,y),rfl⟩
theorem choose_list{α:Type}{P:Nat→α→Prop}{n:Nat}[Inhabited α](h: ∀i,i<n→ ∃x,P i x): ∃l:List α,l.length=n∧ ∀i x,l[i]?=some x→P i x:=by
 obtain⟨f,hf⟩: ∃f:Nat→α,∀i,i<n→P i (f i):=by
  have: ∀i,∃x,i<n→P i x:=fun i=>by
   by_cases hi:i<n
   ·obtain⟨x,hx⟩:=h i hi;exact⟨x,fun _=>hx⟩
   ·exact⟨default,fun h=>absurd h hi⟩
  exact Classical.axiomOfChoice this
 refine⟨(List.range n).map f,by simp,fun i x hx=>?_⟩
 have hi:i<n:=by have:=(List.getElem?_eq_some_iff.1 hx).1;simpa using this
 simp[hi] at hx
 subst hx
 exact hf i hi
theorem ptsAt{fuel:Nat}{s:Sl3}{x:DataW H×List MemPlace}(hf:TrP enc W fuel 24 [s.v] x): ∃pts:List Pt,s.l≤s.c∧IS2 W.heap s.p s.l pts:=by
 rcases open_slice Try.underlying24 hf with ⟨hcs,_⟩|⟨a,len',cap',m,n,D,Pl,hcs,_,hl,hm,hmm,_,hx⟩
 ·obtain⟨p,l,c⟩:=s
  simp only[Sl3.v,List.cons.injEq,Value.slice.injEq,and_true] at hcs
  obtain⟨rfl,rfl,rfl⟩:=hcs
  exact⟨[],Nat.le_refl _,IS2.nil _⟩
 ·obtain⟨p,l,c⟩:=s
  simp only[Sl3.v,List.cons.injEq,Value.slice.injEq,and_true] at hcs
  obtain⟨rfl,rfl,rfl⟩:=hcs
  have hml:l≤m:=by rw[hmm];simp;omega
  obtain⟨pts,hlen,hpts⟩:=choose_list (P:=fun i (p:Pt)=>rowIn W.heap (a.add (i*2)) #[.int .i64 p.1,.int .i64 p.2]) (n:=l) fun i hi=>by
   obtain⟨cs,h1,h2⟩:=hx i (by omega)
   rw[show Try.prog.cellsOf 128=2 from by kernel_rfl] at h1
   obtain⟨p,rfl⟩:=ptAt h2
   obtain⟨_,_,hc⟩:=World.cells?_some h1
   refine⟨p,fun j v hv=>?_⟩
   have hj:j<2:=(Array.getElem?_eq_some_iff.1 hv).1
   have:=hc j hj
   rw[cell_eq] at this
   rw[this]
   simpa using hv
  exact⟨pts,hl,hlen,fun i x y hi=>⟨a,rfl,hpts i (x,y) hi⟩⟩
theorem edAt{fuel:Nat}{cs:List Value}{x:DataW H×List MemPlace}(h:TrP enc W fuel 28 cs x): ∃e s,cs=edL e s∧rdEd W.heap e s:=by
 have hu:=Try.underlying28
 obtain⟨_,_,_,h0⟩:=fieldAt (o:=0) (ty:=3) (c:=1) hu h 0 rfl rfl rfl (by kernel_rfl)
 obtain⟨_,_,_,h1⟩:=fieldAt (o:=1) (ty:=3) (c:=1) hu h 1 rfl rfl rfl (by kernel_rfl)
 obtain⟨_,_,_,h2⟩:=fieldAt (o:=2) (ty:=3) (c:=1) hu h 2 rfl rfl rfl (by kernel_rfl)
 obtain⟨_,_,_,h3⟩:=fieldAt (o:=3) (ty:=3) (c:=1) hu h 3 rfl rfl rfl (by kernel_rfl)
 obtain⟨_,_,_,h4⟩:=fieldAt (o:=4) (ty:=3) (c:=1) hu h 4 rfl rfl rfl (by kernel_rfl)
 obtain⟨_,_,_,h5⟩:=fieldAt (o:=5) (ty:=3) (c:=1) hu h 5 rfl rfl rfl (by kernel_rfl)
 obtain⟨_,_,_,h6⟩:=fieldAt (o:=6) (ty:=3) (c:=1) hu h 6 rfl rfl rfl (by kernel_rfl)
 obtain⟨_,_,_,h7⟩:=fieldAt (o:=7) (ty:=3) (c:=1) hu h 7 rfl rfl rfl (by kernel_rfl)
 obtain⟨_,_,_,h8⟩:=fieldAt (o:=8) (ty:=3) (c:=1) hu h 8 rfl rfl rfl (by kernel_rfl)
 obtain⟨_,_,_,h9⟩:=fieldAt (o:=9) (ty:=3) (c:=1) hu h 9 rfl rfl rfl (by kernel_rfl)
 obtain⟨_,_,_,h10⟩:=fieldAt (o:=10) (ty:=23) (c:=1) hu h 10 rfl rfl rfl (by kernel_rfl)
 obtain⟨_,_,_,h11⟩:=fieldAt (o:=11) (ty:=24) (c:=1) hu h 11 rfl rfl rfl (by kernel_rfl)
 obtain⟨_,_,_,h12⟩:=fieldAt (o:=12) (ty:=26) (c:=6) hu h 12 rfl rfl rfl (by kernel_rfl)
 obtain⟨_,_,_,h13⟩:=fieldAt (o:=18) (ty:=23) (c:=1) hu h 13 rfl rfl rfl (by kernel_rfl)
 obtain⟨v0,g0⟩:=intF h0
 obtain⟨v1,g1⟩:=intF h1
 obtain⟨v2,g2⟩:=intF h2
 obtain⟨v3,g3⟩:=intF h3
 obtain⟨v4,g4⟩:=intF h4
 obtain⟨v5,g5⟩:=intF h5
 obtain⟨v6,g6⟩:=intF h6
 obtain⟨v7,g7⟩:=intF h7
 obtain⟨v8,g8⟩:=intF h8
 obtain⟨v9,g9⟩:=intF h9
 obtain⟨P,g10,t10⟩:=slF Try.underlying23 h10
 obtain⟨S,g11,t11⟩:=slF Try.underlying24 h11
 obtain⟨m,ga,gb,gc,gd,ge,gf⟩:=sixF Try.underlying26 h12
 obtain⟨A,g18,t18⟩:=slF Try.underlying23 h13
 obtain⟨ps,_,hps⟩:=intsAt t10
 obtain⟨pts,_,hpts⟩:=ptsAt t11
 obtain⟨qs,_,hqs⟩:=intsAt t18
 obtain⟨xs,k,_,_,hl,_⟩:=DataW.trod_struct hu h
 have hl2:cs.length=19:=by rw[hl];kernel_rfl
 refine⟨⟨v0,v1,v2,v3,v4,v5,v6,v7,v8,v9,ps,pts,m,qs⟩,⟨P,S,A⟩,?_,⟨hps,hpts,hqs⟩⟩
 obtain⟨a,b,c,d,e,f,g,i,j,k,m',n,o,p,q,r,s,t,u,rfl⟩:=list19 hl2
 simp only[List.getElem?_cons_zero,List.getElem?_cons_succ,Option.some.injEq] at g0 g1 g2 g3 g4 g5 g6 g7 g8 g9 g10 g11 ga gb gc gd ge gf g18
 subst g0 g1 g2 g3 g4 g5 g6 g7 g8 g9 g10 g11 ga gb gc gd ge gf g18
 rfl
instance:Inhabited (Ed×EdS):=⟨⟨0,0,0,0,0,0,0,0,0,0,[],[],⟨0,0,0,0,0,0⟩,[]⟩,⟨.nil,.nil,.nil⟩⟩
theorem editsIn_of{v:Value}{d:DataW H}{ps:List MemPlace}{base:Nat}(hv:Value.okWide Try.prog W .any base 22 v)(h:DataW.Trod enc Try.prog W 0 (fun _=>true) true 22 v d ps):
 ∃a l c es,v= .slice a l c∧l≤c∧EdsR W.heap a l es:=by
 obtain⟨a0,len,cap,rfl⟩:=okWide_slice Try.underlying22 hv
 obtain⟨fuel,hf⟩:=h
 rcases open_slice Try.underlying22 hf with ⟨hcs,_⟩|⟨a,len',cap',m,n,D,Pl,hcs,_,hl,hm,hmm,_,hx⟩
 ·simp only[Value.cells] at hcs
  simp at hcs
  obtain⟨rfl,rfl,rfl⟩:=hcs
  exact⟨none,0,0,[],rfl,Nat.le_refl _,rfl,fun i e s hx=>by simp at hx⟩
 ·simp only[Value.cells] at hcs
  simp at hcs
  obtain⟨rfl,rfl,rfl⟩:=hcs
  have hml:len≤m:=by rw[hmm];simp;omega
  obtain⟨es,hlen,hes⟩:=choose_list (P:=fun i (x:Ed×EdS)=>rowIn W.heap (a.add (i*19)) (edL x.1 x.2).toArray∧rdEd W.heap x.1 x.2) (n:=len) fun i hi=>by
   obtain⟨cs,h1,h2⟩:=hx i (by omega)
   rw[show Try.prog.cellsOf 28=19 from by kernel_rfl] at h1
   obtain⟨e,s,rfl,hrd⟩:=edAt h2
   obtain⟨_,_,hc⟩:=World.cells?_some h1
   refine⟨(e,s),fun j v hv=>?_,hrd⟩
   have hj:j<19:=(Array.getElem?_eq_some_iff.1 hv).1
   have:=hc j hj
   rw[cell_eq] at this
   rw[this]
   simpa using hv
  exact⟨some a,len,cap,es,rfl,hl,hlen,fun i e s hi=>let ⟨h1,h2⟩:=hes i (e,s) hi;⟨a,rfl,h1,h2⟩⟩
end
end Go.Proofs
