/-
  OWN WORK. Several texts in one: EdE, FlA, FlB, CrA, FlC, FlUa, EdA, TrS, EdB, TrT, TrU, TrV, TrW, TrX.
-/
import Derived.Test.YthigcnljndbmnaaGreatMgEditorGroupsD
import Derived.Test.YthigcnljndbmnaaGreatMgEditorGroupsE
import Derived.Test.YthigcnljndbmnaaGreatMgEditorGroupsC

set_option linter.unusedVariables false
set_option linter.unusedSimpArgs false
set_option maxRecDepth 10000
namespace Go.Proofs
open Go.Sh
variable {H0 H:Heap} {σ:List Rs} {R:Value→Heap→Prop} {cap:Int} {s:TS} {ms:List Shf}
mutual
def rasL:Lay→List LayF
 | .mk f ks=>(if f.kind=0 then[f] else[])++rasKs ks
def rasKs:List Lay→List LayF
 |[]=>[]
 |t::ts=>rasL t++rasKs ts
end
theorem rasL_T(t:T):rasL (layT t)=(if t.f.kind=0 then[t.f] else[])++rasKs (layKs t.kids):=by cases t;rfl
def pixQ(cap:Int)(k b:Nat)(w:Int):List Int→Int→TS→Bool→(TS→Bool→Prop)→Prop
 |[],_,s,ok,Q=>Q s ok
 |_::r,i,s,false,Q=>pixQ cap k b w r (i+1) s false Q
 |v::r,i,s,true,Q=> ∃p,s.pls[k]?=some p∧p.b=b∧p.has (i%w) (i/w)=true∧(0≤v∧v<4294967296)∧
  (Go.Tile.pxAt s p (i%w) (i/w)=v→pixQ cap k b w r (i+1) s true Q)∧
  (Go.Tile.pxAt s p (i%w) (i/w)≠v→Go.Tile.needs s p (i%w/16) (i/w/16)=true→s.free=0→pixQ cap k b w r (i+1) s false Q)∧
  (Go.Tile.pxAt s p (i%w) (i/w)≠v→ ∀s',Go.Tile.Ok cap s'→Go.Tile.Wrote s k p (i%w) (i/w) v s'→pixQ cap k b w r (i+1) s' true Q)
def shlQ(cap:Int)(A:Nat)(old:List (Int×Nat)):List LayF→TS→List (Int×Nat)→Bool→(TS→List (Int×Nat)→Bool→Prop)→Prop
 |[],s,acc,ok,Q=>Q s acc ok
 |f::r,s,acc,ok,Q=>s.A=A∧s.pls.length<1000000∧shLook acc f.id=none∧1≤f.w∧f.w≤32768∧0≤f.h∧f.h≤32768∧f.p.length≤1000000000∧
  match shLook old f.id with
  |some b0=> ∃p0∈s.pls,p0.b=b0∧ ∀b m done,Same done p0.en→Go.Tile.Ok cap (snapS s (snapPl p0 b m done))→
   pixQ cap s.pls.length b f.w f.p 0 (snapS s (snapPl p0 b m done)) ok fun s' ok'=>shlQ cap A old r s' (acc++[(f.id,b)]) ok' Q
  |none=> ∀b m,Go.Tile.Ok cap (snapS s (newPl m b f.w f.h))→pixQ cap s.pls.length b f.w f.p 0 (snapS s (newPl m b f.w f.h)) ok fun s' ok'=>shlQ cap A old r s' (acc++[(f.id,b)]) ok' Q
theorem pixQ_mono{k b:Nat}{w:Int}{Q Q':TS→Bool→Prop}(h: ∀s ok,Q s ok→Q' s ok): ∀{l:List Int} {i:Int} {s:TS} {ok:Bool},pixQ cap k b w l i s ok Q→pixQ cap k b w l i s ok Q'
 |[],_,_,_,hq=>h _ _ hq
 |_::r,_,_,false,hq=>pixQ_mono h (l:=r) hq
 |v::r,_,_,true,⟨p,h1,h2,h3,h4,h5,h6,h7⟩=>⟨p,h1,h2,h3,h4,fun a=>pixQ_mono h (l:=r) (h5 a),fun a b c=>pixQ_mono h (l:=r) (h6 a b c),fun a s' b c=>pixQ_mono h (l:=r) (h7 a s' b c)⟩
theorem shlQ_mono{A:Nat}{old:List (Int×Nat)}{Q Q':TS→List (Int×Nat)→Bool→Prop}(hQ: ∀s acc ok,Q s acc ok→Q' s acc ok): ∀{l:List LayF} {s:TS} {acc:List (Int×Nat)} {ok:Bool},shlQ cap A old l s acc ok Q→shlQ cap A old l s acc ok Q'
 |[],_,_,_,h=>hQ _ _ _ h
 |f::r,s,acc,ok,h=>by
  unfold shlQ at h ⊢
  obtain⟨h1,h2,h3,h4,h5,h6,h7,h8,h9⟩:=h
  refine⟨h1,h2,h3,h4,h5,h6,h7,h8,?_⟩
  cases hl:shLook old f.id with
  |none=>rw[hl] at h9;exact fun b m ho=>pixQ_mono (fun s ok hq=>shlQ_mono hQ (l:=r) hq) (h9 b m ho)
  |some b0=>
   rw[hl] at h9
   obtain⟨p0,hp,hb,h10⟩:=h9
   exact⟨p0,hp,hb,fun b m done hd ho=>pixQ_mono (fun s ok hq=>shlQ_mono hQ (l:=r) hq) (h10 b m done hd ho)⟩
theorem shlQ_app{A:Nat}{old:List (Int×Nat)}{Q:TS→List (Int×Nat)→Bool→Prop}{m:List LayF}: ∀{l:List LayF} {s:TS} {acc:List (Int×Nat)} {ok:Bool},shlQ cap A old (l++m) s acc ok Q→shlQ cap A old l s acc ok fun s acc ok=>shlQ cap A old m s acc ok Q
 |[],_,_,_,h=>h
 |f::r,s,acc,ok,h=>by
  rw[List.cons_append] at h
  unfold shlQ at h ⊢
  obtain⟨h1,h2,h3,h4,h5,h6,h7,h8,h9⟩:=h
  refine⟨h1,h2,h3,h4,h5,h6,h7,h8,?_⟩
  cases hl:shLook old f.id with
  |none=>rw[hl] at h9;exact fun b m ho=>pixQ_mono (fun s ok hq=>shlQ_app (l:=r) hq) (h9 b m ho)
  |some b0=>
   rw[hl] at h9
   obtain⟨p0,hp,hb,h10⟩:=h9
   exact⟨p0,hp,hb,fun b m done hd ho=>pixQ_mono (fun s ok hq=>shlQ_app (l:=r) hq) (h10 b m done hd ho)⟩
theorem dropsQ_mono{Q Q':TS→Prop}(h: ∀s,Q s→Q' s): ∀{bs:List Nat} {s:TS},dropsQ bs s Q→dropsQ bs s Q'
 |[],_,hq=>h _ hq
 |b::r,_,hq=>⟨hq.1,fun k p hk hb=>dropsQ_mono h (hq.2 k p hk hb)⟩
theorem cellsT_5(t:T):(cellsT t).toArray[5]?=some (.int .i64 t.f.w):=by cases t;rfl
theorem cellsT_6(t:T):(cellsT t).toArray[6]?=some (.int .i64 t.f.h):=by cases t;rfl
theorem cellsT_7(t:T):(cellsT t).toArray[7]?=some (.slice t.P'.p t.P'.l t.P'.c):=by cases t;rfl
theorem rdT.px{t:T}(h:rdT H t):IS H t.P'.p t.P'.l (ints t.f.p):=by cases t;rw[rdT] at h;exact h.1
def ShRd(xb A m0 m1:Nat)(d2 d3 d4:Addr)(H0:Heap)(σ:List Rs):Prop:= ∀H' τ,St H0 H' (τ++σ)→
 Sh.cell H' d2=some (.map (some m0))∧Sh.cell H' d3=some (.pointer (some ⟨xb,0,none⟩))∧Sh.cell H' ⟨xb,6,none⟩=some (.pointer (some ⟨A,0,none⟩))∧Sh.cell H' d4=some (.map (some m1))
theorem ShRd.cons{xb A m0 m1:Nat}{d2 d3 d4:Addr}{r:Rs}(h:ShRd xb A m0 m1 d2 d3 d4 H0 σ):ShRd xb A m0 m1 d2 d3 d4 H0 (r::σ):=fun H' τ h'=>h H' (τ++[r]) (by rw[List.append_assoc];exact h')
theorem ras_call{xb A m0 m1 b14:Nat}{d2 d3 d4:Addr}{old acc:List (Int×Nat)}{ok:Bool}{t:T}{Q:TS→List (Int×Nat)→Bool→Prop}
 (hs:St H0 H (arRs cap s (ms++[(m1,acc)]):: .cell b14 #[.bool ok] 4::σ))(hm:(m0,old)∈ms)(hr:ShRd xb A m0 m1 d2 d3 d4 H0 σ)(ht: ∀H' τ,St H0 H' (τ++σ)→rdT H' t)
 (hq:shlQ cap A old [t.f] s acc ok Q)(hR: ∀s' acc' ok' H',Q s' acc' ok'→St H0 H' (arRs cap s' (ms++[(m1,acc')]):: .cell b14 #[.bool ok'] 4::σ)→R (.tuple #[]) H'):
 CallsH Tryz.prog 79 #[.agg (cellsT t).toArray,.pointer (some d2),.pointer (some d3),.pointer (some d4),.pointer (some ⟨b14,0,none⟩)] H R:=by
 obtain⟨hA,hlen,hnone,w1,w2,g1,g2,hpl,hq⟩:=hq
 refine Tryz.s79 ?_
 unfold Tryz.S79
 refine hs.alc fun b6 H7 h7=>?_
 obtain⟨r2,r3,rx,r4⟩:=hr H7 [_,_,_] h7
 refine⟨_,r2,_,h7.get 0 rfl (j:=0) (cellsT_0 t),m0,rfl,_,_,(ar_ok h7.tail).sh _ (List.mem_append_left _ hm),⟨_,rfl⟩,sE_kf _,_,sE_look _ _,?_⟩
 intro J hJ
 have key: ∀(b k:Nat) (s1:TS) H1,pixQ cap k b t.f.w t.f.p 0 s1 ok (fun s' ok'=>Q s' (acc++[(t.f.id,b)]) ok')→St H0 H1 (arRs cap s1 (ms++[(m1,acc)]):: .cell b6 (cellsT t).toArray 118:: .cell b14 #[.bool ok] 4::σ)→J [.pointer (some ⟨b,0,none⟩)] H1:=by
  intro b k s1 H1 hpx h1
  refine hJ _ _ ⟨_,(hr H1 [_,_,_] h1).2.2.2,_,h1.get 1 rfl (j:=0) (cellsT_0 t),sE_upd ((ar_ok h1).sh (m1,acc) (List.mem_append_right _ (List.mem_singleton.2 rfl))) hnone ?_⟩
  have h2:=ar_put (m:=m1) (es:=acc) (es':=acc++[(t.f.id,b)]) h1 (i:=ms.length) (by simp)
  rw[show(ms++[(m1,acc)]).set ms.length (m1,acc++[(t.f.id,b)])=ms++[(m1,acc++[(t.f.id,b)])] from by simp] at h2
  generalize H1.setIfInBounds _ _=H2 at h2
  refine⟨_,_,_,h2.get 1 rfl (j:=7) (cellsT_7 t),?_⟩
  intro X hX
  have hPl:t.f.p.length=t.P'.l:=by have:=(ht H2 [_,_,_] h2).px.length;exact this
  have go: ∀(l:List Int) (i:Nat) (s2:TS) (ok2:Bool) H3,t.f.p.drop i=l→pixQ cap k b t.f.w l i s2 ok2 (fun s' ok'=>Q s' (acc++[(t.f.id,b)]) ok')→
   St H0 H3 (arRs cap s2 (ms++[(m1,acc++[(t.f.id,b)])]):: .cell b6 (cellsT t).toArray 118:: .cell b14 #[.bool ok2] 4::σ)→X [.int .i64 i] H3:=by
   intro l
   induction l with
   |nil=>
    intro i s2 ok2 H3 hd hp h3
    have:t.f.p.length≤i:=List.drop_eq_nil_iff.1 hd
    exact hX _ _ (br_n (by omega) (hR _ _ _ _ hp (h3.del 1)))
   |cons v r ih=>
    intro i s2 ok2 H3 hd hp h3
    have hv:t.f.p[i]?=some v:=by have:=congrArg (·[0]?) hd;simpa using this
    have hi:i<t.f.p.length:=(List.getElem?_eq_some_iff.1 hv).1
    have hd':t.f.p.drop (i+1)=r:=by rw[←List.drop_drop,hd];rfl
    have nx: ∀s4 ok4 H4,pixQ cap k b t.f.w r ((i:Int)+1) s4 ok4 (fun s' ok'=>Q s' (acc++[(t.f.id,b)]) ok')→St H0 H4 (arRs cap s4 (ms++[(m1,acc++[(t.f.id,b)])]):: .cell b6 (cellsT t).toArray 118:: .cell b14 #[.bool ok4] 4::σ)→X [.int .i64 (IntKind.wrap .i64 ((i:Int)+1))] H4:=fun s4 ok4 H4 hp4 h4=>by
     rw[wrap_id (by omega) (by omega)]
     exact ih (i+1) s4 ok4 H4 hd' (by simpa using hp4) h4
    refine hX _ _ (br_y (by omega) (IS.rd (ht H3 [_,_,_] h3).px (by omega) (by omega) (by rw[Int.toNat_natCast];exact hv) ⟨_,h3.get 2 rfl (j:=0) rfl,?_⟩))
    cases ok2 with
    |false=>exact br_false (h3.put 2 rfl (j:=0) (Nat.le_of_ble_eq_true rfl) rfl fun H4 h4=>nx s2 false H4 hp h4)
    |true=>
     obtain⟨p,hk,hpb,hh,hvv,k1,k2,k3⟩:=hp
     refine br_true ⟨_,h3.get 1 rfl (j:=5) (cellsT_5 t),by omega,_,h3.get 1 rfl (j:=5) (cellsT_5 t),by omega,?_⟩
     have hdv:0≤(i:Int)/t.f.w∧(i:Int)/t.f.w≤i:=⟨Int.ediv_nonneg (by omega) (by omega),Int.ediv_le_self _ (by omega)⟩
     rw[Int.tmod_eq_emod_of_nonneg (by omega),Int.tdiv_eq_ediv_of_nonneg (by omega),wrap_id (by omega) (by omega),←hpb]
     refine ar_set h3 hk hh hvv (fun he H4 h4=>⟨_,rfl,h4.put 2 rfl (j:=0) (Nat.le_of_ble_eq_true rfl) rfl fun H5 h5=>nx s2 true H5 (k1 he) h5⟩) (fun he hn hf H4 h4=>⟨_,rfl,h4.put 2 rfl (j:=0) (Nat.le_of_ble_eq_true rfl) rfl fun H5 h5=>nx s2 false H5 (k2 he hn hf) h5⟩)
      fun he H4 s4 ho hw h4=>⟨_,rfl,h4.put 2 rfl (j:=0) (Nat.le_of_ble_eq_true rfl) rfl fun H5 h5=>nx s4 true H5 (k3 he s4 ho hw) h5⟩
  exact go t.f.p 0 s1 ok H2 rfl hpx h2
 cases hl:shLook old t.f.id with
 |none=>
  rw[hl] at hq
  refine br_f rfl ⟨_,r3,_,rfl,_,rx,_,h7.get 0 rfl (j:=5) (cellsT_5 t),_,h7.get 0 rfl (j:=6) (cellsT_6 t),?_⟩
  rw[←hA]
  exact ar_plane h7.swap hlen (by omega) w2 g1 g2 fun b m H9 h9=>⟨_,_,rfl,key b _ _ H9 (hq b m (ar_ok h9).ok) h9⟩
 |some b0=>
  rw[hl] at hq
  obtain⟨p0,hp0,hb0,hq⟩:=hq
  refine br_t rfl ?_
  show CallsH Tryz.prog _ #[.pointer (some ⟨b0,0,none⟩)] H7 _
  rw[←hb0]
  exact ar_snap h7.swap hlen hp0 fun b m done H9 hd h9=>⟨_,rfl,key b _ _ H9 (hq b m done hd (ar_ok h9).ok) h9⟩
def RasOk(t:T):Prop:= ∀{H0 H:Heap} {σ:List Rs} {R:Value→Heap→Prop} {cap:Int} {s:TS} {ms:List Shf} {xb A m0 m1 b14:Nat} {d2 d3 d4:Addr} {old acc:List (Int×Nat)} {ok:Bool} {Q:TS→List (Int×Nat)→Bool→Prop},
 St H0 H (arRs cap s (ms++[(m1,acc)]):: .cell b14 #[.bool ok] 4::σ)→(m0,old)∈ms→ShRd xb A m0 m1 d2 d3 d4 H0 σ→(∀H' τ,St H0 H' (τ++σ)→rdT H' t)→cntKs (layKs t.kids)≤1000000000→
 shlQ cap A old (rasKs (layKs t.kids)) s acc ok Q→(∀s' acc' ok' H',Q s' acc' ok'→St H0 H' (arRs cap s' (ms++[(m1,acc')]):: .cell b14 #[.bool ok'] 4::σ)→R (.tuple #[]) H')→
 CallsH Tryz.prog 78 #[t.K.v,.func (.func 79) #[] #[.pointer (some d2),.pointer (some d3),.pointer (some d4),.pointer (some ⟨b14,0,none⟩)]] H R
theorem ras_of{ks:List T}(ih: ∀t∈ks,RasOk t){K:Sl3}{xb A m0 m1 b14:Nat}{d2 d3 d4:Addr}{old acc:List (Int×Nat)}{ok:Bool}{Q:TS→List (Int×Nat)→Bool→Prop}
 (hs:St H0 H (arRs cap s (ms++[(m1,acc)]):: .cell b14 #[.bool ok] 4::σ))(hm:(m0,old)∈ms)(hr:ShRd xb A m0 m1 d2 d3 d4 H0 σ)(hg: ∀H' τ,St H0 H' (τ++σ)→grp H' K ks)(hc:cntKs (layKs ks)≤1000000000)
 (hq:shlQ cap A old (rasKs (layKs ks)) s acc ok Q)(hR: ∀s' acc' ok' H',Q s' acc' ok'→St H0 H' (arRs cap s' (ms++[(m1,acc')]):: .cell b14 #[.bool ok'] 4::σ)→R (.tuple #[]) H'):
 CallsH Tryz.prog 78 #[K.v,.func (.func 79) #[] #[.pointer (some d2),.pointer (some d3),.pointer (some d4),.pointer (some ⟨b14,0,none⟩)]] H R:=by
 show CallsH Tryz.prog 78 #[.slice K.p K.l K.c,_] H R
 refine Tryz.s78 ?_
 unfold Tryz.S78
 intro X hX
 have hKl:K.l=ks.length:=(hg H [_,_] hs).1.1
 have hlc:=len_cnt (layKs ks)
 rw[layKs_len] at hlc
 have go: ∀k,k≤ks.length→ ∀(s1:TS) acc1 ok1 H1,shlQ cap A old (rasKs ((layKs ks).drop k)) s1 acc1 ok1 Q→St H0 H1 (arRs cap s1 (ms++[(m1,acc1)]):: .cell b14 #[.bool ok1] 4::σ)→X [.int .i64 (k:Nat)] H1:=by
  refine upto fun k hk ihk s1 acc1 ok1 H1 hq1 h1=>hX _ _ (br_dec (fun hlt=>?_) fun hge=>?_)
  ·have hk':k<ks.length:=by omega
   have ht:=List.getElem?_eq_getElem hk'
   have htm:=List.getElem_mem hk'
   generalize ks[k]=t at ht htm
   obtain⟨a,e1,e2,e3⟩:=(hg H1 [_,_] h1).get ht
   have hcm:=cnt_mem (List.mem_of_getElem? (layKs_get ht))
   rw[cntL_T] at hcm
   have hdr:(layKs ks).drop k=layT t::(layKs ks).drop (k+1):=by
    have h2:=layKs_get ht
    have hlt':=(List.getElem?_eq_some_iff.1 h2).1
    rw[List.drop_eq_getElem_cons hlt',(List.getElem?_eq_some_iff.1 h2).2]
   rw[hdr,rasKs,rasL_T,List.append_assoc] at hq1
   have nx: ∀s4 acc4 ok4 H4,shlQ cap A old (rasKs ((layKs ks).drop (k+1))) s4 acc4 ok4 Q→St H0 H4 (arRs cap s4 (ms++[(m1,acc4)]):: .cell b14 #[.bool ok4] 4::σ)→X [.int .i64 (IntKind.wrap .i64 ((k:Int)+1))] H4:=fun s4 acc4 ok4 H4 hp4 h4=>by
    rw[wrap_id (by omega) (by omega)];exact ihk hk' s4 acc4 ok4 H4 hp4 h4
   have hgt: ∀{r:Rs} H' τ,St H0 H' (τ++(r::σ))→rdT H' t:=fun{r} H' τ h'=>by
    obtain⟨_,_,_,h4⟩:=(hg H' (τ++[r]) (by rw[List.append_assoc];exact h')).get ht
    exact h4
   refine⟨a,e1,by omega,hlt,(cellsT t).toArray,by simp[cellsT_len],e2,h1.alc fun b8 H9 h9=>⟨by simp[cellsT_len],h9.putAll 0 rfl (by simp[cellsT_len]) (by simpa using cellsT_one _) fun H10 h10=>?_⟩⟩
   have h10:=St.perm h10 (τ:=arRs cap s1 (ms++[(m1,acc1)]):: .cell b14 #[.bool ok1] 4:: .cell b8 (cellsT t).toArray 118::σ) ((List.Perm.swap _ _ _).trans ((List.Perm.swap _ _ _).cons _))
   refine⟨_,h10.get 2 rfl (j:=1) (cellsT_1 t),br_eq (fun hk0=>?_) fun hk0=>?_⟩
   ·rw[if_pos hk0] at hq1
    refine⟨_,by simp[cellsT_len],rowIn_whole (h10.block 2 rfl),ras_call h10 hm hr.cons (fun H' τ h'=>hgt H' τ h') (shlQ_app hq1) fun s4 acc4 ok4 H4 hq4 h4=>⟨rfl,?_⟩⟩
    refine⟨_,_,_,h4.get 2 rfl (j:=18) (cellsT_18 t),ih t htm h4 hm hr.cons (fun H' τ h'=>hgt H' τ h') (by omega) (shlQ_app hq4) fun s5 acc5 ok5 H5 hq5 h5=>⟨rfl,nx s5 acc5 ok5 H5 hq5 (h5.del 2)⟩⟩
   ·rw[if_neg hk0,List.nil_append] at hq1
    refine⟨_,_,_,h10.get 2 rfl (j:=18) (cellsT_18 t),ih t htm h10 hm hr.cons (fun H' τ h'=>hgt H' τ h') (by omega) (shlQ_app hq1) fun s5 acc5 ok5 H5 hq5 h5=>⟨rfl,nx s5 acc5 ok5 H5 hq5 (h5.del 2)⟩⟩
  ·obtain rfl:k=ks.length:=by omega
   rw[List.drop_eq_nil_of_le (by rw[layKs_len];exact Nat.le_refl _)] at hq1
   exact hR _ _ _ _ hq1 h1
 exact go 0 (Nat.zero_le _) s acc ok H hq hs
theorem ras_all: ∀t,RasOk t:=T.ind fun f P M A K ks ih=>fun{H0 H σ R cap s ms xb A' m0 m1 b14 d2 d3 d4 old acc ok Q} hs hm hr hg hc hq hR=>ras_of ih hs hm hr (fun H' τ h'=>(hg H' τ h').grp) hc hq hR
theorem c39{xb A m0:Nat}{old:List (Int×Nat)}{w h next:Int}{K:Sl3}{ks:List T}(hs:St H0 H (arRs cap s ms::σ))(hm:(m0,old)∈ms)
 (hx: ∀H' τ,St H0 H' (τ++σ)→Sh.cell H' ⟨xb,6,none⟩=some (.pointer (some ⟨A,0,none⟩)))(hg: ∀H' τ,St H0 H' (τ++σ)→grp H' K ks)(hc:cntKs (layKs ks)≤1000000000)
 (hq:shlQ cap A old (rasKs (layKs ks)) s [] true fun s' acc ok'=>match ok' with
  |true=> ∀m H',St H0 H' (arRs cap s' (ms++[(m,acc)])::σ)→R (.tuple #[.map (some m),.bool true]) H'
  |false=> ∀bs:List Nat,bs.Perm (acc.map (·.2))→dropsQ bs s' fun s2=> ∀m H',St H0 H' (arRs cap s2 (ms++[(m,acc)])::σ)→R (.tuple #[.map none,.bool false]) H'):
 CallsH Tryz.prog 39 #[.pointer (some ⟨xb,0,none⟩),.map (some m0),.agg (docA w h next K)] H R:=by
 refine Tryz.s39 ?_
 unfold Tryz.S39
 refine hs.alc fun b4 H5 h5=>h5.alc fun b6 H7 h7=>h7.alc fun b8 H9 h9=>?_
 have h9:=h9.front 3 rfl
 refine ar_new h9 fun b10 H11 h11=>h11.alc fun b12 H13 h13=>h13.alc fun b14 H15 h15=>h15.put 1 rfl (j:=0) (Nat.le_of_ble_eq_true rfl) rfl fun H16 h16=>h16.put 0 rfl (j:=0) (Nat.le_of_ble_eq_true rfl) rfl fun H17 h17=>?_
 have h17:St H0 H17 (.cell b14 #[.bool true] 4:: .cell b12 #[.map (some b10)] 65::arRs cap s (ms++[(b10,[])]):: .cell b8 (docA w h next K) 46:: .cell b6 #[.map (some m0)] 65:: .cell b4 #[.pointer (some ⟨xb,0,none⟩)] 25::σ):=h17
 have h17:=St.perm h17 (τ:=arRs cap s (ms++[(b10,[])]):: .cell b14 #[.bool true] 4:: .cell b12 #[.map (some b10)] 65:: .cell b8 (docA w h next K) 46:: .cell b6 #[.map (some m0)] 65:: .cell b4 #[.pointer (some ⟨xb,0,none⟩)] 25::σ) (((List.Perm.swap _ _ _).cons _).trans (List.Perm.swap _ _ _))
 refine⟨_,_,_,h17.get 3 rfl (j:=3) rfl,?_⟩
 have up: ∀{H':Heap} {τ:List Rs},St H0 H' (τ++(.cell b12 #[.map (some b10)] 65:: .cell b8 (docA w h next K) 46:: .cell b6 #[.map (some m0)] 65:: .cell b4 #[.pointer (some ⟨xb,0,none⟩)] 25::σ))→
  St H0 H' (τ++[.cell b12 #[.map (some b10)] 65,.cell b8 (docA w h next K) 46,.cell b6 #[.map (some m0)] 65,.cell b4 #[.pointer (some ⟨xb,0,none⟩)] 25]++σ):=fun h=>by rw[List.append_assoc];exact h
 have hr:ShRd xb A m0 b10 ⟨b6,0,none⟩ ⟨b4,0,none⟩ ⟨b12,0,none⟩ H0 (.cell b12 #[.map (some b10)] 65:: .cell b8 (docA w h next K) 46:: .cell b6 #[.map (some m0)] 65:: .cell b4 #[.pointer (some ⟨xb,0,none⟩)] 25::σ):=fun H' τ h'=>by
  have h2:=h'.app.2
  exact⟨h2.get 2 rfl (j:=0) rfl,h2.get 3 rfl (j:=0) rfl,hx H' _ (up h'),h2.get 0 rfl (j:=0) rfl⟩
 refine ras_of (fun t _=>ras_all t) h17 hm hr (fun H' τ h'=>hg H' _ (up h')) hc hq fun s' acc ok' H' hq' h'=>⟨rfl,_,h'.get 1 rfl (j:=0) rfl,?_⟩
 have h'':=((((h'.del 1).del 2).del 2).del 2)
 cases ok' with
 |true=>exact br_false ⟨_,h'.get 2 rfl (j:=0) rfl,hq' b10 H' (h''.del 1)⟩
 |false=>
  refine br_true ⟨_,h'.get 2 rfl (j:=0) rfl,c38 (es:=acc) (h''.del 1) (List.mem_append_right _ (List.mem_singleton.2 rfl)) fun bs hb=>?_⟩
  exact dropsQ_mono (fun s2 h2 H4 h4=>⟨rfl,h2 b10 H4 h4⟩) (hq' bs hb)
end Go.Proofs
namespace Go.Proofs
open Go.Sh
theorem gD_left{α:Type}(a b:List α)(d:α)(i:Nat)(h:i<a.length):(a++b).getD i d=a.getD i d:=by simp[List.getD_eq_getElem?_getD,List.getElem?_append_left h]
theorem gD_right{α:Type}(a b:List α)(d:α)(i:Nat)(h:a.length≤i):(a++b).getD i d=b.getD (i-a.length) d:=by simp[List.getD_eq_getElem?_getD,List.getElem?_append_right h]
theorem gD_none{α:Type}(a:List α)(d:α){i:Nat}(h:a.length≤i):a.getD i d=d:=by simp[List.getD_eq_getElem?_getD,List.getElem?_eq_none h]
theorem get_gD{α:Type}(a:List α)(d:α){i:Nat}(h:i<a.length):a[i]?=some (a.getD i d):=by rw[List.getD_eq_getElem?_getD,List.getElem?_eq_getElem h];rfl
def bpos(hi:Bool)(i:Nat):Nat:=if hi then 7-i%8 else i%8
def bitB(hi:Bool)(B:List Int)(i:Nat):Int:=B.getD (i/8) 0/2^bpos hi i%2
theorem bpos_lt(hi:Bool)(i:Nat):bpos hi i<8:=by unfold bpos;split<;>omega
theorem bpos_ne{hi:Bool}{i j:Nat}(h:i/8=j/8)(hne:i≠j):bpos hi i≠bpos hi j:=by unfold bpos;split<;>omega
theorem pow_cast(n:Nat):((2^n:Nat):Int)=(2:Int)^n:=by simp
theorem two_pow_pos(n:Nat):(0:Int)<2^n:=Int.pow_pos (by omega)
theorem or_byte: ∀(x:Fin 256) (j:Fin 8) (b:Fin 2),x.val/2^j.val%2=0→orI .u8 (x.val:Int) (shlI .u8 (b.val:Int) (j.val:Int))=((x.val+b.val*2^j.val:Nat):Int)∧x.val+b.val*2^j.val<256:=by decide+kernel
theorem bit_set: ∀(x:Fin 256) (j:Fin 8) (b:Fin 2) (i:Fin 8),x.val/2^j.val%2=0→(x.val+b.val*2^j.val)/2^i.val%2=if i=j then b.val else x.val/2^i.val%2:=by decide+kernel
structure WOk(hi:Bool)(ws B:List Int):Prop where
 len:B.length=(ws.length+7)/8
 rng: ∀x∈B,0≤x∧x<256
 bit: ∀i:Nat,bitB hi B i=ws.getD i 0
theorem WOk.nil(hi:Bool):WOk hi [] []:=⟨rfl,by simp,fun i=>by simp[bitB]⟩
theorem WOk.put{hi:Bool}{ws B:List Int}{b:Int}(h:WOk hi ws B)(hb:b=0∨b=1){C:List Int}(hC:C=if ws.length%8=0 then B++[0] else B):
 ∃x,C[ws.length/8]?=some x∧0≤x∧x<256∧WOk hi (ws++[b]) (C.set (ws.length/8) (orI .u8 x (shlI .u8 b (bpos hi ws.length)))):=by
 have hl:=h.len
 have hlen:C.length=ws.length/8+1:=by
  rw[hC];split
  ·simp;omega
  ·omega
 have hr: ∀x∈C,0≤x∧x<256:=by
  rw[hC];split
  ·intro x hx
   rcases List.mem_append.1 hx with hx|hx
   ·exact h.rng x hx
   ·simp at hx;subst hx;omega
  ·exact h.rng
 have hbit: ∀i:Nat,bitB hi C i=ws.getD i 0:=fun i=>by
  rw[←h.bit i,hC]
  split
  ·unfold bitB
   by_cases hi':i/8<B.length
   ·rw[gD_left _ _ _ _ hi']
   ·rw[gD_none B _ (by omega)]
    by_cases he:i/8=B.length
    ·rw[gD_right _ _ _ _ (by omega),he,Nat.sub_self];rfl
    ·rw[gD_none _ _ (by simp;omega)]
  ·rfl
 have hx:C[ws.length/8]?=some (C.getD (ws.length/8) 0):=by
  rw[List.getD_eq_getElem?_getD,List.getElem?_eq_getElem (by omega)];rfl
 generalize hxe:C.getD (ws.length/8) 0=x at hx
 have hxr:=hr x (List.mem_of_getElem? hx)
 refine⟨x,hx,hxr.1,hxr.2,?_⟩
 obtain⟨n,rfl⟩:=Int.eq_ofNat_of_zero_le hxr.1
 have hn:n<256:=by omega
 obtain⟨c,hc,rfl⟩: ∃c:Nat,c<2∧b=(c:Int):=by
  rcases hb with rfl|rfl
  ·exact⟨0,by omega,rfl⟩
  ·exact⟨1,by omega,rfl⟩
 have hz:n/2^bpos hi ws.length%2=0:=by
  have h1:=hbit ws.length
  unfold bitB at h1
  rw[hxe,gD_none _ _ (Nat.le_refl _),←pow_cast] at h1
  omega
 obtain⟨ho,ho2⟩:=or_byte ⟨n,hn⟩ ⟨bpos hi ws.length,bpos_lt hi _⟩ ⟨c,hc⟩ hz
 simp only at ho ho2
 rw[ho]
 refine⟨by rw[List.length_set,hlen,List.length_append,List.length_singleton];omega,fun y hy=>?_,fun i=>?_⟩
 ·rcases List.mem_or_eq_of_mem_set hy with hy|rfl
  ·exact hr y hy
  ·exact⟨Int.natCast_nonneg _,Int.ofNat_lt.2 ho2⟩
 ·by_cases he:i/8=ws.length/8
  ·have hs:=bit_set ⟨n,hn⟩ ⟨bpos hi ws.length,bpos_lt hi _⟩ ⟨c,hc⟩ ⟨bpos hi i,bpos_lt hi _⟩ hz
   simp only[Fin.mk.injEq] at hs
   have hg:(C.set (ws.length/8) ((n+c*2^bpos hi ws.length:Nat):Int)).getD (i/8) 0=((n+c*2^bpos hi ws.length:Nat):Int):=by
    rw[he,List.getD_eq_getElem?_getD,List.getElem?_set_self (by omega)];rfl
   unfold bitB
   rw[hg,←pow_cast]
   by_cases hil:i=ws.length
   ·subst hil
    rw[if_pos rfl] at hs
    rw[gD_right _ _ _ _ (Nat.le_refl _),Nat.sub_self]
    show _=(c:Int)
    omega
   ·rw[if_neg (bpos_ne he hil)] at hs
    have h1:=hbit i
    unfold bitB at h1
    rw[he,hxe,←pow_cast] at h1
    have h2:(ws++[(c:Int)]).getD i 0=ws.getD i 0:=by
     by_cases hlt:i<ws.length
     ·rw[gD_left _ _ _ _ hlt]
     ·rw[gD_none _ _ (by simp;omega),gD_none _ _ (by omega)]
    rw[h2,←h1]
    omega
  ·have hg:(C.set (ws.length/8) ((n+c*2^bpos hi ws.length:Nat):Int)).getD (i/8) 0=C.getD (i/8) 0:=by
    rw[List.getD_eq_getElem?_getD,List.getElem?_set_ne (Ne.symm he),←List.getD_eq_getElem?_getD]
   have h2:(ws++[(c:Int)]).getD i 0=ws.getD i 0:=by
    by_cases hlt:i<ws.length
    ·rw[gD_left _ _ _ _ hlt]
    ·rw[gD_none _ _ (by simp;omega),gD_none _ _ (by omega)]
   rw[h2,←hbit i]
   unfold bitB
   rw[hg]
end Go.Proofs
namespace Go.Proofs
open Go.Sh
variable {H0 H:Heap} {σ:List Rs} {R:Value→Heap→Prop}
end Go.Proofs
namespace Go.Proofs
open Go.Sh
open Go.IntKind (wrap)
variable {H:Heap} {R:Value→Heap→Prop}
def Bys(l:List Int):Prop:= ∀x∈l,0≤x∧x<256
theorem Bys.getD{l:List Int}(h:Bys l)(i:Nat):0≤l.getD i 0∧l.getD i 0<256:=by
 rw[List.getD_eq_getElem?_getD]
 cases hi:l[i]? with
 |none=>exact⟨by decide,by decide⟩
 |some x=>exact h x (List.mem_of_getElem? hi)
theorem ofInt32{a:Nat}(h:a<4294967296):(BitVec.ofInt 32 (a:Int)).toNat=a:=by
 rw[BitVec.toNat_ofInt];omega
theorem xor_lt32{a b:Nat}(ha:a<4294967296)(hb:b<4294967296):a ^^^ b<4294967296:=Nat.xor_lt_two_pow (n:=32) ha hb
theorem xor32{a b:Nat}(ha:a<4294967296)(hb:b<4294967296):xorI .u32 (a:Int) (b:Int)=((a ^^^ b:Nat):Int):=by
 unfold xorI
 have:=xor_lt32 ha hb
 rw[show IntKind.bits .u32=32 from rfl,BitVec.toNat_xor,ofInt32 ha,ofInt32 hb,wrap_u32 (by omega) (by omega)]
def crcB(c:Nat):Nat:=if c%2=1 then c/2 ^^^ 3988292384 else c/2
def crcI:Nat→Nat→Nat
 |0,c=>c
 |n+1,c=>crcI n (crcB c)
def crcF(c:Nat)(l:List Int):Nat:=l.foldl (fun c x=>crcI 8 (c ^^^ x.toNat)) c
def crcS(l:List Int):Nat:=crcF 4294967295 l ^^^ 4294967295
theorem crcB_lt{c:Nat}(h:c<4294967296):crcB c<4294967296:=by
 unfold crcB;split
 ·exact xor_lt32 (by omega) (by omega)
 ·omega
theorem crcI_lt: ∀(n:Nat) {c:Nat},c<4294967296→crcI n c<4294967296
 |0,_,h=>h
 |n+1,_,h=>crcI_lt n (crcB_lt h)
theorem crcI_snoc: ∀(n c:Nat),crcI (n+1) c=crcB (crcI n c)
 |0,c=>rfl
 |n+1,c=>crcI_snoc n (crcB c)
theorem crcX_lt{c:Nat}{x:Int}(h:c<4294967296)(hx:0≤x∧x<256):crcI 8 (c ^^^ x.toNat)<4294967296:=crcI_lt 8 (xor_lt32 h (by omega))
theorem crcF_lt: ∀(l:List Int) {c:Nat},c<4294967296→Bys l→crcF c l<4294967296
 |[],_,h,_=>h
 |x::l,_,h,hl=>crcF_lt l (crcX_lt h (hl x (by simp))) fun y hy=>hl y (List.mem_cons_of_mem _ hy)
theorem crcF_snoc(c:Nat)(l:List Int)(x:Int):crcF c (l++[x])=crcI 8 (crcF c l ^^^ x.toNat):=by simp[crcF]
theorem crcF_app(c:Nat)(l m:List Int):crcF c (l++m)=crcF (crcF c l) m:=by simp[crcF]
theorem div2_32(c:Nat):shrI .u32 (c:Int) (1:Int)=((c/2:Nat):Int):=by
 unfold shrI
 rw[show min (1:Int).toNat (IntKind.bits .u32)=1 from by decide,Int.fdiv_eq_ediv_of_nonneg _ (by decide)]
 omega
theorem and1_32{c:Nat}(h:c<4294967296):andI .u32 (c:Int) (1:Int)=((c%2:Nat):Int):=by
 unfold andI
 rw[show IntKind.bits .u32=32 from rfl,BitVec.toNat_and,ofInt32 h,show(BitVec.ofInt 32 1).toNat=1 from rfl,Nat.and_one_is_mod,wrap_u32 (by omega) (by omega)]
theorem stepP{c:Nat}(h:c<4294967296):xorI .u32 (shrI .u32 (c:Int) (1:Int)) (andI .u32 (3988292384:Int) (wrap .u32 (0-andI .u32 (c:Int) (1:Int))))=(crcB c:Int):=by
 rw[div2_32,and1_32 h]
 unfold crcB
 rcases Nat.mod_two_eq_zero_or_one c with h0|h1
 ·rw[h0,if_neg (by decide),show andI .u32 (3988292384:Int) (wrap .u32 (0-((0:Nat):Int)))=((0:Nat):Int) from by decide,xor32 (by omega) (by omega),Nat.xor_zero]
 ·rw[h1,if_pos rfl,show andI .u32 (3988292384:Int) (wrap .u32 (0-((1:Nat):Int)))=((3988292384:Nat):Int) from by decide,xor32 (by omega) (by omega)]
theorem c114{p:Option Addr}{l c:Nat}{xs:List Int}{s:Nat}(h:IS H p l (kints .u8 xs))(hx:Bys xs)(hl:l≤1000000000000)(hs:s<4294967296)(hR:R (.int .i64 (crcF (s ^^^ 4294967295) xs ^^^ 4294967295:Nat)) H):
 CallsH Tryz.prog 114 #[.int .i64 (s:Int),.slice p l c] H R:=by
 have e1:=h.length
 refine Tryz.s114 ?_
 intro X hX
 have w32: ∀{a:Nat},a<4294967296→wrap .u32 (a:Int)=a:=fun ha=>wrap_u32 (by omega) (by omega)
 rw[w32 hs]
 have h0:xorI .u32 (s:Int) (4294967295:Int)=((s ^^^ 4294967295:Nat):Int):=xor32 (b:=4294967295) hs (by decide)
 rw[h0]
 have h0l:s ^^^ 4294967295<4294967296:=xor_lt32 hs (by omega)
 generalize s ^^^ 4294967295=c0 at*
 have go: ∀k,k≤l→X [.int .u32 (crcF c0 (xs.take k):Nat),.int .i64 (k:Nat)] H:=upto fun k hk ih=>by
  have hlt0:=crcF_lt (xs.take k) h0l fun y hy=>hx y (List.mem_of_mem_take hy)
  refine hX _ _ H (br_dec (fun hlt=>?_) (fun hge=>?_))
  ·have hlt:k<l:=by omega
   have hg:=get_gD xs 0 (i:=k) (by omega)
   have hb:=hx.getD k
   refine h.rd (by omega) (by omega) (by rw[Int.toNat_natCast];exact hg) ?_
   intro Y hY
   obtain⟨v,hv⟩: ∃v:Nat,xs.getD k 0=v:=⟨(xs.getD k 0).toNat,by omega⟩
   have hv':v<256:=by omega
   rw[hv] at hg ⊢
   rw[w32 (by omega),xor32 hlt0 (by omega)]
   have hc1:=xor_lt32 hlt0 (show v<4294967296 by omega)
   have inner: ∀j,j≤8→Y [.int .u32 (crcI j (crcF c0 (xs.take k) ^^^ v):Nat),.int .i64 (j:Nat)] H:=upto fun j hj ihj=>by
    refine hY _ _ H (br_dec (fun hlt=>?_) (fun hge=>?_))
    ·rw[stepP (crcI_lt j hc1),wrap_id (by omega) (by omega),←crcI_snoc]
     exact⟨by decide,ihj (by omega)⟩
    ·have:j=8:=by omega
     subst this
     have:=ih hlt
     rw[List.take_add_one,hg,Option.toList_some,crcF_snoc,Int.toNat_natCast] at this
     rw[wrap_id (by omega) (by omega)]
     exact this
   exact inner 0 (by omega)
  ·have:k=l:=by omega
   subst this
   rw[List.take_of_length_le (by omega)] at hlt0 ⊢
   have e:xorI .u32 ((crcF c0 xs:Nat):Int) (4294967295:Int)=((crcF c0 xs ^^^ 4294967295:Nat):Int):=xor32 (b:=4294967295) hlt0 (by decide)
   have:=xor_lt32 hlt0 (show 4294967295<4294967296 by omega)
   rw[e,wrap_id (by omega) (by omega)]
   exact hR
 exact go 0 (by omega)
theorem xor_twice{a:Nat}(b:Nat):a ^^^ b ^^^ b=a:=by rw[Nat.xor_assoc,Nat.xor_self,Nat.xor_zero]
theorem c62{b:Nat}{ty:TypeId}{p q:Option Addr}{l c m d:Nat}{xs ys:List Int}(hb:H[b]?=some (.cells #[.slice p l c,.slice q m d] ty))(h1:IS H p l (kints .u8 xs))(h2:IS H q m (kints .u8 ys))(hx:Bys xs)(hy:Bys ys)(hl:l≤1000000000000)(hm:m≤1000000000000)
 (hR:R (.int .i64 (crcS (xs++ys):Nat)) H):CallsH Tryz.prog 62 #[.slice (some ⟨b,0,none⟩) 2 2] H R:=by
 refine Tryz.s62 ?_
 intro X hX
 have hxl:=crcF_lt xs (show 4294967295<4294967296 by omega) hx
 have hs:=xor_lt32 hxl (show 4294967295<4294967296 by omega)
 refine hX _ _ H (br_y (by decide) ⟨_,rfl,by decide,by decide,p,l,c,cell_get hb rfl,c114 (s:=0) h1 hx hl (by omega) ⟨_,rfl,?_⟩⟩)
 rw[show(0:Nat) ^^^ 4294967295=4294967295 from rfl,show IntKind.wrap .i64 ((0:Int)+1)=1 from by decide]
 refine hX _ _ H (br_y (by decide) ⟨_,rfl,by decide,by decide,q,m,d,cell_get hb rfl,c114 h2 hy hm hs ⟨_,rfl,?_⟩⟩)
 rw[xor_twice,show IntKind.wrap .i64 ((1:Int)+1)=2 from by decide]
 refine hX _ _ H (br_n (by decide) ?_)
 rw[←crcF_app]
 exact hR
end Go.Proofs
namespace Go.Proofs
open Go.Sh
variable {H0 H:Heap} {σ:List Rs} {R:Value→Heap→Prop}
end Go.Proofs
namespace Go.Proofs
open Go.Sh
variable {H0 H:Heap} {σ:List Rs} {R:Value→Heap→Prop}
structure PB(H:Heap)(p:Option Addr)(l:Nat)(ps:List (List Int)):Prop where
 len:ps.length=l
 get: ∀(i:Nat) x,ps[i]?=some x→ ∃a q n c,p=some a∧Go.Sh.cell H (a.add i)=some (.slice q n c)∧IS H q n (kints .u8 x)
theorem PB.ext{H H':Heap}{p:Option Addr}{l:Nat}{ps:List (List Int)}(h:PB H p l ps)(e:Ext H H'):PB H' p l ps:=⟨h.len,fun i x hx=>by
 obtain⟨a,q,n,c,h1,h2,h3⟩:=h.get i x hx
 exact⟨a,q,n,c,h1,e.cell h2,h3.ext e⟩⟩
def AllIS(H:Heap):List (Option Addr×Nat×Nat)→List (List Int)→Prop
 |[],[]=>True
 |v::vs,x::ps=>IS H v.1 v.2.1 (kints .u8 x)∧AllIS H vs ps
 |_,_=>False
theorem AllIS.get: ∀{vs:List (Option Addr×Nat×Nat)} {ps:List (List Int)},AllIS H vs ps→vs.length=ps.length∧ ∀(i:Nat) x,ps[i]?=some x→ ∃v,vs[i]?=some v∧IS H v.1 v.2.1 (kints .u8 x)
 |[],[],_=>⟨rfl,fun i x hx=>by simp at hx⟩
 |v::vs,x::ps,h=>by
  obtain⟨h1,h2⟩:=AllIS.get h.2
  refine⟨by simp[h1],fun i y hy=>?_⟩
  cases i with
  |zero=>simp at hy;subst hy;exact⟨v,rfl,h.1⟩
  |succ i=>exact h2 i y (by simpa using hy)
theorem pb_blk{b:Nat}{ty:TypeId}{vs:List (Option Addr×Nat×Nat)}{ps:List (List Int)}(hb:H[b]?=some (.cells (vs.map fun v=>Value.slice v.1 v.2.1 v.2.2).toArray ty))(hv:AllIS H vs ps):PB H (some ⟨b,0,none⟩) vs.length ps:=by
 obtain⟨hl,hg⟩:=hv.get
 refine⟨hl.symm,fun i x hx=>?_⟩
 obtain⟨v,h1,h2⟩:=hg i x hx
 refine⟨_,v.1,v.2.1,v.2.2,rfl,?_,h2⟩
 rw[add_none,Nat.zero_add]
 exact cell_get hb (by simp[h1])
theorem c115{n:Nat}(hn:n≤1000000000)(hR: ∀H' p' c',St H H' [.sl p' 0 c' 5 1 []]→R (.slice p' 0 c') H'):
 CallsH Tryz.prog 115 #[.slice none 0 0,.int .i64 n] H R:=by
 refine Tryz.s115 ?_
 unfold Tryz.S115
 intro J hJ
 refine br_n (by omega) (hJ H ?_)
 have w1:IntKind.wrap .i64 (((0:Nat):Int)-((0:Nat):Int))=0:=by decide
 have w2:IntKind.wrap .i64 ((n:Int)-0)=(n:Int):=by rw[wrap_id (by omega) (by omega)];omega
 rw[w1,w2]
 refine br_dec (fun hp=>⟨by omega,by omega,by omega,by omega,?_,by omega,fun h0=>by omega,fun _=>⟨#[],rfl,fun c' hc'=>⟨by omega,by omega,?_⟩⟩⟩) (fun h0=>hR H none 0 ((St.nil H).nilSl 5 1))
 ·simp;omega
 ·have hc0:c'≠0:=by simp at hc';omega
  simp only[hc0,if_false,Option.map_some,Nat.sub_zero,Int.toNat_natCast,Nat.zero_mul,add_none,Nat.zero_add]
  refine hR _ _ c' ((St.nil H).newSl (Ext.push _ _) ⟨rfl,Nat.zero_le _,by simp,.inr ⟨H.size,_,rfl,Nat.le_refl _,get_push_self _ _,?_,fun i v hv=>by simp at hv⟩⟩)
  rw[zeroCells_eq _ _ (by simp)]
  simp[reps_length] at hc' ⊢
  omega
theorem flatB_take{ps:List (List Int)}{k:Nat}{x:List Int}(h:ps[k]?=some x):(ps.take (k+1)).flatten=(ps.take k).flatten++x:=by
 rw[List.take_add_one,h,Option.toList_some,List.flatten_append];simp
theorem flat_le(ps:List (List Int))(k:Nat):(ps.take k).flatten.length≤ps.flatten.length:=by
 conv=>rhs;rw[←List.take_append_drop k ps,List.flatten_append,List.length_append]
 omega
theorem c65{p:Option Addr}{l c:Nat}{ps:List (List Int)}(h:PB H p l ps)(hl:l≤1000000000)(hn:ps.flatten.length≤1000000000)
 (hR: ∀q c' H',St H H' [.sl q ps.flatten.length c' 5 1 (kints .u8 ps.flatten)]→R (.slice q ps.flatten.length c') H'):CallsH Tryz.prog 65 #[.slice p l c] H R:=by
 have hpl:=h.len
 refine Tryz.s65 ?_
 unfold Tryz.S65
 intro X2 hX2
 have go: ∀k,k≤l→X2 [.int .i64 ((ps.take k).flatten.length:Nat),.int .i64 (k:Nat)] H:=upto fun k hk ih=>by
  have hf:=flat_le ps k
  refine hX2 _ _ H (br_dec (fun hlt=>?_) (fun hge=>?_))
  ·have hlt:k<l:=by omega
   obtain⟨x,hx⟩: ∃x,ps[k]?=some x:=⟨_,List.getElem?_eq_getElem (by omega)⟩
   obtain⟨a,q,n,c2,h1,h2,h3⟩:=h.get k x hx
   have h3l:=h3.length
   have hf2:=flat_le ps (k+1)
   have ih:=ih hlt
   rw[flatB_take hx,List.length_append,h3l] at ih hf2
   refine⟨a,h1,by omega,by omega,q,n,c2,by rw[Int.toNat_natCast,Nat.mul_one];exact h2,?_⟩
   rw[wrap_id (n:=_+(n:Int)) (by omega) (by omega),wrap_id (n:=(k:Int)+1) (by omega) (by omega)]
   exact br_n (by omega) ih
  ·have:k=l:=by omega
   subst this
   rw[List.take_of_length_le (by omega)]
   refine c115 hn fun H9 q0 c0 hs9=>⟨_,_,_,rfl,?_⟩
   intro X11 hX
   have add: ∀j,j≤k→ ∀q c' H1,St H H1 [.sl q (ps.take j).flatten.length c' 5 1 (kints .u8 (ps.take j).flatten)]→X11 [.slice q (ps.take j).flatten.length c',.int .i64 (j:Nat)] H1:=upto fun j hj ih q c' H1 hs1=>by
    have hf:=flat_le ps j
    refine hX _ _ _ _ H1 (br_dec (fun hlt=>?_) (fun hge=>?_))
    ·have hlt:j<k:=by omega
     obtain⟨x,hx⟩: ∃x,ps[j]?=some x:=⟨_,List.getElem?_eq_getElem (by omega)⟩
     obtain⟨a,q2,n,c2,h1,h2,h3⟩:=(h.ext hs1.ext).get j x hx
     have h3l:=h3.length
     have hf2:=flat_le ps (j+1)
     have ih:=ih hlt
     rw[flatB_take hx,List.length_append,h3l] at ih hf2
     refine⟨a,h1,by omega,by omega,q2,n,c2,by rw[Int.toNat_natCast,Nat.mul_one];exact h2,?_⟩
     refine hs1.appI 0 rfl h3 (kints_one _ _) rfl (by omega) (by omega) fun p' c3 H2 hs2=>?_
     rw[wrap_id (by omega) (by omega)]
     refine ih p' c3 H2 ?_
     rw[kints_append]
     exact hs2
    ·have:j=k:=by omega
     subst this
     rw[List.take_of_length_le (by omega)] at hs1 ⊢
     exact hR q c' H1 hs1
   exact add 0 (by omega) q0 c0 H9 hs9
 exact go 0 (by omega)
end Go.Proofs
namespace Go.Proofs
open Go.Sh
variable {H0 H:Heap} {σ:List Rs} {R:Value→Heap→Prop}
theorem Bys.app{a b:List Int}(h:Bys a)(h':Bys b):Bys (a++b):=fun x hx=>(List.mem_append.1 hx).elim (h x) (h' x)
theorem wrapU8(n:Int):0≤IntKind.wrap .u8 n∧IntKind.wrap .u8 n<256:=by simp only[IntKind.wrap,IntKind.bits,IntKind.signed];simp;omega
structure RlS where
 b:List Int
 cap:Int
 safe:Int
 left:Int
 down:Bool
structure RlOk(r:RlS):Prop where
 bys:Bys r.b
 len:(r.b.length:Int)≤r.cap
 cap:r.cap≤16777216
 left:r.left≤9223372036854775807
def RlS.step(r:RlS):RlS:=if r.left>0 then{r with left:=r.left-1} else if r.left=0 then{r with down:=true} else r
def RlS.app(r:RlS)(x:List Int):Int×RlS:=
 if r.down=true then(11,r) else if (x.length:Int)>r.cap-r.b.length then(10,r) else
 (if ({r with b:=r.b++x}:RlS).step.down=true then 11 else 0,({r with b:=r.b++x}:RlS).step)
def RlS.sync(r:RlS):Int×RlS:=if r.down=true then(11,r) else if r.step.down=true then(11,r.step) else(0,{r.step with safe:=r.b.length})
theorem step_b(r:RlS):r.step.b=r.b∧r.step.cap=r.cap∧r.step.left≤max r.left 0:=by
 unfold RlS.step
 split
 ·exact⟨rfl,rfl,by show r.left-1≤_;omega⟩
 split
 ·exact⟨rfl,rfl,by show r.left≤_;omega⟩
 ·exact⟨rfl,rfl,by omega⟩
theorem RlOk.step{r:RlS}(h:RlOk r):RlOk r.step:=by
 obtain⟨h1,h2,h3⟩:=step_b r
 have h4:=h.left
 exact⟨by rw[h1];exact h.bys,by rw[h1,h2];exact h.len,by rw[h2];exact h.cap,by omega⟩
theorem RlOk.app{r:RlS}(h:RlOk r){x:List Int}(hx:Bys x):RlOk (r.app x).2:=by
 unfold RlS.app
 split
 ·exact h
 split
 ·exact h
 ·rename_i h1 h2
  refine RlOk.step ⟨h.bys.app hx,?_,h.cap,h.left⟩
  show((r.b++x).length:Int)≤r.cap
  rw[List.length_append];omega
theorem RlOk.sync{r:RlS}(h:RlOk r):RlOk r.sync.2:=by
 unfold RlS.sync
 split
 ·exact h
 split
 ·exact h.step
 ·have:=h.step
  exact⟨this.bys,this.len,this.cap,this.left⟩
def reelA(P:Sl3)(r:RlS):Array Value:=#[P.v,.int .i64 r.cap,.int .i64 r.safe,.int .i64 r.left,.bool r.down]
def rlRs(rb:Nat)(r:RlS):Rs:= .ex fun(P:Sl3)=> .star (.cell rb (reelA P r) 53) (.sl P.p P.l P.c 5 1 (kints .u8 r.b))
theorem rlOut{rb:Nat}{r:RlS}(hs:St H0 H (rlRs rb r::σ)): ∃P:Sl3,P.l=r.b.length∧St H0 H (.cell rb (reelA P r) 53:: .sl P.p P.l P.c 5 1 (kints .u8 r.b)::σ):=by
 obtain⟨P,h⟩:=St.unex hs
 have h:=h.cut
 exact⟨P,(h.is 1 rfl).length.symm,h⟩
theorem rlIn{rb:Nat}{r:RlS}{P:Sl3}(hs:St H0 H (.cell rb (reelA P r) 53:: .sl P.p P.l P.c 5 1 (kints .u8 r.b)::σ)):St H0 H (rlRs rb r::σ):=
 St.inex (f:=fun(P:Sl3)=> .star (.cell rb (reelA P r) 53) (.sl P.p P.l P.c 5 1 (kints .u8 r.b))) P hs.cat
theorem c5{c:Int}(hs:St H0 H σ)(h0:0≤c)(h1:c≤16777216)(hR: ∀rb H',St H0 H' (rlRs rb ⟨[],c,0,-1,false⟩::σ)→R (.pointer (some ⟨rb,0,none⟩)) H'):CallsH Tryz.prog 5 #[.int .i64 c] H R:=by
 refine Tryz.s5 ?_
 unfold Tryz.S5
 refine br_n (by omega) (br_n (by omega) (hs.alc fun b2 H3 hs3=>hR b2 H3 (rlIn (P:= .nil) ?_)))
 exact(hs3.nilSl 5 1).swap
theorem c12{rb:Nat}{r:RlS}(hs:St H0 H (rlRs rb r::σ))(hR:R (.int .i64 r.b.length) H):CallsH Tryz.prog 12 #[.pointer (some ⟨rb,0,none⟩)] H R:=by
 obtain⟨P,hl,h⟩:=rlOut hs
 refine Tryz.s12 ?_
 unfold Tryz.S12
 refine⟨_,rfl,P.p,P.l,P.c,h.get 0 rfl (j:=0) rfl,?_⟩
 rw[hl];exact hR
theorem step_call{rb:Nat}{r:RlS}{P:Sl3}(hs:St H0 H (.cell rb (reelA P r) 53::σ))(hl:r.left≤9223372036854775807)(hR: ∀H',St H0 H' (.cell rb (reelA P r.step) 53::σ)→R (.bool (!r.step.down)) H'):CallsH Tryz.prog 63 #[.pointer (some ⟨rb,0,none⟩)] H R:=by
 refine Tryz.s63 ?_
 unfold Tryz.S63
 intro J hJ
 have fin: ∀H',St H0 H' (.cell rb (reelA P r.step) 53::σ)→J [] H':=fun H' h=>hJ H' ⟨_,rfl,r.step.down,h.get 0 rfl (j:=4) rfl,hR H' h⟩
 refine⟨_,rfl,r.left,hs.get 0 rfl (j:=3) rfl,br_dec (fun h1=>⟨_,rfl,r.left,hs.get 0 rfl (j:=3) rfl,_,rfl,hs.put 0 rfl (j:=3) (Nat.le_of_ble_eq_true rfl) rfl fun H11 h11=>fin H11 ?_⟩) fun h1=>⟨_,rfl,r.left,hs.get 0 rfl (j:=3) rfl,br_eq (fun h2=>⟨_,rfl,hs.put 0 rfl (j:=4) (Nat.le_of_ble_eq_true rfl) rfl fun H15 h15=>fin H15 ?_⟩) fun h2=>fin H ?_⟩⟩
 ·rw[wrap_id (by omega) (by omega)] at h11
  unfold RlS.step;rw[if_pos h1];exact h11
 ·unfold RlS.step;rw[if_neg h1,if_pos h2];exact h15
 ·unfold RlS.step;rw[if_neg h1,if_neg h2];exact hs
theorem c35{rb:Nat}{r:RlS}{p:Option Addr}{l c:Nat}{xs:List Int}(hs:St H0 H (rlRs rb r::σ))(ok:RlOk r)(hx:IS H p l (kints .u8 xs))(hl:l≤100000000)(hR: ∀H',St H0 H' (rlRs rb (r.app xs).2::σ)→R (.int .i64 (r.app xs).1) H'):
 CallsH Tryz.prog 35 #[.pointer (some ⟨rb,0,none⟩),.slice p l c] H R:=by
 obtain⟨P,hPl,h⟩:=rlOut hs
 have hxl:=hx.length
 have o1:=ok.len
 have o2:=ok.cap
 refine Tryz.s35 ?_
 unfold Tryz.S35
 refine⟨_,rfl,r.down,h.get 0 rfl (j:=4) rfl,br_i (fun hd=>?_) fun hd=>⟨_,rfl,r.cap,h.get 0 rfl (j:=1) rfl,_,rfl,P.p,P.l,P.c,h.get 0 rfl (j:=0) rfl,?_⟩⟩
 ·have e:r.app xs=(11,r):=by unfold RlS.app;rw[if_pos hd]
  rw[e] at hR;exact hR H hs
 rw[wrap_id (by omega) (by omega)]
 refine br_dec (fun hf=>?_) fun hf=>⟨_,rfl,P.p,P.l,P.c,h.get 0 rfl (j:=0) rfl,h.appI 1 rfl hx (kints_one .u8 xs) rfl (by omega) (by omega) fun p' c' H12 h12=>⟨_,rfl,h12.put 0 rfl (j:=0) (Nat.le_of_ble_eq_true rfl) rfl fun H14 h14=>?_⟩⟩
 ·have e:r.app xs=(10,r):=by unfold RlS.app;rw[if_neg (by rw[hd];decide),if_pos (by omega)]
  rw[e] at hR;exact hR H hs
 have e:r.app xs=(if ({r with b:=r.b++xs}:RlS).step.down=true then 11 else 0,({r with b:=r.b++xs}:RlS).step):=by unfold RlS.app;rw[if_neg (by rw[hd];decide),if_neg (by omega)]
 rw[e] at hR
 have sb:=step_b {r with b:=r.b++xs}
 have h14:St H0 H14 (.cell rb (reelA ⟨p',P.l+l,c'⟩ {r with b:=r.b++xs}) 53:: .sl p' (P.l+l) c' 5 1 (kints .u8 r.b++kints .u8 xs)::σ):=h14
 rw[←kints_append] at h14
 refine step_call h14 ok.left fun H16 h16=>⟨_,rfl,?_⟩
 have h17:St H0 H16 (rlRs rb ({r with b:=r.b++xs}:RlS).step::σ):=rlIn (P:=⟨p',P.l+l,c'⟩) (by rw[sb.1];exact h16)
 refine br_not (fun hst=>?_) fun hst=>?_
 ·have:=hR H16 h17
  rw[if_pos (by simpa using hst)] at this;exact this
 ·have:=hR H16 h17
  rw[if_neg (by simpa using hst)] at this;exact this
theorem c32{rb:Nat}{r:RlS}(hs:St H0 H (rlRs rb r::σ))(ok:RlOk r)(hR: ∀H',St H0 H' (rlRs rb r.sync.2::σ)→R (.int .i64 r.sync.1) H'):CallsH Tryz.prog 32 #[.pointer (some ⟨rb,0,none⟩)] H R:=by
 obtain⟨P,hPl,h⟩:=rlOut hs
 have sb:=step_b r
 refine Tryz.s32 ?_
 unfold Tryz.S32
 intro J hJ
 refine⟨_,rfl,r.down,h.get 0 rfl (j:=4) rfl,br_i (fun hd=>?_) fun hd=>step_call h ok.left fun H11 h11=>⟨_,rfl,br_not (fun hst=>?_) fun hst=>hJ H11 ⟨_,rfl,P.p,P.l,P.c,h11.get 0 rfl (j:=0) rfl,_,rfl,h11.put 0 rfl (j:=2) (Nat.le_of_ble_eq_true rfl) rfl fun H7 h7=>?_⟩⟩⟩
 ·have e:r.sync=(11,r):=by unfold RlS.sync;rw[if_pos hd]
  rw[e] at hR;exact hR H hs
 ·have e:r.sync=(11,r.step):=by unfold RlS.sync;rw[if_neg (by rw[hd];decide),if_pos (by simpa using hst)]
  rw[e] at hR;exact hR H11 (rlIn (P:=P) (by rw[sb.1];exact h11))
 ·have e:r.sync=(0,{r.step with safe:=r.b.length}):=by unfold RlS.sync;rw[if_neg (by rw[hd];decide),if_neg (by simpa using hst)]
  rw[e] at hR
  refine hR H7 (rlIn (P:=P) ?_)
  rw[hPl] at h7
  show St H0 H7 (.cell rb (reelA P {r.step with safe:=r.b.length}) 53:: .sl P.p P.l P.c 5 1 (kints .u8 r.step.b)::σ)
  rw[sb.1,hPl];exact h7
theorem is_pre{p:Option Addr}{l n:Nat}{k:IntKind}{xs:List Int}(h:IS H p l (kints k xs))(hn:n≤l):IS H p n (kints k (xs.take n)):=by
 have hl:=h.length
 refine⟨by rw[kints_len,List.length_take];omega,fun i v hi=>?_⟩
 have hin:i<n:=by have:=(List.getElem?_eq_some_iff.1 hi).1;rw[kints_len,List.length_take] at this;omega
 refine h.get i v ?_
 simp only[kints,List.getElem?_map] at hi ⊢
 rw[List.getElem?_take_of_lt hin] at hi;exact hi
theorem c11{rb:Nat}{r:RlS}{n:Nat}(hs:St H0 H (rlRs rb r::σ))(ok:RlOk r)(hd:r.down=false)(hn:n≤r.b.length)(hR: ∀(Q:Sl3) H',Q.l=n→St H0 H' (.sl Q.p Q.l Q.c 5 1 (kints .u8 (r.b.take n))::rlRs rb r::σ)→R (.tuple #[Q.v,.int .i64 0]) H'):
 CallsH Tryz.prog 11 #[.pointer (some ⟨rb,0,none⟩),.int .i64 0,.int .i64 (n:Int)] H R:=by
 obtain⟨P,hPl,h⟩:=rlOut hs
 have o1:=ok.len
 have o2:=ok.cap
 have hle:=(h.fs 1 rfl).le
 refine Tryz.s11 ?_
 unfold Tryz.S11
 intro J hJ
 refine⟨_,rfl,r.down,h.get 0 rfl (j:=4) rfl,br_f hd (br_n (by omega) (br_n (by omega) ⟨_,rfl,P.p,P.l,P.c,h.get 0 rfl (j:=0) rfl,br_n (by omega) ⟨_,rfl,P.p,P.l,P.c,h.get 0 rfl (j:=0) rfl,?_⟩⟩))⟩
 rw[wrap_id (n:=(P.l:Int)-0) (by omega) (by omega)]
 refine br_n (by omega) (hJ H ⟨_,rfl,P.p,P.l,P.c,h.get 0 rfl (j:=0) rfl,?_⟩)
 rw[wrap_id (n:=0+(n:Int)) (by omega) (by omega),Int.zero_add]
 refine⟨by omega,by omega,by decide,by omega,?_⟩
 have hp:(if P.c=Int.toNat 0 then P.p else Option.map (fun x=>Addr.add x (Int.toNat 0*1)) P.p)=P.p:=by
  split
  ·rfl
  ·cases P.p with
   |none=>rfl
   |some a=>obtain⟨b,o,s⟩:=a;simp[Addr.add]
 rw[hp,show(n:Int).toNat-Int.toNat 0=n from by simp]
 refine c27 (is_pre (h.is 1 rfl) (n:=n) (by omega)) (by rw[List.length_take];omega) fun Q H9 h9=>⟨_,_,_,rfl,?_⟩
 have hq:Q.l=n:=by have:=(h9.is 0 rfl).length;rw[List.length_take] at this;omega
 refine hR Q H9 hq ?_
 have h10:=h.call h9
 exact(rlIn ((h10.front 1 rfl).perm (List.Perm.cons _ (List.Perm.swap _ _ _)))).swap
def four4(n:Int):List Int:=[IntKind.wrap .u8 (shrI .i64 n 24),IntKind.wrap .u8 (shrI .i64 n 16),IntKind.wrap .u8 (shrI .i64 n 8),IntKind.wrap .u8 n]
theorem four4_bys(n:Int):Bys (four4 n):=
 List.forall_mem_cons.2 ⟨wrapU8 _,List.forall_mem_cons.2 ⟨wrapU8 _,List.forall_mem_cons.2 ⟨wrapU8 _,List.forall_mem_cons.2 ⟨wrapU8 _,fun x hx=>by cases hx⟩⟩⟩⟩
def recB(xs:List Int):List Int:=four4 xs.length++xs++four4 (crcS (four4 xs.length++xs))
theorem recB_len(xs:List Int):(recB xs).length=xs.length+8:=by simp[recB,four4]
theorem recB_bys{xs:List Int}(h:Bys xs):Bys (recB xs):=((four4_bys _).app h).app (four4_bys _)
theorem four_call{n:Int}(hs:St H0 H σ)(hR: ∀b H',St H0 H' (.cell b (kints .u8 (four4 n)).toArray 5::σ)→R (.slice (some ⟨b,0,none⟩) 4 4) H'):CallsH Tryz.prog 64 #[.int .i64 n] H R:=
 Tryz.s64 ⟨by decide,by decide,by decide,hs.alc fun b H' h=>hR b H' h⟩
theorem number_call{n:Int}(hs:St H0 H σ)(hR: ∀b H',St H0 H' (.cell b (kints .u8 (four4 n)).toArray 5::σ)→R (.slice (some ⟨b,0,none⟩) 4 4) H'):CallsH Tryz.prog 15 #[.int .i64 n] H R:=
 Tryz.s15 ⟨by decide,by decide,by decide,hs.alc fun b H' h=>hR b H' h⟩
theorem _root_.Go.Sh.St.isB(hs:St H0 H σ)(i:Nat){b n:Nat}{l:List Int}{k:IntKind}{ty:TypeId}(hi:σ[i]?=some (.cell b (kints k l).toArray ty))(hn:l.length=n):IS H (some ⟨b,0,none⟩) n (kints k l):=
 ⟨by rw[kints_len];exact hn,fun j v hv=>⟨_,rfl,by rw[add_none,Nat.zero_add];exact hs.get i hi (by rw[List.getElem?_toArray];exact hv)⟩⟩
theorem c33{p:Option Addr}{l c:Nat}{xs:List Int}(hs:St H0 H σ)(hx:IS H p l (kints .u8 xs))(hb:Bys xs)(hl:l≤8388608)(hR: ∀(Q:Sl3) H',Q.l=(recB xs).length→St H0 H' (.sl Q.p Q.l Q.c 5 1 (kints .u8 (recB xs))::σ)→R (.tuple #[Q.v,.int .i64 0]) H'):
 CallsH Tryz.prog 33 #[.slice p l c] H R:=by
 obtain rfl:xs.length=l:=by have:=hx.length;simpa using this
 refine Tryz.s33 ?_
 unfold Tryz.S33
 refine br_n (by omega) (four_call (St.nil H) fun b2 H3 h3=>⟨_,_,_,rfl,h3.alcE fun b5 H6 he6 h6=>?_⟩)
 have i1:IS H6 (some ⟨b2,0,none⟩) 4 (kints .u8 (four4 xs.length)):=h6.isB 1 rfl rfl
 refine c62 (h6.block 0 rfl) i1 (hx.ext h6.ext) (four4_bys _) hb (by decide) (by omega) ⟨_,rfl,four_call h6 fun b10 H11 h11=>⟨_,_,_,rfl,h11.alcE fun b13 H14 he14 h14=>?_⟩⟩
 have hpb:PB H14 (some ⟨b13,0,none⟩) 3 [four4 xs.length,xs,four4 (crcS (four4 xs.length++xs))]:=
  pb_blk (vs:=[(some ⟨b2,0,none⟩,4,4),(p,xs.length,c),(some ⟨b10,0,none⟩,4,4)]) (h14.block 0 rfl) ⟨(h14.isB 3 rfl rfl),hx.ext h14.ext,h14.isB 1 rfl rfl,trivial⟩
 have hfl:[four4 xs.length,xs,four4 (crcS (four4 xs.length++xs))].flatten=recB xs:=by simp[recB]
 refine c65 hpb (by decide) (by rw[hfl,recB_len];omega) fun q c' H16 h16=>⟨_,_,_,rfl,?_⟩
 rw[hfl] at h16 ⊢
 exact hR ⟨q,_,c'⟩ H16 rfl (hs.call ((h14.call h16).take 1))
def jrRs(jb rb:Nat)(broken:Bool):Rs:= .cell jb #[.pointer (some ⟨rb,0,none⟩),.bool broken] 84
theorem told_call{jb rb:Nat}{br:Bool}{e:Int}(hs:St H0 H (jrRs jb rb br::σ))(hR: ∀H',St H0 H' (jrRs jb rb (br||e==11)::σ)→R (.int .i64 e) H'):CallsH Tryz.prog 34 #[.pointer (some ⟨jb,0,none⟩),.int .i64 e] H R:=by
 refine Tryz.s34 ?_
 unfold Tryz.S34
 refine⟨_,rfl,br,hs.get 0 rfl (j:=1) rfl,br_i (fun hb=>⟨_,rfl,hs.put 0 rfl (j:=1) (Nat.le_of_ble_eq_true rfl) rfl fun H6 h6=>hR H6 ?_⟩) fun hb=>⟨_,rfl,hs.put 0 rfl (j:=1) (Nat.le_of_ble_eq_true rfl) rfl fun H6 h6=>hR H6 ?_⟩⟩
 ·rw[hb];exact h6
 ·rw[hb];exact h6
theorem c16{jb rb:Nat}{r:RlS}{p:Option Addr}{l c:Nat}{xs:List Int}(hs:St H0 H (jrRs jb rb false::rlRs rb r::σ))(ok:RlOk r)(hx:IS H p l (kints .u8 xs))(hb:Bys xs)(hl:l≤8388608)
 (hR: ∀H',St H0 H' (jrRs jb rb ((r.app (recB xs)).1==11)::rlRs rb (r.app (recB xs)).2::σ)→R (.int .i64 (r.app (recB xs)).1) H'):CallsH Tryz.prog 16 #[.pointer (some ⟨jb,0,none⟩),.slice p l c] H R:=by
 have hxl:=hx.length
 refine Tryz.s16 ?_
 unfold Tryz.S16
 refine⟨_,rfl,false,hs.get 0 rfl (j:=1) rfl,br_f rfl (c33 hs hx hb hl fun Q H6 hQ h6=>⟨_,_,_,_,rfl,br_ne (fun h=>absurd rfl h) fun _=>⟨_,rfl,_,h6.get 1 rfl (j:=0) rfl,?_⟩⟩)⟩
 refine c35 (h6.front 2 rfl) ok (h6.is 0 rfl) (by rw[hQ,recB_len];omega) fun H12 h12=>⟨_,rfl,told_call ((h12.front 2 rfl)) fun H15 h15=>⟨_,rfl,hR H15 ?_⟩⟩
 exact h15.del 2
theorem c17{jb rb:Nat}{r:RlS}(hs:St H0 H (jrRs jb rb false::rlRs rb r::σ))(ok:RlOk r)(hR: ∀H',St H0 H' (jrRs jb rb (r.sync.1==11)::rlRs rb r.sync.2::σ)→R (.int .i64 r.sync.1) H'):CallsH Tryz.prog 17 #[.pointer (some ⟨jb,0,none⟩)] H R:=by
 refine Tryz.s17 ?_
 unfold Tryz.S17
 refine⟨_,rfl,false,hs.get 0 rfl (j:=1) rfl,br_f rfl ⟨_,rfl,_,hs.get 0 rfl (j:=0) rfl,?_⟩⟩
 exact c32 hs.swap ok fun H7 h7=>⟨_,rfl,told_call h7.swap fun H10 h10=>⟨_,rfl,hR H10 h10⟩⟩
theorem open_none{rb:Nat}{r:RlS}(hs:St H0 H (rlRs rb r::σ))(ok:RlOk r)(hd:r.down=false)(hb:r.b=[])(hl:r.left<0)(hR: ∀jb (Q:Sl3) H',Q.l=0→St H0 H' (jrRs jb rb false::rlRs rb r.sync.2::σ)→R (.tuple #[.pointer (some ⟨jb,0,none⟩),Q.v,.int .i64 0]) H'):
 CallsH Tryz.prog 14 #[.pointer (some ⟨rb,0,none⟩)] H R:=by
 have hbl:r.b.length=0:=by rw[hb];rfl
 refine Tryz.s14 ?_
 unfold Tryz.S14
 refine c12 hs ⟨_,rfl,c11 hs ok hd (Nat.le_refl _) fun Q H6 hQ h6=>⟨_,_,_,_,rfl,br_ne (fun h=>absurd rfl h) fun _=>?_⟩⟩
 have scan:CallsH Tryz.prog 30 #[.slice Q.p Q.l Q.c] H6 fun v H'=>v= .tuple #[.slice none 0 0,.int .i64 0]∧H'=H6:=by
  refine Tryz.s30 ?_
  unfold Tryz.S30
  intro X hX
  refine hX _ _ _ _ _ ?_
  rw[hQ,hbl]
  exact br_y (by decide) ⟨rfl,rfl⟩
 refine scan.mono fun v H' ⟨hv,hH⟩=>?_
 rw[hv,hH]
 refine⟨_,_,_,_,rfl,?_⟩
 intro J hJ
 refine br_n (by omega) (hJ H6 ?_)
 refine c32 h6.tail ok fun H16 h16=>⟨_,rfl,?_⟩
 have e:r.sync.1=0:=by
  unfold RlS.sync
  have:r.step.down=false:=by unfold RlS.step;rw[if_neg (by omega),if_neg (by omega)];exact hd
  rw[if_neg (by rw[hd];decide),if_neg (by rw[this];decide)]
 rw[e]
 exact br_ne (fun h=>absurd rfl h) fun _=>h16.alc fun b18 H19 h19=>hR b18 .nil H19 rfl h19
end Go.Proofs
namespace Go.Sh
theorem St.elPutRow{H0 H:Heap}{σ:List Rs}(hs:St H0 H σ)(i:Nat){p:Option Addr}{l c n:Nat}{el:TypeId}{A cs B:List Value}(hi:σ[i]?=some (.sl p l c el 19 (A++cs++B)))(hA:A.length=n*19){j:Nat}{vs:List Value}(hj:j+vs.length≤cs.length)(hc:0<cs.length)(hv: ∀v∈vs,v.oneCell'=true){a:Addr}(ha:p.map (fun a=>a.add (n*19))=some a)
 {f:Heap→Prop}(hK: ∀H',St H0 H' (σ.set i (.sl p l c el 19 (A++setL cs j vs++B)))→f H'):stAt H (a.add j) vs f:=by
 obtain⟨b,hb⟩:=hs.slSome i (j:=0) hi (by simp;omega)
 subst hb
 cases ha
 show stAt H (((⟨b,0,none⟩:Addr).add (n*19)).add j) vs f
 rw[add_none,add_none,Nat.zero_add]
 refine Go.Sh.St.slIn hs i hi (by simp;omega) hv fun H' hs'=>hK H' ?_
 have e:setL (A++cs++B) (n*19+j) vs=A++setL cs j vs++B:=by
  unfold setL
  rw[List.append_assoc A cs B,←hA,List.take_length_add_append,show A.length+j+vs.length=A.length+(j+vs.length) from by omega,List.drop_length_add_append,List.take_append_of_le_length (by omega),List.drop_append_of_le_length hj]
  simp
 rw[e] at hs'
 exact hs'
end Go.Sh
namespace Go.Proofs
open Go.Sh
variable {H0 H:Heap} {σ:List Rs} {R:Value→Heap→Prop}
theorem workMap{b d:Nat}{e:Ed}{s:EdS}{bb:Nat}(hb:H[bb]?=some (.cells (workL b d e s).toArray 130)):rowIn H ⟨bb,14,none⟩ (ints e.map.l).toArray:=
 rowIn_block hb fun j v hv=>match j,hv with
  |0,hv=>hv
  |1,hv=>hv
  |2,hv=>hv
  |3,hv=>hv
  |4,hv=>hv
  |5,hv=>hv
  |j+6,hv=>by simp[ints,M6.l] at hv
def placeF(e:Ed)(f:LayF):Int×LayF:=if f.kind≠0 then(41,f) else if e.n≠0∧e.n≠1 then(32,f) else if (backM e.map).1≠0 then((backM e.map).1,f) else(0,{f with map:=e.map,smooth:=e.n==1})
theorem c75{b d:Nat}{e:Ed}{s:EdS}{K:Sl3}{ks:List T}(hs:St H0 H (resRoot b K ks++σ))(hc:cntKs (layKs ks)≤1000000000)(hR:Chg (placeF e) H0 σ R b ks e.id):
 CallsH Tryz.prog 75 #[.agg (workL b d e s).toArray] H R:=by
 refine Tryz.s75 ?_
 unfold Tryz.S75
 refine hs.alc fun b2 H3 hs3=>⟨_,rfl,rowIn_whole (hs3.block 0 rfl),?_⟩
 refine tgt hs3 (by omega) (fun hl H6 hs6=>⟨_,_,rfl,?_⟩) fun fr u K' ks' a H6 hl ha hs6=>⟨_,_,rfl,?_⟩
 ·intro J hJ
  exact br_ne (fun _=>hR.none hl hs6.tail.app.2) fun h=>absurd h (by decide)
 intro J hJ
 have bad: ∀{v:Int} {H':Heap},placeF e fr.f=(v,fr.f)→v≠0→St H0 H' (openR fr (u++[rootFr b]) K' ks'++σ)→R (.int .i64 v) H':=fun hg hv hs=>hR.err hl hg hv hs.app.2
 refine br_ne (fun h=>absurd rfl h) fun _=>⟨a,rfl,_,hs6.elCell 1 rfl (cellsKs_len fr.pre) (cells_1 fr K') ha,br_ne (fun hk=>bad (by unfold placeF;rw[if_pos hk]) (by decide) hs6.tail) fun hk=>?_⟩
 have go: ¬(e.n≠0∧e.n≠1)→J [] H6:=fun hn=>by
  have hF:placeF e fr.f=(if (backM e.map).1≠0 then((backM e.map).1,fr.f) else(0,{fr.f with map:=e.map,smooth:=e.n==1})):=by
   unfold placeF;rw[if_neg (fun hh=>hh hk),if_neg hn]
  refine hJ _ ⟨(ints e.map.l).toArray,rfl,workMap (hs6.block 0 rfl),?_⟩
  refine c126 fun H13 he13=>⟨_,_,rfl,?_⟩
  refine(hs6.step he13).alc fun b16 H17 hs17=>⟨rfl,hs17.putAllA 0 (l:=(backM e.map).2.l) rfl rfl fun H18 hs18=>br_ne (fun hb=>bad (by rw[hF,if_pos hb]) hb (hs18.drop 2)) fun hb=>?_⟩
  rw[if_neg (fun hh=>hh hb)] at hF
  refine⟨(ints e.map.l).toArray,rfl,workMap (hs18.block 1 rfl),_,hs18.get 1 rfl (j:=6) rfl,a,rfl,rfl,?_⟩
  refine hs18.elPutRow 2 rfl (cellsKs_len fr.pre) (j:=9) (vs:=ints e.map.l) (Nat.le_of_ble_eq_true rfl) (Nat.le_of_ble_eq_true rfl) (ints_one _) ha fun H22 hs22=>⟨.inr ⟨_,hs22.get 1 rfl (j:=6) rfl,rfl⟩,a,rfl,?_⟩
  refine hs22.elPut 2 rfl (cellsKs_len fr.pre) (j:=15) (Nat.le_of_ble_eq_true rfl) rfl ha fun H24 hs24=>?_
  exact hR.done hl (P:=fr.P) (M:=fr.M) (A:=fr.A) hF (hs24.drop 2)
 refine⟨_,hs6.get 0 rfl (j:=6) rfl,br_ne (fun h0=>⟨_,hs6.get 0 rfl (j:=6) rfl,br_ne (fun h1=>?_) fun h1=>go fun h=>h.2 h1⟩) fun h0=>go fun h=>h.1 h0⟩
 exact bad (v:=32) (by unfold placeF;rw[if_neg (fun hh=>hh hk),if_pos ⟨h0,h1⟩]) (by decide) hs6.tail
def adjustF(e:Ed)(f:LayF):Int×LayF:=if f.kind≠2 then(41,f) else if tabB e.n e.params=false then(32,f) else(0,{f with table:=e.n,params:=e.params})
theorem c76{b d:Nat}{e:Ed}{s:EdS}{K:Sl3}{ks:List T}(hs:St H0 H (resRoot b K ks++σ))(hc:cntKs (layKs ks)≤1000000000)(hed:rdEd H0 e s)(hpl:e.params.length≤1000000000)(hR:Chg (adjustF e) H0 σ R b ks e.id):
 CallsH Tryz.prog 76 #[.agg (workL b d e s).toArray] H R:=by
 refine Tryz.s76 ?_
 unfold Tryz.S76
 refine hs.alc fun b2 H3 hs3=>⟨_,rfl,rowIn_whole (hs3.block 0 rfl),?_⟩
 refine tgt hs3 (by omega) (fun hl H6 hs6=>⟨_,_,rfl,?_⟩) fun fr u K' ks' a H6 hl ha hs6=>⟨_,_,rfl,?_⟩
 ·exact br_ne (fun _=>hR.none hl hs6.tail.app.2) fun h=>absurd h (by decide)
 have bad: ∀{v:Int} {H':Heap},adjustF e fr.f=(v,fr.f)→v≠0→St H0 H' (openR fr (u++[rootFr b]) K' ks'++σ)→R (.int .i64 v) H':=fun hg hv hs=>hR.err hl hg hv hs.app.2
 refine br_ne (fun h=>absurd rfl h) fun _=>⟨a,rfl,_,hs6.elCell 1 rfl (cellsKs_len fr.pre) (cells_1 fr K') ha,br_ne (fun hk=>bad (by unfold adjustF;rw[if_pos hk]) (by decide) hs6.tail) fun hk=>?_⟩
 have hF:adjustF e fr.f=(if tabB e.n e.params=false then(32,fr.f) else(0,{fr.f with table:=e.n,params:=e.params})):=by unfold adjustF;rw[if_neg (fun hh=>hh hk)]
 refine⟨_,hs6.get 0 rfl (j:=6) rfl,_,_,_,hs6.get 0 rfl (j:=20) rfl,?_⟩
 have hal:=hed.params.length
 refine c127 (hed.params.ext hs6.ext) (by omega) (fun ht=>⟨_,_,_,_,rfl,br_t rfl (bad (by rw[hF,if_pos ht]) (by decide) hs6.tail)⟩) fun ht tb H14 he14=>⟨_,_,_,_,rfl,br_f rfl ?_⟩
 rw[if_neg (by rw[ht];simp)] at hF
 have hs14:=hs6.step he14
 refine⟨_,hs14.get 0 rfl (j:=6) rfl,_,_,_,hs14.get 0 rfl (j:=20) rfl,?_⟩
 refine c128 (hed.params.ext hs14.ext) hpl fun q H20 hq20=>⟨_,_,_,rfl,.inl hq20.ext,a,rfl,?_⟩
 have hs20:=hs14.call hq20
 refine hs20.elPut 2 rfl (cellsKs_len fr.pre) (j:=16) (Nat.le_of_ble_eq_true rfl) rfl ha fun H23 hs23=>⟨a,rfl,?_⟩
 refine hs23.elPut 2 rfl (cellsKs_len fr.pre) (j:=17) (Nat.le_of_ble_eq_true rfl) rfl ha fun H25 hs25=>?_
 refine hR.done hl (P:=fr.P) (M:=fr.M) (A:=q) (K':=K') (ks':=ks') hF ?_
 refine((hs25.perm (τ:= .cell b2 (workL b d e s).toArray 130:: .sl fr.A.p fr.A.l fr.A.c 3 1 (ints fr.f.params)::(openR ⟨fr.hdr,fr.pre,{fr.f with table:=e.n,params:=e.params},fr.P,fr.M,q,fr.post⟩ (u++[rootFr b]) K' ks'++σ)) (permC fun _ x=>?_)).drop 2)
 show List.count x (.sl q.p q.l q.c 3 1 (ints e.params):: .cell b2 (workL b d e s).toArray 130::((.sl fr.hdr.p fr.hdr.l fr.hdr.c 118 19 (cellsKs fr.pre++cellsL {fr.f with table:=e.n,params:=e.params} fr.P.v fr.M.v q.v K'.v++cellsKs fr.post):: .sl fr.P.p fr.P.l fr.P.c 3 1 (ints fr.f.p):: .sl fr.M.p fr.M.l fr.M.c 5 1 (kints .u8 fr.f.mask):: .sl fr.A.p fr.A.l fr.A.c 3 1 (ints fr.f.params)::
  .sl K'.p K'.l K'.c 118 19 (cellsKs ks')::(resKs ks'++(resKs fr.pre++(resKs fr.post++resUp (u++[rootFr b]) fr.hdr))))++σ))=
  List.count x (.cell b2 (workL b d e s).toArray 130:: .sl fr.A.p fr.A.l fr.A.c 3 1 (ints fr.f.params)::((.sl fr.hdr.p fr.hdr.l fr.hdr.c 118 19 (cellsKs fr.pre++cellsL {fr.f with table:=e.n,params:=e.params} fr.P.v fr.M.v q.v K'.v++cellsKs fr.post):: .sl fr.P.p fr.P.l fr.P.c 3 1 (ints fr.f.p):: .sl fr.M.p fr.M.l fr.M.c 5 1 (kints .u8 fr.f.mask):: .sl q.p q.l q.c 3 1 (ints e.params):: .sl K'.p K'.l K'.c 118 19 (cellsKs ks')::(resKs ks'++(resKs fr.pre++(resKs fr.post++resUp (u++[rootFr b]) fr.hdr))))++σ))
 simp only[List.count_append,List.count_cons]
 ac_rfl
def stepL(w h next:Int)(D:List Lay)(e:Ed):Int×List Lay:=
 if e.kind=1 then addL next D e else if e.kind=2 then removeL D e.id else if e.kind=3 then moveL D e else if e.kind=4 then chgL (paintF e) D e.id else if e.kind=5 then chgL (lookF e) D e.id else
 if e.kind=6 then chgL (hideF e) D e.id else if e.kind=7 then chgL (maskF w h e) D e.id else if e.kind=8 then chgL (placeF e) D e.id else if e.kind=9 then chgL (adjustF e) D e.id else(41,[])
def nextL(next:Int)(e:Ed):Int:=if e.kind=1 then next+1 else next
structure EdOk(H0:Heap)(e:Ed)(s:EdS):Prop where
 rd:rdEd H0 e s
 shape:e.shape.length≤1000000000
 params:e.params.length≤1000000000
def kindFn(k:Int):Nat:=if k=1 then 68 else if k=2 then 69 else if k=3 then 70 else if k=4 then 71 else if k=5 then 72 else if k=6 then 73 else if k=7 then 74 else if k=8 then 75 else 76
theorem edit_call{b d:Nat}{e:Ed}{s:EdS}{K K0:Sl3}{ks:List T}{w h next:Int}(hk:1≤e.kind∧e.kind≤9)(hs:St H0 H (resRoot b K ks++(.cell d (docA w h next K0) 46::σ)))(hc:cntKs (layKs ks)≤1000000000)(hnx:0≤next∧next≤1000000000000000)(hsz:e.kind=7→sizedB w h=true)(hed:EdOk H0 e s)
 (hras: ∀fr u ks',flK [] [] e.id (layKs ks)=some (fr::u,ks')→okRas fr.f)
 (hbad: ∀H',(stepL w h next (layKs ks) e).1≠0→St H0 H' σ→R (.int .i64 (stepL w h next (layKs ks) e).1) H')
 (hok: ∀Kn ksn H',(stepL w h next (layKs ks) e).1=0→layKs ksn=(stepL w h next (layKs ks) e).2→St H0 H' (resRoot b Kn ksn++(.cell d (docA w h (nextL next e) K0) 46::σ))→R (.int .i64 0) H'):
 CallsH Tryz.prog (kindFn e.kind) #[.agg (workL b d e s).toArray] H R:=by
 have hsl:s.S.l≤1000000000:=by rw[←hed.rd.shape.len];exact hed.shape
 by_cases k1:e.kind=1
 ·have hst:stepL w h next (layKs ks) e=addL next (layKs ks) e:=by unfold stepL;rw[if_pos k1]
  have hnl:nextL next e=next+1:=by unfold nextL;rw[if_pos k1]
  rw[hst] at hbad hok
  rw[hnl] at hok
  rw[show kindFn e.kind=68 from by unfold kindFn;rw[if_pos k1]]
  exact c68 hs hc hnx hbad hok
 have hnl:nextL next e=next:=by unfold nextL;rw[if_neg k1]
 rw[hnl] at hok
 by_cases k2:e.kind=2
 ·have hst:stepL w h next (layKs ks) e=removeL (layKs ks) e.id:=by unfold stepL;rw[if_neg k1,if_pos k2]
  rw[hst] at hbad hok
  rw[show kindFn e.kind=69 from by unfold kindFn;rw[if_neg k1,if_pos k2]]
  refine c69 hs hc (fun hz H' he=>?_) fun fr u K' ks' Kn ksn H' hz hl hs'=>?_
  ·rcases find_cases b K ks e.id with ⟨_,hl⟩|⟨fr,u,K',ks',hz',_,_⟩
   ·have hr:removeL (layKs ks) e.id=(40,[]):=by unfold removeL;rw[hl]
    have:=hbad H' (by rw[hr];decide) (hs.step he).app.2.tail
    rw[hr] at this;exact this
   ·rw[hz] at hz';cases hz'
  ·rcases find_cases b K ks e.id with ⟨hz',_⟩|⟨fr',u',K'',ks'',hz',_,hl'⟩
   ·rw[hz] at hz';cases hz'
   ·rw[hz] at hz'
    simp only[Option.some.injEq,Prod.mk.injEq,List.cons.injEq] at hz'
    obtain⟨⟨rfl,hu⟩,rfl,rfl⟩:=hz'
    have hu:=List.append_cancel_right hu
    subst hu
    have hr:removeL (layKs ks) e.id=(0,plugL (u.map Fr.lay) (layKs fr.pre++layKs fr.post)):=by unfold removeL;rw[hl'];rfl
    refine hok Kn ksn H' (by rw[hr]) (by rw[hr];exact hl) (St.app (σ:=resT (fr.node K' ks')) (τ:=resRoot b Kn ksn++(.cell d (docA w h next K0) 46::σ)) (hs'.perm (permC fun _ x=>by simp only[List.count_append,List.count_cons];ac_rfl))).2
 by_cases k3:e.kind=3
 ·have hst:stepL w h next (layKs ks) e=moveL (layKs ks) e:=by unfold stepL;rw[if_neg k1,if_neg k2,if_pos k3]
  rw[hst] at hbad hok
  rw[show kindFn e.kind=70 from by unfold kindFn;rw[if_neg k1,if_neg k2,if_pos k3]]
  exact c70 hs hc (fun H' h1 h2=>hbad H' h1 h2.tail) hok
 have chg: ∀{g:LayF→Int×LayF},stepL w h next (layKs ks) e=chgL g (layKs ks) e.id→Chg g H0 (.cell d (docA w h next K0) 46::σ) R b ks e.id:=fun{g} hst=>by
  rw[hst] at hbad hok
  exact⟨fun H' h1 h2=>hbad H' h1 h2.tail,hok⟩
 by_cases k4:e.kind=4
 ·rw[show kindFn e.kind=71 from by unfold kindFn;rw[if_neg k1,if_neg k2,if_neg k3,if_pos k4]]
  exact c71 hs hc hed.rd hras (chg (by unfold stepL;rw[if_neg k1,if_neg k2,if_neg k3,if_pos k4]))
 by_cases k5:e.kind=5
 ·rw[show kindFn e.kind=72 from by unfold kindFn;rw[if_neg k1,if_neg k2,if_neg k3,if_neg k4,if_pos k5]]
  exact c72 hs hc (chg (by unfold stepL;rw[if_neg k1,if_neg k2,if_neg k3,if_neg k4,if_pos k5]))
 by_cases k6:e.kind=6
 ·rw[show kindFn e.kind=73 from by unfold kindFn;rw[if_neg k1,if_neg k2,if_neg k3,if_neg k4,if_neg k5,if_pos k6]]
  exact c73 hs hc (chg (by unfold stepL;rw[if_neg k1,if_neg k2,if_neg k3,if_neg k4,if_neg k5,if_pos k6]))
 by_cases k7:e.kind=7
 ·rw[show kindFn e.kind=74 from by unfold kindFn;rw[if_neg k1,if_neg k2,if_neg k3,if_neg k4,if_neg k5,if_neg k6,if_pos k7]]
  exact c74 hs hc hed.rd hsl (hsz k7) (chg (by unfold stepL;rw[if_neg k1,if_neg k2,if_neg k3,if_neg k4,if_neg k5,if_neg k6,if_pos k7]))
 by_cases k8:e.kind=8
 ·rw[show kindFn e.kind=75 from by unfold kindFn;rw[if_neg k1,if_neg k2,if_neg k3,if_neg k4,if_neg k5,if_neg k6,if_neg k7,if_pos k8]]
  exact c75 hs hc (chg (by unfold stepL;rw[if_neg k1,if_neg k2,if_neg k3,if_neg k4,if_neg k5,if_neg k6,if_neg k7,if_pos k8]))
 ·have k9:e.kind=9:=by omega
  rw[show kindFn e.kind=76 from by unfold kindFn;rw[if_neg k1,if_neg k2,if_neg k3,if_neg k4,if_neg k5,if_neg k6,if_neg k7,if_neg k8]]
  exact c76 hs hc hed.rd hed.params (chg (by unfold stepL;rw[if_neg k1,if_neg k2,if_neg k3,if_neg k4,if_neg k5,if_neg k6,if_neg k7,if_neg k8,if_pos k9]))
end Go.Proofs
namespace Go.Proofs
open Go.Sh
variable {H0 H:Heap} {σ:List Rs} {R:Value→Heap→Prop}
def varB:Nat→Int→List Int
 |0,_=>[]
 |n+1,u=>if u≥128 then orI .u8 (IntKind.wrap .u8 u) 128::varB n (shrI .u64 u 7) else[IntKind.wrap .u8 u]
def zigU(n:Int):Int:=xorI .u64 (shlI .u64 (IntKind.wrap .u64 n) 1) (IntKind.wrap .u64 (shrI .i64 n 63))
def zN(n:Int):List Int:=varB 11 (zigU n)
def zNs(l:List Int):List Int:=(l.map zN).flatten
theorem varB_len: ∀(n:Nat) (u:Int),(varB n u).length≤n
 |0,_=>Nat.le_refl _
 |n+1,u=>by
  unfold varB
  split
  ·have:=varB_len n (shrI .u64 u 7);rw[List.length_cons];omega
  ·simp
theorem varB_bys: ∀(n:Nat) (u:Int),Bys (varB n u)
 |0,_=>fun x hx=>by cases hx
 |n+1,u=>fun x hx=>by
  unfold varB at hx
  split at hx
  ·rcases List.mem_cons.1 hx with rfl|hx
   ·exact wrapU8 _
   ·exact varB_bys n _ x hx
  ·rw[List.mem_singleton] at hx;subst hx;exact wrapU8 _
theorem zNs_len: ∀l:List Int,(zNs l).length≤11*l.length
 |[]=>Nat.le_refl _
 |x::l=>by
  have h1:=zNs_len l
  have h2:=varB_len 11 (zigU x)
  have h3:zNs (x::l)=zN x++zNs l:=rfl
  rw[h3,List.length_append,List.length_cons]
  show(varB 11 (zigU x)).length+_≤_
  omega
theorem zNs_bys: ∀l:List Int,Bys (zNs l)
 |[]=>fun x hx=>by cases hx
 |x::l=>(varB_bys 11 (zigU x)).app (zNs_bys l)
theorem zNs_app(a b:List Int):zNs (a++b)=zNs a++zNs b:=by simp[zNs]
theorem wrapU64(n:Int):0≤IntKind.wrap .u64 n∧IntKind.wrap .u64 n<18446744073709551616:=by simp only[IntKind.wrap,IntKind.bits,IntKind.signed];simp;omega
theorem shr7{u:Int}(h:0≤u):shrI .u64 u 7=u/128:=by
 unfold shrI
 rw[show min (7:Int).toNat (IntKind.bits .u64)=7 from by decide,Int.fdiv_eq_ediv_of_nonneg _ (by decide)]
 rfl
def outRs(ob:Nat)(B:List Int):Rs:= .ex fun(P:Sl3)=> .star (.cell ob #[P.v] 142) (.sl P.p P.l P.c 5 1 (kints .u8 B))
theorem outOut{ob:Nat}{B:List Int}(hs:St H0 H (outRs ob B::σ)): ∃P:Sl3,P.l=B.length∧St H0 H (.cell ob #[P.v] 142:: .sl P.p P.l P.c 5 1 (kints .u8 B)::σ):=by
 obtain⟨P,h⟩:=St.unex hs
 have h:=h.cut
 exact⟨P,(h.is 1 rfl).length.symm,h⟩
theorem outIn{ob:Nat}{B:List Int}{P:Sl3}(hs:St H0 H (.cell ob #[P.v] 142:: .sl P.p P.l P.c 5 1 (kints .u8 B)::σ)):St H0 H (outRs ob B::σ):=
 St.inex (f:=fun(P:Sl3)=> .star (.cell ob #[P.v] 142) (.sl P.p P.l P.c 5 1 (kints .u8 B))) P hs.cat
theorem byte_put{ob:Nat}{B:List Int}{v:Int}{K:Heap→Prop}(hs:St H0 H (outRs ob B::σ))(hB:B.length≤100000000000)(hK: ∀H',St H0 H' (outRs ob (B++[v])::σ)→K H'):
 ∃a11:Addr,(some ⟨ob,0,none⟩:Option Addr)=some a11∧ ∃p l c,Sh.cell H (a11.add 0)=some (.slice p l c)∧alc H (.cells #[.int .u8 v] 5) fun b13 H14=>appQ 1 1 #[.int .u8 0] H14 p l c (some ⟨b13,0,none⟩) 1 5 fun p2 l2 c2 H16=> ∃a17:Addr,(some ⟨ob,0,none⟩:Option Addr)=some a17∧stAt H16 (a17.add 0) [.slice p2 l2 c2] K:=by
 obtain⟨P,hl,h⟩:=outOut hs
 refine⟨_,rfl,P.p,P.l,P.c,h.get 0 rfl (j:=0) rfl,h.alc fun b13 H14 h14=>h14.appC 2 0 rfl rfl rfl (by simp[Value.oneCell']) (by decide) rfl (by omega) (by omega) fun p' c' H16 h16=>⟨_,rfl,h16.put 1 rfl (j:=0) (Nat.le_of_ble_eq_true rfl) rfl fun H18 h18=>hK H18 (outIn (P:=⟨p',P.l+1,c'⟩) ?_)⟩⟩
 rw[kints_append]
 exact h18.tail
theorem c83{ob:Nat}{B:List Int}{p:Option Addr}{l c:Nat}{xs:List Int}(hs:St H0 H (outRs ob B::σ))(hxs: ∀H' E,St H0 H' (outRs ob E::σ)→IS H' p l (ints xs))(hl:l≤100000000)(hB:B.length≤10000000000)(hR: ∀H',St H0 H' (outRs ob (B++zNs xs)::σ)→R (.tuple #[]) H'):
 CallsH Tryz.prog 83 #[.pointer (some ⟨ob,0,none⟩),.slice p l c] H R:=by
 have hxl:=(hxs _ _ hs).length
 refine Tryz.s83 ?_
 unfold Tryz.S83
 intro X hX
 have go: ∀k,k≤xs.length→ ∀H1,St H0 H1 (outRs ob (B++zNs (xs.take k))::σ)→X [.int .i64 (k:Nat)] H1:=by
  refine upto fun k hk ih H1 hs1=>hX _ _ (br_dec (fun hlt=>?_) fun hge=>?_)
  ·have hk':k<xs.length:=by omega
   refine rdG (i:=(k:Int)) (hxs _ _ hs1) (by omega) hlt ⟨by decide,by decide,?_⟩
   rw[Int.toNat_natCast]
   have htk:xs.take (k+1)=xs.take k++[xs.getD k 0]:=by rw[List.take_add_one,getD_some xs 0 hk'];rfl
   generalize xs.getD k 0=n at htk
   have hln:=zNs_len (xs.take k)
   rw[List.length_take] at hln
   intro Y hY
   have nx: ∀H3,St H0 H3 (outRs ob (B++zNs (xs.take (k+1)))::σ)→X [.int .i64 (IntKind.wrap .i64 ((k:Int)+1))] H3:=fun H3 h3=>by
    rw[wrap_id (by omega) (by omega)];exact ih hk' H3 h3
   have hln2:(zNs (xs.take (k+1))).length≤11*(k+1):=Nat.le_trans (zNs_len _) (by rw[List.length_take];omega)
   have go2: ∀(f:Nat) (u:Int) (E:List Int) (H2:Heap),0≤u→u<128^(f+1)→E++varB (f+1) u=B++zNs (xs.take (k+1))→St H0 H2 (outRs ob E::σ)→Y [.int .u64 u] H2:=by
    intro f
    induction f with
    |zero=>
     intro u E H2 h0 h1 hE h2
     refine hY u H2 (br_n (by omega) (byte_put h2 (by have:=congrArg List.length hE;simp only[List.length_append] at this;omega) fun H3 h3=>?_))
     refine nx H3 ?_
     rw[←hE];unfold varB;rw[if_neg (by omega)];exact h3
    |succ f ihf=>
     intro u E H2 h0 h1 hE h2
     have hEl:E.length≤100000000000:=by have:=congrArg List.length hE;simp only[List.length_append] at this;omega
     refine hY u H2 (br_dec (fun hu=>byte_put h2 hEl fun H3 h3=>⟨by decide,?_⟩) fun hu=>byte_put h2 hEl fun H3 h3=>?_)
     ·refine ihf _ (E++[orI .u8 (IntKind.wrap .u8 u) 128]) H3 (by rw[shr7 h0];omega) (by rw[shr7 h0];rw[Int.pow_succ] at h1;omega) ?_ h3
      rw[←hE,List.append_assoc]
      conv=>rhs;unfold varB
      rw[if_pos hu];rfl
     ·refine nx H3 ?_
      rw[←hE];unfold varB;rw[if_neg hu];exact h3
   exact go2 10 (zigU n) _ H1 (wrapU64 _).1 (by have:=(wrapU64 ((shlI .u64 (IntKind.wrap .u64 n) 1))).2;exact Int.lt_trans (wrapU64 _).2 (by decide)) (by rw[htk,zNs_app,List.append_assoc];congr 2;show zN n=zN n++[];rw[List.append_nil]) hs1
  ·obtain rfl:k=xs.length:=by omega
   rw[List.take_of_length_le (Nat.le_refl _)] at hs1
   exact hR H1 hs1
 exact go 0 (Nat.zero_le _) H (by rw[List.take_zero];show St H0 H (outRs ob (B++[])::σ);rw[List.append_nil];exact hs)
theorem c84{ob:Nat}{B:List Int}{p:Option Addr}{l c:Nat}{xs:List Int}(hs:St H0 H (outRs ob B::σ))(hx:IS H0 p l (ints xs))(hl:l≤100000000)(hB:B.length≤1000000000)(hR: ∀H',St H0 H' (outRs ob (B++zNs ((l:Int)::xs))::σ)→R (.tuple #[]) H'):
 CallsH Tryz.prog 84 #[.pointer (some ⟨ob,0,none⟩),.slice p l c] H R:=by
 refine Tryz.s84 ?_
 unfold Tryz.S84
 refine hs.alc fun b3 H4 h4=>c83 (xs:=[(l:Int)]) h4.swap (fun _ _ h=>h.isA 1 rfl rfl) (by decide) (by omega) fun H6 h6=>⟨rfl,?_⟩
 refine c83 (xs:=xs) (σ:=σ) (h6.swap.tail) (fun _ _ h=>hx.ext h.ext) hl (by have:=zNs_len [(l:Int)];rw[List.length_append];simp only[List.length_cons,List.length_nil] at this;omega) fun H8 h8=>⟨rfl,hR H8 ?_⟩
 rw[List.append_assoc,←zNs_app] at h8;exact h8
def edB(e:Ed):List Int:=zNs [e.kind,e.id,e.to,e.at_,e.n,e.m,e.x,e.y,e.w,e.h]++(zNs ((e.p.length:Int)::e.p)++(zNs [0]++(zNs e.map.l++zNs ((e.params.length:Int)::e.params))))
theorem edB_bys(e:Ed):Bys (edB e):=(zNs_bys _).app ((zNs_bys _).app ((zNs_bys _).app ((zNs_bys _).app (zNs_bys _))))
theorem edB_len(e:Ed):(edB e).length≤11*(e.p.length+e.params.length+19):=by
 have h1:=zNs_len [e.kind,e.id,e.to,e.at_,e.n,e.m,e.x,e.y,e.w,e.h]
 have h2:=zNs_len ((e.p.length:Int)::e.p)
 have h3:=zNs_len [0]
 have h4:=zNs_len e.map.l
 have h5:=zNs_len ((e.params.length:Int)::e.params)
 simp only[edB,List.length_append,List.length_cons,List.length_nil,M6.l] at*
 omega
theorem map_is{b:Nat}{e:Ed}{s:EdS}(i:Nat)(hs:St H0 H σ)(hi:σ[i]?=some (.cell b (edL e s).toArray 40)):IS H (some ((Addr.add ⟨b,0,none⟩ 12).add (0*1))) 6 (ints e.map.l):=
 ⟨rfl,fun j v hv=>⟨_,rfl,by
  rw[show((Addr.add ⟨b,0,none⟩ 12).add (0*1)).add j=⟨b,12+j,none⟩ from by simp[Addr.add]]
  refine hs.get i hi (j:=12+j) ?_
  match j,hv with
  |0,hv=>exact hv
  |1,hv=>exact hv
  |2,hv=>exact hv
  |3,hv=>exact hv
  |4,hv=>exact hv
  |5,hv=>exact hv
  |j+6,hv=>cases hv⟩⟩
theorem c41{e:Ed}{s:EdS}(hs:St H0 H σ)(hed:EdOk H e s)(hS:e.shape=[])(hp:e.p.length≤1000)(ha:e.params.length≤1000)(hR: ∀(Q:Sl3) H',Q.l=(edB e).length→St H0 H' (.sl Q.p Q.l Q.c 5 1 (kints .u8 (edB e))::σ)→R Q.v H'):
 CallsH Tryz.prog 41 #[.agg (edL e s).toArray] H R:=by
 have hPl:e.p.length=s.P.l:=by have:=hed.rd.p.length;exact this
 have hAl:e.params.length=s.A.l:=by have:=hed.rd.params.length;exact this
 have hSl:s.S.l=0:=by have:=hed.rd.shape.len;rw[hS] at this;exact this.symm
 refine Tryz.s41 ?_
 unfold Tryz.S41
 refine(St.nil H).alc fun b2 H3 h3=>h3.alc fun b4 H5 h5=>?_
 refine⟨_,h5.get 1 rfl (j:=0) rfl,_,h5.get 1 rfl (j:=1) rfl,_,h5.get 1 rfl (j:=2) rfl,_,h5.get 1 rfl (j:=3) rfl,_,h5.get 1 rfl (j:=4) rfl,_,h5.get 1 rfl (j:=5) rfl,_,h5.get 1 rfl (j:=6) rfl,_,h5.get 1 rfl (j:=7) rfl,_,h5.get 1 rfl (j:=8) rfl,_,h5.get 1 rfl (j:=9) rfl,?_⟩
 have g5:St H H5 (outRs b4 []::[.cell b2 (edL e s).toArray 40]):=outIn (P:= .nil) (h5.nilSl 5 1).swap
 refine g5.alc fun b16 H17 h17=>c83 (xs:=[e.kind,e.id,e.to,e.at_,e.n,e.m,e.x,e.y,e.w,e.h]) h17.swap (fun _ _ h=>h.isA 1 rfl rfl) (by decide) (by decide) fun H19 h19=>⟨rfl,?_⟩
 refine⟨s.P.p,s.P.l,s.P.c,h19.get 2 rfl (j:=10) rfl,c84 h19 hed.rd.p (by omega) ?_ fun H22 h22=>⟨rfl,?_⟩⟩
 ·have:=zNs_len [e.kind,e.id,e.to,e.at_,e.n,e.m,e.x,e.y,e.w,e.h]
  simp only[List.nil_append,List.length_cons,List.length_nil] at*;omega
 refine⟨s.S.p,s.S.l,s.S.c,h22.get 2 rfl (j:=11) rfl,h22.alc fun b24 H25 h25=>?_⟩
 rw[hSl] at h25
 have h1:=zNs_len [e.kind,e.id,e.to,e.at_,e.n,e.m,e.x,e.y,e.w,e.h]
 have h2:=zNs_len ((s.P.l:Int)::e.p)
 have h4:=zNs_len e.map.l
 have h3:=zNs_len [0]
 simp only[List.length_cons,List.length_nil,M6.l] at h1 h2 h3 h4
 refine c83 (xs:=[0]) h25.swap (fun _ _ h=>h.isA 1 rfl rfl) (by decide) (by simp only[List.nil_append,List.length_append];omega) fun H27 h27=>⟨rfl,?_⟩
 refine⟨s.S.p,s.S.l,s.S.c,h27.get 3 rfl (j:=11) rfl,?_⟩
 intro X hX
 refine hX 0 H27 (br_n (by rw[hSl];decide) ?_)
 refine c83 (xs:=e.map.l) h27 (fun _ _ h=>map_is 3 h rfl) (by decide) (by simp only[List.nil_append,List.length_append];omega) fun H44 h44=>⟨rfl,?_⟩
 refine⟨s.A.p,s.A.l,s.A.c,h44.get 3 rfl (j:=18) rfl,c84 h44 hed.rd.params (by omega) (by simp only[List.nil_append,List.length_append,M6.l];omega) fun H47 h47=>⟨rfl,?_⟩⟩
 obtain⟨P,hPl',h⟩:=outOut h47
 refine⟨_,rfl,P.p,P.l,P.c,h.get 0 rfl (j:=0) rfl,?_⟩
 have hB:[]++zNs [e.kind,e.id,e.to,e.at_,e.n,e.m,e.x,e.y,e.w,e.h]++zNs ((s.P.l:Int)::e.p)++zNs [0]++zNs e.map.l++zNs ((s.A.l:Int)::e.params)=edB e:=by
  simp only[edB,hPl,hAl,List.nil_append,List.append_assoc]
 rw[hB] at hPl' h
 exact hR P H47 hPl' (hs.call ((h.front 1 rfl).take 1))
end Go.Proofs
namespace Go.Proofs
open Go.Sh
variable {H0 H:Heap} {σ:List Rs} {R:Value→Heap→Prop}
theorem docA_one(w h next:Int)(K:Sl3): ∀v∈(docA w h next K).toList,v.oneCell'=true:=by
 unfold docA
 simp only[List.forall_mem_cons]
 exact⟨rfl,rfl,rfl,rfl,fun _ h=>by cases h⟩
theorem edL_one(e:Ed)(s:EdS): ∀v∈edL e s,v.oneCell'=true:=by
 unfold edL
 simp only[List.forall_mem_cons]
 exact⟨rfl,rfl,rfl,rfl,rfl,rfl,rfl,rfl,rfl,rfl,rfl,rfl,rfl,rfl,rfl,rfl,rfl,rfl,rfl,fun _ h=>by cases h⟩
theorem workL_one(b d:Nat)(e:Ed)(s:EdS): ∀v∈workL b d e s,v.oneCell'=true:=by
 unfold workL
 simp only[List.forall_mem_cons]
 exact⟨rfl,rfl,edL_one e s⟩
theorem c67{d:Nat}{w h next:Int}{K:Sl3}(hb:H[d]?=some (.cells (docA w h next K) 46))(hR: ∀b H',St H H' [.cell b (cellsT (rootT K [])).toArray 118]→R (.pointer (some ⟨b,0,none⟩)) H'):CallsH Tryz.prog 67 #[.pointer (some ⟨d,0,none⟩)] H R:=by
 refine Tryz.s67 ?_
 unfold Tryz.S67
 exact⟨_,rfl,_,_,_,cell_get (i:=3) hb rfl,(St.nil H).alc fun b4 H5 hs5=>hR b4 H5 hs5⟩
theorem mk_root{b:Nat}{K:Sl3}{ks:List T}(hs:St H0 H (.cell b (cellsT (rootT K [])).toArray 118::(resG K ks++σ))):St H0 H (resRoot b K ks++σ):=by
 have h1:=hs.toSl 0 (l:=1) (k:=19) (fs:=cellsKs [rootT K ks]) rfl rfl (by rw[cellsKs_one];rfl) (by rw[cellsKs_one];exact cellsT_one _)
 have h2:=((h1.nilSl 3 1).nilSl 5 1).nilSl 3 1
 refine h2.perm (permC fun _ x=>?_)
 have e1:resRoot b K ks= .sl (some ⟨b,0,none⟩) 1 1 118 19 (cellsKs [rootT K ks]):: .sl none 0 0 3 1 []:: .sl none 0 0 5 1 []:: .sl none 0 0 3 1 []::resG K ks:=by
  unfold resRoot
  rw[resG,resKs_one,rootT,resT_mk];rfl
 rw[e1]
 show List.count x (.sl none 0 0 3 1 []:: .sl none 0 0 5 1 []:: .sl none 0 0 3 1 []:: .sl (some ⟨b,0,none⟩) 1 1 118 19 (cellsKs [rootT K ks])::(resG K ks++σ))=_
 simp only[List.count_append,List.count_cons]
 ac_rfl
theorem un_root{b:Nat}{K:Sl3}{ks:List T}(hs:St H0 H (resRoot b K ks++σ)):Sh.cell H ⟨b,18,none⟩=some (.slice K.p K.l K.c)∧St H0 H (resG K ks++σ):=by
 obtain⟨a0,h1,h2,h3⟩:=hs.grp.get (i:=0) (t:=rootT K ks) rfl
 cases h1
 rw[Nat.zero_mul,add_none] at h2
 refine⟨h2 18 _ rfl,?_⟩
 have e1:resRoot b K ks= .sl (some ⟨b,0,none⟩) 1 1 118 19 (cellsKs [rootT K ks]):: .sl none 0 0 3 1 []:: .sl none 0 0 5 1 []:: .sl none 0 0 3 1 []::resG K ks:=by
  unfold resRoot
  rw[resG,resKs_one,rootT,resT_mk];rfl
 rw[e1] at hs
 exact hs.drop 4
def doL(w h next:Int)(D:List Lay)(e:Ed):Int×Int×List Lay:=
 if e.kind<1∨e.kind>9 then(41,0,[]) else if (stepL w h next D e).1≠0 then((stepL w h next D e).1,0,[]) else(0,nextL next e,(stepL w h next D e).2)
def kindsA:Array Value:=#[Value.func (.func 68) #[] #[],Value.func (.func 69) #[] #[],Value.func (.func 70) #[] #[],Value.func (.func 71) #[] #[],Value.func (.func 72) #[] #[],Value.func (.func 73) #[] #[],Value.func (.func 74) #[] #[],Value.func (.func 75) #[] #[],Value.func (.func 76) #[] #[]]
theorem kinds_get{k:Int}(h:1≤k∧k≤9):kindsA[(k-1).toNat]?=some (.func (.func (kindFn k)) #[] #[]):=by
 obtain⟨h1,h2⟩:=h
 obtain⟨n,rfl⟩: ∃n:Nat,k=n:=⟨k.toNat,by omega⟩
 obtain⟨m,rfl⟩: ∃m:Nat,n=m+1:=⟨n-1,by omega⟩
 rw[show(((m+1:Nat):Int)-1).toNat=m from by omega]
 have:m<9:=by omega
 obtain rfl|rfl|rfl|rfl|rfl|rfl|rfl|rfl|rfl:m=0∨m=1∨m=2∨m=3∨m=4∨m=5∨m=6∨m=7∨m=8:=by omega
 all_goals rfl
theorem c37{e:Ed}{s:EdS}{K:Sl3}{ks:List T}{w h next:Int}(hg:grp H K ks)(hokl:okKs (layKs ks))(hc:cntKs (layKs ks)≤1000000000)(hnx:0≤next∧next≤1000000000000000)(hsz:e.kind=7→sizedB w h=true)(hed:EdOk H e s)
 (hras: ∀fr u ks',flK [] [] e.id (layKs ks)=some (fr::u,ks')→okRas fr.f)
 (hbad: ∀H',(doL w h next (layKs ks) e).1≠0→Ext H H'→R (.tuple #[.agg (docA 0 0 0 .nil),.int .i64 (doL w h next (layKs ks) e).1]) H')
 (hok: ∀K' ks' H',(doL w h next (layKs ks) e).1=0→layKs ks'=(doL w h next (layKs ks) e).2.2→St H H' (resG K' ks')→R (.tuple #[.agg (docA w h (doL w h next (layKs ks) e).2.1 K'),.int .i64 0]) H'):
 CallsH Tryz.prog 37 #[.agg (docA w h next K),.agg (edL e s).toArray] H R:=by
 have hlk:=len_cnt (layKs ks)
 rw[layKs_len] at hlk
 refine Tryz.s37 ?_
 unfold Tryz.S37
 refine(St.nil H).alc fun b3 H4 hs4=>hs4.alc fun b5 H6 hs6=>hs6.alc fun b7 H8 hs8=>?_
 intro J9 hJ9
 have main9: ∀(db:Nat) (K':Sl3) (ks':List T) (H11:Heap),layKs ks'=layKs ks→St H H11 (.cell db (docA w h next K') 46:: .cell b7 (docA 0 0 0 .nil) 46:: .cell b5 (edL e s).toArray 40::(resG K' ks'))→J9 [.pointer (some ⟨db,0,none⟩)] H11:=by
  intro db K' ks' H11 hlay hs11
  refine hJ9 _ _ ?_
  intro J12 hJ12
  have main12: ∀(wb rb:Nat) (H14:Heap),St H H14 (.cell wb (workL rb db e s).toArray 130:: .cell db (docA w h next K') 46:: .cell b7 (docA 0 0 0 .nil) 46:: .cell b5 (edL e s).toArray 40::(resRoot rb K' ks'))→J12 [.pointer (some ⟨wb,0,none⟩)] H14:=by
   intro wb rb H14 hs14
   refine hJ12 _ _ ?_
   refine hs14.alc fun b15 H16 hs16=>?_
   intro J17 hJ17
   have bad: ∀{v:Int} {n:Int} {x:List Lay} {H1:Heap} {τ:List Rs},doL w h next (layKs ks) e=(v,n,x)→v≠0→ ∀(i:Nat),τ[i]?=some (.cell b7 (docA 0 0 0 .nil) 46)→St H H1 τ→
    (#[Value.int .i64 0,Value.int .i64 0,Value.int .i64 0,Value.slice none 0 0].size=4∧stAt H1 ⟨b7,0,none⟩ (Array.toList #[Value.int .i64 0,Value.int .i64 0,Value.int .i64 0,Value.slice none 0 0]) fun H_36=> ∃res37:Array Value,res37.size=4∧rowIn H_36 ⟨b7,0,none⟩ res37∧R (Value.tuple #[Value.agg res37,Value.int .i64 v]) H_36):=fun{v n x H1 τ} hd hv i hi hs=>
    ⟨rfl,hs.putAll i hi rfl (docA_one 0 0 0 .nil) fun H2 hs2=>⟨docA 0 0 0 .nil,rfl,rowIn_whole (hs2.block i (by rw[List.getElem?_set_self (List.getElem?_eq_some_iff.1 hi).1];rfl)),by
     have:=hbad H2 (by rw[hd];exact hv) hs2.ext
     rw[hd] at this;exact this⟩⟩
   refine⟨_,hs16.get 4 rfl (j:=0) rfl,br_dec (fun hk=>bad (by unfold doL;rw[if_pos (.inl hk)]) (by decide) 3 rfl hs16) fun hk1=>⟨_,hs16.get 4 rfl (j:=0) rfl,br_dec (fun hk=>bad (by unfold doL;rw[if_pos (.inr hk)]) (by decide) 3 rfl hs16) fun hk2=>hJ17 _ ?_⟩⟩
   have hk1: ¬e.kind<1:=hk1
   have hk2: ¬e.kind>9:=hk2
   have hD:doL w h next (layKs ks) e=(if (stepL w h next (layKs ks) e).1≠0 then((stepL w h next (layKs ks) e).1,0,[]) else(0,nextL next e,(stepL w h next (layKs ks) e).2)):=by
    unfold doL;rw[if_neg (by omega)]
   refine⟨_,hs16.get 4 rfl (j:=0) rfl,_,rfl,?_⟩
   show 0≤(IntKind.wrap .i64 (e.kind-(1:Int)))∧_
   rw[wrap_id (n:=e.kind-1) (by omega) (by omega)]
   refine⟨by omega,by omega,kindFn e.kind,#[],#[],?_,_,rfl,rowIn_whole (hs16.block 1 rfl),?_⟩
   ·rw[Nat.mul_one,add_none,Nat.zero_add]
    exact hs16.get 0 rfl (kinds_get ⟨by omega,by omega⟩)
   show CallsH Tryz.prog (kindFn e.kind) #[.agg (workL rb db e s).toArray] H16 _
   have hs17:St H H16 (resRoot rb K' ks'++(.cell db (docA w h next K') 46:: .cell b7 (docA 0 0 0 .nil) 46:: .cell wb (workL rb db e s).toArray 130::[])):=by
    have h1:=St.del (St.tail hs16) 3
    exact h1.perm (permC fun _ x=>by
     show List.count x (.cell wb (workL rb db e s).toArray 130:: .cell db (docA w h next K') 46:: .cell b7 (docA 0 0 0 .nil) 46::resRoot rb K' ks')=_
     simp only[List.count_append,List.count_cons,List.count_nil];ac_rfl)
   refine edit_call ⟨by omega,by omega⟩ hs17 (by rw[hlay];exact hc) hnx hsz ⟨hed.rd,hed.shape,hed.params⟩ (by rw[hlay];exact hras) (fun H24 hne hs24=>⟨_,rfl,br_ne (fun _=>?_) fun hh=>absurd hh hne⟩) fun Kn ksn H24 h0 hl hs24=>⟨_,rfl,br_ne (fun hh=>absurd rfl hh) fun _=>?_⟩
   ·rw[hlay] at hne ⊢
    exact bad (by rw[hD,if_pos hne]) hne 0 rfl hs24
   ·rw[hlay] at h0 hl
    rw[if_neg (by rw[h0];simp)] at hD
    obtain⟨hcell,hs25⟩:=un_root hs24
    have hs26:St H H24 (.cell wb (workL rb db e s).toArray 130:: .cell db (docA w h (nextL next e) K') 46:: .cell b7 (docA 0 0 0 .nil) 46::(resG Kn ksn)):=hs25.perm (permC fun _ x=>by
     simp only[List.count_append,List.count_cons,List.count_nil];ac_rfl)
    refine⟨_,hs26.get 0 rfl (j:=0) rfl,_,rfl,_,_,_,hcell,?_⟩
    refine hs26.put 1 rfl (j:=3) (Nat.le_of_ble_eq_true rfl) rfl fun H31 hs31=>⟨docA w h (nextL next e) Kn,rfl,rowIn_whole (hs31.block 1 rfl),rfl,?_⟩
    refine hs31.putAll 2 rfl rfl (docA_one w h (nextL next e) Kn) fun H33 hs33=>⟨docA w h (nextL next e) Kn,rfl,rowIn_whole (hs33.block 2 rfl),?_⟩
    have:=hok Kn ksn H33 (by rw[hD]) (by rw[hD];exact hl) (hs33.drop 3)
    rw[hD] at this
    exact this
  have hb5: ∀{H1:Heap},Ext H11 H1→rowIn H1 ⟨b5,0,none⟩ (edL e s).toArray:=fun he=>rowAt_ext he (rowIn_whole (hs11.block 2 rfl))
  refine⟨(edL e s).toArray,rfl,hb5 (Ext.refl _),?_,?_⟩
  ·refine c67 (hs11.block 0 rfl) fun rb H43 hp43=>⟨_,rfl,.inl hp43.ext,rfl,by decide,?_⟩
   have hs43:=hs11.call hp43
   refine hs43.alcE fun b45 H46 he46 hs46=>⟨.inl he46,rfl,hs46.putAll 0 rfl rfl (workL_one rb db e s) fun H47 hs47=>main12 b45 rb H47 ?_⟩
   have h1:St H H47 (.cell rb (cellsT (rootT K' [])).toArray 118::(resG K' ks'++(.cell b45 (workL rb db e s).toArray 130:: .cell db (docA w h next K') 46:: .cell b7 (docA 0 0 0 .nil) 46:: .cell b5 (edL e s).toArray 40::[]))):=hs47.perm (permC fun _ x=>by
    show List.count x (.cell b45 (workL rb db e s).toArray 130:: .cell rb (cellsT (rootT K' [])).toArray 118:: .cell db (docA w h next K') 46:: .cell b7 (docA 0 0 0 .nil) 46:: .cell b5 (edL e s).toArray 40::(resG K' ks'))=_
    simp only[List.count_append,List.count_cons,List.count_nil];ac_rfl)
   exact(mk_root h1).perm (permC fun _ x=>by simp only[List.count_append,List.count_cons,List.count_nil];ac_rfl)
  ·refine hs11.alcE fun b50 H51 he51 hs51=>⟨.inl he51,?_⟩
   refine c67 (hs51.block 1 rfl) fun rb H53 hp53=>⟨_,rfl,.inl hp53.ext,rfl,by decide,rfl,?_⟩
   have hs53:=hs51.call hp53
   refine hs53.putAll 1 rfl rfl (workL_one rb db e s) fun H55 hs55=>main12 b50 rb H55 ?_
   have h1:St H H55 (.cell rb (cellsT (rootT K' [])).toArray 118::(resG K' ks'++(.cell b50 (workL rb db e s).toArray 130:: .cell db (docA w h next K') 46:: .cell b7 (docA 0 0 0 .nil) 46:: .cell b5 (edL e s).toArray 40::[]))):=hs55.perm (permC fun _ x=>by
    show List.count x (.cell rb (cellsT (rootT K' [])).toArray 118:: .cell b50 (workL rb db e s).toArray 130:: .cell db (docA w h next K') 46:: .cell b7 (docA 0 0 0 .nil) 46:: .cell b5 (edL e s).toArray 40::(resG K' ks'))=_
    simp only[List.count_append,List.count_cons,List.count_nil];ac_rfl)
   exact(mk_root h1).perm (permC fun _ x=>by simp only[List.count_append,List.count_cons,List.count_nil];ac_rfl)
 refine⟨_,hs8.get 2 rfl (j:=0) rfl,_,hs8.get 2 rfl (j:=1) rfl,_,hs8.get 2 rfl (j:=2) rfl,_,_,_,hs8.get 2 rfl (j:=3) rfl,?_,?_⟩
 ·refine c66 (K:=K) (hg.ext hs8.ext) hokl (by omega) fun K' ks' H63 hlay hp63=>⟨_,_,_,rfl,.inl hp63.ext,?_⟩
  have hs63:=hs8.callR hp63
  refine hs63.alcE fun b65 H66 he66 hs66=>⟨.inl he66,rfl,hs66.putAll 0 rfl rfl (docA_one w h next K') fun H67 hs67=>main9 b65 K' ks' H67 hlay ?_⟩
  exact(St.del hs67 3)
 ·refine hs8.alcE fun b74 H75 he75 hs75=>⟨.inl he75,?_⟩
  refine c66 (K:=K) (hg.ext hs75.ext) hokl (by omega) fun K' ks' H77 hlay hp77=>⟨_,_,_,rfl,.inl hp77.ext,rfl,?_⟩
  have hs77:=hs75.callR hp77
  refine hs77.putAll 0 rfl rfl (docA_one w h next K') fun H79 hs79=>main9 b74 K' ks' H79 hlay ?_
  exact(St.del hs79 3)
end Go.Proofs
namespace Go.Proofs
open Go.Sh
structure DocL where
 w:Int
 h:Int
 next:Int
 ks:List Lay
def zeroD:DocL:=⟨0,0,0,[]⟩
def doD(D:DocL)(e:Ed):Int×DocL:=if (doL D.w D.h D.next D.ks e).1≠0 then((doL D.w D.h D.next D.ks e).1,zeroD) else(0,⟨D.w,D.h,(doL D.w D.h D.next D.ks e).2.1,(doL D.w D.h D.next D.ks e).2.2⟩)
def oneM:M6:=⟨65536,0,0,65536,0,0⟩
structure goodF(w h next:Int)(f:LayF):Prop where
 id:1≤f.id∧f.id<next
 kind:0≤f.kind∧f.kind≤2
 opacity:0≤f.opacity∧f.opacity≤255
 mode:0≤f.mode∧f.mode≤11
 maskLen:f.mask=[]∨(f.mask.length:Int)=w*h
 maskV: ∀c∈f.mask,c=0∨c=255
 bare:f.kind≠0→f.w=0∧f.h=0∧f.p=[]∧f.map=oneM∧f.smooth=false
 plain:f.kind≠2→f.table=2∧f.params=[]
 adj:f.kind=2→f.mode=0
 ras:f.kind=0→sizedB f.w f.h=true∧(f.p.length:Int)=f.w*f.h∧f.p.all pixelB=true∧(backM f.map).1=0
 tab:tabB f.table f.params=true
mutual
def gT(G:LayF→Prop):Lay→Prop
 | .mk f ks=>G f∧(f.kind=1∨ks=[])∧gKs G ks
def gKs(G:LayF→Prop):List Lay→Prop
 |[]=>True
 |t::ts=>gT G t∧gKs G ts
end
mutual
def idsT:Lay→List Int
 | .mk f ks=>f.id::idsKs ks
def idsKs:List Lay→List Int
 |[]=>[]
 |t::ts=>idsT t++idsKs ts
end
structure Inv(D:DocL):Prop where
 size:sizedB D.w D.h=true
 next:1≤D.next
 cnt:cntKs D.ks≤4096
 dep:depKs D.ks≤64
 ids:(idsKs D.ks).Nodup
 good:gKs (goodF D.w D.h D.next) D.ks
variable {G:LayF→Prop}
theorem gKs_app{a b:List Lay}:gKs G (a++b)↔gKs G a∧gKs G b:=by
 induction a with
 |nil=>simp[gKs]
 |cons t a ih=>rw[List.cons_append,gKs,ih,gKs,and_assoc]
theorem gKs_iff{ts:List Lay}:gKs G ts↔ ∀t∈ts,gT G t:=by
 induction ts with
 |nil=>simp[gKs]
 |cons t ts ih=>rw[gKs,ih,List.forall_mem_cons]
theorem gT_imp{G':LayF→Prop}(h: ∀f,G f→G' f): ∀t,gT G t→gT G' t:=Lay.ind fun f ks ih hg=>by
 rw[gT] at hg ⊢
 exact⟨h f hg.1,hg.2.1,gKs_iff.2 fun t ht=>ih t ht (gKs_iff.1 hg.2.2 t ht)⟩
theorem gKs_imp{G':LayF→Prop}(h: ∀f,G f→G' f){ts:List Lay}(hg:gKs G ts):gKs G' ts:=gKs_iff.2 fun t ht=>gT_imp h t (gKs_iff.1 hg t ht)
def gUp(G:LayF→Prop):List FrL→Prop
 |[]=>True
 |fr::u=>gKs G fr.pre∧gKs G fr.post∧G fr.f∧fr.f.kind=1∧gUp G u
theorem g_unplug: ∀{u:List FrL} {ks:List Lay},gKs G (plugL u ks)→ks≠[]→gUp G u∧gKs G ks
 |[],ks,h,_=>⟨trivial,h⟩
 |fr::u,ks,h,hne=>by
  rw[plugL] at h
  obtain⟨h1,h2⟩:=g_unplug h (by simp)
  rw[gKs_app,gKs,gT] at h2
  refine⟨⟨h2.1,h2.2.2,h2.2.1.1,?_,h1⟩,h2.2.1.2.2⟩
  rcases h2.2.1.2.1 with h|h
  ·exact h
  ·exact absurd h hne
theorem g_plug: ∀{u:List FrL} {ks:List Lay},gUp G u→gKs G ks→gKs G (plugL u ks)
 |[],ks,_,h=>h
 |fr::u,ks,hu,h=>by
  rw[plugL]
  refine g_plug hu.2.2.2.2 ?_
  rw[gKs_app,gKs,gT]
  exact⟨hu.1,⟨hu.2.2.1,.inl hu.2.2.2.1,h⟩,hu.2.1⟩
theorem g_node{fr:FrL}{u:List FrL}{ks:List Lay}(h:gKs G (plugL (fr::u) ks)):gUp G u∧gKs G fr.pre∧gT G (.mk fr.f ks)∧gKs G fr.post:=by
 rw[plugL] at h
 obtain⟨h1,h2⟩:=g_unplug h (by simp)
 rw[gKs_app,gKs] at h2
 exact⟨h1,h2.1,h2.2.1,h2.2.2⟩
theorem g_set{fr:FrL}{u:List FrL}{ks:List Lay}(h1:gUp G u)(h2:gKs G fr.pre)(h3:gT G (.mk fr.f ks))(h4:gKs G fr.post):gKs G (plugL (fr::u) ks):=by
 rw[plugL]
 refine g_plug h1 ?_
 rw[gKs_app,gKs]
 exact⟨h2,h3,h4⟩
def idsUp:List FrL→List Int
 |[]=>[]
 |fr::u=>fr.f.id::(idsKs fr.pre++idsKs fr.post++idsUp u)
theorem idsKs_app(a b:List Lay):idsKs (a++b)=idsKs a++idsKs b:=by
 induction a with
 |nil=>simp[idsKs]
 |cons t a ih=>rw[List.cons_append,idsKs,ih,idsKs,List.append_assoc]
theorem ids_plug: ∀(u:List FrL) (ks:List Lay),(idsKs (plugL u ks)).Perm (idsKs ks++idsUp u)
 |[],ks=>by rw[idsUp,List.append_nil];exact List.Perm.refl _
 |fr::u,ks=>by
  rw[plugL]
  refine(ids_plug u _).trans (List.perm_iff_count.2 fun x=>?_)
  simp only[idsKs_app,idsKs,idsT,idsUp,List.count_append,List.count_cons]
  ac_rfl
def depUp:List FrL→Nat→Nat
 |[],d=>d
 |fr::u,d=>depUp u (max (depKs fr.pre) (max (1+d) (depKs fr.post)))
theorem dep_plug: ∀(u:List FrL) (ks:List Lay),depKs (plugL u ks)=depUp u (depKs ks)
 |[],ks=>rfl
 |fr::u,ks=>by rw[plugL,dep_plug u,depKs_app,depKs,depL,depUp]
theorem depUp_mono: ∀(u:List FrL) {d d':Nat},d≤d'→depUp u d≤depUp u d'
 |[],d,d',h=>h
 |fr::u,d,d',h=>by rw[depUp,depUp];exact depUp_mono u (by omega)
theorem fl_plug(id:Int): ∀(t:Lay) (up:List FrL) (pre post:List Lay) (z:ZL),flT up pre post id t=some z→plugL z.1 z.2=plugL up (pre++t::post)∧ ∃fr u,z.1=fr::u∧fr.f.id=id:=by
 refine Lay.ind fun f ks ih up pre post z hz=>?_
 rw[flT] at hz
 split at hz
 ·rename_i h;cases hz;exact⟨rfl,_,_,rfl,h⟩
 ·have: ∀(ts:List Lay),(∀t∈ts,t∈ks)→ ∀(u:List FrL) (pre0:List Lay),flK u pre0 id ts=some z→plugL z.1 z.2=plugL u (pre0++ts)∧ ∃fr u,z.1=fr::u∧fr.f.id=id:=by
   intro ts
   induction ts with
   |nil=>intro _ u pre0 h;rw[flK] at h;cases h
   |cons t ts ih2=>
    intro hm u pre0 h
    rw[flK] at h
    split at h
    ·rename_i z' hz'
     cases h
     exact ih t (hm t List.mem_cons_self) _ _ _ _ hz'
    ·have:=ih2 (fun t ht=>hm t (List.mem_cons_of_mem _ ht)) _ _ h
     rw[List.append_assoc] at this
     exact this
  exact this ks (fun _ h=>h) _ _ hz
theorem flK_plug{id:Int}: ∀(ts:List Lay) (up:List FrL) (pre:List Lay) (z:ZL),flK up pre id ts=some z→plugL z.1 z.2=plugL up (pre++ts)∧ ∃fr u,z.1=fr::u∧fr.f.id=id
 |[],up,pre,z,h=>by rw[flK] at h;cases h
 |t::ts,up,pre,z,h=>by
  rw[flK] at h
  split at h
  ·rename_i z' hz'
   cases h
   exact fl_plug id t _ _ _ _ hz'
  ·have:=flK_plug ts _ _ _ h
   rw[List.append_assoc] at this
   exact this
theorem fl_cases(id:Int)(D:List Lay):flK [] [] id D=none∨ ∃fr u ks,flK [] [] id D=some (fr::u,ks)∧fr.f.id=id∧plugL (fr::u) ks=D:=by
 cases h:flK [] [] id D with
 |none=>exact .inl rfl
 |some z=>
  obtain⟨h1,fr,u,h2,h3⟩:=flK_plug D _ _ z h
  obtain⟨z1,z2⟩:=z
  simp only at h2 h1
  subst h2
  exact .inr ⟨fr,u,z2,rfl,h3,h1⟩
theorem Inv.okL{w h next:Int}(hsz:sizedB w h=true): ∀t,gT (goodF w h next) t→cntL t≤1000000→okL t:=Lay.ind fun f ks ih hg hc=>by
 rw[gT] at hg
 rw[cntL] at hc
 have hlen:=len_cnt ks
 obtain⟨q1,q2,q3,q4,q5⟩:=of_decide_eq_true hsz
 rw[Go.Proofs.okL]
 refine⟨?_,?_,?_,by omega,okKs_iff.2 fun t ht=>ih t ht (gKs_iff.1 hg.2.2 t ht) (by have:=cnt_mem ht;omega)⟩
 ·by_cases hk:f.kind=0
  ·obtain⟨h1,h2,_⟩:=hg.1.ras hk
   obtain⟨_,_,_,_,h3⟩:=of_decide_eq_true h1
   omega
  ·rw[(hg.1.bare hk).2.2.1];simp
 ·rcases hg.1.maskLen with h|h
  ·rw[h];simp
  ·omega
 ·by_cases hk:f.kind=2
  ·have ht:=tabB_kind hg.1.tab
   unfold kindP at ht
   split at ht
   ·have:=of_decide_eq_true ht;omega
   ·split at ht
    ·have:=of_decide_eq_true ht;omega
    ·split at ht
     ·have:=of_decide_eq_true ht;omega
     ·split at ht
      ·have:=of_decide_eq_true ht;omega
      ·cases ht
  ·rw[(hg.1.plain hk).2];simp
theorem Inv.ok{D:DocL}(h:Inv D):okKs D.ks:=okKs_iff.2 fun t ht=>Inv.okL h.size t (gKs_iff.1 h.good t ht) (by have:=cnt_mem ht;have:=h.cnt;omega)
theorem Inv.found{D:DocL}(h:Inv D){id:Int}{fr:FrL}{u:List FrL}{ks:List Lay}(hf:flK [] [] id D.ks=some (fr::u,ks)):goodF D.w D.h D.next fr.f∧(fr.f.kind=1∨ks=[]):=by
 have hp:=(flK_plug D.ks _ _ _ hf).1
 have hg:=h.good
 have hp:plugL (fr::u) ks=D.ks:=hp
 rw[←hp] at hg
 have:=(g_node hg).2.2.1
 rw[gT] at this
 exact⟨this.1,this.2.1⟩
theorem Inv.ras{D:DocL}(h:Inv D){id:Int}{fr:FrL}{u:List FrL}{ks:List Lay}(hf:flK [] [] id D.ks=some (fr::u,ks)):okRas fr.f:=fun hk=>⟨((h.found hf).1.ras hk).1,((h.found hf).1.ras hk).2.1⟩
theorem chg_inv{D:DocL}(h:Inv D){g:LayF→Int×LayF}{id:Int}(hg: ∀f,goodF D.w D.h D.next f→(g f).1=0→goodF D.w D.h D.next (g f).2∧(g f).2.id=f.id∧(g f).2.kind=f.kind)(h0:(chgL g D.ks id).1=0):Inv ⟨D.w,D.h,D.next,(chgL g D.ks id).2⟩:=by
 rcases fl_cases id D.ks with hn|⟨fr,u,ks,hf,hid,hp⟩
 ·rw[chg_none hn] at h0;exact absurd h0 (by decide)
 ·obtain⟨g1,g2⟩:=h.found hf
  by_cases he:(g fr.f).1=0
  ·have hge:g fr.f=(0,(g fr.f).2):=Prod.ext he rfl
   have hc:=chg_ok (g:=g) hf hge
   obtain⟨k1,k2,k3⟩:=hg fr.f g1 he
   rw[hc]
   have hgd:=h.good
   have hi:=h.ids
   have hcn:=h.cnt
   have hdp:=h.dep
   rw[←hp] at hgd hi hcn hdp
   obtain⟨u1,u2,u3,u4⟩:=g_node hgd
   rw[gT] at u3
   refine⟨h.size,h.next,?_,?_,?_,?_⟩
   ·show cntKs (plugL (⟨fr.pre,(g fr.f).2,fr.post⟩::u) ks)≤4096
    rw[cnt_plug] at hcn ⊢;exact hcn
   ·show depKs (plugL (⟨fr.pre,(g fr.f).2,fr.post⟩::u) ks)≤64
    rw[dep_plug] at hdp ⊢;exact hdp
   ·refine((ids_plug _ _).nodup_iff).2 ?_
    have:=((ids_plug _ _).nodup_iff).1 hi
    rw[idsUp] at this ⊢
    rw[k2];exact this
   ·refine g_set (fr:=⟨fr.pre,(g fr.f).2,fr.post⟩) u1 u2 ?_ u4
    rw[gT]
    exact⟨k1,by rw[k3];exact u3.2.1,u3.2.2⟩
  ·have:=chg_bad (g:=g) hf (show g fr.f=((g fr.f).1,(g fr.f).2) from rfl) he
   rw[this] at h0;exact absurd h0 he
end Go.Proofs
namespace Go.Proofs
open Go.Sh
theorem look_good{w h next:Int}{e:Ed}{f:LayF}(hg:goodF w h next f)(h0:(lookF e f).1=0):goodF w h next (lookF e f).2∧(lookF e f).2.id=f.id∧(lookF e f).2.kind=f.kind:=by
 unfold lookF at h0 ⊢
 split at h0
 ·simp at h0
 ·rename_i c1
  split at h0
  ·simp at h0
  ·rename_i c2
   rw[if_neg c1,if_neg c2]
   refine⟨⟨hg.id,hg.kind,by show 0≤e.n∧e.n≤255;omega,by show 0≤e.m∧e.m≤11;omega,hg.maskLen,hg.maskV,hg.bare,hg.plain,fun hk=>?_,hg.ras,hg.tab⟩,rfl,rfl⟩
   show e.m=0
   exact Decidable.byContradiction fun hm=>c2 ⟨hk,hm⟩
theorem hide_good{w h next:Int}{e:Ed}{f:LayF}(hg:goodF w h next f)(h0:(hideF e f).1=0):goodF w h next (hideF e f).2∧(hideF e f).2.id=f.id∧(hideF e f).2.kind=f.kind:=by
 unfold hideF at h0 ⊢
 split at h0
 ·simp at h0
 ·rename_i c1
  rw[if_neg c1]
  exact⟨⟨hg.id,hg.kind,hg.opacity,hg.mode,hg.maskLen,hg.maskV,hg.bare,hg.plain,hg.adj,hg.ras,hg.tab⟩,rfl,rfl⟩
theorem paint_good{w h next:Int}{e:Ed}{f:LayF}(hg:goodF w h next f)(h0:(paintF e f).1=0):goodF w h next (paintF e f).2∧(paintF e f).2.id=f.id∧(paintF e f).2.kind=f.kind:=by
 unfold paintF at h0 ⊢
 split at h0
 ·simp at h0
 rename_i c1
 split at h0
 ·simp at h0
 rename_i c2
 split at h0
 ·simp at h0
 rename_i c3
 split at h0
 ·simp at h0
 rename_i c4
 rw[if_neg c1,if_neg c2,if_neg c3,if_neg c4]
 refine⟨⟨hg.id,hg.kind,hg.opacity,hg.mode,hg.maskLen,hg.maskV,fun hk=>absurd hk c1,hg.plain,hg.adj,fun hk=>?_,hg.tab⟩,rfl,rfl⟩
 obtain⟨r1,r2,r3,r4⟩:=hg.ras hk
 refine⟨r1,?_,?_,r4⟩
 ·show((paintP e f.w f.p).length:Int)=_
  unfold paintP;rw[List.length_map,List.length_range];exact r2
 ·show(paintP e f.w f.p).all pixelB=true
  rw[List.all_eq_true]
  intro v hv
  unfold paintP at hv
  obtain⟨q,hq,rfl⟩:=List.mem_map.1 hv
  have hql:=List.mem_range.1 hq
  split
  ·rename_i hin
   have hr:=idxP_rng hin
   have hl:(e.p.length:Int)=e.w*e.h:=Decidable.byContradiction fun hh=>c2 (.inr (.inr (.inr (.inr hh))))
   have hlt:(idxP e f.w q).toNat<e.p.length:=by omega
   rw[List.getD_eq_getElem?_getD,List.getElem?_eq_getElem hlt]
   have hc3:e.p.any (fun v=> !pixelB v)=false:=by simpa using c3
   have:=List.any_eq_false.1 hc3 _ (List.getElem_mem hlt)
   simpa using this
  ·rw[List.getD_eq_getElem?_getD,List.getElem?_eq_getElem hql]
   exact List.all_eq_true.1 r3 _ (List.getElem_mem hql)
theorem mask_good{w h next:Int}(hsz:sizedB w h=true){e:Ed}{f:LayF}(hg:goodF w h next f)(h0:(maskF w h e f).1=0):goodF w h next (maskF w h e f).2∧(maskF w h e f).2.id=f.id∧(maskF w h e f).2.kind=f.kind:=by
 obtain⟨q1,q2,q3,q4,q5⟩:=of_decide_eq_true hsz
 have hpos:0≤w*h:=Int.mul_nonneg (by omega) (by omega)
 unfold maskF at h0 ⊢
 split at h0
 ·simp at h0
 rename_i c1
 rw[if_neg c1]
 split at h0
 ·rename_i c2
  rw[if_pos c2]
  exact⟨⟨hg.id,hg.kind,hg.opacity,hg.mode,.inl rfl,fun _ hc=>(by cases hc),hg.bare,hg.plain,hg.adj,hg.ras,hg.tab⟩,rfl,rfl⟩
 rename_i c2
 rw[if_neg c2]
 split at h0
 ·simp at h0
 rename_i c3
 rw[if_neg c3]
 refine⟨⟨hg.id,hg.kind,hg.opacity,hg.mode,.inr ?_,fun c hc=>?_,hg.bare,hg.plain,hg.adj,hg.ras,hg.tab⟩,rfl,rfl⟩
 ·show((maskL w h (fun x y=>withinB e.shape x y != (e.n==1))).length:Int)=w*h
  unfold maskL;rw[List.length_map,List.length_range];omega
 ·unfold maskL at hc
  obtain⟨q,hq,rfl⟩:=List.mem_map.1 hc
  split
  ·exact .inr rfl
  ·exact .inl rfl
theorem place_good{w h next:Int}{e:Ed}{f:LayF}(hg:goodF w h next f)(h0:(placeF e f).1=0):goodF w h next (placeF e f).2∧(placeF e f).2.id=f.id∧(placeF e f).2.kind=f.kind:=by
 unfold placeF at h0 ⊢
 split at h0
 ·simp at h0
 rename_i c1
 split at h0
 ·simp at h0
 rename_i c2
 split at h0
 ·rename_i c3;exact absurd h0 c3
 rename_i c3
 rw[if_neg c1,if_neg c2,if_neg c3]
 refine⟨⟨hg.id,hg.kind,hg.opacity,hg.mode,hg.maskLen,hg.maskV,fun hk=>absurd hk c1,hg.plain,hg.adj,fun hk=>?_,hg.tab⟩,rfl,rfl⟩
 obtain⟨r1,r2,r3,r4⟩:=hg.ras hk
 exact⟨r1,r2,r3,Decidable.byContradiction c3⟩
theorem adjust_good{w h next:Int}{e:Ed}{f:LayF}(hg:goodF w h next f)(h0:(adjustF e f).1=0):goodF w h next (adjustF e f).2∧(adjustF e f).2.id=f.id∧(adjustF e f).2.kind=f.kind:=by
 unfold adjustF at h0 ⊢
 split at h0
 ·simp at h0
 rename_i c1
 split at h0
 ·simp at h0
 rename_i c2
 rw[if_neg c1,if_neg c2]
 exact⟨⟨hg.id,hg.kind,hg.opacity,hg.mode,hg.maskLen,hg.maskV,hg.bare,fun hk=>absurd hk c1,hg.adj,hg.ras,by simpa using c2⟩,rfl,rfl⟩
theorem home_cases(D:List Lay)(to:Int){v:List FrL}{kh:List Lay}(h:homeL D to=(0,v,kh)):plugL v kh=D∧ ∀{G:LayF→Prop},gKs G D→gUp G v∧gKs G kh:=by
 unfold homeL at h
 split at h
 ·cases h;exact⟨rfl,fun hg=>⟨trivial,hg⟩⟩
 ·rcases fl_cases to D with hn|⟨fr,u,ks,hf,hid,hp⟩
  ·rw[hn] at h;cases h
  ·rw[hf] at h
   simp only at h
   split at h
   ·rename_i hk
    cases h
    refine⟨hp,fun{G} hg=>?_⟩
    rw[←hp] at hg
    obtain⟨u1,u2,u3,u4⟩:=g_node hg
    rw[gT] at u3
    exact⟨⟨u2,u4,u3.1,hk,u1⟩,u3.2.2⟩
   ·cases h
theorem home_tri{D:List Lay}{to:Int}(h:(homeL D to).1=0):homeL D to=(0,(homeL D to).2.1,(homeL D to).2.2):=by
 rw[←h]
theorem put_ok{v:List FrL}{kh:List Lay}{a:Int}{l:Lay}(h0:(putL v kh a l).1=0): ∃i,atL a kh.length=some i∧(putL v kh a l).2=plugL v (kh.take i++l::kh.drop i)∧depKs (plugL v (kh.take i++l::kh.drop i))≤64:=by
 unfold putL at h0 ⊢
 split at h0
 ·simp at h0
 ·rename_i i hi
  refine⟨i,hi,rfl,?_⟩
  simp only at h0
  split at h0
  ·simp at h0
  ·omega
theorem put_ids(v:List FrL)(kh:List Lay)(i:Nat)(l:Lay):(idsKs (plugL v (kh.take i++l::kh.drop i))).Perm (idsT l++idsKs (plugL v kh)):=by
 refine(ids_plug _ _).trans ?_
 refine List.Perm.trans ?_ (List.Perm.append_left _ (ids_plug v kh).symm)
 refine List.perm_iff_count.2 fun x=>?_
 have h:=idsKs_app (kh.take i) (kh.drop i)
 rw[List.take_append_drop] at h
 rw[h]
 simp only[idsKs_app,idsKs,List.count_append]
 ac_rfl
theorem put_cnt(v:List FrL)(kh:List Lay)(i:Nat)(l:Lay):cntKs (plugL v (kh.take i++l::kh.drop i))=cntL l+cntKs (plugL v kh):=by
 rw[cnt_plug,cnt_plug,cntKs_app,cntKs]
 have h:=cntKs_app (kh.take i) (kh.drop i)
 rw[List.take_append_drop] at h
 omega
theorem put_g{G:LayF→Prop}{v:List FrL}{kh:List Lay}{i:Nat}{l:Lay}(h1:gUp G v)(h2:gKs G kh)(h3:gT G l):gKs G (plugL v (kh.take i++l::kh.drop i)):=by
 refine g_plug h1 ?_
 have h:=gKs_app (G:=G) (a:=kh.take i) (b:=kh.drop i)
 rw[List.take_append_drop] at h
 rw[gKs_app,gKs]
 exact⟨(h.1 h2).1,h3,(h.1 h2).2⟩
theorem ids_lt{w h next:Int}: ∀t,gT (goodF w h next) t→ ∀x∈idsT t,1≤x∧x<next:=Lay.ind fun f ks ih hg x hx=>by
 rw[gT] at hg
 rw[idsT] at hx
 rcases List.mem_cons.1 hx with rfl|hx
 ·exact hg.1.id
 ·have: ∀(ts:List Lay),(∀t∈ts,t∈ks)→x∈idsKs ts→1≤x∧x<next:=by
   intro ts
   induction ts with
   |nil=>intro _ h;cases h
   |cons t ts ih2=>
    intro hm h
    rw[idsKs,List.mem_append] at h
    rcases h with h|h
    ·exact ih t (hm t List.mem_cons_self) (gKs_iff.1 hg.2.2 t (hm t List.mem_cons_self)) x h
    ·exact ih2 (fun t ht=>hm t (List.mem_cons_of_mem _ ht)) h
  exact this ks (fun _ h=>h) hx
theorem ids_ltKs{w h next:Int}: ∀{ts:List Lay},gKs (goodF w h next) ts→ ∀x∈idsKs ts,1≤x∧x<next
 |[],_,x,hx=>by cases hx
 |t::ts,hg,x,hx=>by
  rw[gKs] at hg
  rw[idsKs,List.mem_append] at hx
  rcases hx with hx|hx
  ·exact ids_lt t hg.1 x hx
  ·exact ids_ltKs hg.2 x hx
theorem good_next{w h next:Int}{f:LayF}(hg:goodF w h next f):goodF w h (next+1) f:=⟨by have:=hg.id;omega,hg.kind,hg.opacity,hg.mode,hg.maskLen,hg.maskV,hg.bare,hg.plain,hg.adj,hg.ras,hg.tab⟩
theorem pixel0:pixelB 0=true:=by decide
theorem new_good{w h next:Int}{e:Ed}(hnx:1≤next)(h1: ¬(e.n<0∨e.n>2))(h2: ¬(e.n=0∧sizedB e.w e.h=false)):goodF w h (next+1) (newL next e):=by
 refine⟨⟨hnx,by show next<next+1;omega⟩,by show 0≤e.n∧e.n≤2;omega,⟨by show(0:Int)≤255;decide,by show(255:Int)≤255;decide⟩,⟨by show(0:Int)≤0;decide,by show(0:Int)≤11;decide⟩,.inl rfl,fun _ hc=>(by cases hc),fun hk=>?_,fun _=>⟨rfl,rfl⟩,fun _=>rfl,fun hk=>?_,by show tabB 2 []=true;decide⟩
 ·have hk:e.n≠0:=hk
  unfold newL;rw[if_neg hk,if_neg hk,if_neg hk];exact⟨rfl,rfl,rfl,rfl,rfl⟩
 ·have hk:e.n=0:=hk
  have hsz:sizedB e.w e.h=true:=by
   cases hs:sizedB e.w e.h with
   |true=>rfl
   |false=>exact absurd ⟨hk,hs⟩ h2
  obtain⟨q1,q2,q3,q4,q5⟩:=of_decide_eq_true hsz
  have hpos:0≤e.w*e.h:=Int.mul_nonneg (by omega) (by omega)
  unfold newL
  rw[if_pos hk,if_pos hk,if_pos hk]
  refine⟨hsz,by rw[List.length_replicate];exact Int.toNat_of_nonneg hpos,?_,show(backM oneM).1=0 from by decide⟩
  rw[List.all_eq_true]
  intro v hv
  rw[(List.mem_replicate.1 hv).2]
  exact pixel0
theorem add_inv{D:DocL}(h:Inv D){e:Ed}(h0:(addL D.next D.ks e).1=0):Inv ⟨D.w,D.h,D.next+1,(addL D.next D.ks e).2⟩:=by
 unfold addL at h0 ⊢
 split at h0
 ·simp at h0
 rename_i c1
 split at h0
 ·simp at h0
 rename_i c2
 split at h0
 ·rename_i c3;exact absurd h0 c3
 rename_i c3
 split at h0
 ·rename_i c4;exact absurd h0 c4
 rename_i c4
 split at h0
 ·simp at h0
 rename_i c5
 rw[if_neg c1,if_neg c2,if_neg c3,if_neg c4,if_neg c5]
 have hho:=home_tri (Decidable.byContradiction c3)
 obtain⟨hp,hgu⟩:=home_cases D.ks e.to hho
 obtain⟨i,hi,hpu,hdp⟩:=put_ok (Decidable.byContradiction c4)
 obtain⟨g1,g2⟩:=hgu (gKs_imp (fun f=>good_next) h.good)
 rw[hpu]
 refine⟨h.size,by have:=h.next;show 1≤D.next+1;omega,?_,hdp,?_,?_⟩
 ·show cntKs (plugL _ _)≤4096
  rw[put_cnt,hp,cntL,cntKs];omega
 ·refine((put_ids _ _ i _).nodup_iff).2 ?_
  rw[hp,idsT,idsKs]
  show((newL D.next e).id::([]++idsKs D.ks)).Nodup
  rw[List.nil_append,List.nodup_cons]
  exact⟨fun hm=>by
   have h1:=(ids_ltKs h.good _ hm).2
   have h2:(newL D.next e).id=D.next:=rfl
   omega,h.ids⟩
 ·refine put_g g1 g2 ?_
  rw[gT]
  exact⟨new_good h.next c1 c2,.inr rfl,trivial⟩
theorem out_inv{D:DocL}(h:Inv D){id:Int}{fr:FrL}{u:List FrL}{ks:List Lay}(hf:flK [] [] id D.ks=some (fr::u,ks)):
 Inv ⟨D.w,D.h,D.next,plugL u (fr.pre++fr.post)⟩∧gT (goodF D.w D.h D.next) (.mk fr.f ks)∧(idsT (.mk fr.f ks)++idsKs (plugL u (fr.pre++fr.post))).Nodup∧cntL (.mk fr.f ks)+cntKs (plugL u (fr.pre++fr.post))=cntKs D.ks:=by
 have hp:plugL (fr::u) ks=D.ks:=(flK_plug D.ks _ _ _ hf).1
 have hgd:=h.good
 have hi:=h.ids
 have hcn:=h.cnt
 have hdp:=h.dep
 rw[←hp] at hgd hi hcn hdp
 obtain⟨u1,u2,u3,u4⟩:=g_node hgd
 have hids:(idsKs (plugL (fr::u) ks)).Perm (idsT (.mk fr.f ks)++idsKs (plugL u (fr.pre++fr.post))):=by
  refine(ids_plug _ _).trans (List.Perm.trans ?_ (List.Perm.append_left _ (ids_plug u _).symm))
  refine List.perm_iff_count.2 fun x=>?_
  simp only[idsUp,idsT,idsKs_app,List.count_append,List.count_cons]
  ac_rfl
 have hno:=(hids.nodup_iff).1 hi
 have hct:cntL (.mk fr.f ks)+cntKs (plugL u (fr.pre++fr.post))=cntKs D.ks:=by
  rw[←hp,cnt_plug,cnt_plug,cntUp,cntKs_app,cntL];omega
 refine⟨⟨h.size,h.next,by have:=h.cnt;show cntKs (plugL u (fr.pre++fr.post))≤4096;omega,?_,(List.nodup_append.1 hno).2.1,?_⟩,u3,hno,hct⟩
 ·show depKs (plugL u (fr.pre++fr.post))≤64
  rw[dep_plug] at hdp ⊢
  refine Nat.le_trans ?_ hdp
  rw[depUp,depKs_app]
  exact depUp_mono u (by omega)
 ·exact g_plug u1 (gKs_app.2 ⟨u2,u4⟩)
theorem move_inv{D:DocL}(h:Inv D){e:Ed}(h0:(moveL D.ks e).1=0):Inv ⟨D.w,D.h,D.next,(moveL D.ks e).2⟩:=by
 rcases fl_cases e.id D.ks with hn|⟨fr,u,ks,hf,hid,hp⟩
 ·unfold moveL at h0;rw[hn] at h0;simp at h0
 ·obtain⟨o1,o2,o3,o4⟩:=out_inv h hf
  unfold moveL at h0 ⊢
  rw[hf] at h0 ⊢
  simp only at h0 ⊢
  split at h0
  ·rename_i c;exact absurd h0 c
  rename_i c1
  split at h0
  ·simp at h0
  rename_i c2
  split at h0
  ·rename_i c;exact absurd h0 c
  rename_i c3
  rw[if_neg c1,if_neg c2,if_neg c3]
  have hho:=home_tri (Decidable.byContradiction c3)
  obtain⟨hp2,hgu⟩:=home_cases _ e.to hho
  obtain⟨i,hi,hpu,hdp⟩:=put_ok h0
  obtain⟨g1,g2⟩:=hgu o1.good
  rw[hpu]
  refine⟨h.size,h.next,?_,hdp,?_,put_g g1 g2 o2⟩
  ·show cntKs (plugL _ _)≤4096
   have:=h.cnt
   rw[put_cnt,hp2];omega
  ·refine((put_ids _ _ i _).nodup_iff).2 ?_
   rw[hp2];exact o3
theorem do_inv{D:DocL}(h:Inv D){e:Ed}(h0:(doD D e).1=0):Inv (doD D e).2:=by
 unfold doD at h0 ⊢
 by_cases hd:(doL D.w D.h D.next D.ks e).1≠0
 ·rw[if_pos hd] at h0;exact absurd h0 hd
 rw[if_neg hd]
 unfold doL at hd ⊢
 by_cases hk:e.kind<1∨e.kind>9
 ·rw[if_pos hk] at hd;simp at hd
 rw[if_neg hk] at hd ⊢
 by_cases hs:(stepL D.w D.h D.next D.ks e).1≠0
 ·rw[if_pos hs] at hd;exact absurd hs hd
 rw[if_neg hs]
 have hs:=Decidable.byContradiction hs
 show Inv ⟨D.w,D.h,nextL D.next e,(stepL D.w D.h D.next D.ks e).2⟩
 unfold stepL at hs ⊢
 by_cases k1:e.kind=1
 ·rw[if_pos k1] at hs ⊢;rw[show nextL D.next e=D.next+1 from by unfold nextL;rw[if_pos k1]];exact add_inv h hs
 rw[if_neg k1] at hs ⊢
 rw[show nextL D.next e=D.next from by unfold nextL;rw[if_neg k1]]
 by_cases k2:e.kind=2
 ·rw[if_pos k2] at hs ⊢
  rcases fl_cases e.id D.ks with hn|⟨fr,u,ks,hf,hid,hp⟩
  ·unfold removeL at hs;rw[hn] at hs;simp at hs
  ·have:=(out_inv h hf).1
   unfold removeL;rw[hf];exact this
 rw[if_neg k2] at hs ⊢
 by_cases k3:e.kind=3
 ·rw[if_pos k3] at hs ⊢;exact move_inv h hs
 rw[if_neg k3] at hs ⊢
 by_cases k4:e.kind=4
 ·rw[if_pos k4] at hs ⊢;exact chg_inv h (fun f=>paint_good) hs
 rw[if_neg k4] at hs ⊢
 by_cases k5:e.kind=5
 ·rw[if_pos k5] at hs ⊢;exact chg_inv h (fun f=>look_good) hs
 rw[if_neg k5] at hs ⊢
 by_cases k6:e.kind=6
 ·rw[if_pos k6] at hs ⊢;exact chg_inv h (fun f=>hide_good) hs
 rw[if_neg k6] at hs ⊢
 by_cases k7:e.kind=7
 ·rw[if_pos k7] at hs ⊢;exact chg_inv h (fun f=>mask_good h.size) hs
 rw[if_neg k7] at hs ⊢
 by_cases k8:e.kind=8
 ·rw[if_pos k8] at hs ⊢;exact chg_inv h (fun f=>place_good) hs
 rw[if_neg k8] at hs ⊢
 by_cases k9:e.kind=9
 ·rw[if_pos k9] at hs ⊢;exact chg_inv h (fun f=>adjust_good) hs
 ·rw[if_neg k9] at hs;simp at hs
theorem new_inv{w h:Int}(hs:sizedB w h=true):Inv ⟨w,h,1,[]⟩:=⟨hs,Int.le_refl _,by simp[cntKs],by simp[depKs],by simp[idsKs],trivial⟩
theorem do_next{D:DocL}{e:Ed}(h0:(doD D e).1=0):D.next≤(doD D e).2.next∧(doD D e).2.next≤D.next+1∧(doD D e).2.w=D.w∧(doD D e).2.h=D.h:=by
 unfold doD at h0 ⊢
 by_cases hd:(doL D.w D.h D.next D.ks e).1≠0
 ·rw[if_pos hd] at h0;exact absurd h0 hd
 rw[if_neg hd]
 unfold doL at hd ⊢
 by_cases hk:e.kind<1∨e.kind>9
 ·rw[if_pos hk] at hd;simp at hd
 rw[if_neg hk] at hd ⊢
 by_cases hs:(stepL D.w D.h D.next D.ks e).1≠0
 ·rw[if_pos hs] at hd;exact absurd hs hd
 rw[if_neg hs]
 refine⟨?_,?_,rfl,rfl⟩<;>(show _;unfold nextL;split<;>simp<;>omega)
end Go.Proofs
namespace Go.Proofs
open Go.Sh
variable {H0 H:Heap} {σ:List Rs} {R:Value→Heap→Prop}
def DocR(H:Heap)(A:Array Value)(D:DocL):Prop:= ∃K ks,A=docA D.w D.h D.next K∧grp H K ks∧layKs ks=D.ks
theorem DocR.ext{H H':Heap}{A:Array Value}{D:DocL}(h:DocR H A D)(he:Ext H H'):DocR H' A D:=let ⟨K,ks,h1,h2,h3⟩:=h;⟨K,ks,h1,h2.ext he,h3⟩
theorem DocR.size{H:Heap}{A:Array Value}{D:DocL}(h:DocR H A D):A.size=4:=by obtain⟨K,ks,rfl,_⟩:=h;rfl
theorem DocR.one{H:Heap}{A:Array Value}{D:DocL}(h:DocR H A D): ∀v∈A.toList,v.oneCell'=true:=by obtain⟨K,ks,rfl,_⟩:=h;exact docA_one _ _ _ _
theorem DocR.zero(H:Heap):DocR H (docA 0 0 0 .nil) zeroD:=⟨.nil,[],rfl,grp.nil H,rfl⟩
theorem DocR.new(H:Heap)(w h:Int):DocR H (docA w h 1 .nil) ⟨w,h,1,[]⟩:=⟨.nil,[],rfl,grp.nil H,rfl⟩
theorem c10{A:Array Value}{D:DocL}(hd:DocR H A D)(hc:cntKs D.ks≤1000000000)(hR: ∀H',Ext H H'→R (.int .i64 (cntKs D.ks)) H'):CallsH Tryz.prog 10 #[.agg A] H R:=by
 obtain⟨K,ks,rfl,hg,hl⟩:=hd
 refine Tryz.s10 ?_
 unfold Tryz.S10
 refine(St.nil H).alcE fun b2 H3 he3 hs3=>⟨_,_,_,hs3.get 0 rfl (j:=3) rfl,?_⟩
 refine c26 (K:=K) (hg.ext he3) (by rw[hl];omega) fun H6 he6=>⟨_,rfl,?_⟩
 rw[hl];exact hR H6 (he3.trans he6)
def parentL(D:List Lay)(id:Int):Int×Int×Bool:=
 match flK [] [] id D with
 |some (fr::u,_)=>(match u with|[]=>0|fp::_=>fp.f.id,fr.pre.length,true)
 |_=>(0,0,false)
def zeroF:LayF:=⟨0,0,false,0,0,0,0,[],[],⟨0,0,0,0,0,0⟩,false,0,[]⟩
def findL(D:List Lay)(id:Int):Option Lay:=
 match flK [] [] id D with
 |some (fr::_,ks)=>some (.mk fr.f ks)
 |_=>none
theorem rd_root{K:Sl3}{ks:List T}(hg:grp H K ks):rdT H (rootT K ks):=by
 unfold rootT
 rw[rdT]
 exact⟨⟨rfl,fun i v h=>by simp[rootF,ints] at h⟩,⟨rfl,fun i v h=>by simp[rootF,kints] at h⟩,⟨rfl,fun i v h=>by simp[rootF,ints] at h⟩,hg⟩
theorem fz_rd(id:Int): ∀(t:T) {H:Heap} (up:List Fr) (K:Sl3) (pre post:List T) (z:Z),grp H K (pre++t::post)→fzT up K pre post id t=some z→(∃fr u,z.1=fr::u∧ ∃a,fr.ad=some a∧rowIn H a (cellsT (fr.node z.2.1 z.2.2)).toArray∧rdT H (fr.node z.2.1 z.2.2))∧
 (∀(fp:Fr) (up':List Fr) (ap:Addr) (Kp:Sl3) (ksp:List T),up=fp::up'→fp.ad=some ap→rowIn H ap (cellsT (fp.node Kp ksp)).toArray→ ∃fr fq u,z.1=fr::fq::u∧ ∃aq Kq ksq,fq.ad=some aq∧rowIn H aq (cellsT (fq.node Kq ksq)).toArray):=by
 refine T.ind fun f P M A K' ks ih {H} up K pre post z hg hz=>?_
 obtain⟨a,h1,h2,h3⟩:=hg.get (i:=pre.length) (t:= .mk f P M A K' ks) (by rw[List.getElem?_append_right (Nat.le_refl _),Nat.sub_self];rfl)
 have had:(⟨K,pre,f,P,M,A,post⟩:Fr).ad=some (a.add (pre.length*19)):=by unfold Fr.ad;rw[h1];rfl
 rw[fzT] at hz
 split at hz
 ·cases hz
  exact⟨⟨_,_,rfl,_,had,h2,h3⟩,fun fp up' ap Kp ksp hup hap hrow=>⟨_,fp,up',by rw[hup],ap,Kp,ksp,hap,hrow⟩⟩
 ·have: ∀(ts done:List T),ks=done++ts→ ∀(u:List Fr),fzK (⟨K,pre,f,P,M,A,post⟩::up) K' done id ts=some z→(∃fr u,z.1=fr::u∧ ∃a,fr.ad=some a∧rowIn H a (cellsT (fr.node z.2.1 z.2.2)).toArray∧rdT H (fr.node z.2.1 z.2.2))∧
   ∃fr fq u,z.1=fr::fq::u∧ ∃aq Kq ksq,fq.ad=some aq∧rowIn H aq (cellsT (fq.node Kq ksq)).toArray:=by
   intro ts
   induction ts with
   |nil=>intro done _ u h;rw[fzK] at h;cases h
   |cons t ts ih2=>
    intro done hd u h
    rw[fzK] at h
    split at h
    ·rename_i z' hz'
     cases h
     obtain⟨g1,g2⟩:=ih t (by rw[hd];simp) _ _ _ _ _ (by rw[←hd];exact rdT.grp h3) hz'
     exact⟨g1,g2 _ _ _ K' ks rfl had h2⟩
    ·exact ih2 (done++[t]) (by rw[hd];simp) u h
  obtain⟨g1,g2⟩:=this ks [] rfl [] hz
  exact⟨g1,fun _ _ _ _ _ _ _ _=>g2⟩
theorem fzK_rd {id : Int} : ∀ (ts : List T) {H : Heap} (up : List Fr) (K : Sl3) (pre : List T) (z : Z), grp H K (pre ++ ts) → fzK up K pre id ts = some z → (∃ fr u, z.1 = fr :: u ∧ ∃ a, fr.ad = some a ∧ rowIn H a (cellsT (fr.node z.2.1 z.2.2)).toArray ∧ rdT H (fr.node z.2.1 z.2.2)) ∧
    (∀ (fp : Fr) (up' : List Fr) (ap : Addr) (Kp : Sl3) (ksp : List T), up = fp :: up' → fp.ad = some ap → rowIn H ap (cellsT (fp.node Kp ksp)).toArray → ∃ fr fq u, z.1 = fr :: fq :: u ∧ ∃ aq Kq ksq, fq.ad = some aq ∧ rowIn H aq (cellsT (fq.node Kq ksq)).toArray)
  | [], H, up, K, pre, z, _, h => by rw [fzK] at h; cases h
  | t :: ts, H, up, K, pre, z, hg, h => by
    rw [fzK] at h
    split at h
    · rename_i z' hz'
      cases h
      exact fz_rd id t _ _ _ _ _ hg hz'
    · exact fzK_rd ts up K (pre ++ [t]) z (by rw [List.append_assoc]; exact hg) h
theorem root_find{b:Nat}{K:Sl3}{ks:List T}{H1:Heap}(hg:grp H K ks)(he:Ext H H1)(hb:H1[b]?=some (.cells (cellsT (rootT K [])).toArray 118)){id:Int}(hc:cntKs (layKs ks)≤1000000000)
 (hR: ∀H',Ext H1 H'→(∀z,fzK [rootFr b] K [] id ks=some z→(resZ (some z)).1≠none)→
  R (.tuple #[.pointer (resZ (fzK [rootFr b] K [] id ks)).1,.pointer (resZ (fzK [rootFr b] K [] id ks)).2.1,.int .i64 (resZ (fzK [rootFr b] K [] id ks)).2.2]) H'):CallsH Tryz.prog 119 #[.pointer (some ⟨b,0,none⟩),.int .i64 id] H1 R:=
 c119 (rootT K ks) (fr:=rootFr b) (up:=[]) (root_ad b) (rowIn_whole hb) (rd_root (hg.ext he)) (by show cntKs (layKs ks)≤_;omega) hR
theorem c134{A:Array Value}{D:DocL}{id:Int}(hd:DocR H A D)(hc:cntKs D.ks≤1000000000)(hR: ∀H',Ext H H'→R (.tuple #[.int .i64 (parentL D.ks id).1,.int .i64 (parentL D.ks id).2.1,.bool (parentL D.ks id).2.2]) H'):CallsH Tryz.prog 134 #[.agg A,.int .i64 id] H R:=by
 obtain⟨K,ks,rfl,hg,hl⟩:=hd
 rw[←hl] at hc hR
 refine Tryz.s134 ?_
 unfold Tryz.S134
 refine(St.nil H).alc fun b3 H4 hs4=>?_
 refine c67 (hs4.block 0 rfl) fun rb H6 hp6=>⟨_,rfl,?_⟩
 have he6:=hs4.ext.trans hp6.ext
 refine root_find hg he6 (hp6.block 0 rfl) hc fun H9 he9 hne=>⟨_,_,_,rfl,?_⟩
 have he:=he6.trans he9
 rcases find_cases rb K ks id with ⟨hz,hf⟩|⟨fr,u,K',ks',hz,hid,hf⟩
 ·rw[hz]
  have hpl:parentL (layKs ks) id=(0,0,false):=by unfold parentL;rw[hf]
  have:=hR H9 he
  rw[hpl] at this
  exact br_t rfl this
 ·obtain⟨g1,g2⟩:=fzK_rd ks _ _ _ _ (hg.ext he) hz
  obtain⟨fr',fq,u',hz1,aq,Kq,ksq,haq,hrq⟩:=g2 (rootFr rb) [] ⟨rb,0,none⟩ K ks rfl (root_ad rb) (rowAt_ext he9 (rowIn_whole (hp6.block 0 rfl)))
  obtain⟨fr2,u2,hz2,a2,ha2,hr2,_⟩:=g1
  simp only at hz1 hz2
  rw[hz1] at hz2
  cases hz2
  have hfr:fr'=fr:=by simp only[List.cons.injEq] at hz1;exact hz1.1.symm
  subst hfr
  have hu:u++[rootFr rb]=fq::u':=by simp only[List.cons.injEq] at hz1;exact hz1.2
  have hpl:parentL (layKs ks) id=(fq.f.id,((fr'.pre.length:Nat):Int),true):=by
   unfold parentL
   rw[hf]
   cases u with
   |nil=>
    simp only[List.nil_append,List.cons.injEq] at hu
    rw[←hu.1]
    show((0:Int),(((layKs fr'.pre).length:Nat):Int),true)=_
    rw[layKs_len];rfl
   |cons x u=>
    simp only[List.cons_append,List.cons.injEq] at hu
    rw[←hu.1]
    show(x.f.id,(((layKs fr'.pre).length:Nat):Int),true)=_
    rw[layKs_len]
  have:=hR H9 he
  rw[hpl] at this
  rw[hz,hz1]
  refine br_f (by show Option.isNone fr'.ad=false;rw[ha2];rfl) ⟨aq,haq,fq.f.id,hrq 0 _ rfl,this⟩
def LayR(H:Heap)(A:Array Value)(l:Lay):Prop:= ∃t,A=(cellsT t).toArray∧rdT H t∧layT t=l
theorem LayR.ext{H H':Heap}{A:Array Value}{l:Lay}(h:LayR H A l)(he:Ext H H'):LayR H' A l:=let ⟨t,h1,h2,h3⟩:=h;⟨t,h1,rdT.ext he t h2,h3⟩
theorem LayR.zero(H:Heap):LayR H (cellsL zeroF Sl3.nil.v Sl3.nil.v Sl3.nil.v Sl3.nil.v).toArray (.mk zeroF []):=by
 refine⟨.mk zeroF .nil .nil .nil .nil [],rfl,?_,rfl⟩
 rw[rdT]
 exact⟨⟨rfl,fun i v h=>by simp[zeroF,ints] at h⟩,⟨rfl,fun i v h=>by simp[zeroF,kints] at h⟩,⟨rfl,fun i v h=>by simp[zeroF,ints] at h⟩,grp.nil H⟩
theorem c87{A:Array Value}{D:DocL}{id:Int}(hd:DocR H A D)(hc:cntKs D.ks≤1000000000)(hok:okKs D.ks)(hokf: ∀l,findL D.ks id=some l→okL l)
 (h0:findL D.ks id=none→ ∀H',Ext H H'→R (.tuple #[.agg (cellsL zeroF Sl3.nil.v Sl3.nil.v Sl3.nil.v Sl3.nil.v).toArray,.bool false]) H')
 (h1: ∀l,findL D.ks id=some l→ ∀t' H',layT t'=l→St H H' (resT t'++[])→R (.tuple #[.agg (cellsT t').toArray,.bool true]) H'):CallsH Tryz.prog 87 #[.agg A,.int .i64 id] H R:=by
 obtain⟨K,ks,rfl,hg,hl⟩:=hd
 rw[←hl] at hc hok hokf h0 h1
 refine Tryz.s87 ?_
 unfold Tryz.S87
 refine(St.nil H).alc fun b3 H4 hs4=>hs4.alc fun b5 H6 hs6=>?_
 refine c67 (hs6.block 1 rfl) fun rb H8 hp8=>⟨_,rfl,?_⟩
 have he8:=hs6.ext.trans hp8.ext
 refine root_find hg he8 (hp8.block 0 rfl) hc fun H11 he11 hne=>⟨_,_,_,rfl,?_⟩
 have he:=he8.trans he11
 have hs11:=(hs6.step hp8.ext).step he11
 rcases find_cases rb K ks id with ⟨hz,hf⟩|⟨fr,u,K',ks',hz,hid,hf⟩
 ·rw[hz]
  have hfl:findL (layKs ks) id=none:=by unfold findL;rw[hf]
  refine br_t rfl ⟨rfl,hs11.putAll 0 rfl rfl (cellsL_one zeroF .nil .nil .nil .nil) fun H15 hs15=>⟨(cellsL zeroF Sl3.nil.v Sl3.nil.v Sl3.nil.v Sl3.nil.v).toArray,rfl,rowIn_whole (hs15.block 0 rfl),h0 hfl H15 hs15.ext⟩⟩
 ·obtain⟨⟨fr2,u2,hz2,a2,ha2,hr2,hrd2⟩,_⟩:=fzK_rd ks _ _ _ _ (hg.ext he) hz
  simp only[List.cons.injEq] at hz2
  obtain⟨rfl,_⟩:=hz2
  have hfl:findL (layKs ks) id=some (layT (fr.node K' ks')):=by unfold findL;rw[hf];rfl
  have hre:(resZ (fzK [rootFr rb] K [] id ks)).1=some a2:=by rw[hz,←ha2];cases u<;>rfl
  refine br_f (by rw[hre];rfl) ⟨a2,hre,_,rfl,hr2,?_⟩
  refine c116 (fr.node K' ks') hrd2 (hokf _ hfl) fun t' H20 hlay hs20=>⟨_,rfl,by simp[cellsT_len],?_⟩
  have hs21:=hs11.callR hs20
  refine hs21.putAll 0 rfl (by simp[cellsT_len]) (by simpa using cellsT_one t') fun H22 hs22=>⟨(cellsT t').toArray,by simp[cellsT_len],rowIn_whole (hs22.block 0 rfl),?_⟩
  have hd2:St H H22 (resT t'++[]):=by rw[List.append_nil];exact hs22.drop 2
  exact h1 _ hfl t' H22 hlay hd2
end Go.Proofs
namespace Go.Proofs
open Go.Sh
variable {H0 H:Heap} {σ:List Rs} {R:Value→Heap→Prop}
theorem M6_l{m n:M6}:m.l=n.l↔m=n:=by
 cases m;cases n;simp[M6.l]
end Go.Proofs
