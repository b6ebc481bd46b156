/-
  OWN WORK. Several texts in one: TsRight, LvC, LvD, TsRigB, LvE, EdF, EdG, EdH, EdI, EdJ, EdK, TileR, TileX, EdL.
-/
import Derived.Test.YthigcnljndbmnaaGreatMgEditorGroupsG
import Derived.Test.YthigcnljndbmnaaGreatMgEditorGroupsI
import Derived.Test.YthigcnljndbmnaaGreatMgEditorGroupsF
import Derived.Test.YthigcnljndbmnaaGreatMgEditorGroupsH
import Derived.Test.YthigcnljndbmnaaGreatMgEditorGroupsD

set_option linter.unusedVariables false
set_option linter.unusedSimpArgs false
set_option maxRecDepth 10000
namespace Go.Proofs
open Go.Sh
variable {H0 H:Heap} {σ:List Rs} {R:Value→Heap→Prop}
def _root_.Go.Sh.Rs.obj(r:Nat)(o:Obj):Rs where
 at_ H fp:=fp=[r]∧H[r]?=some o
 loc h hk:=⟨h.1,hk _ (by rw[h.1];exact List.mem_singleton.2 rfl) _ h.2⟩
 has h b hb:=by rw[h.1,List.mem_singleton] at hb;subst hb;exact lt_of_get h.2
theorem _root_.Go.Sh.St.objGet(hs:St H0 H σ)(i:Nat){r:Nat}{o:Obj}(hi:σ[i]?=some (.obj r o)):H[r]?=some o:=by
 obtain⟨_,fps,hl,_⟩:=hs
 obtain⟨fp,_,h⟩:=hl.get hi
 exact h.2
theorem _root_.Go.Sh.St.objSet(hs:St H0 H σ)(i:Nat){r:Nat}{o:Obj}(o':Obj)(hi:σ[i]?=some (.obj r o)):St H0 (H.setIfInBounds r o') (σ.set i (.obj r o')):=
 hs.upd hi fun fp h1 _ _=>⟨[r],⟨rfl,get_set_self h1.2⟩,by simp,fun x hx=> .inl (h1.1▸hx),fun x o ho hx=>get_set_ne (fun he=>hx (by rw[h1.1,he];exact List.mem_singleton.2 rfl)) ho⟩
theorem _root_.Go.Sh.St.alcO(hs:St H0 H σ){o:Obj}{K:Nat→Heap→Prop}(hK: ∀b H',St H0 H' (.obj b o::σ)→K b H'):Sh.alc H o K:=
 hK _ _ (hs.new (Ext.push _ _) (fp:=[H.size]) ⟨rfl,get_push_self _ _⟩ (by simp) (by simp))
end Go.Proofs
namespace Go.Proofs
open Go.Sh
variable {H0 H:Heap} {σ:List Rs} {R:Value→Heap→Prop}
abbrev Ent:=Ky×Sl3×Nat
def keyV(k:Ky):Value:= .agg #[.int .i64 k.1,.int .i64 k.2]
def entV(x:Ent):MapEntry:={key:=keyV x.1,val:=x.2.1.v,born:=x.2.2}
def mapO(L:List Ent)(c:Nat):Obj:= .map (L.map entV).toArray c
theorem key_form(k:Ky):kForm (.arr 2 3) (.int .i64) (keyV k):=⟨rfl,_,_,rfl⟩
theorem ent_form(L:List Ent): ∀e∈(L.map entV).toArray.toList,kForm (.arr 2 3) (.int .i64) e.key:=fun e he=>by
 simp only[List.mem_map] at he
 obtain⟨x,_,rfl⟩:=he
 exact key_form x.1
theorem kEq_key(a b:Ky):kEq (keyV a) (keyV b)=decide (a=b):=by
 obtain⟨a1,a2⟩:=a
 obtain⟨b1,b2⟩:=b
 simp only[keyV,kEq,Prod.mk.injEq,decide_true,Bool.true_and]
 by_cases h1:a1=b1<;>by_cases h2:a2=b2<;>simp[h1,h2]
theorem ent_none{k:Ky}: ∀{L:List Ent} {n:Nat},k∉L.map Prod.fst→findE (keyV k) (L.map entV) n=none
 |[],_,_=>rfl
 |x::L,n,h=>by
  rw[List.map_cons,List.mem_cons,not_or] at h
  show(if kEq (keyV k) (keyV x.1)=true then _ else findE (keyV k) (L.map entV) (n+1))=none
  rw[kEq_key,if_neg (by simpa using h.1)]
  exact ent_none h.2
theorem ent_some{x:Ent}{B:List Ent}: ∀{A:List Ent} {n:Nat},x.1∉A.map Prod.fst→findE (keyV x.1) ((A++x::B).map entV) n=some (n+A.length,x.2.1.v)
 |[],n,_=>by
  show(if kEq (keyV x.1) (keyV x.1)=true then _ else _)=_
  rw[kEq_key,if_pos (by simp)];rfl
 |y::A,n,h=>by
  rw[List.map_cons,List.mem_cons,not_or] at h
  show(if kEq (keyV x.1) (keyV y.1)=true then _ else findE (keyV x.1) ((A++x::B).map entV) (n+1))=_
  rw[kEq_key,if_neg (by simpa using h.1),ent_some h.2,List.length_cons]
  congr 2;omega
theorem ent_split{k:Ky}{L:List Ent}(hn:(L.map Prod.fst).Nodup)(h:k∈L.map Prod.fst): ∃A x B,L=A++x::B∧x.1=k∧k∉A.map Prod.fst∧k∉B.map Prod.fst:=by
 obtain⟨x,hx,rfl⟩:=List.mem_map.1 h
 obtain⟨A,B,rfl⟩:=List.append_of_mem hx
 rw[List.map_append,List.map_cons,List.nodup_append] at hn
 refine⟨A,x,B,rfl,rfl,fun hA=>hn.2.2 _ hA x.1 List.mem_cons_self rfl,fun hB=>?_⟩
 have:=hn.2.1
 rw[List.nodup_cons] at this
 exact this.1 hB
theorem ent_del{r c:Nat}{L:List Ent}{k:Ky}{f:Heap→Prop}(hn:(L.map Prod.fst).Nodup)(h:H[r]?=some (mapO L c))(hf:f (H.setIfInBounds r (mapO (L.filter fun x=>decide (x.1≠k)) c))):delQ (.arr 2 3) (.int .i64) (.map (some r)) (keyV k) H f:=by
 refine⟨r,rfl,_,_,h,key_form k,ent_form L,fun h0=>?_,fun n u h1=>?_⟩
 ·by_cases hk:k∈L.map Prod.fst
  ·obtain⟨A,x,B,rfl,rfl,hA,_⟩:=ent_split hn hk
   have:=ent_some (B:=B) (n:=0) hA
   rw[show findE (keyV x.1) ((A++x::B).map entV).toArray.toList 0=_ from this] at h0
   cases h0
  ·have e:(L.filter fun x=>decide (x.1≠k))=L:=List.filter_eq_self.2 fun x hx=>by
    rw[decide_eq_true_eq];exact fun he=>hk (he▸List.mem_map_of_mem hx)
   rw[e] at hf;exact hf
 ·by_cases hk:k∈L.map Prod.fst
  ·obtain⟨A,x,B,rfl,rfl,hA,hB⟩:=ent_split hn hk
   have:=ent_some (B:=B) (n:=0) hA
   rw[show findE (keyV x.1) ((A++x::B).map entV).toArray.toList 0=_ from this] at h1
   cases h1
   have hf1: ∀{M:List Ent},x.1∉M.map Prod.fst→(M.filter fun y=>decide (y.1≠x.1))=M:=fun{M} hM=>List.filter_eq_self.2 fun y hy=>by
    rw[decide_eq_true_eq];exact fun he=>hM (he▸List.mem_map_of_mem hy)
   have e:((A++x::B).filter fun y=>decide (y.1≠x.1))=A++B:=by
    rw[List.filter_append,hf1 hA,List.filter_cons,if_neg (by simp),hf1 hB]
   rw[e] at hf
   have e2:((A++x::B).map entV).toArray.eraseIdxIfInBounds (0+A.length)=((A++B).map entV).toArray:=by
    apply Array.toList_inj.1
    rw[Array.toList_eraseIdxIfInBounds,List.toList_toArray,List.toList_toArray,List.map_append,List.map_cons,List.map_append,Nat.zero_add]
    rw[List.eraseIdx_append_of_length_le (by rw[List.length_map];exact Nat.le_refl _),List.length_map,Nat.sub_self];rfl
   rw[e2]
   exact hf
  ·have:=ent_none (n:=0) hk
   rw[show findE (keyV k) (L.map entV).toArray.toList 0=_ from this] at h1
   cases h1
structure LvS where
 D:DocL
 ks:List Ky
 n:Int
structure LvM where
 K:Sl3
 m:Nat
 c:Nat
 L:List Ent
structure LvOk(s:LvS):Prop where
 inv:Inv s.D
 nodup:s.ks.Nodup
 keys: ∀k∈s.ks,KeyOk s.D k
 len:(s.ks.length:Int)≤s.n
def lvA(D:DocL)(K:Sl3)(m:Nat)(n:Int):Array Value:=#[.int .i64 D.w,.int .i64 D.h,.int .i64 D.next,K.v,.map (some m),.int .i64 n]
def tlRs(D:DocL)(L:List Ent):Rs:= .pers fun H=> ∀x∈L,x.2.1.l=(tileP D x.1).n∧IS H x.2.1.p x.2.1.l (ints (tileL D x.1))
def lvList(b:Nat)(s:LvS)(M:LvM):List Rs:=[.cell b (lvA s.D M.K M.m s.n) 101,.obj M.m (mapO M.L M.c),docRs (docA s.D.w s.D.h s.D.next M.K) s.D,tlRs s.D M.L]
def lvRs(b:Nat)(s:LvS):Rs:= .ex fun(M:LvM)=> .pu (M.L.map Prod.fst=s.ks) (starAll (lvList b s M))
theorem lvIn{b:Nat}{s:LvS}(M:LvM)(h:M.L.map Prod.fst=s.ks)(hs:St H0 H (lvList b s M++σ)):St H0 H (lvRs b s::σ):=
 St.inex (f:=fun(M:LvM)=> .pu (M.L.map Prod.fst=s.ks) (starAll (lvList b s M))) M (St.with h (St.packAll _ hs))
theorem lvOut{b:Nat}{s:LvS}(hs:St H0 H (lvRs b s::σ)): ∃M:LvM,M.L.map Prod.fst=s.ks∧St H0 H (lvList b s M++σ):=by
 obtain⟨M,h1⟩:=St.unex hs
 obtain⟨h2,h3⟩:=St.fact h1
 exact⟨M,h2,St.unpackAll _ h3⟩
theorem tlNil{D:DocL}(hs:St H0 H σ):St H0 H (tlRs D []::σ):=St.persOf (τ:=[]) hs fun H' _ x hx=>by cases hx
theorem tlSub{D E:DocL}{L L':List Ent}(hs:St H0 H (tlRs D L::σ))(h: ∀x∈L',x∈L∧tileL E x.1=tileL D x.1∧(tileP E x.1).n=(tileP D x.1).n):St H0 H (tlRs E L'::σ):=
 St.persOf (τ:=[tlRs D L]) hs fun H' h' x hx=>by
  obtain⟨h1,h2,h3⟩:=h x hx
  have:=h'.persGet 0 rfl x h1
  rw[h2,h3];exact this
theorem lv_row{b:Nat}{D:DocL}{K:Sl3}{m:Nat}{n:Int}(h:H[b]?=some (.cells (lvA D K m n) 101)):rowIn H ⟨b,0,none⟩ (docA D.w D.h D.next K):=
 rowIn_block h fun j v hv=>by
  rw[Nat.zero_add]
  have hj:j<4:=(Array.getElem?_eq_some_iff.1 hv).1
  match j,hj with
  |0,_=>exact hv
  |1,_=>exact hv
  |2,_=>exact hv
  |3,_=>exact hv
theorem c135{A:Array Value}{D:DocL}(hs:St H0 H σ)(hd:DocR H A D)(hi:Inv D)(hR: ∀A' H',DocR H' A' D→St H0 H' (docRs A' D::σ)→R (.agg A') H'):CallsH Tryz.prog 135 #[.agg A] H R:=by
 have hd0:=hd
 obtain⟨K,ks,rfl,hg,hlk⟩:=hd
 have hlen:ks.length≤1000000000:=by have h1:=len_cnt D.ks;have:=hi.cnt;rw[←hlk,layKs_len] at h1;rw[←hlk] at this;omega
 have hKl:=hg.1.1
 refine Tryz.s135 ?_
 unfold Tryz.S135
 refine(St.nil H).alc fun b2 H3 hs3=>hs3.alc fun b4 H5 hs5=>⟨_,hs5.get 1 rfl (j:=0) rfl,_,hs5.get 1 rfl (j:=1) rfl,_,hs5.get 1 rfl (j:=2) rfl,hs5.alc fun b9 H10 hs10=>⟨rfl,hs10.putAll 0 rfl rfl (docA_one D.w D.h D.next .nil) fun H11 hs11=>⟨K.p,K.l,K.c,hs11.get 2 rfl (j:=3) rfl,?_⟩⟩⟩
 intro X13 hX13
 have go: ∀k,k≤ks.length→ ∀(K':Sl3) (built:List T) H1,layKs built=D.ks.take k→St H H1 (.cell b9 (docA D.w D.h D.next K') 46:: .cell b2 (docA D.w D.h D.next K) 46:: .cell b4 (docA 0 0 0 .nil) 46::resG K' built)→X13 [.int .i64 (k:Nat)] H1:=by
  refine upto fun k hk ih K' built H1 hb hs1=>hX13 _ _ (br_dec (fun hlt=>?_) fun hge=>?_)
  ·have hk':k<ks.length:=by omega
   have ht:=List.getElem?_eq_getElem hk'
   generalize hte:ks[k]=t at ht
   obtain⟨a,h1,h2,h3⟩:=(hg.ext hs1.ext).get ht
   have hmem:layT t∈D.ks:=by rw[←hlk,layKs_map];exact List.mem_map_of_mem (List.mem_of_getElem? ht)
   refine⟨a,h1,by omega,hlt,(cellsT t).toArray,by simp[cellsT_len],h2,hs1.alc fun b18 H19 hs19=>⟨by simp[cellsT_len],hs19.putAll 0 rfl (by simp[cellsT_len]) (by simpa using cellsT_one t) fun H20 hs20=>⟨_,rfl,rowIn_whole (hs20.block 2 rfl),t.f.id,?_,?_⟩⟩⟩
   ·have:=hs20.get 0 rfl (j:=0) (v:= .int .i64 t.f.id) (by cases t;rfl)
    simpa using this
   refine find_st hs20 (hd0.ext hs20.ext) hi (fun hn=>?_) fun l hl B H24 hB hs24=>⟨_,_,rfl,?_⟩
   ·rw[←layT_f,find_top hi hmem] at hn;cases hn
   obtain rfl:l=layT t:=by rw[←layT_f,find_top hi hmem] at hl;cases hl;rfl
   obtain⟨t',hx1⟩:=St.unex hs24
   obtain⟨⟨rfl,hlt'⟩,hx2⟩:=St.fact hx1
   have hs24:=St.unpackAll _ hx2
   have hs24:=hs24.perm List.perm_append_comm
   refine hs24.alc fun b27 H28 hs28=>⟨by simp[cellsT_len],hs28.putAll 0 rfl (by simp[cellsT_len]) (by simpa using cellsT_one t') fun H29 hs29=>⟨K'.p,K'.l,K'.c,hs29.get 2 rfl (j:=3) rfl,_,by simp[cellsT_len],rowIn_whole (hs29.block 0 rfl),by simp[cellsT_len],by decide,?_⟩⟩
   rw[setL_all (by simp[cellsT_len])]
   have hbl:built.length=k:=by rw[←layKs_len,hb,List.length_take,←hlk,layKs_len];omega
   have hK'l:K'.l=k:=by have:=(hs29.fs 5 rfl).len;rw[cellsKs_len] at this;omega
   refine hs29.alc fun b32 H33 hs33=>hs33.appC 6 0 rfl rfl (by simp[cellsT_len]) (by simpa using cellsT_one t') (by decide) rfl (by omega) (by omega) fun p' c' H35 hs35=>?_
   refine hs35.put 3 rfl (j:=3) (Nat.le_of_ble_eq_true rfl) rfl fun H36 hs36=>?_
   rw[wrap_id (by omega) (by omega)]
   refine ih hk' ⟨p',K'.l+1,c'⟩ (built++[t']) H36 ?_ ?_
   ·rw[layKs_app,hb,List.take_add_one]
    have:D.ks[k]?=some (layT t):=by rw[←hlk,layKs_map,List.getElem?_map,ht];rfl
    rw[this,←hlt',layKs_map];rfl
   ·have e:(cellsT t').toArray.toList=cellsKs [t']:=by rw[cellsKs_one]
    rw[show cellsKs built++(cellsT t').toArray.toList=cellsKs (built++[t']) from by rw[cellsKs_app,e]] at hs36
    have this:St H H36 (.cell b9 (docA D.w D.h D.next ⟨p',K'.l+1,c'⟩) 46:: .cell b2 (docA D.w D.h D.next K) 46:: .cell b4 (docA 0 0 0 .nil) 46:: .sl p' (K'.l+1) c' 118 19 (cellsKs (built++[t']))::(resKs built++resT t')):=hs36.drop 3
    rw[←resKs_one,←resKs_app] at this
    exact this
  ·obtain rfl:k=ks.length:=by omega
   have hfull:layKs built=D.ks:=by rw[hb,List.take_of_length_le (by rw[←hlk,layKs_len];exact Nat.le_refl _)]
   refine⟨_,rfl,rowIn_whole (hs1.block 0 rfl),rfl,hs1.putAll 2 rfl rfl (docA_one _ _ _ _) fun H38 hs38=>⟨_,rfl,rowIn_whole (hs38.block 2 rfl),?_⟩⟩
   have hf:=St_docIn (H0:=H0) (σ:=σ) rfl hfull (by have:=hs.call (hs38.drop 3);exact this)
   exact hR _ _ (hf.doc 0 rfl) hf
 have hs12:St H H11 [.cell b9 (docA D.w D.h D.next .nil) 46,.cell b4 (docA 0 0 0 .nil) 46,.cell b2 (docA D.w D.h D.next K) 46]:=hs11
 exact go 0 (Nat.zero_le _) .nil [] H11 rfl ((hs12.nilSl 118 19).perm (perm4 _ _ _ _))
theorem docA_arr{H:Heap}{A:Array Value}{D:DocL}(h:DocR H A D): ∃K,A=docA D.w D.h D.next K:=let ⟨K,_,h1,_⟩:=h;⟨K,h1⟩
theorem set_call{b:Nat}{A:Array Value}{E:DocL}{c0 c1 c2 c3 c4:Value}{n:Int}(hs:St H0 H (.cell b #[c0,c1,c2,c3,c4,.int .i64 n] 101::σ))(hd:DocR H A E)(hi:Inv E)(hR: ∀H',St H0 H' (lvRs b ⟨E,[],n⟩::σ)→R (.tuple #[]) H'):CallsH Tryz.prog 90 #[.pointer (some ⟨b,0,none⟩),.agg A] H R:=by
 refine Tryz.s90 ?_
 unfold Tryz.S90
 refine hs.alcE fun b3 H4 he4 hs4=>⟨A,hd.size,rowIn_whole (hs4.block 0 rfl),c135 hs4 (hd.ext he4) hi fun A' H7 hd' hs7=>⟨_,rfl,hs7.alcO fun b9 H10 hs10=>⟨_,rfl,hd'.size,?_⟩⟩⟩
 obtain⟨K',rfl⟩:=docA_arr hd'
 refine hs10.putRow 3 rfl (j:=0) (vs:=(docA E.w E.h E.next K').toList) (Nat.le_of_ble_eq_true rfl) (docA_one _ _ _ _) fun H12 hs12=>⟨_,rfl,?_⟩
 refine hs12.put 3 rfl (j:=4) (Nat.le_of_ble_eq_true rfl) rfl fun H14 hs14=>hR H14 ?_
 have hs15:St H0 H14 (.obj b9 (mapO [] 0)::docRs (docA E.w E.h E.next K') E:: .cell b3 A 46:: .cell b (lvA E K' b9 n) 101::σ):=hs14
 have h16:=tlNil (D:=E) (hs15.del 2)
 refine lvIn ⟨K',b9,0,[]⟩ rfl (h16.perm ?_)
 exact(permC (a:=[_,_,_,_]) (b:=[_,_,_,_]) fun _ y=>by simp only[List.count_cons,List.count_nil];ac_rfl).append_right σ
theorem c59{A:Array Value}{E:DocL}(hs:St H0 H σ)(hd:DocR H A E)(hi:Inv E)(hR: ∀b H',St H0 H' (lvRs b ⟨E,[],0⟩::σ)→R (.pointer (some ⟨b,0,none⟩)) H'):CallsH Tryz.prog 59 #[.agg A] H R:=by
 refine Tryz.s59 ?_
 unfold Tryz.S59
 refine hs.alcE fun b2 H3 he3 hs3=>hs3.alcE fun b4 H5 he5 hs5=>⟨A,hd.size,rowIn_whole (hs5.block 1 rfl),?_⟩
 exact set_call hs5 (hd.ext (he3.trans he5)) hi fun H8 hs8=>⟨rfl,hR b4 H8 (hs8.del 1)⟩
theorem c90{b:Nat}{s:LvS}{A:Array Value}{E:DocL}(hs:St H0 H (lvRs b s::σ))(hd:DocR H A E)(hi:Inv E)(hR: ∀H',St H0 H' (lvRs b ⟨E,[],s.n⟩::σ)→R (.tuple #[]) H'):CallsH Tryz.prog 90 #[.pointer (some ⟨b,0,none⟩),.agg A] H R:=by
 obtain⟨M,hM,hs⟩:=lvOut hs
 have hs:St H0 H (.cell b (lvA s.D M.K M.m s.n) 101:: .obj M.m (mapO M.L M.c)::docRs (docA s.D.w s.D.h s.D.next M.K) s.D::tlRs s.D M.L::σ):=hs
 exact set_call hs hd hi fun H8 hs8=>hR H8 (((hs8.del 1).del 1).del 1)
theorem lay_hid{B:Array Value}{l:Lay}(h:LayR H B l):B[2]?=some (.bool l.f.hidden):=by
 obtain⟨t,rfl,_,rfl⟩:=h
 cases t;rfl
theorem par_gid{D:List Lay}{id:Int}{fr:FrL}{u:List FrL}{ks:List Lay}(hf:flK [] [] id D=some (fr::u,ks)):(parentL D id).1=gid u:=by
 unfold parentL;rw[hf]
 cases u<;>rfl
theorem c88{A:Array Value}{D:DocL}{id:Int}(hd:DocR H A D)(hi:Inv D)(hR: ∀H',Ext H H'→R (.bool (unseenL D.ks id)) H'):CallsH Tryz.prog 88 #[.agg A,.int .i64 id] H R:=by
 have hids:=hi.ids'
 have hcn:=hi.cnt
 refine Tryz.s88 ?_
 unfold Tryz.S88
 refine(St.nil H).alc fun b3 H4 hs4=>?_
 intro X5 hX5
 have go: ∀(z:List FrL) (id:Int) (ks:List Lay) (H1:Heap),flK [] [] id D.ks=some (z,ks)→St H H1 [.cell b3 A 46]→(∀H',Ext H H'→R (.bool (hidU z)) H')→X5 [.int .i64 id] H1:=by
  intro z
  induction z with
  |nil=>
   intro id ks H1 hf;exfalso;rcases fl_cases id D.ks with hn|⟨fr,u,ks,hf2,_⟩
   ·rw[hn] at hf;cases hf
   ·rw[hf2] at hf;cases hf
  |cons fr u ih=>
   intro id ks H1 hf hs1 hR
   obtain⟨hp,hfid⟩:plugL (fr::u) ks=D.ks∧fr.f.id=id:=by
    rcases fl_cases id D.ks with hn|⟨fr2,u2,ks2,hf2,hid2,hp2⟩
    ·rw[hn] at hf;cases hf
    ·rw[hf] at hf2;cases hf2;exact⟨hp2,hid2⟩
   have hids2:Ids (plugL (fr::u) ks):=by rw[hp];exact hids
   have hid0:id≠0:=by rw[←hfid];exact hids2.split.1
   have hfl:findL D.ks id=some (.mk fr.f ks):=by unfold findL;rw[hf]
   refine hX5 _ _ (br_ne (fun _=>⟨A,hd.size,rowIn_whole (hs1.block 0 rfl),?_⟩) fun h=>absurd h hid0)
   refine find_st hs1 (hd.ext hs1.ext) hi (fun hn=>by rw[hfl] at hn;cases hn) fun l hl B H10 hB hs10=>⟨_,_,rfl,?_⟩
   rw[hfl] at hl;cases hl
   refine hs10.alc fun b13 H14 hs14=>⟨hB.size,hs14.putAll 0 rfl hB.size hB.one fun H15 hs15=>br_f rfl ⟨fr.f.hidden,?_,br_i (fun hh=>?_) fun hh=>?_⟩⟩
   ·have:=hs15.get 0 rfl (j:=2) (v:= .bool fr.f.hidden) (lay_hid hB)
    simpa using this
   ·have:=hR H15 hs15.ext
    rw[hidU,hh] at this;exact this
   ·refine⟨A,hd.size,rowIn_whole (hs15.block 2 rfl),c134 (hd.ext hs15.ext) (by omega) fun H19 he19=>⟨_,_,_,rfl,?_⟩⟩
    rw[par_gid hf]
    have hR2: ∀H',Ext H H'→R (.bool (hidU u)) H':=fun H' he=>by have:=hR H' he;rw[hidU,hh] at this;exact this
    have h19:St H H19 [.cell b3 A 46]:=(hs15.step he19).drop 2
    cases u with
    |nil=>exact hX5 _ _ (br_ne (fun h=>absurd rfl h) fun _=>hR2 H19 h19.ext)
    |cons fp u=>
     refine ih fp.f.id (fr.pre++ .mk fr.f ks::fr.post) H19 ?_ h19 hR2
     rw[←hp]
     exact fl_at hids2
 rcases fl_cases id D.ks with hn|⟨fr,u,ks,hf,hid,hp⟩
 ·have hu:unseenL D.ks id=false:=by unfold unseenL;rw[hn]
  rw[hu] at hR
  refine hX5 _ _ (br_ne (fun _=>⟨A,hd.size,rowIn_whole (hs4.block 0 rfl),?_⟩) fun _=>hR H4 hs4.ext)
  refine find_st hs4 (hd.ext hs4.ext) hi (fun _ H10 hs10=>⟨_,_,rfl,?_⟩) fun l hl=>by unfold findL at hl;rw[hn] at hl;cases hl
  exact hs10.alc fun b13 H14 hs14=>⟨rfl,hs14.putAll 0 rfl rfl (cellsL_one _ _ _ _ _) fun H15 hs15=>br_t rfl (hR H15 hs15.ext)⟩
 ·refine go (fr::u) id ks H4 hf hs4 fun H' he=>?_
  have:=hR H' he
  rw[(found_some hf).2] at this;exact this
theorem c86{e:Ed}{s:EdS}{A:Array Value}{D:DocL}(hd:DocR H A D)(hi:Inv D)(hnx:D.next≤1000000000000000)(hR: ∀H',Ext H H'→R (.int .i64 (tgtL D e)) H'):CallsH Tryz.prog 86 #[.agg (edL e s).toArray,.agg A] H R:=by
 have h1:=hi.next
 have hA:A[2]?=some (.int .i64 D.next):=by obtain⟨K,ks,rfl,_⟩:=hd;rfl
 refine Tryz.s86 ?_
 unfold Tryz.S86
 refine(St.nil H).alc fun b3 H4 hs4=>hs4.alc fun b5 H6 hs6=>⟨e.kind,hs6.get 1 rfl (j:=0) rfl,br_eq (fun hk=>⟨D.next,hs6.get 0 rfl (j:=2) hA,?_⟩) fun hk=>⟨e.id,hs6.get 1 rfl (j:=1) rfl,?_⟩⟩
 ·have:=hR H6 hs6.ext
  unfold tgtL at this
  rw[if_pos hk] at this
  rw[wrap_id (by omega) (by omega)];exact this
 ·have:=hR H6 hs6.ext
  unfold tgtL at this
  rw[if_neg hk] at this;exact this
end Go.Proofs
namespace Go.Proofs
open Go.Sh
variable {H0 H:Heap} {σ:List Rs} {R:Value→Heap→Prop}
def LvS.tile(s:LvS)(k:Ky):LvS:=if k∈s.ks then s else⟨s.D,s.ks++[k],s.n+1⟩
def LvS.rd(s:LvS)(p:Pn)(i:Nat):LvS:=⟨s.D,readK p s.ks i,s.n+((readK p s.ks i).length-s.ks.length:Int)⟩
theorem LvOk.rd{s:LvS}(ok:LvOk s){x y w h:Int}(hp:PnOk (regP s.D x y w h)){i:Nat}(hi:i≤(regP s.D x y w h).n):LvOk (s.rd (regP s.D x y w h) i):=
 ⟨ok.inv,readK_nodup ok.nodup i,read_ok hp ok.keys hi,by have:=ok.len;show((readK _ _ _).length:Int)≤s.n+(((readK _ _ _).length:Int)-_);omega⟩
end Go.Proofs
namespace Go.Proofs
open Go.Sh
variable {H0 H:Heap} {σ:List Rs} {R:Value→Heap→Prop}
theorem cellMap{f:LayF}{P M A K:Value}{b:Nat}{ty:TypeId}(hb:H[b]?=some (.cells (cellsL f P M A K).toArray ty)):rowIn H (Addr.add ⟨b,0,none⟩ 9) (ints f.map.l).toArray:=by
 intro j v hv
 rw[List.getElem?_toArray] at hv
 have hj:j<6:=(List.getElem?_eq_some_iff.1 hv).1
 rw[add_none,add_none]
 refine cell_get hb ?_
 obtain rfl|rfl|rfl|rfl|rfl|rfl:j=0∨j=1∨j=2∨j=3∨j=4∨j=5:=by omega
 all_goals (rw[←hv];rfl)
end Go.Proofs
namespace Go.Proofs
open Go.Sh
variable {H0 H:Heap} {σ:List Rs} {R:Value→Heap→Prop}
def quietB(D E:DocL)(id:Int):Bool:=(!(findL D.ks id).isSome||unseenL D.ks id)&&(!(findL E.ks id).isSome||unseenL E.ks id)
def boxB(x0 x1 y0 y1:Int)(k:Ky):Bool:=decide (x0<x1∧(x0/16≤k.1∧k.1*16<x1)∧y0<y1∧y0/16≤k.2∧k.2*16<y1)
def boxE(e:Ed)(f:LayF)(E:DocL):Ky→Bool:=boxB (max 0 e.x) (min (min (e.x+e.w) f.w) E.w) (max 0 e.y) (min (min (e.y+e.h) f.h) E.h)
def keptL(D E:DocL)(e:Ed)(ks:List Ky):List Ky:=
 if quietB D E (tgtL E e)=true then ks else match findL E.ks (tgtL E e) with
  |some l=>if e.kind=4∧l.f.map=oneM then ks.filter fun k=> !boxE e l.f E k else[]
  |none=>[]
def LvS.doE(s:LvS)(e:Ed):Int×LvS:=if (doD s.D e).1≠0 then((doD s.D e).1,s) else(0,⟨(doD s.D e).2,keptL s.D (doD s.D e).2 e s.ks,s.n⟩)
theorem kept_sub{D E:DocL}{e:Ed}{ks:List Ky}:(keptL D E e ks).Sublist ks:=by
 unfold keptL
 split
 ·exact List.Sublist.refl _
 split
 ·split
  ·exact List.filter_sublist
  ·exact List.nil_sublist _
 ·exact List.nil_sublist _
theorem kept_tile{D:DocL}(hi:Inv D){e:Ed}(h0:(doD D e).1=0){ks:List Ky}(hk: ∀k∈ks,KeyOk D k): ∀k∈keptL D (doD D e).2 e ks,tileL (doD D e).2 k=tileL D k:=by
 obtain⟨_,_,hw,hh⟩:=do_next h0
 intro k hm
 have hkk:=hk k (kept_sub.subset hm)
 unfold keptL at hm
 by_cases hq:quietB D (doD D e).2 (tgtL (doD D e).2 e)=true
 ·unfold quietB at hq
  rw[Bool.and_eq_true,Bool.or_eq_true,Bool.or_eq_true] at hq
  refine tile_eq hw hh hi hkk fun x y _ _ _ _ _ _=>unseen_px hi h0 (fun h=>hq.1.resolve_left (by rw[h];decide)) (fun h=>hq.2.resolve_left (by rw[h];decide)) _ _ _ _
 rw[if_neg hq] at hm
 split at hm
 ·rename_i l hl
  split at hm
  ·rename_i hc
   obtain⟨hc1,hc2⟩:=hc
   rw[List.mem_filter] at hm
   have ht:tgtL (doD D e).2 e=e.id:=by unfold tgtL;rw[if_neg (by omega)]
   rw[ht] at hl
   refine tile_eq hw hh hi hkk fun x y x1 x2 x3 y1 y2 y3=>paint_px hi hc1 h0 hl hc2 fun hin=>?_
   obtain⟨⟨k1,_⟩,k3,_⟩:=hkk
   have hb:=hm.2
   unfold boxE boxB at hb
   rw[Bool.not_eq_true',decide_eq_false_iff_not] at hb
   rw[hw,hh] at hb
   omega
  ·cases hm
 ·cases hm
theorem LvOk.doE{s:LvS}(ok:LvOk s)(e:Ed):LvOk (s.doE e).2:=by
 unfold LvS.doE
 split
 ·exact ok
 ·rename_i h0
  have h0:=Decidable.byContradiction h0
  obtain⟨_,_,hw,hh⟩:=do_next h0
  refine⟨do_inv ok.inv h0,kept_sub.nodup ok.nodup,fun k hk=>?_,?_⟩
  ·have:=ok.keys k (kept_sub.subset hk)
   unfold KeyOk at this ⊢
   show(0≤k.1∧k.1*16<(doD s.D e).2.w)∧0≤k.2∧k.2*16<(doD s.D e).2.h
   rw[hw,hh];exact this
  ·have:=ok.len
   have h2:=(kept_sub (D:=s.D) (E:=(doD s.D e).2) (e:=e) (ks:=s.ks)).length_le
   show((keptL s.D (doD s.D e).2 e s.ks).length:Int)≤s.n
   omega
theorem LvOk.start{E:DocL}(hi:Inv E){n:Int}(hn:0≤n):LvOk ⟨E,[],n⟩:=⟨hi,by simp,by simp,hn⟩
theorem tileP_n{D E:DocL}(hw:E.w=D.w)(hh:E.h=D.h)(k:Ky):(tileP E k).n=(tileP D k).n:=by
 unfold tileP regP Pn.n
 rw[hw,hh]
theorem find_g{A:Array Value}{D:DocL}{id:Int}(hs:St H0 H σ)(hd:DocR H A D)(hi:Inv D)
 (hR: ∀B H',LayR H' B ((findL D.ks id).getD (.mk zeroF []))→St H0 H' σ→Ext H H'→R (.tuple #[.agg B,.bool (findL D.ks id).isSome]) H'):CallsH Tryz.prog 87 #[.agg A,.int .i64 id] H R:=by
 refine find_st (St.nil H) hd hi (fun hn H' hs'=>?_) fun l hl B H' hB hs'=>?_
 ·have:=hR (cellsL zeroF Sl3.nil.v Sl3.nil.v Sl3.nil.v Sl3.nil.v).toArray H' (by rw[hn];exact LayR.zero H') (hs.step hs'.ext) hs'.ext
  rw[hn] at this;exact this
 ·have:=hR B H' (by rw[hl];exact hB) (hs.step hs'.ext) hs'.ext
  rw[hl] at this;exact this
theorem lay_cells{B:Array Value}{l:Lay}(h:LayR H B l): ∃P M A K:Value,B=(cellsL l.f P M A K).toArray:=by
 obtain⟨t,rfl,_,rfl⟩:=h
 cases t with|mk f P M A K ks=>exact⟨P.v,M.v,A.v,K.v,rfl⟩
theorem del_rows{b:Nat}{D:DocL}{K:Sl3}{m c:Nat}{n:Int}{L:List Ent}(hn:(L.map Prod.fst).Nodup){x0 x1 y0 y1:Int}(hx:0≤x0∧x0≤100000)(hx1:x0<x1∧x1≤100000)(hy:0≤y0∧y0≤100000)(hy1:y1≤100000){J:Heap→Prop}
 (hJ: ∀H',St H0 H' (.cell b (lvA D K m n) 101:: .obj m (mapO (L.filter fun z=> !boxB x0 x1 y0 y1 z.1) c)::σ)→J H'){X:List Value→Heap→Prop}
 (hX: ∀(y:Int) (H1:Heap),(∀J63:List Value→Heap→Prop,(∀H64,(∀X65:List Value→Heap→Prop,(∀(x:Int) H67,(br (decide ((IntKind.wrap .i64 (x*16))<x1))
  (∃a68,(some ⟨b,0,none⟩:Option Addr)=some a68∧ ∃t:Option Nat,Sh.cell H67 (Addr.add a68 4)=some (.map t)∧delQ (.arr 2 3) (.int .i64) (.map t) (.agg #[.int .i64 x,.int .i64 y]) H67 fun H70=>X65 [.int .i64 (IntKind.wrap .i64 (x+1))] H70)
  (X [.int .i64 (IntKind.wrap .i64 (y+1))] H67))→X65 [.int .i64 x] H67)→X65 [.int .i64 (IntKind.wrap .i64 (Int.tdiv x0 16))] H64)→J63 [] H64)→
  br (decide (y0<y1)) (br (decide ((IntKind.wrap .i64 (y*16))<y1)) (J63 [] H1) (J H1)) (J H1))→X [.int .i64 y] H1)
 (hs:St H0 H (.cell b (lvA D K m n) 101:: .obj m (mapO L c)::σ)):X [.int .i64 (y0/16)] H:=by
 have hfl: ∀{P Q:Ent→Bool},(∀z,P z=Q z)→L.filter P=L.filter Q:=fun h=>List.filter_congr fun z _=>h z
 have hnp: ∀P:Ent→Bool,((L.filter P).map Prod.fst).Nodup:=fun P=>(List.Sublist.map _ List.filter_sublist).nodup hn
 generalize hp:(fun(y:Int) (z:Ent)=> !decide ((x0/16≤z.1.1∧z.1.1*16<x1)∧y0/16≤z.1.2∧z.1.2<y))=p
 generalize hN:(if y0<y1 then((y1+15)/16-y0/16).toNat else 0)=N
 have go: ∀j,j≤N→ ∀H1,St H0 H1 (.cell b (lvA D K m n) 101:: .obj m (mapO (L.filter (p (y0/16+(j:Int)))) c)::σ)→X [.int .i64 (y0/16+(j:Int))] H1:=by
  refine upto fun j hj ih H1 hs1=>hX _ _ fun J63 hJ63=>br_dec (fun hlt=>?_) fun hge=>?_
  ·rw[if_pos hlt] at hN
   rw[wrap_id (by omega) (by omega)]
   refine br_dec (fun hlt2=>hJ63 H1 ?_) fun hge2=>?_
   ·have hj':j<N:=by omega
    intro X65 hX65
    rw[Int.tdiv_eq_ediv_of_nonneg hx.1,wrap_id (by omega) (by omega)]
    generalize hq:(fun(x:Int) (z:Ent)=>p (y0/16+(j:Int)) z&& !decide (z.1.2=y0/16+(j:Int)∧x0/16≤z.1.1∧z.1.1<x))=q
    have go2: ∀i,i≤((x1+15)/16-x0/16).toNat→ ∀H1,St H0 H1 (.cell b (lvA D K m n) 101:: .obj m (mapO (L.filter (q (x0/16+(i:Int)))) c)::σ)→X65 [.int .i64 (x0/16+(i:Int))] H1:=by
     refine upto fun i hi ih2 H1 hs1=>hX65 _ _ ?_
     rw[wrap_id (n:=(x0/16+(i:Int))*16) (by omega) (by omega)]
     refine br_dec (fun hlt3=>?_) fun hge3=>?_
     ·refine⟨_,rfl,some m,hs1.get 0 rfl (j:=4) rfl,?_⟩
      refine ent_del (k:=(x0/16+(i:Int),y0/16+(j:Int))) (hnp _) (hs1.objGet 1 rfl) ?_
      rw[wrap_id (n:=x0/16+(i:Int)+1) (by omega) (by omega)]
      have:=ih2 (by omega) (H1.setIfInBounds m (mapO ((L.filter (q (x0/16+(i:Int)))).filter fun z=>decide (z.1≠(x0/16+(i:Int),y0/16+(j:Int)))) c))
      rw[show x0/16+((i+1:Nat):Int)=x0/16+(i:Int)+1 from by omega] at this
      refine this ?_
      have e:((L.filter (q (x0/16+(i:Int)))).filter fun z=>decide (z.1≠(x0/16+(i:Int),y0/16+(j:Int))))=L.filter (q (x0/16+(i:Int)+1)):=by
       rw[List.filter_filter]
       refine hfl fun z=>?_
       rw[←hq,←hp]
       obtain⟨⟨z1,z2⟩,z3⟩:=z
       rw[Bool.eq_iff_iff]
       simp only[ne_eq,Prod.mk.injEq,Bool.and_eq_true,Bool.not_eq_true',decide_eq_true_eq,decide_eq_false_iff_not]
       omega
      rw[e]
      exact hs1.objSet 1 _ rfl
     ·rw[wrap_id (n:=y0/16+(j:Int)+1) (by omega) (by omega)]
      have:=ih hj' H1
      rw[show y0/16+((j+1:Nat):Int)=y0/16+(j:Int)+1 from by omega] at this
      refine this ?_
      have e:L.filter (q (x0/16+(i:Int)))=L.filter (p (y0/16+(j:Int)+1)):=by
       refine hfl fun z=>?_
       rw[←hq,←hp]
       rw[Bool.eq_iff_iff]
       simp only[Bool.and_eq_true,Bool.not_eq_true',decide_eq_false_iff_not]
       omega
      rw[←e];exact hs1
    have:=go2 0 (Nat.zero_le _) H1
    rw[show x0/16+((0:Nat):Int)=x0/16 from by omega] at this
    refine this ?_
    have e:L.filter (q (x0/16))=L.filter (p (y0/16+(j:Int))):=by
     refine hfl fun z=>?_
     rw[←hq,←hp]
     rw[Bool.eq_iff_iff]
     simp only[Bool.and_eq_true,Bool.not_eq_true',decide_eq_false_iff_not]
     omega
    rw[e];exact hs1
   ·refine hJ H1 ?_
    have e:(L.filter fun z=> !boxB x0 x1 y0 y1 z.1)=L.filter (p (y0/16+(j:Int))):=by
     refine hfl fun z=>?_
     rw[←hp]
     unfold boxB
     rw[Bool.eq_iff_iff]
     simp only[Bool.not_eq_true',decide_eq_false_iff_not]
     omega
    rw[e];exact hs1
  ·rw[if_neg hge] at hN
   refine hJ H1 ?_
   have e:(L.filter fun z=> !boxB x0 x1 y0 y1 z.1)=L.filter (p (y0/16+(j:Int))):=by
    refine hfl fun z=>?_
    rw[←hp]
    unfold boxB
    rw[Bool.eq_iff_iff]
    simp only[Bool.not_eq_true',decide_eq_false_iff_not]
    omega
   rw[e];exact hs1
 have:=go 0 (Nat.zero_le _) H
 rw[show y0/16+((0:Nat):Int)=y0/16 from by omega] at this
 refine this ?_
 have e:L.filter (p (y0/16))=L:=by
  refine List.filter_eq_self.2 fun z _=>?_
  rw[←hp]
  simp only[Bool.not_eq_true',decide_eq_false_iff_not]
  omega
 rw[e];exact hs
theorem doE_err{s:LvS}{e:Ed}(h:(doD s.D e).1≠0):s.doE e=((doD s.D e).1,s):=by unfold LvS.doE;rw[if_pos h]
theorem doE_ok{s:LvS}{e:Ed}(h:(doD s.D e).1=0):s.doE e=(0,⟨(doD s.D e).2,keptL s.D (doD s.D e).2 e s.ks,s.n⟩):=by unfold LvS.doE;rw[if_neg (fun hh=>hh h)]
theorem c44{b:Nat}{s:LvS}{e:Ed}{es:EdS}(hs:St H0 H (lvRs b s::σ))(ok:LvOk s)(hnx:s.D.next≤100000000000000)(hed:EdOk H e es)(hR: ∀H',St H0 H' (lvRs b (s.doE e).2::σ)→R (.int .i64 (s.doE e).1) H'):
 CallsH Tryz.prog 44 #[.pointer (some ⟨b,0,none⟩),.agg (edL e es).toArray] H R:=by
 obtain⟨M,hM,hs⟩:=lvOut hs
 have hs:St H0 H (.cell b (lvA s.D M.K M.m s.n) 101:: .obj M.m (mapO M.L M.c)::docRs (docA s.D.w s.D.h s.D.next M.K) s.D::tlRs s.D M.L::σ):=hs
 obtain⟨s1,s2⟩:=ok.inv.sides
 have hi:=ok.inv
 refine Tryz.s44 ?_
 unfold Tryz.S44
 refine hs.alcE fun b3 H4 he4 hs4=>?_
 intro J5 hJ5
 have after: ∀(bd:Nat) (K':Sl3) (H1:Heap),(doD s.D e).1=0→St H0 H1 (.cell bd (docA (doD s.D e).2.w (doD s.D e).2.h (doD s.D e).2.next K') 46::docRs (docA (doD s.D e).2.w (doD s.D e).2.h (doD s.D e).2.next K') (doD s.D e).2:: .cell b3 (edL e es).toArray 40:: .cell b (lvA s.D M.K M.m s.n) 101:: .obj M.m (mapO M.L M.c)::docRs (docA s.D.w s.D.h s.D.next M.K) s.D::tlRs s.D M.L::σ)→J5 [.pointer (some ⟨bd,0,none⟩),.int .i64 0] H1:=by
  intro bd K' H1 h0 hs1
  have hi2:=do_inv hi h0
  obtain⟨hn1,hn2,hw,hh⟩:=do_next h0
  rw[doE_ok h0] at hR
  have hkt:=kept_tile hi h0 ok.keys
  have hM':=hM
  generalize hE:(doD s.D e).2=E at hs1 hi2 hn1 hn2 hw hh hR hkt
  refine hJ5 _ _ _ (br_ne (fun h=>absurd rfl h) fun _=>⟨_,rfl,docA s.D.w s.D.h s.D.next M.K,rfl,lv_row (hs1.block 3 rfl),hs1.alc fun b11 H12 hs12=>⟨rfl,hs12.putAll 0 rfl rfl (docA_one _ _ _ _) fun H13 hs13=>⟨docA E.w E.h E.next K',rfl,rowIn_whole (hs13.block 1 rfl),_,rfl,rfl,?_⟩⟩⟩)
  refine hs13.putRow 4 rfl (j:=0) (vs:=(docA E.w E.h E.next K').toList) (Nat.le_of_ble_eq_true rfl) (docA_one _ _ _ _) fun H16 hs16=>?_
  have h16:St H0 H16 (.cell b11 (docA s.D.w s.D.h s.D.next M.K) 46:: .cell bd (docA E.w E.h E.next K') 46::docRs (docA E.w E.h E.next K') E:: .cell b3 (edL e es).toArray 40:: .cell b (lvA E K' M.m s.n) 101:: .obj M.m (mapO M.L M.c)::docRs (docA s.D.w s.D.h s.D.next M.K) s.D::tlRs s.D M.L::σ):=hs16
  -- what is answered,with the tiles that are kept
  have fin: ∀(L':List Ent) (H':Heap),(∀x∈L',x∈M.L)→L'.map Prod.fst=keptL s.D E e s.ks→St H0 H' (.cell b (lvA E K' M.m s.n) 101:: .obj M.m (mapO L' M.c)::docRs (docA E.w E.h E.next K') E::tlRs s.D M.L::σ)→R (.int .i64 0) H':=fun L' H' hsub hmap hs'=>by
   refine hR H' (lvIn ⟨K',M.m,M.c,L'⟩ hmap ?_)
   have h1:=tlSub (E:=E) (L':=L') (hs'.front 3 rfl) fun x hx=>⟨hsub x hx,hkt x.1 (hmap▸List.mem_map_of_mem hx),tileP_n hw hh x.1⟩
   exact h1.perm (List.perm_middle (l₁:=[_,_,_])).symm
  have good: ∀(L':List Ent) (H':Heap) {τ:List Rs},(∀x∈L',x∈M.L)→L'.map Prod.fst=keptL s.D E e s.ks→St H0 H' (τ++(.cell b11 (docA s.D.w s.D.h s.D.next M.K) 46:: .cell bd (docA E.w E.h E.next K') 46::docRs (docA E.w E.h E.next K') E:: .cell b3 (edL e es).toArray 40:: .cell b (lvA E K' M.m s.n) 101:: .obj M.m (mapO L' M.c)::docRs (docA s.D.w s.D.h s.D.next M.K) s.D::tlRs s.D M.L::σ))→R (.int .i64 0) H':=fun L' H' τ hsub hmap hs'=>by
   have h1:=hs'.app.2
   have h2:St H0 H' (docRs (docA E.w E.h E.next K') E:: .cell b (lvA E K' M.m s.n) 101:: .obj M.m (mapO L' M.c)::tlRs s.D M.L::σ):=(((h1.del 6).del 3).del 0).del 0
   exact fin L' H' hsub hmap (h2.perm ((permC (a:=[_,_,_]) (b:=[_,_,_]) fun _ y=>by simp only[List.count_cons,List.count_nil];ac_rfl).append_right (tlRs s.D M.L::σ)))
  refine⟨_,rfl,rowIn_whole (h16.block 3 rfl),docA E.w E.h E.next K',rfl,rowIn_whole (h16.block 1 rfl),c86 (h16.doc 2 rfl) hi2 (by omega) fun H20 he20=>⟨_,rfl,docA s.D.w s.D.h s.D.next M.K,rfl,rowIn_whole ((h16.step he20).block 0 rfl),?_⟩⟩
  have h20:=h16.step he20
  generalize hid:tgtL E e=id
  refine find_g h20 (h20.doc 6 rfl) hi fun B H24 hB hs24 _=>⟨_,_,rfl,hs24.alc fun b27 H28 hs28=>⟨hB.size,hs28.putAll 0 rfl hB.size hB.one fun H29 hs29=>⟨docA E.w E.h E.next K',rfl,rowIn_whole (hs29.block 2 rfl),?_⟩⟩⟩
  refine find_g hs29 (hs29.doc 3 rfl) hi2 fun C H32 hC hs32 _=>⟨_,_,rfl,hs32.alc fun b35 H36 hs36=>⟨hC.size,hs36.putAll 0 rfl hC.size hC.one fun H37 hs37=>?_⟩⟩
  have quiet: ∀{H':Heap} {τ:List Rs},quietB s.D E id=true→St H0 H' (τ++(.cell b11 (docA s.D.w s.D.h s.D.next M.K) 46:: .cell bd (docA E.w E.h E.next K') 46::docRs (docA E.w E.h E.next K') E:: .cell b3 (edL e es).toArray 40:: .cell b (lvA E K' M.m s.n) 101:: .obj M.m (mapO M.L M.c)::docRs (docA s.D.w s.D.h s.D.next M.K) s.D::tlRs s.D M.L::σ))→R (.int .i64 0) H':=fun hq hs'=>good M.L _ (fun _ h=>h) (by unfold keptL;rw[hid,if_pos hq,hM]) hs'
  intro J38 hJ38
  have loud: ∀{H':Heap},quietB s.D E id=false→St H0 H' ([.cell b35 C 118,.cell b27 B 118]++(.cell b11 (docA s.D.w s.D.h s.D.next M.K) 46:: .cell bd (docA E.w E.h E.next K') 46::docRs (docA E.w E.h E.next K') E:: .cell b3 (edL e es).toArray 40:: .cell b (lvA E K' M.m s.n) 101:: .obj M.m (mapO M.L M.c)::docRs (docA s.D.w s.D.h s.D.next M.K) s.D::tlRs s.D M.L::σ))→J38 [] H':=by
   intro H39 hq hs39
   have h39:=hs39.drop 2
   refine hJ38 H39 ⟨docA E.w E.h E.next K',rfl,rowIn_whole (h39.block 1 rfl),find_g h39 (h39.doc 2 rfl) hi2 fun F H42 hF hs42 _=>⟨_,_,rfl,hs42.alc fun b45 H46 hs46=>⟨hF.size,hs46.putAll 0 rfl hF.size hF.one fun H47 hs47=>?_⟩⟩⟩
   have clr: ∀{H':Heap} {τ:List Rs},keptL s.D E e s.ks=[]→St H0 H' (τ++(.cell b11 (docA s.D.w s.D.h s.D.next M.K) 46:: .cell bd (docA E.w E.h E.next K') 46::docRs (docA E.w E.h E.next K') E:: .cell b3 (edL e es).toArray 40:: .cell b (lvA E K' M.m s.n) 101:: .obj M.m (mapO M.L M.c)::docRs (docA s.D.w s.D.h s.D.next M.K) s.D::tlRs s.D M.L::σ))→ ∃a,(some ⟨b,0,none⟩:Option Addr)=some a∧ ∃t:Option Nat,Sh.cell H' (Addr.add a 4)=some (.map t)∧ ∃r,t=some r∧ ∃(es:Array MapEntry) (c:Nat),H'[r]?=some (.map es c)∧sto H' r (.map #[] c) fun H77=>R (.int .i64 0) H77:=fun{H' τ} hk hs'=>by
    have h1:=hs'.app.2
    refine⟨_,rfl,some M.m,h1.get 4 rfl (j:=4) rfl,M.m,rfl,_,_,h1.objGet 5 rfl,?_⟩
    exact good [] _ (τ:=[]) (by simp) (by rw[hk];rfl) (h1.objSet 5 (mapO [] M.c) rfl)
   obtain⟨fP,fM,fA,fK,rfl⟩:=lay_cells hF
   intro J48 hJ48
   refine⟨e.kind,hs47.get 4 rfl (j:=0) rfl,br_ne (fun hk=>clr (τ:=[_]) ?_ hs47) fun hk=>⟨_,rfl,cellMap (hs47.block 0 rfl),c89 fun H80 he80=>⟨_,rfl,.inl he80,rfl,((findL E.ks id).getD (.mk zeroF [])).f.map.l,oneM.l,rfl,rfl,rfl,rfl,br_not (fun c=>clr (τ:=[_]) ?_ (hs47.step he80)) fun d4=>hJ48 H80 ?_⟩⟩⟩
   ·unfold keptL
    rw[hid,hq,if_neg (by decide)]
    split
    ·rw[if_neg (fun h=>hk h.1)]
    ·rfl
   ·unfold keptL
    rw[hid,hq,if_neg (by decide)]
    split
    ·rename_i l hl
     rw[hl] at c
     rw[if_neg (fun h=>of_decide_eq_false c (by rw[Option.getD_some,h.2]))]
    ·rfl
   have hone:=M6_l.1 (of_decide_eq_true d4)
   obtain⟨l,hl⟩: ∃l,findL E.ks id=some l:=by
    cases hf:findL E.ks id with
    |some l=>exact⟨l,rfl⟩
    |none=>rw[hf] at hone;exact absurd hone (by decide)
   rw[hl,Option.getD_some] at hone hs47
   have h80:=hs47.step he80
   have hkept:keptL s.D E e s.ks=s.ks.filter fun k=> !boxE e l.f E k:=by
    unfold keptL
    rw[hid,hq,if_neg (by decide),hl]
    simp only
    rw[if_pos ⟨hk,hone⟩]
   obtain⟨_,_,_,_,hc,_⟩:=paint_do hi hk h0
   obtain⟨hrng,_⟩:=paint_rng hc
   obtain⟨⟨q1,q2⟩,⟨q3,q4⟩,⟨q5,q6⟩,q7,q8⟩:=hrng
   refine⟨e.x,h80.get 4 rfl (j:=6) rfl,e.y,h80.get 4 rfl (j:=7) rfl,e.x,h80.get 4 rfl (j:=6) rfl,e.w,h80.get 4 rfl (j:=8) rfl,l.f.w,h80.get 0 rfl (j:=5) rfl,E.w,h80.get 2 rfl (j:=0) rfl,e.y,h80.get 4 rfl (j:=7) rfl,e.h,h80.get 4 rfl (j:=9) rfl,l.f.h,h80.get 0 rfl (j:=6) rfl,E.h,h80.get 2 rfl (j:=1) rfl,?_⟩
   rw[wrap_id (n:=e.x+e.w) (by omega) (by omega),wrap_id (n:=e.y+e.h) (by omega) (by omega)]
   have hbox:boxE e l.f E=boxB (max 0 e.x) (min (min (e.x+e.w) l.f.w) E.w) (max 0 e.y) (min (min (e.y+e.h) l.f.h) E.h):=rfl
   have bx:0≤max 0 e.x∧max 0 e.x≤100000∧min (min (e.x+e.w) l.f.w) E.w≤100000∧0≤max 0 e.y∧max 0 e.y≤100000∧min (min (e.y+e.h) l.f.h) E.h≤100000:=by omega
   generalize max 0 e.x=x0 at*
   generalize min (min (e.x+e.w) l.f.w) E.w=x1 at*
   generalize max 0 e.y=y0 at*
   generalize min (min (e.y+e.h) l.f.h) E.h=y1 at*
   obtain⟨b0,b1,b2,b3',b4,b5⟩:=bx
   have hmapf:(M.L.filter fun z=> !boxB x0 x1 y0 y1 z.1).map Prod.fst=s.ks.filter fun k=> !boxB x0 x1 y0 y1 k:=by
    rw[←hM,List.filter_map];rfl
   refine br_dec (fun hge=>?_) fun hlt=>⟨by decide,?_⟩
   ·refine good M.L H80 (τ:=[_]) (fun _ h=>h) ?_ h80
    rw[hkept,hbox,hM]
    refine(List.filter_eq_self.2 fun k _=>?_).symm
    unfold boxB
    rw[Bool.not_eq_true',decide_eq_false_iff_not]
    omega
   intro X60 hX60
   rw[Int.tdiv_eq_ediv_of_nonneg b3',wrap_id (n:=y0/16) (by omega) (by omega)]
   have h81:St H0 H80 (.cell b (lvA E K' M.m s.n) 101:: .obj M.m (mapO M.L M.c)::tlRs s.D M.L::docRs (docA E.w E.h E.next K') E::σ):=by
    have h1:St H0 H80 (docRs (docA E.w E.h E.next K') E:: .cell b (lvA E K' M.m s.n) 101:: .obj M.m (mapO M.L M.c)::tlRs s.D M.L::σ):=((((h80.drop 1).del 6).del 3).del 0).del 0
    exact h1.perm ((permC (a:=[_,_,_,_]) (b:=[_,_,_,_]) fun _ y=>by simp only[List.count_cons,List.count_nil];ac_rfl).append_right σ)
   refine del_rows (x0:=x0) (x1:=x1) (y0:=y0) (y1:=y1) (L:=M.L) (by rw[hM];exact ok.nodup) ⟨b0,b1⟩ ⟨by omega,b2⟩ ⟨b3',b4⟩ b5 (J:=fun H'=>R (.int .i64 0) H') (fun H' hs'=>?_) (fun y H1 hx=>hX60 y H1 fun J63 hJ63=>?_) h81
   ·refine fin _ H' (fun x hx=>(List.mem_filter.1 hx).1) (by rw[hmapf,hkept,hbox]) ?_
    exact hs'.perm (List.Perm.cons _ (List.Perm.cons _ (List.Perm.swap _ _ _)))
   ·exact hx J63 fun H64 hh=>hJ63 H64 ⟨by decide,hh⟩
  refine br_not (fun ha=>br_not (fun hb=>quiet (τ:=[_,_]) (by unfold quietB;rw[ha,hb];rfl) hs37) fun hb=>⟨docA E.w E.h E.next K',rfl,rowIn_whole (hs37.block 3 rfl),c88 (hs37.doc 4 rfl) hi2 fun H93 he93=>⟨_,rfl,br_i (fun hu=>quiet (τ:=[_,_]) (by unfold quietB;rw[ha,hu];simp) (hs37.step he93)) fun hu=>loud (by unfold quietB;rw[hb,hu];simp) (hs37.step he93)⟩⟩) fun ha=>⟨docA s.D.w s.D.h s.D.next M.K,rfl,rowIn_whole (hs37.block 2 rfl),c88 (hs37.doc 8 rfl) hi fun H97 he97=>⟨_,rfl,br_i (fun hu=>?_) fun hu=>loud (by unfold quietB;rw[ha,hu];simp) (hs37.step he97)⟩⟩
  have hs97:=hs37.step he97
  refine br_not (fun hb=>quiet (τ:=[_,_]) (by unfold quietB;rw[hu,hb];simp) hs97) fun hb=>⟨docA E.w E.h E.next K',rfl,rowIn_whole (hs97.block 3 rfl),c88 (hs97.doc 4 rfl) hi2 fun H93 he93=>⟨_,rfl,br_i (fun hv=>quiet (τ:=[_,_]) (by unfold quietB;rw[hu,hv];simp) (hs97.step he93)) fun hv=>loud (by unfold quietB;rw[hb,hv];simp) (hs97.step he93)⟩⟩
 have done: ∀(bd:Nat) (A':Array Value) (H1:Heap),DocR H1 A' (doD s.D e).2→St H0 H1 (.cell bd A' 46::docRs A' (doD s.D e).2:: .cell b3 (edL e es).toArray 40:: .cell b (lvA s.D M.K M.m s.n) 101:: .obj M.m (mapO M.L M.c)::docRs (docA s.D.w s.D.h s.D.next M.K) s.D::tlRs s.D M.L::σ)→J5 [.pointer (some ⟨bd,0,none⟩),.int .i64 (doD s.D e).1] H1:=fun bd A' H1 hd hs1=>by
  by_cases h0:(doD s.D e).1=0
  ·obtain⟨K',rfl⟩:=docA_arr hd
   rw[h0]
   exact after bd K' H1 h0 hs1
  ·rw[doE_err h0] at hR
   exact hJ5 _ _ _ (br_ne (fun _=>hR H1 (lvIn M hM (hs1.drop 3))) fun h=>absurd h h0)
 refine⟨_,rfl,docA s.D.w s.D.h s.D.next M.K,rfl,lv_row (hs4.block 1 rfl),(edL e es).toArray,rfl,rowIn_whole (hs4.block 0 rfl),?_,?_⟩
 ·refine do_st hs4 (hs4.doc 3 rfl) hi (by omega) ⟨hed.rd.ext he4,hed.shape,hed.params⟩ fun A' H107 hd' hs107=>⟨_,_,rfl,hs107.alcE fun b110 H111 he111 hs111=>⟨hd'.size,hs111.putAll 0 rfl hd'.size hd'.one fun H112 hs112=>done b110 A' H112 (hs112.doc 1 rfl) hs112⟩⟩
 ·refine hs4.alcE fun b113 H114 he114 hs114=>⟨.inl he114,?_⟩
  refine do_st hs114 (hs114.doc 4 rfl) hi (by omega) ⟨hed.rd.ext (he4.trans he114),hed.shape,hed.params⟩ fun A' H116 hd' hs116=>⟨_,_,rfl,hd'.size,hs116.putAll 1 rfl hd'.size hd'.one fun H119 hs119=>done b113 A' H119 (hs119.doc 0 rfl) hs119.swap⟩
end Go.Proofs
namespace Go.Sh
variable {H0 H:Heap} {σ:List Rs}
theorem St.fb(hs:St H0 H σ)(i:Nat){r:Rs}(hi:σ[i]?=some r):St H0 H (r::σ.eraseIdx i)∧ ∀{H':Heap} (τ:List Rs) (r':Rs),St H0 H' (τ++r'::σ.eraseIdx i)→St H0 H' (τ++σ.set i r'):=
 ⟨hs.front i hi,fun τ r' h=>by
  obtain⟨h1,fps,hl,hn,hb⟩:=h
  obtain⟨a,b,e,ha,hb'⟩:=hl.split
  have h2:St H0 _ (r'::σ.eraseIdx i):=St.app (σ:=τ) ⟨h1,fps,hl,hn,hb⟩|>.2
  refine St.perm ⟨h1,fps,hl,hn,hb⟩ (List.Perm.append_left τ ?_)
  have: ∀(l:List Rs) (i:Nat),l[i]?=some r→(r'::l.eraseIdx i).Perm (l.set i r'):=by
   intro l
   induction l with
   |nil=>intro i h;simp at h
   |cons x l ih=>
    intro i h
    cases i with
    |zero=>exact List.Perm.refl _
    |succ i=>exact(List.Perm.swap _ _ _).trans ((ih i (by simpa using h)).cons x)
  exact this σ i hi⟩
end Go.Sh
namespace Go.Proofs
open Go.Sh
variable {H0 H:Heap} {σ:List Rs} {R:Value→Heap→Prop}
def mapsV(l:List Nat):List Value:=l.map fun m=> .map (some m)
theorem mapsV_len(l:List Nat):(mapsV l).length=l.length:=List.length_map _
def shSl(P:Sl3)(l:List Nat):Rs:= .ex fun(Q:Sl3)=> .pu (Q=P∨Q= .nil∧P.l=0∧P.c=0) (.sl Q.p Q.l Q.c 65 1 (mapsV l))
theorem shSl_len{P:Sl3}{l:List Nat}(hs:St H0 H (shSl P l::σ)):P.l=l.length:=by
 obtain⟨Q,h⟩:=St.unex hs
 obtain⟨h1,h2⟩:=h.fact
 have:=(h2.rs 0 rfl).len
 rw[mapsV_len] at this
 rcases h1 with rfl|⟨rfl,h3,_⟩
 ·omega
 ·rw[h3];exact this.symm▸(by show(0:Nat)=0*1;rfl)
theorem shSl_in{P:Sl3}{l:List Nat}(hs:St H0 H (.sl P.p P.l P.c 65 1 (mapsV l)::σ)):St H0 H (shSl P l::σ):=
 St.inex (f:=fun(Q:Sl3)=> .pu (Q=P∨Q= .nil∧P.l=0∧P.c=0) (.sl Q.p Q.l Q.c 65 1 (mapsV l))) P (St.with (.inl rfl) hs)
theorem shSl_room{p:Option Addr}(hs:St H0 H σ):St H0 H (shSl ⟨p,0,0⟩ []::σ):=
 St.inex (f:=fun(Q:Sl3)=> .pu (Q=(⟨p,0,0⟩:Sl3)∨Q= .nil∧(⟨p,0,0⟩:Sl3).l=0∧(⟨p,0,0⟩:Sl3).c=0) (.sl Q.p Q.l Q.c 65 1 (mapsV []))) .nil (St.with (.inr ⟨rfl,rfl,rfl⟩) (hs.nilSl 65 1))
theorem shSl_out{P:Sl3}{l:List Nat}(hs:St H0 H (shSl P l::σ))(h0:l≠[]):St H0 H (.sl P.p P.l P.c 65 1 (mapsV l)::σ):=by
 have hl:=shSl_len hs
 obtain⟨Q,h⟩:=St.unex hs
 obtain⟨h1,h2⟩:=h.fact
 rcases h1 with rfl|⟨_,h3,_⟩
 ·exact h2
 ·exact absurd (List.length_eq_zero_iff.1 (by omega)) h0
theorem appQ_room{k bytes n:Nat}{zero:Array Value}{p q:Option Addr}{el:TypeId}{K:Option Addr→Nat→Nat→Heap→Prop}(hn:0<n)(h:appQ k bytes zero H none 0 0 q n el K):appQ k bytes zero H p 0 0 q n el K:=by
 obtain⟨h1,h2,xs,h3,_,h5⟩:=h
 refine⟨h1,h2,xs,h3,fun h=>by omega,fun h=>?_⟩
 obtain⟨ys,e,h6⟩:=h5 h
 have e:ys=#[]:=e
 subst e
 refine⟨#[],?_,h6⟩
 cases p with
 |none=>rfl
 |some a=>exact⟨(Nat.zero_mul k).symm,fun j v hv=>by simp at hv⟩
theorem shSl_app{P:Sl3}{l:List Nat}{b m:Nat}{ty:TypeId}(hs:St H0 H (.cell b #[.map (some m)] ty::shSl P l::σ))(hl:l.length≤1000000){K:Option Addr→Nat→Nat→Heap→Prop}(hK: ∀(Q:Sl3) H',Q.l=l.length+1→St H0 H' (shSl Q (l++[m])::σ)→K Q.p Q.l Q.c H'):
 appQ 1 8 #[.map none] H P.p P.l P.c (some ⟨b,0,none⟩) 1 65 K:=by
 have hPl:=shSl_len hs.tail
 have hm:mapsV (l++[m])=mapsV l++[.map (some m)]:=by simp[mapsV]
 by_cases h0:l=[]
 ·subst h0
  have h1:=hs.swap
  obtain⟨Q,h2⟩:=St.unex h1
  obtain⟨h3,h4⟩:=h2.fact
  rcases h3 with rfl|⟨rfl,h5,h6⟩
  ·refine h4.appC 0 1 rfl rfl rfl (by simp[Value.oneCell']) (by decide) rfl (by omega) (by omega) fun p' c' H' h'=>?_
   exact hK ⟨p',Q.l+1,c'⟩ H' (by show Q.l+1=_;omega) (shSl_in (by rw[hm];exact h'.del 1))
  ·rw[h5,h6]
   refine appQ_room (by decide) (h4.appC 0 1 rfl rfl rfl (by simp[Value.oneCell']) (by decide) rfl (by decide) (by decide) fun p' c' H' h'=>?_)
   exact hK ⟨p',0+1,c'⟩ H' rfl (shSl_in (by rw[hm];exact h'.del 1))
 ·have h4:=shSl_out hs.swap h0
  refine h4.appC 0 1 rfl rfl rfl (by simp[Value.oneCell']) (by decide) rfl (by omega) (by omega) fun p' c' H' h'=>?_
  exact hK ⟨p',P.l+1,c'⟩ H' (by show P.l+1=_;omega) (shSl_in (by rw[hm];exact h'.del 1))
def jlRs(jb rb:Nat)(r:RlS):Rs:= .star (jrRs jb rb false) (rlRs rb r)
structure RlFit(r:RlS)(n:Nat):Prop where
 ok:RlOk r
 up:r.down=false
 left:r.left= -1
 fit:(r.b.length:Int)+n≤r.cap
def RlS.more(r:RlS)(x:List Int):RlS:={r with b:=r.b++x}
theorem app_fit{r:RlS}{x:List Int}(h:RlFit r x.length):r.app x=(0,r.more x):=by
 have h1:=h.fit
 have h2:(r.more x).step=r.more x:=by
  unfold RlS.step
  rw[if_neg (by show ¬r.left>0;rw[h.left];decide),if_neg (by show ¬r.left=0;rw[h.left];decide)]
 unfold RlS.app
 rw[if_neg (by rw[h.up];decide),if_neg (by omega)]
 show(if (r.more x).step.down=true then 11 else 0,(r.more x).step)=_
 rw[h2,if_neg (by show ¬r.down=true;rw[h.up];decide)]
theorem sync_fit{r:RlS}(h:RlFit r 0):r.sync=(0,{r with safe:=r.b.length}):=by
 have h2:r.step=r:=by
  unfold RlS.step
  rw[if_neg (by rw[h.left];decide),if_neg (by rw[h.left];decide)]
 unfold RlS.sync
 rw[if_neg (by rw[h.up];decide),h2,if_neg (by rw[h.up];decide)]
theorem RlFit.more{r:RlS}{x:List Int}{n:Nat}(h:RlFit r (x.length+n))(hx:Bys x):RlFit (r.more x) n:=by
 have h1:=h.fit
 have h2:RlFit r x.length:=⟨h.ok,h.up,h.left,by omega⟩
 refine⟨?_,h.up,h.left,?_⟩
 ·have:=h.ok.app hx
  rw[app_fit h2] at this;exact this
 ·show((r.b++x).length:Int)+n≤r.cap
  rw[List.length_append];omega
theorem RlFit.synced{r:RlS}{n:Nat}(h:RlFit r n):RlFit {r with safe:=r.b.length} n:=⟨⟨h.ok.bys,h.ok.len,h.ok.cap,h.ok.left⟩,h.up,h.left,h.fit⟩
theorem RlFit.mono{r:RlS}{n m:Nat}(h:RlFit r n)(hm:m≤n):RlFit r m:=⟨h.ok,h.up,h.left,by have:=h.fit;omega⟩
theorem jl_append{jb rb:Nat}{r:RlS}{p:Option Addr}{l c:Nat}{xs:List Int}(hs:St H0 H (jlRs jb rb r::σ))(hx:IS H p l (kints .u8 xs))(hb:Bys xs)(hl:l≤8388608)(hf:RlFit r (xs.length+8))(hR: ∀H',St H0 H' (jlRs jb rb (r.more (recB xs))::σ)→R (.int .i64 0) H'):
 CallsH Tryz.prog 16 #[.pointer (some ⟨jb,0,none⟩),.slice p l c] H R:=by
 have e:=app_fit (r:=r) (x:=recB xs) (by rw[recB_len];exact hf)
 refine c16 hs.cut hf.ok hx hb hl fun H' h'=>?_
 rw[e] at h' ⊢
 exact hR H' h'.cat
theorem jl_sync{jb rb:Nat}{r:RlS}(hs:St H0 H (jlRs jb rb r::σ))(hf:RlFit r 0)(hR: ∀H',St H0 H' (jlRs jb rb {r with safe:=r.b.length}::σ)→R (.int .i64 0) H'):
 CallsH Tryz.prog 17 #[.pointer (some ⟨jb,0,none⟩)] H R:=by
 have e:=sync_fit hf
 refine c17 hs.cut hf.ok fun H' h'=>?_
 rw[e] at h' ⊢
 exact hR H' h'.cat
structure EB where
 xb:Nat
 hb:Nat
 lb:Nat
 ab:Nat
 w:Int
 hh:Int
 tiles:Int
 P:Sl3
 F:Sl3
 now:Nat
 past:List Nat
 fut:List Nat
 h:HL
 lv:LvS
 s:TS
 ms:List Shf
def EB.A(x:EB)(j:Option Addr):Array Value:=#[.int .i64 x.w,.int .i64 x.hh,.int .i64 x.tiles,.pointer (some ⟨x.hb,0,none⟩),.pointer (some ⟨x.lb,0,none⟩),.pointer j,.pointer (some ⟨x.ab,0,none⟩),.map (some x.now),x.P.v,x.F.v]
def EB.rs(x:EB)(j:Option Addr):List Rs:=[.cell x.xb (x.A j) 68,shSl x.P x.past,shSl x.F x.fut,arRs x.tiles x.s x.ms,histRs x.hb x.h,lvRs x.lb x.lv]
theorem c40{xb jb rb:Nat}{A:Array Value}{r:RlS}{kind:Int}{p:Option Addr}{l c:Nat}{xs:List Int}(hs:St H0 H σ)(i j:Nat)(hi:σ[i]?=some (.cell xb A 68))(hA:A[5]?=some (.pointer (some ⟨jb,0,none⟩)))(hj:σ[j]?=some (jlRs jb rb r))
 (hx:IS H p l (kints .u8 xs))(hb:Bys xs)(hk:0≤kind∧kind<256)(hl:l≤8000000)(hf:RlFit r (xs.length+9))(hR: ∀H',St H0 H' (σ.set j (jlRs jb rb (r.more (recB (kind::xs)))))→R (.int .i64 0) H'):
 CallsH Tryz.prog 40 #[.pointer (some ⟨xb,0,none⟩),.int .u8 kind,.slice p l c] H R:=by
 have hxl:=hx.length
 refine Tryz.s40 ?_
 unfold Tryz.S40
 refine⟨_,rfl,_,hs.get i hi hA,br_f rfl ⟨_,rfl,_,hs.get i hi hA,hs.alcE fun b8 H9 he9 h9=>⟨.inl he9,?_⟩⟩⟩
 have h10:=h9.toSl 0 (l:=1) (k:=1) rfl rfl rfl (fun v hv=>by simp at hv;subst hv;rfl)
 refine h10.appI 0 rfl (hx.ext he9) (kints_one .u8 xs) rfl (by omega) (by omega) fun p' c' H11 h11=>?_
 have h11:St H0 H11 (.sl p' (1+l) c' 5 1 (kints .u8 (kind::xs))::σ):=h11
 refine⟨.inr ⟨_,h11.get (i+1) hi hA,rfl⟩,?_⟩
 obtain⟨f,g⟩:=h11.fb (j+1) hj
 refine jl_append f (h11.is 0 rfl) (fun y hy=>?_) (by omega) (by simpa using hf) fun H13 h13=>⟨_,rfl,hR H13 (g [] _ h13).tail⟩
 rcases List.mem_cons.1 hy with rfl|hy
 ·exact hk
 ·exact hb y hy
end Go.Proofs
namespace Go.Proofs
open Go.Sh
variable {H0 H:Heap} {σ:List Rs} {R:Value→Heap→Prop}
def newD(w h:Int):DocL:=⟨w,h,1,[]⟩
def newX(xb hb lb A m0 m1:Nat)(p:Option Addr)(w h t:Int):EB:=⟨xb,hb,lb,A,w,h,t,⟨p,0,0⟩,.nil,m1,[],[],⟨newD w h,[],[]⟩,⟨newD w h,[],0⟩,⟨A,t,[],[]⟩,[(m0,[]),(m1,[])]⟩
def zeroA(w h t:Int):Array Value:=#[.int .i64 w,.int .i64 h,.int .i64 t,.pointer none,.pointer none,.pointer none,.pointer none,.map none,.slice none 0 0,.slice none 0 0]
theorem one_doc{p:Option Addr}{c b:Nat}{x:PD}{ty:TypeId}{K:Option Addr→Nat→Nat→Heap→Prop}(hs:St H0 H (.cell b (arrP x) ty:: .sl p 0 c 46 4 []::σ))(hK: ∀p c H',St H0 H' (.sl p 1 c 46 4 (arrP x).toList::σ)→K p 1 c H'):
 appQ 4 48 #[.int .i64 0,.int .i64 0,.int .i64 0,.slice none 0 0] H p 0 c (some ⟨b,0,none⟩) 1 46 K:=
 hs.appC 1 0 rfl rfl rfl (arrP_one x) (by decide) rfl (by decide) (by decide) fun p' c' H' h'=>hK p' c' H' h'.tail
theorem none_doc{b:Nat}{K:Option Addr→Nat→Nat→Heap→Prop}(hs:St H0 H (.cell b #[] 46::σ))(hK: ∀p c H',St H0 H' (.sl p 0 c 46 4 []::σ)→K p 0 c H'):
 appQ 4 48 #[.int .i64 0,.int .i64 0,.int .i64 0,.slice none 0 0] H (some ⟨b,0,none⟩) 0 0 none 0 46 K:=
 (hs.toSl 0 (l:=0) (k:=4) rfl rfl rfl (fun v hv=>by simp at hv)).appR 0 rfl (FS.nil 0 H 46 4).rs (by decide) rfl (by decide) (by decide) fun p' c' H' h'=>hK p' c' H' h'
theorem c29{xb:Nat}{w h t:Int}(hs:St H0 H (.cell xb (zeroA w h t) 68::σ))(hsz:sizedB w h=true)(t0:0≤t)(t1:t≤1048576)
 (hR: ∀hb lb A m0 m1 p H',St H0 H' ((newX xb hb lb A m0 m1 p w h t).rs none++σ)→R (.bool true) H'):
 CallsH Tryz.prog 29 #[.pointer (some ⟨xb,0,none⟩),.agg (histA (.nil,newD w h) .nil .nil)] H R:=by
 have hi:Inv (newD w h):=new_inv hsz
 refine Tryz.s29 ?_
 unfold Tryz.S29
 refine hs.alc fun b3 H4 h4=>⟨histA (.nil,newD w h) .nil .nil,rfl,rowIn_whole (h4.block 0 rfl),arrP (.nil,newD w h),rfl,hist_row (h4.block 0 rfl),_,rfl,_,h4.get 1 rfl (j:=2) rfl,?_⟩
 refine c58 (n:=0) (m:=⟨(.nil,newD w h),.nil,.nil,[],[]⟩) (St.nil H4) (DocR.new H4 w h) ⟨(FS.nil 0 H4 46 4).rs,fun x hx=>by cases hx⟩ ⟨(FS.nil 0 H4 46 4).rs,fun x hx=>by cases hx⟩ (HOk.start hsz) (by decide) fun hb H10 h10=>⟨_,rfl,.inl h10.ext,?_⟩
 refine c59 (St.nil H10) (DocR.new H10 w h) hi fun lb H13 h13=>⟨_,rfl,.inl h13.ext,?_⟩
 refine ar_new_arena ((h4.call h10).call h13) t0 t1 fun A H16 h16=>⟨_,rfl,?_⟩
 refine⟨_,rfl,h16.put 4 rfl (j:=3) (Nat.le_of_ble_eq_true rfl) rfl fun H19 h19=>⟨_,rfl,h19.put 4 rfl (j:=4) (Nat.le_of_ble_eq_true rfl) rfl fun H21 h21=>⟨_,rfl,h21.put 4 rfl (j:=6) (Nat.le_of_ble_eq_true rfl) rfl fun H23 h23=>?_⟩⟩⟩
 have h23:St H0 H23 (arRs t ⟨A,t,[],[]⟩ []::lvRs lb ⟨newD w h,[],0⟩::histRs hb ⟨newD w h,[],[]⟩:: .cell b3 (histA (.nil,newD w h) .nil .nil) 49:: .cell xb #[.int .i64 w,.int .i64 h,.int .i64 t,.pointer (some ⟨hb,0,none⟩),.pointer (some ⟨lb,0,none⟩),.pointer none,.pointer (some ⟨A,0,none⟩),.map none,.slice none 0 0,.slice none 0 0] 68::σ):=h23
 intro J hJ
 have fin: ∀p c H26,St H0 H26 (.sl p 1 c 46 4 (arrP (.nil,newD w h)).toList::arRs t ⟨A,t,[],[]⟩ []::lvRs lb ⟨newD w h,[],0⟩::histRs hb ⟨newD w h,[],[]⟩:: .cell b3 (histA (.nil,newD w h) .nil .nil) 49:: .cell xb #[.int .i64 w,.int .i64 h,.int .i64 t,.pointer (some ⟨hb,0,none⟩),.pointer (some ⟨lb,0,none⟩),.pointer none,.pointer (some ⟨A,0,none⟩),.map none,.slice none 0 0,.slice none 0 0] 68::σ)→J [.slice p 1 c] H26:=by
  intro p c H26 h26
  refine hJ _ _ _ _ ⟨_,_,_,h26.get 4 rfl (j:=5) rfl,?_⟩
  intro X hX
  refine hX _ _ _ _ _ (br_n (by decide) (ar_new (h26.front 1 rfl) fun b39 H40 h40=>?_))
  intro X2 hX2
  obtain⟨a,ha,hrow⟩:=pds_row (P:=⟨p,1,c⟩) (l:=[((.nil:Sl3),newD w h)]) (by rw[cellsP_one];exact h40.rs 1 rfl) (i:=0) rfl
  refine hX2 _ _ _ _ _ _ (br_y (by decide) ⟨a,ha,by decide,by decide,arrP (.nil,newD w h),rfl,hrow,h40.alc fun b48 H49 h49=>⟨rfl,h49.putAll 0 rfl rfl (arrP_one _) fun H50 h50=>⟨arrP (.nil,newD w h),rfl,rowIn_whole (h50.block 0 rfl),?_⟩⟩⟩)
  have h50:=h50.front 1 rfl
  refine c39 (K:= .nil) (ks:=[]) (m0:=b39) (old:=[]) (A:=A) h50 (List.mem_singleton.2 rfl) (fun H' τ h'=>h'.app.2.get 5 rfl (j:=6) rfl) (fun H' τ h'=>grp.nil H') (by decide) fun m H53 h53=>⟨_,_,rfl,br_f rfl ?_⟩
  have h53:=h53.front 1 rfl
  refine St.alc (h53.nilSl 65 1) fun b56 H57 h57=>?_
  refine shSl_app (P:= .nil) (l:=[]) (m:=m) (σ:=_) (St.swap (shSl_in (P:= .nil) (l:=[]) h57.swap)) (by decide) fun Q H59 hQ h59=>?_
  obtain⟨b,hb'⟩:=(shSl_out h59 (by simp)).slSome 0 (j:=0) rfl (by simp[mapsV])
  refine hX2 _ _ _ _ _ _ (br_n (by rw[wrap_id (by decide) (by decide)];decide) ⟨none,0,0,h59.get 6 rfl (j:=4) rfl,by decide,by omega,by decide,by decide,_,hb',by decide,by omega,?_⟩)
  have hget:=(shSl_out h59 (by simp)).is 0 rfl
  obtain⟨a2,ha2,hc2⟩:=hget.cell (i:=0) (v:= .map (some m)) rfl
  rw[hb'] at ha2;cases ha2
  refine⟨_,hc2,_,rfl,h59.put 7 rfl (j:=8) (Nat.le_of_ble_eq_true rfl) rfl fun H64 h64=>⟨_,rfl,h64.put 7 rfl (j:=7) (Nat.le_of_ble_eq_true rfl) rfl fun H66 h66=>⟨_,rfl,h66.put 7 rfl (j:=9) (Nat.le_of_ble_eq_true rfl) rfl fun H68 h68=>?_⟩⟩⟩
  intro X3 hX3
  refine hX3 _ _ (br_n (by rw[hQ,wrap_id (by decide) (by decide)];decide) (hR hb lb A b39 m Q.p H68 ?_))
  have h68:St H0 H68 (shSl Q [m]:: .cell b48 (arrP (.nil,newD w h)) 46::arRs t ⟨A,t,[],[]⟩ [(b39,[]),(m,[])]:: .sl p 1 c 46 4 (arrP (.nil,newD w h)).toList::lvRs lb ⟨newD w h,[],0⟩::histRs hb ⟨newD w h,[],[]⟩:: .cell b3 (histA (.nil,newD w h) .nil .nil) 49:: .cell xb ((newX xb hb lb A b39 m Q.p w h t).A none) 68::σ):=h68
  have h69:=shSl_room (p:=Q.p) (shSl_in (P:= .nil) (l:=[]) (((((h68.del 0).del 0).del 1).del 3).nilSl 65 1))
  exact h69.perm ((permC (a:=[_,_,_,_,_,_]) (b:=[_,_,_,_,_,_]) fun _ y=>by simp only[List.count_cons,List.count_nil];ac_rfl).append_right σ)
 refine⟨none,0,0,h23.get 3 rfl (j:=4) rfl,arrP (.nil,newD w h),rfl,hist_row (h23.block 3 rfl),?_,?_⟩
 ·refine h23.alcE fun b85 H86 he86 h86=>⟨.inl he86,?_,?_⟩
  ·refine none_doc h86 fun p c H88 h88=>⟨.inr ⟨_,rfl,hist_row (h88.block 4 rfl),rfl⟩,rfl,by decide,?_⟩
   exact h88.alc fun b89 H90 h90=>one_doc (x:=(.nil,newD w h)) h90 fun p c H92 h92=>fin p c H92 h92
  ·refine⟨rfl,by decide,h86.alcE fun b94 H95 he95 h95=>⟨.inl he95,none_doc h95.swap fun p c H97 h97=>one_doc (x:=(.nil,newD w h)) h97.swap fun p c H99 h99=>fin p c H99 h99⟩⟩
 ·refine⟨rfl,by decide,h23.alcE fun b103 H104 he104 h104=>⟨.inl he104,h104.alcE fun b105 H106 he106 h106=>⟨.inl he106,none_doc h106 fun p c H108 h108=>one_doc (x:=(.nil,newD w h)) h108.swap fun p c H110 h110=>fin p c H110 h110⟩⟩⟩
def confA(w h t:Int):Array Value:=#[.int .i64 w,.int .i64 h,.int .i64 t]
theorem c13{w h t:Int}(hs:St H0 H σ)(hsz:sizedB w h=true)(t0:0≤t)(t1:t≤1048576)
 (hR: ∀xb hb lb A m0 m1 p H',St H0 H' ((newX xb hb lb A m0 m1 p w h t).rs none++σ)→R (.tuple #[.pointer (some ⟨xb,0,none⟩),.int .i64 0]) H'):
 CallsH Tryz.prog 13 #[.agg (confA w h t)] H R:=by
 refine Tryz.s13 ?_
 unfold Tryz.S13
 refine hs.alc fun b2 H3 h3=>⟨_,h3.get 0 rfl (j:=0) rfl,_,h3.get 0 rfl (j:=1) rfl,?_⟩
 refine c28 (fun _ H7 he7=>⟨_,_,rfl,?_⟩) fun h=>by rw[hsz] at h;cases h
 refine(h3.step he7).alc fun b10 H11 h11=>⟨rfl,h11.putAll 0 rfl rfl (docA_one w h 1 .nil) fun H12 h12=>?_⟩
 intro J hJ
 refine br_ne (fun h=>absurd rfl h) fun _=>⟨_,h12.get 1 rfl (j:=2) rfl,br_n (by omega) ⟨_,h12.get 1 rfl (j:=2) rfl,br_n (by omega) (hJ H12 ?_)⟩⟩
 refine⟨confA w h t,rfl,rowIn_whole (h12.block 1 rfl),rfl,by decide,h12.alc fun b16 H17 h17=>⟨docA w h 1 .nil,rfl,rowIn_whole (h17.block 1 rfl),rfl,by decide,?_⟩⟩
 exact c29 h17 hsz t0 t1 fun hb lb A m0 m1 p H20 h20=>⟨_,rfl,hR b16 hb lb A m0 m1 p H20 ((h20.del 6).del 6)⟩
def firstB(w h t:Int):List Int:=((0::four4 w)++four4 h)++four4 t
theorem firstB_bys(w h t:Int):Bys (firstB w h t):=(Bys.app (Bys.app (a:=0::four4 w) (fun x hx=>by
 rcases List.mem_cons.1 hx with rfl|hx
 ·decide
 ·exact four4_bys w x hx) (four4_bys h)) (four4_bys t))
theorem c6{rb:Nat}{c:Int}{w h t:Int}{n:Nat}(hs:St H0 H (rlRs rb ⟨[],c,0,-1,false⟩::σ))(hc:c≤16777216)(hcn:(n:Int)+21≤c)(hsz:sizedB w h=true)(t0:0≤t)(t1:t≤1048576)
 (hR: ∀xb hb lb A m0 m1 p jb r H',RlFit r n→St H0 H' ((newX xb hb lb A m0 m1 p w h t).rs (some ⟨jb,0,none⟩)++jlRs jb rb r::σ)→R (.tuple #[.pointer (some ⟨xb,0,none⟩),.int .i64 0]) H'):
 CallsH Tryz.prog 6 #[.pointer (some ⟨rb,0,none⟩),.agg (confA w h t)] H R:=by
 have f0:RlFit ⟨[],c,0,-1,false⟩ (n+21):=⟨⟨fun x hx=>(by cases hx),by show((0:Nat):Int)≤c;omega,hc,show(-1:Int)≤9223372036854775807 by decide⟩,rfl,rfl,by show((0:Nat):Int)+((n+21:Nat):Int)≤c;omega⟩
 refine Tryz.s6 ?_
 unfold Tryz.S6
 refine hs.alc fun b3 H4 h4=>?_
 refine c11 (n:=0) h4.swap f0.ok rfl (Nat.zero_le _) fun Q0 H6 hQ0 h6=>⟨_,_,_,_,rfl,br_ne (fun h=>absurd rfl h) fun _=>?_⟩
 refine c12 h6.tail ⟨_,rfl,br_n (by show ¬((0:Nat):Int)>0;decide) ⟨confA w h t,rfl,rowIn_whole (h6.block 2 rfl),?_⟩⟩
 refine c13 h6 hsz t0 t1 fun xb hb lb A m0 m1 p H14 h14=>⟨_,_,rfl,br_ne (fun h=>absurd rfl h) fun _=>?_⟩
 refine open_none (h14.front 7 rfl) f0.ok rfl rfl (show(-1:Int)<0 by decide) fun jb Q3 H18 hQ3 h18=>⟨_,_,_,_,_,rfl,_,rfl,?_⟩
 rw[sync_fit (f0.mono (Nat.zero_le _))] at h18
 have h18:St H0 H18 (jlRs jb rb ⟨[],c,0,-1,false⟩::((newX xb hb lb A m0 m1 p w h t).rs none++[.sl Q0.p Q0.l Q0.c 5 1 (kints .u8 [])]++ .cell b3 (confA w h t) 30::σ)):=h18.cat
 refine h18.put 1 rfl (j:=5) (Nat.le_of_ble_eq_true rfl) rfl fun H23 h23=>br_ne (fun h=>absurd rfl h) fun _=>?_
 have h23:St H0 H23 (jlRs jb rb ⟨[],c,0,-1,false⟩::((newX xb hb lb A m0 m1 p w h t).rs (some ⟨jb,0,none⟩)++[.sl Q0.p Q0.l Q0.c 5 1 (kints .u8 [])]++ .cell b3 (confA w h t) 30::σ)):=h23
 refine h23.alc fun b24 H25 h25=>⟨_,h25.get 9 rfl (j:=0) rfl,number_call h25 fun b27 H28 h28=>⟨_,_,_,rfl,?_⟩⟩
 have h29:=h28.toSl 1 (l:=1) (k:=1) rfl rfl rfl (fun v hv=>by simp at hv;subst hv;rfl)
 refine h29.appI 1 rfl (h29.isB 0 rfl (n:=4) rfl) (kints_one .u8 _) rfl (by decide) (by decide) fun p1 c1 H31 h31=>?_
 have h31:St H0 H31 (.sl p1 5 c1 5 1 (kints .u8 (0::four4 w))::jlRs jb rb ⟨[],c,0,-1,false⟩::((newX xb hb lb A m0 m1 p w h t).rs (some ⟨jb,0,none⟩)++[.sl Q0.p Q0.l Q0.c 5 1 (kints .u8 [])]++ .cell b3 (confA w h t) 30::σ)):=h31.tail
 refine⟨_,h31.get 9 rfl (j:=1) rfl,_,h31.get 9 rfl (j:=2) rfl,number_call h31 fun b34 H35 h35=>⟨_,_,_,rfl,.inr ⟨_,h35.get 10 rfl (j:=2) rfl,rfl⟩,?_⟩⟩
 refine h35.appI 1 rfl (h35.isB 0 rfl (n:=4) rfl) (kints_one .u8 _) rfl (by decide) (by decide) fun p2 c2 H38 h38=>⟨.inr ⟨_,h38.get 10 rfl (j:=2) rfl,rfl⟩,?_⟩
 rw[←kints_append] at h38
 refine number_call h38.tail fun b39 H40 h40=>⟨_,_,_,rfl,?_⟩
 refine h40.appI 1 rfl (h40.isB 0 rfl (n:=4) rfl) (kints_one .u8 _) rfl (by decide) (by decide) fun p3 c3 H43 h43=>?_
 rw[←kints_append] at h43
 have h43:St H0 H43 (.sl p3 13 c3 5 1 (kints .u8 (firstB w h t))::jlRs jb rb ⟨[],c,0,-1,false⟩::((newX xb hb lb A m0 m1 p w h t).rs (some ⟨jb,0,none⟩)++[.sl Q0.p Q0.l Q0.c 5 1 (kints .u8 [])]++ .cell b3 (confA w h t) 30::σ)):=h43.tail
 refine⟨_,rfl,_,h43.get 2 rfl (j:=5) rfl,jl_append (h43.front 1 rfl) (h43.is 0 rfl) (firstB_bys w h t) (by decide) (f0.mono (by show 21≤n+21;omega)) fun H47 h47=>⟨_,rfl,br_ne (fun h=>absurd rfl h) fun _=>?_⟩⟩
 have f1:RlFit ((⟨[],c,0,-1,false⟩:RlS).more (recB (firstB w h t))) n:=RlFit.more (f0.mono (by show 21+n≤n+21;omega)) (recB_bys (firstB_bys w h t))
 refine⟨_,rfl,_,h47.get 2 rfl (j:=5) rfl,jl_sync h47 (f1.mono (Nat.zero_le _)) fun H52 h52=>⟨_,rfl,br_ne (fun h=>absurd rfl h) fun _=>hR xb hb lb A m0 m1 p jb _ H52 f1.synced ?_⟩⟩
 have h53:=h52.del 1
 have h54:St H0 H52 (jlRs jb rb {(⟨[],c,0,-1,false⟩:RlS).more (recB (firstB w h t)) with safe:=(((⟨[],c,0,-1,false⟩:RlS).more (recB (firstB w h t))).b.length:Int)}::((newX xb hb lb A m0 m1 p w h t).rs (some ⟨jb,0,none⟩)++σ)):=(h53.del 7).del 7
 exact h54.perm List.perm_middle.symm
end Go.Proofs
namespace Go.Proofs
open Go.Sh
variable {H0 H:Heap} {σ:List Rs} {R:Value→Heap→Prop}
theorem edL_size(e:Ed)(s:EdS):(edL e s).toArray.size=19:=rfl
def gpRs(K:Sl3)(ks:List T):Rs:= .pers fun H=>grp H K ks
structure XOk(n:Nat)(x:EB):Prop where
 h:HOk n x.h
 small:n≤1000
 lv:LvOk x.lv
 doc:x.lv.D=x.h.now
 len:x.past.length≤n
 fut:x.fut=[]
 hfut:x.h.fut=[]
theorem later_call{xb:Nat}{A:Array Value}{p:Option Addr}{c:Nat}{m:Option Nat}(hs:St H0 H (.cell xb A 68::σ))(hA:A.size=10)(hm:A[7]?=some (.map m))(hR: ∀b H',St H0 H' (.cell xb (A.setIfInBounds 9 (.slice (some ⟨b,0,none⟩) 0 0)) 68::σ)→R (.tuple #[]) H'):
 CallsH Tryz.prog 42 #[.pointer (some ⟨xb,0,none⟩),.slice p 0 c] H R:=by
 refine Tryz.s42 ?_
 unfold Tryz.S42
 refine⟨_,rfl,_,hs.get 0 rfl hm,by decide,by decide,by decide,by decide,hs.alc fun b5 H6 h6=>?_⟩
 intro X hX
 exact hX _ _ _ (br_n (by decide) ⟨_,rfl,h6.put 1 rfl (j:=9) (by rw[hA];decide) rfl fun H22 h22=>hR b5 H22 h22.tail⟩)
def EB.done(x:EB)(e:Ed)(Q:Sl3)(m:Nat)(s:TS)(acc:List (Int×Nat)):EB:={x with P:=Q,F:= .nil,fut:=[],now:=m,past:=x.past++[x.now],h:=(doH x.h e).2,lv:=(x.lv.doE e).2,s:=s,ms:=x.ms++[(m,acc)]}
def EB.full(x:EB)(Q:Sl3)(m:Nat)(s:TS)(acc:List (Int×Nat)):EB:={x with F:=Q,fut:=[],s:=s,ms:=x.ms++[(m,acc)]}
theorem c18{x:EB}{n jb rb:Nat}{r:RlS}{e:Ed}{es:EdS}{old:List (Int×Nat)}(hs:St H0 H (x.rs (some ⟨jb,0,none⟩)++jlRs jb rb r::σ))(hx:XOk n x)(hm:(x.now,old)∈x.ms)
 (hed: ∀H',St H0 H' σ→EdOk H' e es)(hsh:e.shape=[])(hp:e.p.length≤1000)(hpa:e.params.length≤1000)(he0:(doD x.h.now e).1=0)(hf:RlFit r ((edB e).length+9))
 (hq:shlQ x.tiles x.ab old (rasKs (doD x.h.now e).2.ks) x.s [] true fun s' acc ok'=>match ok' with
  |true=> ∀m Q H',St H0 H' ((x.done e Q m s' acc).rs (some ⟨jb,0,none⟩)++jlRs jb rb (r.more (recB (1::edB e)))::σ)→R (.int .i64 0) H'
  |false=> ∀bs:List Nat,bs.Perm (acc.map (·.2))→dropsQ bs s' fun s2=> ∀m Q H',St H0 H' ((x.full Q m s2 acc).rs (some ⟨jb,0,none⟩)++jlRs jb rb r::σ)→R (.int .i64 30) H'):
 CallsH Tryz.prog 18 #[.pointer (some ⟨x.xb,0,none⟩),.agg (edL e es).toArray] H R:=by
 have hi:=hx.h.now
 have hn:=hx.small
 refine Tryz.s18 ?_
 unfold Tryz.S18
 refine hs.alc fun b3 H4 h4=>?_
 intro J hJ
 have fin: ∀bd A' H1,St H0 H1 (docRs A' (doD x.h.now e).2:: .cell bd A' 46:: .cell b3 (edL e es).toArray 40::(x.rs (some ⟨jb,0,none⟩)++jlRs jb rb r::σ))→J [.pointer (some ⟨bd,0,none⟩),.int .i64 (doD x.h.now e).1] H1:=by
  intro bd A' H1 h1
  refine hJ _ _ _ ?_
  rw[he0]
  refine br_ne (fun h=>absurd rfl h) fun _=>⟨_,rfl,_,_,_,h1.get 3 rfl (j:=9) rfl,?_⟩
  intro X hX
  have hFl:=shSl_len (h1.front 5 rfl)
  rw[hx.fut] at hFl
  refine hX _ _ (br_n (by rw[hFl];decide) ⟨_,rfl,h1.put 3 rfl (j:=9) (Nat.le_of_ble_eq_true rfl) rfl fun H19 h19=>⟨_,rfl,_,h19.get 3 rfl (j:=7) rfl,?_⟩⟩)
  obtain⟨K,ks,hA,hks,h20⟩:=St_docOut h19
  have h21:St H0 H19 (gpRs K ks::_):=St.persOf (τ:=resG K ks) h20 fun H' h'=>(show St _ H' (resG K ks++[]) by rw[List.append_nil];exact h').grp
  subst hA
  refine⟨docA _ _ _ K,rfl,rowIn_whole (h21.block 1 rfl),?_⟩
  obtain⟨f,g⟩:=h21.fb 6 rfl
  have hcnt:cntKs (layKs ks)≤1000000000:=by rw[hks];have:=(do_inv hi.1 he0).cnt;omega
  refine c39 (K:=K) (ks:=ks) f hm (A:=x.ab) (fun H' τ h'=>h'.app.2.get 3 rfl (j:=6) rfl) (fun H' τ h'=>h'.app.2.persGet 0 rfl) hcnt ?_
  rw[hks]
  refine shlQ_mono (fun s' acc ok' hq'=>?_) hq
  cases ok' with
  |true=>
   intro m H24 h24
   have h24:=g [] _ h24
   refine⟨_,_,rfl,?_⟩
   intro J2 hJ2
   refine br_true ⟨_,edL_size e es,rowIn_whole (h24.block 2 rfl),c41 h24 (hed H24 (h24.drop 10)) hsh hp hpa fun Q H67 hQ h67=>⟨_,_,_,rfl,?_⟩⟩
   refine c40 h67 4 10 rfl rfl rfl (h67.is 0 rfl) (edB_bys e) (by decide) (by have:=edB_len e;omega) hf fun H70 h70=>⟨_,rfl,hJ2 _ _ (br_ne (fun h=>absurd rfl h) fun _=>?_)⟩
   refine⟨_,rfl,_,h70.get 4 rfl (j:=3) rfl,_,edL_size e es,rowIn_whole (h70.block 3 rfl),?_⟩
   obtain⟨f1,g1⟩:=h70.fb 8 rfl
   refine c43 f1 hx.h (by omega) (hed H70 (h70.drop 11)) fun H44 h44=>⟨_,rfl,?_⟩
   have h44:=g1 [] _ h44
   refine⟨_,rfl,_,h44.get 4 rfl (j:=4) rfl,_,edL_size e es,rowIn_whole (h44.block 3 rfl),?_⟩
   obtain⟨f2,g2⟩:=h44.fb 9 rfl
   refine c44 f2 hx.lv (by rw[hx.doc];omega) (hed H44 (h44.drop 11)) fun H50 h50=>⟨_,rfl,?_⟩
   have h50:=g2 [] _ h50
   refine⟨_,rfl,_,_,_,h50.get 4 rfl (j:=8) rfl,_,rfl,_,h50.get 4 rfl (j:=7) rfl,h50.alc fun b56 H57 h57=>⟨.inr ⟨_,_,_,h57.get 5 rfl (j:=8) rfl,rfl⟩,?_⟩⟩
   refine shSl_app (h57.front 6 rfl).swap (by have:=hx.len;omega) fun Q2 H59 hQ2 h59=>⟨_,rfl,h59.put 5 rfl (j:=8) (Nat.le_of_ble_eq_true rfl) rfl fun H61 h61=>⟨_,rfl,h61.put 5 rfl (j:=7) (Nat.le_of_ble_eq_true rfl) rfl fun H63 h63=>hq' m Q2 H63 ?_⟩⟩
   have h63:St H0 H63 (shSl Q2 (x.past++[x.now])::_::_::_::_:: .cell x.xb ((x.done e Q2 m s' acc).A (some ⟨jb,0,none⟩)) 68::_):=h63
   have h64:=shSl_in (P:= .nil) (l:=[]) (((((((h63.del 1).del 1).del 1).del 1).del 2)).nilSl 65 1)
   exact h64.perm (pm3 _ _ _ _)
  |false=>
   intro bs hb
   refine dropsQ_mono (fun s2 hq2=>?_) (hq' bs hb)
   intro m H24 h24
   have h24:=g [] _ h24
   refine⟨_,_,rfl,?_⟩
   intro J2 hJ2
   refine br_false (hJ2 _ _ (br_ne (fun _=>drop_none fun H31 he31=>⟨rfl,?_⟩) fun h=>absurd h (by decide)))
   have h31:=h24.step he31
   refine⟨_,rfl,_,h31.get 3 rfl (j:=3) rfl,?_⟩
   obtain⟨f1,g1⟩:=h31.fb 7 rfl
   refine c25 f1 hx.h (by omega) fun K' P' F' H35 hP' hF' h35=>⟨_,rfl,F'.p,F'.l,F'.c,rfl,?_⟩
   have h35:=g1 [_,_,_] _ h35
   rw[hF',hx.hfut]
   refine later_call (h35.front 6 rfl) rfl rfl fun b H39 h39=>⟨rfl,hq2 m ⟨some ⟨b,0,none⟩,0,0⟩ H39 ?_⟩
   have h39:St H0 H39 (.cell x.xb ((x.full ⟨some ⟨b,0,none⟩,0,0⟩ m s2 acc).A (some ⟨jb,0,none⟩)) 68::_::_::_::_::_::_::_):=h39
   have h40:=(((((h39.del 1).del 1).del 1).del 1).del 1).del 1
   exact(shSl_room (p:=some ⟨b,0,none⟩) (h40.del 2)).perm ((List.Perm.swap _ _ _).trans ((List.Perm.swap _ _ _).cons _))
 have row: ∀{H':Heap} {τ:List Rs} (i:Nat),St H0 H' τ→τ[i]?=some (.cell b3 (edL e es).toArray 40)→ ∃v:Array Value,v.size=19∧rowIn H' ⟨b3,0,none⟩ v∧Value.agg v= .agg (edL e es).toArray:=fun i h hi=>⟨_,edL_size e es,rowIn_whole (h.block i hi),rfl⟩
 have doit: ∀{R':Value→Heap→Prop} {A':Array Value} {τ:List Rs} {H1:Heap},DocR H1 A' x.h.now→St H0 H1 (τ++σ)→(∀A2 H2,DocR H2 A2 (doD x.h.now e).2→St H0 H2 (docRs A2 (doD x.h.now e).2::(τ++σ))→R' (.tuple #[.agg A2,.int .i64 (doD x.h.now e).1]) H2)→CallsH Tryz.prog 37 #[.agg A',.agg (edL e es).toArray] H1 R':=
  fun hd h1 hr=>do_st h1 hd hi.1 (by omega) (hed _ h1.app.2) hr
 refine⟨_,rfl,_,h4.get 1 rfl (j:=3) rfl,(edL e es).toArray,edL_size e es,rowIn_whole (h4.block 0 rfl),?_,?_⟩
 ·obtain⟨f,g⟩:=h4.fb 5 rfl
  refine c36 f hx.h fun A1 H76 hd76 h76=>⟨_,rfl,.inr (row 1 (g [_] _ h76) rfl),?_,?_⟩
  ·have h76:=g [_] _ h76
   refine doit (τ:=[_,_,_,_,_,_,_,_,_]) (h76.doc 0 rfl) h76 fun A2 H79 hd79 h79=>⟨_,_,rfl,h79.alc fun b82 H83 h83=>⟨hd79.size,h83.putAll 0 rfl hd79.size hd79.one fun H84 h84=>fin b82 A2 H84 (h84.swap.del 2)⟩⟩
  ·have h76:=g [_] _ h76
   refine h76.alc fun b85 H86 h86=>⟨.inr (row 2 h86 rfl),?_⟩
   refine doit (τ:=[_,_,_,_,_,_,_,_,_,_]) (h86.doc 1 rfl) h86 fun A2 H88 hd88 h88=>⟨_,_,rfl,hd88.size,h88.putAll 1 rfl hd88.size hd88.one fun H91 h91=>fin b85 A2 H91 (h91.del 2)⟩
 ·refine h4.alc fun b94 H95 h95=>⟨.inr ⟨row 1 h95 rfl,⟨_,h95.get 2 rfl (j:=3) rfl,rfl⟩⟩,?_⟩
  obtain⟨f,g⟩:=h95.fb 6 rfl
  refine c36 f hx.h fun A1 H97 hd97 h97=>⟨_,rfl,.inr (row 2 (g [_] _ h97) rfl),?_⟩
  have h97:=g [_] _ h97
  refine doit (τ:=[_,_,_,_,_,_,_,_,_,_]) (h97.doc 0 rfl) h97 fun A2 H100 hd100 h100=>⟨_,_,rfl,hd100.size,h100.putAll 2 rfl hd100.size hd100.one fun H103 h103=>fin b94 A2 H103 (h103.del 1)⟩
end Go.Proofs
namespace Go.Proofs
open Go.Sh
variable {H0 H:Heap} {σ:List Rs} {R:Value→Heap→Prop}
def EB.undone(x:EB)(Q:Sl3)(l:List Nat)(m:Nat):EB:={x with P:=⟨x.P.p,l.length,x.P.c⟩,F:=Q,now:=m,past:=l,fut:=x.fut++[x.now],h:=(undoH x.h).2,lv:=⟨(undoH x.h).2.now,[],x.lv.n⟩}
theorem c19{x:EB}{n jb rb:Nat}{r:RlS}{l:List Nat}{m:Nat}(hs:St H0 H (x.rs (some ⟨jb,0,none⟩)++jlRs jb rb r::σ))(hk:HOk n x.h)(hn:n≤1000)(hlen:x.past.length≤n∧x.fut.length≤n)(hpast:x.past=l++[m])(hf:RlFit r 9)
 (hR: ∀Q H',St H0 H' ((x.undone Q l m).rs (some ⟨jb,0,none⟩)++jlRs jb rb (r.more (recB [2]))::σ)→R (.int .i64 0) H'):
 CallsH Tryz.prog 19 #[.pointer (some ⟨x.xb,0,none⟩)] H R:=by
 have hPl:=shSl_len (hs.front 1 rfl)
 have hll:x.past.length=l.length+1:=by rw[hpast];simp
 refine Tryz.s19 ?_
 unfold Tryz.S19
 refine⟨_,rfl,_,rfl,_,rfl,_,hs.get 0 rfl (j:=3) rfl,?_⟩
 refine Tryz.s45 ?_
 unfold Tryz.S45
 refine⟨_,rfl,_,_,_,hs.get 0 rfl (j:=8) rfl,br_eq (fun h=>by omega) fun _=>?_⟩
 refine c40 hs 0 6 rfl rfl rfl (p:=none) (l:=0) (xs:=[]) ⟨rfl,fun i v h=>by simp[kints] at h⟩ (fun y hy=>by cases hy) (by decide) (by decide) hf fun H9 h9=>⟨_,rfl,br_ne (fun h=>absurd rfl h) fun _=>?_⟩
 obtain⟨f1,g1⟩:=h9.fb 4 rfl
 show CallsH Tryz.prog 46 #[.pointer (some ⟨x.hb,0,none⟩)] H9 _
 refine c46 f1 hk (by omega) fun H12 h12=>⟨_,rfl,_,rfl,_,_,_,(g1 [] _ h12).get 0 rfl (j:=8) rfl,_,rfl,_,_,_,(g1 [] _ h12).get 0 rfl (j:=9) rfl,_,rfl,_,(g1 [] _ h12).get 0 rfl (j:=7) rfl,?_⟩
 have h12:=g1 [] _ h12
 refine h12.alc fun b20 H21 h21=>⟨.inr ⟨_,_,_,h21.get 1 rfl (j:=9) rfl,rfl⟩,?_⟩
 refine shSl_app (h21.front 3 rfl).swap (by omega) fun Q H23 hQ h23=>⟨_,rfl,h23.put 1 rfl (j:=9) (Nat.le_of_ble_eq_true rfl) rfl fun H25 h25=>?_⟩
 have hw:IntKind.wrap .i64 ((x.P.l:Int)-1)=(l.length:Nat):=by rw[wrap_id (by omega) (by omega)];omega
 have hne:x.past≠[]:=by rw[hpast];simp
 have h26:=shSl_out (h25.front 2 rfl) hne
 rw[hpast] at h26
 obtain⟨b,hb⟩:=h26.slSome 0 (j:=0) rfl (by simp[mapsV])
 obtain⟨a,ha,hc⟩:=(h26.is 0 rfl).cell (i:=l.length) (v:= .map (some m)) (by simp[mapsV])
 have hle:=(h26.fs 0 rfl).le
 rw[hw]
 refine⟨_,rfl,_,_,_,h25.get 1 rfl (j:=8) rfl,a,ha,by omega,by omega,_,by rw[Int.toNat_natCast,Nat.mul_one];exact hc,_,rfl,_,_,_,h25.get 1 rfl (j:=8) rfl,by omega,by omega,_,rfl,?_⟩
 refine h26.put 2 rfl (j:=7) (Nat.le_of_ble_eq_true rfl) rfl fun H33 h33=>⟨_,rfl,?_⟩
 have hval:Value.slice (if x.P.c=0 then x.P.p else Option.map (fun y=>Addr.add y (0*1)) x.P.p) (Int.toNat ((l.length:Nat):Int)-0) (x.P.c-0)= .slice x.P.p l.length x.P.c:=by
  rw[hb,if_neg (by omega)];rfl
 rw[hval]
 refine h33.put 2 rfl (j:=8) (Nat.le_of_ble_eq_true rfl) rfl fun H35 h35=>⟨_,rfl,_,h35.get 2 rfl (j:=4) rfl,_,rfl,_,h35.get 2 rfl (j:=3) rfl,?_⟩
 have h36:=h35.slTake 0 rfl (n:=l.length) (by omega)
 have htk:(mapsV (l++[m])).take (l.length*1)=mapsV l:=by rw[Nat.mul_one];simp[mapsV]
 rw[htk] at h36
 obtain⟨f2,g2⟩:=h36.fb 4 rfl
 refine c36 f2 hk.undoH fun A' H41 hd h41=>⟨_,rfl,.inr ⟨_,(g2 [_] _ h41).get 3 rfl (j:=4) rfl,rfl⟩,?_⟩
 have h41:=g2 [_] _ h41
 obtain⟨f3,g3⟩:=h41.fb 6 rfl
 refine c90 f3 hd hk.undoH.now.1 fun H44 h44=>⟨rfl,_,rfl,hR Q H44 ?_⟩
 have h44:=g3 [] _ h44
 have h45:St H0 H44 (.sl x.P.p l.length x.P.c 65 1 (mapsV l)::shSl Q (x.fut++[x.now]):: .cell x.xb ((x.undone Q l m).A (some ⟨jb,0,none⟩)) 68::_):=h44.del 0
 exact(shSl_in (P:=⟨x.P.p,l.length,x.P.c⟩) h45).perm (((List.Perm.swap _ _ _).cons _).trans (List.Perm.swap _ _ _))
def cmdL(k:Int)(e:Ed)(s:EdS):List Value:= .int .i64 k::(edL e s++[.int .i64 0,.int .i64 0,.int .i64 0,.int .i64 0,.int .i64 0,.bool false])
theorem cmd_row{b:Nat}{k:Int}{e:Ed}{s:EdS}{ty:TypeId}(hb:H[b]?=some (.cells (cmdL k e s).toArray ty)):rowIn H ⟨b,1,none⟩ (edL e s).toArray:=
 rowIn_block hb fun j v hv=>by
  have hj:j<(edL e s).length:=(Array.getElem?_eq_some_iff.1 hv).1
  rw[Nat.add_comm]
  simp only[List.getElem?_toArray] at hv ⊢
  show(cmdL k e s)[j+1]?=_
  unfold cmdL
  rw[List.getElem?_cons_succ,List.getElem?_append_left hj];exact hv
def resA(v:Int):Array Value:=#[.int .i64 v,.slice none 0 0,.slice none 0 0]
theorem resA_one(v:Int): ∀u∈(resA v).toList,u.oneCell'=true:=by
 show ∀u∈[Value.int .i64 v,.slice none 0 0,.slice none 0 0],u.oneCell'=true
 simp only[List.forall_mem_cons]
 exact⟨rfl,rfl,rfl,fun _ h=>by cases h⟩
theorem do_edit{x:EB}{n jb rb:Nat}{r:RlS}{e:Ed}{es:EdS}{old:List (Int×Nat)}(hs:St H0 H (x.rs (some ⟨jb,0,none⟩)++jlRs jb rb r::σ))(hx:XOk n x)(hm:(x.now,old)∈x.ms)
 (hed: ∀H',St H0 H' σ→EdOk H' e es)(hsh:e.shape=[])(hp:e.p.length≤1000)(hpa:e.params.length≤1000)(he0:(doD x.h.now e).1=0)(hf:RlFit r ((edB e).length+9))
 (hq:shlQ x.tiles x.ab old (rasKs (doD x.h.now e).2.ks) x.s [] true fun s' acc ok'=>match ok' with
  |true=> ∀m Q H',St H0 H' ((x.done e Q m s' acc).rs (some ⟨jb,0,none⟩)++jlRs jb rb (r.more (recB (1::edB e)))::σ)→R (.agg (resA 0)) H'
  |false=> ∀bs:List Nat,bs.Perm (acc.map (·.2))→dropsQ bs s' fun s2=> ∀m Q H',St H0 H' ((x.full Q m s2 acc).rs (some ⟨jb,0,none⟩)++jlRs jb rb r::σ)→R (.agg (resA 30)) H'):
 CallsH Tryz.prog 7 #[.pointer (some ⟨x.xb,0,none⟩),.agg (cmdL 1 e es).toArray] H R:=by
 refine Tryz.s7 ?_
 unfold Tryz.S7
 refine hs.alc fun b3 H4 h4=>h4.alc fun b5 H6 h6=>⟨1,h6.get 1 rfl (j:=0) rfl,br_eq (fun _=>?_) fun h=>absurd rfl h⟩
 refine⟨(edL e es).toArray,rfl,cmd_row (h6.block 1 rfl),?_⟩
 have h7:St H0 H6 (x.rs (some ⟨jb,0,none⟩)++jlRs jb rb r::(_::_::σ)):=h6.perm (List.perm_append_comm_assoc [_,_] [_,_,_,_,_,_,_] σ)
 refine c18 h7 hx hm (fun H' h'=>hed H' (h'.drop 2)) hsh hp hpa he0 hf (shlQ_mono (fun s' acc ok' hq'=>?_) hq)
 cases ok' with
 |true=>
  intro m Q H10 h10
  exact⟨_,rfl,rfl,h10.putAll 7 rfl rfl (resA_one 0) fun H12 h12=>⟨resA 0,rfl,rowIn_whole (h12.block 7 rfl),hq' m Q H12 ((h12.del 7).del 7)⟩⟩
 |false=>
  intro bs hb
  refine dropsQ_mono (fun s2 hq2=>?_) (hq' bs hb)
  intro m Q H10 h10
  exact⟨_,rfl,rfl,h10.putAll 7 rfl rfl (resA_one 30) fun H12 h12=>⟨resA 30,rfl,rowIn_whole (h12.block 7 rfl),hq2 m Q H12 ((h12.del 7).del 7)⟩⟩
theorem do_undo{x:EB}{n jb rb:Nat}{r:RlS}{l:List Nat}{m:Nat}{e:Ed}{es:EdS}(hs:St H0 H (x.rs (some ⟨jb,0,none⟩)++jlRs jb rb r::σ))(hk:HOk n x.h)(hn:n≤1000)(hlen:x.past.length≤n∧x.fut.length≤n)(hpast:x.past=l++[m])(hf:RlFit r 9)
 (hR: ∀Q H',St H0 H' ((x.undone Q l m).rs (some ⟨jb,0,none⟩)++jlRs jb rb (r.more (recB [2]))::σ)→R (.agg (resA 0)) H'):
 CallsH Tryz.prog 7 #[.pointer (some ⟨x.xb,0,none⟩),.agg (cmdL 2 e es).toArray] H R:=by
 refine Tryz.s7 ?_
 unfold Tryz.S7
 refine hs.alc fun b3 H4 h4=>h4.alc fun b5 H6 h6=>⟨2,h6.get 1 rfl (j:=0) rfl,br_eq (fun h=>absurd h (by decide)) fun _=>br_eq (fun _=>?_) fun h=>absurd rfl h⟩
 have h7:St H0 H6 (x.rs (some ⟨jb,0,none⟩)++jlRs jb rb r::(_::_::σ)):=h6.perm (List.perm_append_comm_assoc [_,_] [_,_,_,_,_,_,_] σ)
 refine c19 h7 hk hn hlen hpast hf fun Q H10 h10=>?_
 exact⟨_,rfl,rfl,h10.putAll 7 rfl rfl (resA_one 0) fun H12 h12=>⟨resA 0,rfl,rowIn_whole (h12.block 7 rfl),hR Q H12 ((h12.del 7).del 7)⟩⟩
theorem c8{x:EB}{j:Option Addr}(hs:St H0 H (x.rs j++σ))(hA:x.s.A=x.ab)(hR:R (.int .i64 x.s.free) H):CallsH Tryz.prog 8 #[.pointer (some ⟨x.xb,0,none⟩)] H R:=by
 refine Tryz.s8 ⟨_,rfl,_,hs.get 0 rfl (j:=6) rfl,?_⟩
 rw[←hA]
 exact ar_free (hs.front 3 rfl) ⟨_,rfl,hR⟩
theorem c9{x:EB}{j:Option Addr}{n:Nat}(hs:St H0 H (x.rs j++σ))(hk:HOk n x.h)(hn:n≤1000)(hR: ∀(K' P' F':Sl3) H',Ext H0 H'→DocR H' (arrP (K',x.h.now)) x.h.now→R (.agg (histA (K',x.h.now) P' F')) H'):CallsH Tryz.prog 9 #[.pointer (some ⟨x.xb,0,none⟩)] H R:=by
 refine Tryz.s9 ?_
 unfold Tryz.S9
 refine hs.alc fun b2 H3 h3=>⟨_,rfl,_,h3.get 1 rfl (j:=3) rfl,?_⟩
 obtain⟨f1,g1⟩:=h3.fb 5 rfl
 refine c25 f1 hk (by omega) fun K' P' F' H7 hP' hF' h7=>⟨_,rfl,rfl,?_⟩
 have h7:=g1 [_,_,_] _ h7
 exact h7.putAll 3 rfl rfl (histA_one _ _ _) fun H9 h9=>⟨histA (K',x.h.now) P' F',rfl,rowIn_whole (h9.block 3 rfl),hR K' P' F' H9 h9.ext (h9.doc 0 rfl)⟩
end Go.Proofs
namespace Go.Proofs
open Go.Sh
variable {cap:Int} {s:TS}
theorem pixQ_false{k b:Nat}{w:Int}{Q:TS→Bool→Prop}: ∀{l:List Int} {i:Int},Q s false→pixQ cap k b w l i s false Q
 |[],_,h=>h
 |_::r,_,h=>pixQ_false (l:=r) h
theorem pixQ_same{k b:Nat}{w:Int}{p:Go.Tile.Pl}{Q:TS→Bool→Prop}(hk:s.pls[k]?=some p)(hb:p.b=b)(hQ:Q s true): ∀(l:List Int) (i:Nat),(∀(j:Nat) v,l[j]?=some v→p.has (((i+j:Nat):Int)%w) (((i+j:Nat):Int)/w)=true∧(0≤v∧v<4294967296)∧Go.Tile.pxAt s p (((i+j:Nat):Int)%w) (((i+j:Nat):Int)/w)=v)→pixQ cap k b w l i s true Q
 |[],i,h=>hQ
 |v::r,i,h=>by
  obtain⟨h1,h2,h3⟩:=h 0 v rfl
  refine⟨p,hk,hb,h1,h2,fun _=>?_,fun hne=>absurd h3 hne,fun hne=>absurd h3 hne⟩
  have:=pixQ_same hk hb hQ r (i+1) fun j u hu=>by
   have:=h (j+1) u (by simpa using hu)
   rw[show i+(j+1)=i+1+j from by omega] at this;exact this
  exact this
theorem px_bare{p:Go.Tile.Pl}(h:p.en=[])(x y:Int):Go.Tile.pxAt s p x y=0:=by
 unfold Go.Tile.pxAt
 rw[h]
 cases p.has x y<;>rfl
theorem has_at{p:Go.Tile.Pl}{w h:Int}(hw:p.w=w)(hh:p.h=h)(w1:1≤w){i:Nat}(hi:i<(w*h).toNat):p.has ((i:Int)%w) ((i:Int)/w)=true:=by
 have h1:=Int.emod_nonneg (i:Int) (b:=w) (by omega)
 have h2:=Int.emod_lt_of_pos (i:Int) (b:=w) (by omega)
 have h3:=Int.ediv_nonneg (a:=(i:Int)) (b:=w) (by omega) (by omega)
 have h4:(i:Int)/w<h:=Int.ediv_lt_of_lt_mul (by omega) (by rw[Int.mul_comm];omega)
 unfold Go.Tile.Pl.has
 exact decide_eq_true ⟨h1,by rw[hw];exact h2,h3,by rw[hh];exact h4⟩
theorem shLook_none{es:List (Int×Nat)}{x:Int}:shLook es x=none↔ ∀z∈es,z.1≠x:=by simp[shLook]
theorem shLook_some{es:List (Int×Nat)}{x:Int}{b:Nat}(h:shLook es x=some b):(x,b)∈es:=by
 unfold shLook at h
 cases hf:es.find? (·.1==x) with
 |none=>rw[hf] at h;cases h
 |some z=>
  rw[hf] at h;cases h
  have h1:=List.mem_of_find?_eq_some hf
  have h2:z.1=x:=by simpa using List.find?_some hf
  rw[←h2];exact h1
structure Bare(w h:Int)(A:Nat)(s:TS):Prop where
 a:s.A=A
 ts:s.ts=[]
 pl: ∀p∈s.pls,p.en=[]∧p.w=w∧p.h=h
def Refer(es:List (Int×Nat))(s:TS):Prop:= ∀z∈es,∃p∈s.pls,p.b=z.2
theorem shl_bare {w h : Int} {A : Nat} {old : List (Int × Nat)} (w1 : 1 ≤ w) (w2 : w ≤ 32768) (h1 : 0 ≤ h) (h2 : h ≤ 32768) (hwh : (w * h).toNat ≤ 1000000000) : ∀ (l : List LayF) (s : TS) (acc : List (Int × Nat)) {Q : TS → List (Int × Nat) → Bool → Prop},
    (∀ f ∈ l, f.w = w ∧ f.h = h ∧ f.p = List.replicate (w * h).toNat 0) → (l.map (·.id)).Nodup → (∀ f ∈ l, shLook acc f.id = none) → s.pls.length + l.length ≤ 1000000 → Bare w h A s → Refer old s → Refer acc s →
    (∀ s' acc', Bare w h A s' → s'.free = s.free → s'.pls.length = s.pls.length + l.length → Refer acc' s' → (∀ p ∈ s.pls, p ∈ s'.pls) → Q s' acc' true) → shlQ cap A old l s acc true Q
  | [], s, acc, Q, _, _, _, _, hb, _, ha, hQ => hQ s acc hb rfl rfl ha fun p hp => hp
  | f :: r, s, acc, Q, hf, hn, hacc, hlen, hb, ho, ha, hQ => by
    obtain ⟨f1, f2, f3⟩ := hf f List.mem_cons_self
    rw [List.map_cons, List.nodup_cons] at hn
    rw [List.length_cons] at hlen
    have step : ∀ (q : Go.Tile.Pl), q.en = [] ∧ q.w = w ∧ q.h = h → pixQ cap s.pls.length q.b f.w f.p 0 (snapS s q) true fun s' ok' => shlQ cap A old r s' (acc ++ [(f.id, q.b)]) ok' Q := by
      intro q hq
      have hk : (snapS s q).pls[s.pls.length]? = some q := by simp [snapS]
      have hmem : ∀ p ∈ s.pls, p ∈ (snapS s q).pls := fun p hp => List.mem_append_left _ hp
      rw [f1, f3]
      refine pixQ_same hk rfl ?_ _ 0 fun j v hv => ?_
      · have hl : (snapS s q).pls.length = s.pls.length + 1 := by simp [snapS]
        refine shl_bare w1 w2 h1 h2 hwh r (snapS s q) (acc ++ [(f.id, q.b)]) (fun g hg => hf g (List.mem_cons_of_mem _ hg)) hn.2 (fun g hg => ?_) (by omega) ⟨hb.a, hb.ts, fun p hp => ?_⟩ (fun z hz => let ⟨p, hp, e⟩ := ho z hz; ⟨p, hmem p hp, e⟩) (fun z hz => ?_) fun s' acc' g1 g2 g3 g4 g5 => hQ s' acc' g1 g2 (by rw [g3, hl, List.length_cons]; omega) g4 fun p hp => g5 p (hmem p hp)
        · refine shLook_none.2 fun z hz => ?_
          rcases List.mem_append.1 hz with hz | hz
          · exact shLook_none.1 (hacc g (List.mem_cons_of_mem _ hg)) z hz
          · rw [List.mem_singleton] at hz; subst hz
            exact fun e => hn.1 (List.mem_map.2 ⟨g, hg, e.symm⟩)
        · rcases List.mem_append.1 hp with hp | hp
          · exact hb.pl p hp
          · rw [List.mem_singleton] at hp; subst hp; exact hq
        · rcases List.mem_append.1 hz with hz | hz
          · obtain ⟨p, hp, e⟩ := ha z hz; exact ⟨p, hmem p hp, e⟩
          · rw [List.mem_singleton] at hz; subst hz
            exact ⟨q, List.mem_append_right _ (List.mem_singleton.2 rfl), rfl⟩
      · rw [Nat.zero_add]
        rw [List.getElem?_replicate] at hv
        have hj : j < (w * h).toNat := by
          split at hv
          · assumption
          · cases hv
        rw [if_pos hj] at hv
        cases hv
        exact ⟨has_at hq.2.1 hq.2.2 w1 hj, by decide, px_bare hq.1 _ _⟩
    unfold shlQ
    refine ⟨hb.a, by omega, hacc f List.mem_cons_self, by omega, by omega, by omega, by omega, by rw [f3, List.length_replicate]; exact hwh, ?_⟩
    cases hl : shLook old f.id with
    | none => exact fun b m _ => step (newPl m b f.w f.h) ⟨rfl, f1, f2⟩
    | some b0 =>
      obtain ⟨p0, hp0, e⟩ := ho _ (shLook_some hl)
      refine ⟨p0, hp0, e, fun b m done hd _ => step (snapPl p0 b m done) ?_⟩
      obtain ⟨g1, g2, g3⟩ := hb.pl p0 hp0
      have : done = [] := by
        cases done with
        | nil => rfl
        | cons x l => have := hd.sub x List.mem_cons_self; rw [g1] at this; cases this
      subst this
      exact ⟨rfl, g2, g3⟩
theorem ras_idsL: ∀t:Lay,((rasL t).map (·.id)).Sublist (idsT t):=by
 have ks: ∀ts:List Lay,(∀t∈ts,((rasL t).map (·.id)).Sublist (idsT t))→((rasKs ts).map (·.id)).Sublist (idsKs ts):=by
  intro ts
  induction ts with
  |nil=>exact fun _=>List.Sublist.refl _
  |cons t ts ih=>
   intro h
   rw[rasKs,idsKs,List.map_append]
   exact(h t List.mem_cons_self).append (ih fun u hu=>h u (List.mem_cons_of_mem _ hu))
 refine Lay.ind fun f l ih=>?_
 rw[rasL,idsT,List.map_append]
 have h1:((if f.kind=0 then[f] else[]).map (·.id)).Sublist [f.id]:=by
  split
  ·exact List.Sublist.refl _
  ·exact List.nil_sublist _
 exact h1.append (ks l ih)
theorem ras_ids: ∀ts:List Lay,((rasKs ts).map (·.id)).Sublist (idsKs ts)
 |[]=>List.Sublist.refl _
 |t::ts=>by
  rw[rasKs,idsKs,List.map_append]
  exact(ras_idsL t).append (ras_ids ts)
theorem ras_mem{f:LayF}: ∀{ts:List Lay},(∀t∈ts,t.kids=[])→f∈rasKs ts→ ∃t∈ts,t.f=f∧f.kind=0
 |[],_,h=>by cases h
 | .mk g l::ts,hk,h=>by
  have hl:l=[]:=hk _ List.mem_cons_self
  subst hl
  rw[rasKs,rasL,rasKs,List.append_nil] at h
  rcases List.mem_append.1 h with h|h
  ·split at h
   ·rename_i h0
    rw[List.mem_singleton] at h;subst h
    exact⟨_,List.mem_cons_self,rfl,h0⟩
   ·cases h
  ·obtain⟨t,ht,e⟩:=ras_mem (fun t ht=>hk t (List.mem_cons_of_mem _ ht)) h
   exact⟨t,List.mem_cons_of_mem _ ht,e⟩
theorem cnt_flat: ∀{ts:List Lay},(∀t∈ts,t.kids=[])→cntKs ts=ts.length
 |[],_=>rfl
 | .mk g l::ts,hk=>by
  have hl:l=[]:=hk _ List.mem_cons_self
  subst hl
  rw[cntKs,cntL,cntKs,cnt_flat fun t ht=>hk t (List.mem_cons_of_mem _ ht),List.length_cons];omega
theorem dep_flat: ∀{ts:List Lay},(∀t∈ts,t.kids=[])→depKs ts≤1
 |[],_=>Nat.zero_le _
 | .mk g l::ts,hk=>by
  have hl:l=[]:=hk _ List.mem_cons_self
  subst hl
  have:=dep_flat fun t ht=>hk t (List.mem_cons_of_mem _ ht)
  rw[depKs,depL,depKs];omega
theorem add_flat{D:DocL}{e:Ed}(hk: ∀t∈D.ks,t.kids=[])(hl:D.ks.length<4096)(k1:e.kind=1)(k2:e.to=0)(k3:e.at_= -1)(n0:0≤e.n)(n2:e.n≤2)(hs:sizedB e.w e.h=true):doD D e=(0,⟨D.w,D.h,D.next+1,D.ks++[.mk (newL D.next e) []]⟩):=by
 have hp:putL [] D.ks (-1) (.mk (newL D.next e) [])=(0,D.ks++[.mk (newL D.next e) []]):=by
  unfold putL atL
  rw[if_pos rfl]
  simp only[List.take_length,List.drop_length,plugL]
  rw[if_neg]
  have:=dep_flat (ts:=D.ks++[.mk (newL D.next e) []]) fun t ht=>by
   rcases List.mem_append.1 ht with ht|ht
   ·exact hk t ht
   ·rw[List.mem_singleton] at ht;subst ht;rfl
  omega
 have hh:homeL D.ks e.to=(0,[],D.ks):=by unfold homeL;rw[if_pos k2]
 have ha:addL D.next D.ks e=(0,D.ks++[.mk (newL D.next e) []]):=by
  unfold addL
  rw[if_neg (show ¬(e.n<0∨e.n>2) by omega),if_neg (show ¬(e.n=0∧sizedB e.w e.h=false) by rw[hs];simp),hh,k3,hp]
  rw[if_neg (by simp),if_neg (by simp),if_neg (by rw[cnt_flat hk];omega)]
 have hd:doL D.w D.h D.next D.ks e=(0,D.next+1,D.ks++[.mk (newL D.next e) []]):=by
  unfold doL stepL nextL
  rw[if_neg (show ¬(e.kind<1∨e.kind>9) by omega),if_pos k1,if_pos k1,ha,if_neg (by simp)]
 unfold doD
 rw[hd,if_neg (by simp)]
end Go.Proofs
namespace Go.Proofs
open Go.Sh
variable {H0 H:Heap} {σ:List Rs} {R:Value→Heap→Prop}
def gE(k:Nat):Ed:=ed0 1 0 0 (-1) (Int.tmod k 3) 0 0 0 20 20
def gK:Nat→List Lay
 |0=>[]
 |k+1=>gK k++[.mk (newL ((k:Int)+1) (gE k)) []]
def gD(k:Nat):DocL:=⟨3,3,(k:Int)+1,gK k⟩
theorem gE_n(k:Nat):0≤(gE k).n∧(gE k).n≤2:=by
 show 0≤Int.tmod k 3∧Int.tmod k 3≤2
 rw[Int.tmod_eq_emod_of_nonneg (Int.natCast_nonneg k)];omega
theorem gK_mem{t:Lay}: ∀{k:Nat},t∈gK k→ ∃j:Nat,t= .mk (newL ((j:Int)+1) (gE j)) []
 |0,h=>by cases h
 |k+1,h=>by
  rcases List.mem_append.1 h with h|h
  ·exact gK_mem h
  ·exact⟨k,List.mem_singleton.1 h⟩
theorem gK_kids{k:Nat}: ∀t∈gK k,t.kids=[]:=fun t ht=>by obtain⟨j,rfl⟩:=gK_mem ht;rfl
theorem gK_len: ∀k,(gK k).length=k
 |0=>rfl
 |k+1=>by rw[gK,List.length_append,gK_len k];rfl
theorem gD_do{k:Nat}(hk:k<4096):doD (gD k) (gE k)=(0,gD (k+1)):=by
 rw[add_flat (D:=gD k) (e:=gE k) gK_kids (by show(gK k).length<_;rw[gK_len];exact hk) rfl rfl rfl (gE_n k).1 (gE_n k).2 (show sizedB 20 20=true by decide)]
 rfl
theorem gK_ras{k:Nat}{f:LayF}(h:f∈rasKs (gK k)):f.w=20∧f.h=20∧f.p=List.replicate ((20:Int)*20).toNat 0:=by
 obtain⟨t,ht,rfl,h0⟩:=ras_mem gK_kids h
 obtain⟨j,rfl⟩:=gK_mem ht
 have h0:(gE j).n=0:=h0
 show(if (gE j).n=0 then(20:Int) else 0)=20∧(if (gE j).n=0 then(20:Int) else 0)=20∧(if (gE j).n=0 then List.replicate ((20:Int)*20).toNat 0 else[])=_
 rw[if_pos h0,if_pos h0]
 exact⟨rfl,rfl,rfl⟩
theorem ras_len: ∀{ts:List Lay},(∀t∈ts,t.kids=[])→(rasKs ts).length≤ts.length
 |[],_=>Nat.le_refl _
 | .mk g l::ts,hk=>by
  have hl:l=[]:=hk _ List.mem_cons_self
  subst hl
  have:=ras_len fun t ht=>hk t (List.mem_cons_of_mem _ ht)
  rw[rasKs,rasL,rasKs,List.append_nil,List.length_append,List.length_cons]
  have h2:(if g.kind=0 then[g] else[]).length≤1:=by split<;>simp
  omega
theorem ed0_fits(H:Heap)(k:Nat):EdOk H (gE k) es0:=ed0_ok H ..
structure GI(k:Nat)(x:EB):Prop where
 ok:XOk k x
 doc:x.h.now=gD k
 hpast:x.h.past=(List.range k).map gD
 plen:x.past.length=k
 bare:Bare 20 20 x.ab x.s
 free:x.s.free=0
 pln:x.s.pls.length≤k*12
 now: ∃old,(x.now,old)∈x.ms∧Refer old x.s
theorem edB_flat(k:Nat):(recB (1::edB (gE k))).length≤218∧(edB (gE k)).length≤209:=by
 have h:=edB_len (gE k)
 have h2:11*((gE k).p.length+(gE k).params.length+19)=209:=rfl
 rw[recB_len,List.length_cons];omega
theorem XOk.done{n:Nat}{x:EB}{e:Ed}(hx:XOk n x)(hn:n<1000)(he0:(doD x.h.now e).1=0)(Q:Sl3)(m:Nat)(s:TS)(acc:List (Int×Nat)):XOk (n+1) (x.done e Q m s acc):=by
 have hd:doH x.h e=(0,⟨(doD x.h.now e).2,x.h.past++[x.h.now],[]⟩):=by unfold doH;rw[if_pos he0]
 have hl:(x.lv.doE e).2.D=(doD x.h.now e).2:=by
  unfold LvS.doE
  rw[hx.doc,if_neg (by rw[he0];simp)]
 refine⟨hx.h.doH e,hn,hx.lv.doE e,?_,?_,rfl,?_⟩
 ·show(x.lv.doE e).2.D=(doH x.h e).2.now
  rw[hl,hd]
 ·show(x.past++[x.now]).length≤_
  have:=hx.len
  rw[List.length_append,List.length_singleton];omega
 ·show(doH x.h e).2.fut=[]
  rw[hd]
theorem do_group{x:EB}{k m jb rb:Nat}{r:RlS}(hs:St H0 H (x.rs (some ⟨jb,0,none⟩)++jlRs jb rb r::σ))(hx:GI k x)(hk:k<12)(hf:RlFit r (218+m))
 (hR: ∀x' r' H',GI (k+1) x'→x'.xb=x.xb→RlFit r' m→St H0 H' (x'.rs (some ⟨jb,0,none⟩)++jlRs jb rb r'::σ)→R (.agg (resA 0)) H'):
 CallsH Tryz.prog 7 #[.pointer (some ⟨x.xb,0,none⟩),.agg (cmdL 1 (gE k) es0).toArray] H R:=by
 obtain⟨old,hold,href⟩:=hx.now
 have hd:=gD_do (k:=k) (by omega)
 have he0:(doD x.h.now (gE k)).1=0:=by rw[hx.doc,hd]
 have hi:Inv (gD (k+1)):=by
  have:=do_inv hx.ok.h.now.1 he0
  rw[hx.doc,hd] at this;exact this
 obtain⟨hb1,hb2⟩:=edB_flat k
 have hrl:=ras_len (ts:=gK (k+1)) gK_kids
 rw[gK_len] at hrl
 have hpl:=hx.pln
 refine do_edit hs hx.ok hold (fun H' _=>ed0_fits H' k) rfl (Nat.zero_le _) (Nat.zero_le _) he0 (hf.mono (by omega)) ?_
 rw[hx.doc,hd]
 refine shl_bare (w:=20) (h:=20) (by decide) (by decide) (by decide) (by decide) (by decide) _ _ _ (fun f hf=>gK_ras hf) ((ras_ids _).nodup hi.ids) (fun f hf=>rfl) (by show _+(rasKs (gK (k+1))).length≤_;omega) hx.bare href (fun z hz=>by cases hz) fun s' acc' g1 g2 g3 g4 g5=>?_
 intro mm Q H' h'
 refine hR (x.done (gE k) Q mm s' acc') _ H' ⟨hx.ok.done (by omega) he0 Q mm s' acc',?_,?_,?_,g1,by rw[←hx.free];exact g2,?_,⟨acc',List.mem_append_right _ (List.mem_singleton.2 rfl),g4⟩⟩ rfl (RlFit.more (hf.mono (by omega)) (recB_bys (List.forall_mem_cons.2 ⟨by decide,edB_bys _⟩))) h'
 ·show(doH x.h (gE k)).2.now=_
  unfold doH;rw[if_pos he0,hx.doc,hd]
 ·show(doH x.h (gE k)).2.past=_
  unfold doH;rw[if_pos he0,hx.doc,hx.hpast,List.range_succ,List.map_append];rfl
 ·show(x.past++[x.now]).length=_
  rw[List.length_append,hx.plen];rfl
 ·show s'.pls.length≤_
  rw[g3]
  show _+(rasKs (gK (k+1))).length≤_
  omega
structure GU(n t:Nat)(x:EB):Prop where
 h:HOk n x.h
 doc:x.h.now=gD (n-t)
 hpast:x.h.past=(List.range (n-t)).map gD
 plen:x.past.length=n-t
 flen:x.fut.length=t
 a:x.s.A=x.ab
 free:x.s.free=0
theorem do_back{x:EB}{n t m jb rb:Nat}{r:RlS}{e:Ed}{es:EdS}(hs:St H0 H (x.rs (some ⟨jb,0,none⟩)++jlRs jb rb r::σ))(hx:GU n t x)(hn:n≤12)(ht:t<n)(hf:RlFit r (9+m))
 (hR: ∀x' r' H',GU n (t+1) x'→x'.xb=x.xb→RlFit r' m→St H0 H' (x'.rs (some ⟨jb,0,none⟩)++jlRs jb rb r'::σ)→R (.agg (resA 0)) H'):
 CallsH Tryz.prog 7 #[.pointer (some ⟨x.xb,0,none⟩),.agg (cmdL 2 e es).toArray] H R:=by
 have h1:=hx.plen
 have h2:=hx.flen
 rcases snoc_or x.past with h0|⟨l,mm,hl⟩
 ·rw[h0] at h1;simp at h1;omega
 have hll:l.length=n-(t+1):=by rw[hl,List.length_append,List.length_singleton] at h1;omega
 refine do_undo hs hx.h (by omega) ⟨by omega,by omega⟩ hl (hf.mono (by omega)) fun Q H' h'=>?_
 have hu:undoH x.h=(0,⟨gD (n-(t+1)),(List.range (n-(t+1))).map gD,x.h.fut++[x.h.now]⟩):=by
  have e1:x.h=⟨x.h.now,(List.range (n-(t+1))).map gD++[gD (n-(t+1))],x.h.fut⟩:=by
   have:=hx.hpast
   rw[show n-t=n-(t+1)+1 from by omega,List.range_succ,List.map_append] at this
   rcases hh:x.h with ⟨a,b,c⟩
   rw[hh] at this
   simp only at this
   rw[this];rfl
  rw[e1,undo_snoc]
 refine hR (x.undone Q l mm) _ H' ⟨hx.h.undoH,?_,?_,hll,?_,hx.a,hx.free⟩ rfl (RlFit.more (x:=recB [2]) hf (recB_bys (List.forall_mem_cons.2 ⟨by decide,fun y hy=>by cases hy⟩))) h'
 ·show(undoH x.h).2.now=_
  rw[hu]
 ·show(undoH x.h).2.past=_
  rw[hu]
 ·show(x.fut++[x.now]).length=_
  rw[List.length_append,h2];rfl
theorem edg_law(anchor: ∀{H:Heap} {R:Value→Heap→Prop},(∀H',Ext H H'→R (.bool true) H')→CallsH Tryz.prog 4 #[] H R){n1 un2:Int}(hR: ∀H',Ext H H'→R (.bool true) H'):CallsH Tryz.prog 3 #[.int .i64 n1,.int .i64 un2] H R:=by
 refine Tryz.s3 ?_
 unfold Tryz.S3
 refine anchor fun H4 he4=>⟨_,rfl,br_f rfl ?_⟩
 intro J6 hJ6
 refine br_dec (fun _=>hR _ he4) fun n0=>br_dec (fun _=>hR _ he4) fun n12=>br_dec (fun _=>hR _ he4) fun u0=>hJ6 _ ?_
 obtain⟨n,rfl⟩: ∃n:Nat,n1=n:=⟨n1.toNat,by omega⟩
 have hn:n≤12:=by omega
 refine c5 (St.of_ext he4) (by decide) (by decide) fun rb H9 h9=>⟨_,rfl,br_f rfl ?_⟩
 refine c6 (n:=12*218+12*9) h9 (by decide) (by decide) (by decide) (by decide) (by decide) fun xb hb lb A m0 m1 p jb r H12 hf h12=>⟨_,_,rfl,?_⟩
 intro J15 hJ15
 refine br_ne (fun h=>absurd rfl h) fun _=>br_f rfl (hJ15 _ ?_)
 intro X17 hX17
 have fin: ∀(x:EB) (r:RlS) H1,GI n x→x.xb=xb→RlFit r (n*9)→St H H1 (x.rs (some ⟨jb,0,none⟩)++jlRs jb rb r::[])→X17 [.int .i64 (n:Nat)] H1:=by
  intro x r H1 gx ex hf1 h1
  have hw:IntKind.wrap .i64 ((n:Int)+1)=(n:Int)+1:=wrap_id (by omega) (by omega)
  refine hX17 _ _ (br_n (by omega) ?_)
  rw[hw]
  refine⟨by omega,?_⟩
  intro X24 hX24
  have hu0:0≤Int.tmod un2 ((n:Int)+1)∧Int.tmod un2 ((n:Int)+1)≤n:=by
   rw[Int.tmod_eq_emod_of_nonneg (by omega)]
   have h1:=Int.emod_nonneg un2 (b:=(n:Int)+1) (by omega)
   have h2:=Int.emod_lt_of_pos un2 (b:=(n:Int)+1) (by omega)
   omega
  obtain⟨u,hu⟩: ∃u:Nat,Int.tmod un2 ((n:Int)+1)=u:=⟨(Int.tmod un2 ((n:Int)+1)).toNat,by omega⟩
  rw[hu] at hX24 hu0
  have go: ∀t,t≤u→ ∀(y:EB) (r2:RlS) H2,GU n t y→y.xb=xb→RlFit r2 ((n-t)*9)→St H H2 (y.rs (some ⟨jb,0,none⟩)++jlRs jb rb r2::[])→X24 [.int .i64 (t:Nat)] H2:=by
   refine upto fun t ht ih y r2 H2 gy ey hf2 h2=>hX24 _ _ (br_dec (fun hlt=>?_) fun hge=>?_)
   ·rw[←ey]
    refine do_back (e:=ed0 0 0 0 0 0 0 0 0 0 0) (es:=es0) (m:=(n-(t+1))*9) h2 gy hn (by omega) (hf2.mono (by omega)) fun y' r' H28 gy' ey' hf' h28=>⟨_,rfl,0,rfl,br_ne (fun h=>absurd rfl h) fun _=>?_⟩
    rw[wrap_id (by omega) (by omega)]
    exact ih (by omega) y' r' H28 gy' (ey'.trans ey) hf' h28
   ·obtain rfl:t=u:=by omega
    rw[←ey]
    refine c8 h2 gy.a ⟨_,rfl,?_⟩
    rw[gy.free]
    refine br_eq (fun _=>⟨by omega,?_⟩) fun h=>absurd rfl h
    refine c9 h2 gy.h (by omega) fun K' P' F' H35 he35 hd=>⟨_,rfl,?_⟩
    have hcnt:cntKs y.h.now.ks=n-t:=by rw[gy.doc];show cntKs (gK (n-t))=_;rw[cnt_flat gK_kids,gK_len]
    refine c10 (A:=arrP (K',y.h.now)) hd (by omega) fun H38 he38=>⟨_,rfl,?_⟩
    have:=hR H38 (he35.trans he38)
    rw[hcnt,wrap_id (by omega) (by omega),show((((n-t:Nat):Int))==((n:Int)-(t:Int)))=true from by simp;omega]
    exact this
  exact go 0 (Nat.zero_le _) x r H1 ⟨gx.ok.h,gx.doc,gx.hpast,gx.plen,by rw[gx.ok.fut];rfl,gx.bare.a,gx.free⟩ ex (by simpa using hf1) h1
 have go: ∀k,k≤n→ ∀(x:EB) (r:RlS) H1,GI k x→x.xb=xb→RlFit r ((n-k)*218+n*9)→St H H1 (x.rs (some ⟨jb,0,none⟩)++jlRs jb rb r::[])→X17 [.int .i64 (k:Nat)] H1:=by
  refine upto fun k hk ih x r H1 gx ex hf1 h1=>?_
  by_cases hlt:k<n
  ·refine hX17 _ _ (br_y (by omega) ⟨by decide,rfl,by decide,?_⟩)
   rw[←ex]
   refine do_group (k:=k) (m:=(n-(k+1))*218+n*9) h1 gx (by omega) (hf1.mono (by omega)) fun x' r' H21 gx' ex' hf' h21=>⟨_,rfl,0,rfl,br_ne (fun h=>absurd rfl h) fun _=>?_⟩
   rw[wrap_id (by omega) (by omega)]
   exact ih hlt x' r' H21 gx' (ex'.trans ex) hf' h21
  ·obtain rfl:k=n:=by omega
   exact fin x r H1 gx ex (hf1.mono (by omega)) h1
 refine go 0 (Nat.zero_le _) (newX xb hb lb A m0 m1 p 3 3 0) r H12 ⟨⟨HOk.start (by decide),by decide,LvOk.start (new_inv (by decide)) (by decide),rfl,Nat.le_refl _,rfl,rfl⟩,rfl,rfl,rfl,⟨rfl,rfl,fun p hp=>by cases hp⟩,rfl,Nat.zero_le _,⟨[],List.mem_cons_of_mem _ List.mem_cons_self,fun z hz=>by cases hz⟩⟩ rfl (hf.mono (by omega)) h12
end Go.Proofs
namespace Go.Tile
def putAll(k:Nat)(cs:List (Int×Int))(v:Int)(j:Nat)(X Y w:Int):Int:=if j=k∧(X,Y)∈cs then v else w
structure Painted(cap:Int)(k:Nat)(v:Int)(s:St)(p:Pl)(cs:List (Int×Int))(s':St)(p':Pl):Prop where
 pk:s'.pls[k]?=some p'
 ok:Ok cap s'
 views:Views s s' (putAll k cs v)
 free:s'.free=s.free-(needKeys s p v cs []).length
 oth: ∀j,j≠k→s'.pls[j]?=s.pls[j]?
 like:Like p p'
 keep: ∀K L,(K,L)∉needKeys s p v cs []→tileOf p'.en K L=tileOf p.en K L
 new: ∀K L,(K,L)∈needKeys s p v cs []→ ∃n,tileOf p'.en K L=some n∧n∉s.ts.map (·.1)
 keys: ∀t,t∈s.ts.map (·.1)→t∈s'.ts.map (·.1)
theorem painted{cap:Int}{k:Nat}{v:Int}(hv:0≤v∧v<4294967296){s s':St}{cs:List (Int×Int)}(hp:Paints k v s cs s'): ∀{p:Pl},Ok cap s→s.pls[k]?=some p→ ∃p',Painted cap k v s p cs s' p':=by
 induction hp with
 |nil s=>
  intro p hok hk
  exact⟨p,hk,hok,(Views.refl s).eq (fun j X Y w=>by simp[putAll]),by simp[needKeys],fun _ _=>rfl,Like.refl p,fun _ _ _=>rfl,fun K L h=>by simp[needKeys] at h,fun t h=>h⟩
 | @same s s' p0 x y r hk0 hhas hpx hr ih=>
  intro p hok hk
  have hpp:p=p0:=by rw[hk] at hk0;exact Option.some.inj hk0
  subst hpp
  obtain⟨p',h⟩:=ih hok hk
  have hnk:needKeys s p v ((x,y)::r) []=needKeys s p v r []:=by
   rw[needKeys,if_neg (fun hh=>hh.1 hpx)]
  refine⟨p',h.pk,h.ok,⟨h.views.A,h.views.len,fun j q hq=>?_⟩,by rw[hnk];exact h.free,h.oth,h.like,fun K L hh=>h.keep K L (hnk▸hh),fun K L hh=>h.new K L (hnk▸hh),h.keys⟩
  obtain⟨q',h1,h2,h3⟩:=h.views.pl j q hq
  refine⟨q',h1,h2,fun X Y=>?_⟩
  rw[h3]
  unfold putAll
  by_cases hc:j=k∧(X,Y)∈r
  ·rw[if_pos hc,if_pos ⟨hc.1,List.mem_cons_of_mem _ hc.2⟩]
  ·rw[if_neg hc]
   by_cases hc':j=k∧(X,Y)∈(x,y)::r
   ·rw[if_pos hc']
    obtain⟨hj,hm⟩:=hc'
    rcases List.mem_cons.1 hm with hm|hm
    ·cases hm
     subst hj
     rw[hk] at hq;cases hq
     exact hpx
    ·exact absurd ⟨hj,hm⟩ hc
   ·rw[if_neg hc']
 | @wrote s s1 s' p0 x y r hk0 hhas hpx hw hr ih=>
  intro p hok hk
  have hpp:p=p0:=by rw[hk] at hk0;exact Option.some.inj hk0
  subst hpp
  obtain⟨p1,st⟩:=wrote_step hok hk hw
  have hok1:=wrote_ok hok hk hv hw
  have hv1:=wrote_views hok hk hhas hw
  obtain⟨p',h⟩:=ih hok1 st.pk
  have hlen:=needKeys_step hok hk hhas hpx hw st.pk r
  have hpx1: ∀X Y,pxAt s1 p1 X Y=put1 k x y v k X Y (pxAt s p X Y):=by
   obtain⟨q',hq',_,h3⟩:=hv1.pl k p hk
   rw[st.pk] at hq';cases hq'
   exact h3
  have m1:=mem_needKeys s1 p1 v r []
  have m2:=mem_needKeys s p v ((x,y)::r) []
  -- a key is taken in the whole just if it is taken now,or by the rest
  have hmem: ∀K L,(K,L)∈needKeys s p v ((x,y)::r) []↔((needs s p (x/16) (y/16)=true∧K=x/16∧L=y/16)∨(K,L)∈needKeys s1 p1 v r []):=by
   intro K L
   rw[m1,m2]
   simp only[List.not_mem_nil,false_or]
   constructor
   ·rintro⟨c,hc,hh,heq⟩
    simp only[Prod.mk.injEq] at heq
    by_cases hK:K=x/16∧L=y/16
    ·refine .inl ⟨?_,hK⟩
     have:=hh.2
     rw[←heq.1,←heq.2,hK.1,hK.2] at this
     exact this
    ·rcases List.mem_cons.1 hc with rfl|hc
     ·exact absurd heq hK
     ·refine .inr ⟨c,hc,⟨?_,?_⟩,by rw[heq.1,heq.2]⟩
      ·rw[hpx1]
       unfold put1
       rw[if_neg (fun h'=>hK (by rw[heq.1,heq.2,h'.2.1,h'.2.2];exact⟨rfl,rfl⟩))]
       exact hh.1
      ·rw[st.need,hh.2]
       have hb:(c.1/16==x/16&&c.2/16==y/16)=false:=by
        rw[←Bool.not_eq_true,Bool.and_eq_true,beq_iff_eq,beq_iff_eq,←heq.1,←heq.2];exact hK
       rw[hb];rfl
   ·rintro(⟨hn,rfl,rfl⟩|⟨c,hc,hh,heq⟩)
    ·exact⟨(x,y),List.mem_cons_self,⟨hpx,hn⟩,rfl⟩
    ·refine⟨c,List.mem_cons_of_mem _ hc,⟨?_,?_⟩,heq⟩
     ·have:=hh.1
      rw[hpx1] at this
      unfold put1 at this
      by_cases hxy:c.1=x∧c.2=y
      ·rw[if_pos ⟨rfl,hxy.1,hxy.2⟩] at this;exact absurd rfl this
      ·rwa [if_neg (fun h'=>hxy ⟨h'.2.1,h'.2.2⟩)] at this
     ·have:=hh.2
      rw[st.need,Bool.and_eq_true] at this
      exact this.1
  refine⟨p',h.pk,h.ok,?_,?_,fun j hj=>(h.oth j hj).trans (st.oth j hj),st.like.trans h.like,fun K L hh=>?_,fun K L hh=>?_,fun t ht=>h.keys t (st.keys t ht)⟩
  ·refine(hv1.trans h.views).eq fun j X Y w=>?_
   unfold putAll put1
   by_cases hj:j=k
   ·by_cases hm:(X,Y)∈r
    ·rw[if_pos ⟨hj,hm⟩,if_pos ⟨hj,List.mem_cons_of_mem _ hm⟩]
    ·rw[if_neg (fun h'=>hm h'.2)]
     by_cases hxy:X=x∧Y=y
     ·rw[if_pos ⟨hj,hxy.1,hxy.2⟩,if_pos ⟨hj,by rw[hxy.1,hxy.2];exact List.mem_cons_self⟩]
     ·rw[if_neg (fun h'=>hxy ⟨h'.2.1,h'.2.2⟩),if_neg (fun h'=>?_)]
      rcases List.mem_cons.1 h'.2 with h'|h'
      ·cases h';exact hxy ⟨rfl,rfl⟩
      ·exact hm h'
   ·rw[if_neg (fun h'=>hj h'.1),if_neg (fun h'=>hj h'.1),if_neg (fun h'=>hj h'.1)]
  ·rw[h.free,st.free]
   split at hlen<;>rename_i hn
   ·rw[if_pos hn];omega
   ·rw[if_neg hn];omega
  ·have hh':=fun h'=>hh ((hmem K L).2 h')
   rw[h.keep K L (fun h'=>hh' (.inr h'))]
   obtain⟨n,_,hn⟩:=st.tile
   rw[hn,if_neg (fun h'=>hh' (.inl h'))]
  ·by_cases hr':(K,L)∈needKeys s1 p1 v r []
   ·obtain⟨n,hn1,hn2⟩:=h.new K L hr'
    exact⟨n,hn1,fun h'=>hn2 (st.keys n h')⟩
   ·have hl:=((hmem K L).1 hh).resolve_right hr'
    obtain⟨n,hn1,hn2⟩:=st.tile
    refine⟨n,?_,hn1 hl.1⟩
    rw[h.keep K L hr',hn2,if_pos hl]
end Go.Tile
namespace Go.Proofs
open Go.Sh Go.Tile
theorem px_of_tile{s s':St}{p q:Pl}{X Y:Int}(hh:q.has X Y=p.has X Y)(ht:tileOf q.en (X/16) (Y/16)=tileOf p.en (X/16) (Y/16))(hp: ∀t,tileOf p.en (X/16) (Y/16)=some t→pxOf s'.ts t=pxOf s.ts t):
 pxAt s' q X Y=pxAt s p X Y:=by
 unfold pxAt
 rw[hh,ht]
 cases p.has X Y with
 |false=>rfl
 |true=>
  cases h:tileOf p.en (X/16) (Y/16) with
  |none=>rfl
  |some t=>simp only[hp t h]
theorem snap_px{s:St}{p:Pl}{b m:Nat}{done:List En}(pok:PlOk p)(hs:Same done p.en)(X Y:Int):pxAt (snapS s (snapPl p b m done)) (snapPl p b m done) X Y=pxAt s p X Y:=
 px_of_tile rfl (by show tileOf (cp done) _ _=_;rw[tileOf_cp,same_tileOf hs pok.keys]) (fun _ _=>rfl)
theorem needs_snap{cap:Int}{s:St}{p:Pl}{b m:Nat}{done:List En}(hok:Ok cap s)(hp:p∈s.pls)(hs:Same done p.en){q:Pl}(hq:q.en=p.en∨q=snapPl p b m done)(K L:Int):needs (snapS s (snapPl p b m done)) q K L=true:=by
 have pok:=hok.pl p hp
 have ht:tileOf q.en K L=tileOf p.en K L:=by
  rcases hq with hq|rfl
  ·rw[hq]
  ·show tileOf (cp done) _ _=_
   rw[tileOf_cp,same_tileOf hs pok.keys]
 unfold needs
 rw[ht]
 cases h:tileOf p.en K L with
 |none=>rfl
 |some t=>
  obtain⟨e,he,_,rfl⟩:=tileOf_mem h
  have h1:=refs_pos hp he
  have h2:=refs_snap s p b m done e.t
  have h3:0<done.countP (·.t==e.t):=List.countP_pos_iff.2 ⟨e,hs.all e he,by simp⟩
  have:refs (snapS s (snapPl p b m done)).pls e.t≠1:=by omega
  simp[this]
end Go.Proofs
namespace Go.Proofs
open Go.Sh
variable {H0 H:Heap} {σ:List Rs} {R:Value→Heap→Prop}
theorem free_zero{s:TS}{p:Go.Tile.Pl}(ok:Go.Tile.Ok 1 s)(hp:p∈s.pls)(he:p.en≠[]):s.free=0:=by
 obtain⟨e,he⟩:=List.exists_mem_of_ne_nil _ he
 obtain⟨z,hz,_⟩:=List.mem_map.1 ((ok.live e.t).1 (Go.Tile.refs_pos hp he))
 have h1:=List.length_pos_of_mem hz
 have h2:=ok.count
 have h3:=ok.free
 omega
theorem en_of_px{s:TS}{p:Go.Tile.Pl}{x y:Int}(h:Go.Tile.pxAt s p x y≠0):p.en≠[]:=fun he=>h (px_bare he x y)
def fA(px:List Int):LayF:=⟨1,0,false,255,0,4,4,px,[],⟨65536,0,0,65536,0,0⟩,false,2,[]⟩
structure Shown(A:Nat)(s:TS)(b:Nat):Prop where
 a:s.A=A
 ok:Go.Tile.Ok 1 s
 len:s.pls.length≤100
 pl: ∃p∈s.pls,p.b=b∧p.w=4∧p.h=4∧ ∀X Y,Go.Tile.pxAt s p X Y=if X=0∧Y=0 then 255 else 0
theorem shl_two{A:Nat}{old:List (Int×Nat)}{s:TS}{Q:TS→List (Int×Nat)→Bool→Prop}(hb:Bare 4 4 A s)(hf:s.free=1)(hl:s.pls.length≤10)(ho:Refer old s)(hQ: ∀s' b,Shown A s' b→Q s' [(1,b)] true):
 shlQ 1 A old [fA (255::List.replicate 15 0)] s [] true Q:=by
 have step: ∀(q:Go.Tile.Pl),q.en=[]∧q.w=4∧q.h=4→Go.Tile.Ok 1 (snapS s q)→pixQ 1 s.pls.length q.b 4 (255::List.replicate 15 0) 0 (snapS s q) true fun s' ok'=>Q s' [(1,q.b)] ok':=by
  intro q hq ok
  have hk:(snapS s q).pls[s.pls.length]?=some q:=by simp[snapS]
  have h0:q.has 0 0=true:=by unfold Go.Tile.Pl.has;rw[hq.2.1,hq.2.2];rfl
  refine⟨q,hk,rfl,h0,by decide,fun h=>?_,fun _ _ h=>?_,fun _ s' ok' hw=>?_⟩
  ·rw[px_bare hq.1] at h;exact absurd h (by decide)
  ·have h:s.free=0:=h
   rw[hf] at h;cases h
  ·have vw:=Go.Tile.wrote_views ok hk h0 hw
   obtain⟨q',hk',lk,hpx⟩:=vw.pl _ _ hk
   have hpx': ∀X Y,Go.Tile.pxAt s' q' X Y=if X=0∧Y=0 then 255 else 0:=fun X Y=>by
    rw[hpx,px_bare hq.1]
    unfold Go.Tile.put1
    by_cases h:X=0∧Y=0
    ·rw[if_pos h,if_pos ⟨rfl,h⟩]
    ·rw[if_neg h,if_neg fun h'=>h h'.2]
   have hQ':Q s' [(1,q.b)] true:=hQ s' q.b ⟨vw.A.trans hb.a,ok',by rw[vw.len];show(s.pls++[q]).length≤_;rw[List.length_append,List.length_singleton];omega,q',List.mem_of_getElem? hk',lk.b,lk.w.trans hq.2.1,lk.h.trans hq.2.2,hpx'⟩
   refine pixQ_same (Q:=fun s' ok'=>Q s' [(1,q.b)] ok') hk' lk.b hQ' (List.replicate 15 0) 1 fun j v hv=>?_
   rw[List.getElem?_replicate] at hv
   have hj:j<15:=by
    split at hv
    ·assumption
    ·cases hv
   rw[if_pos hj] at hv
   cases hv
   refine⟨has_at (lk.w.trans hq.2.1) (lk.h.trans hq.2.2) (by decide) (by show 1+j<16;omega),by decide,?_⟩
   rw[hpx',if_neg (by omega)]
 unfold shlQ
 refine⟨hb.a,by omega,rfl,by decide,by decide,by decide,by decide,by decide,?_⟩
 cases hl:shLook old (fA (255::List.replicate 15 0)).id with
 |none=>exact fun b m ok=>step (newPl m b 4 4) ⟨rfl,rfl,rfl⟩ ok
 |some b0=>
  obtain⟨p0,hp0,e⟩:=ho _ (shLook_some hl)
  refine⟨p0,hp0,e,fun b m done hd ok=>step (snapPl p0 b m done) ?_ ok⟩
  obtain⟨g1,g2,g3⟩:=hb.pl p0 hp0
  have:done=[]:=by
   cases done with
   |nil=>rfl
   |cons x l=>have:=hd.sub x List.mem_cons_self;rw[g1] at this;cases this
  subst this
  exact⟨rfl,g2,g3⟩
theorem shl_three{A b:Nat}{s:TS}{Q:TS→List (Int×Nat)→Bool→Prop}(hs:Shown A s b)(hQ: ∀s' b',(∀Q':TS→Prop,(∀s2,s2.free=0→s2.A=A→Q' s2)→dropsQ [b'] s' Q')→Q s' [(1,b')] false):
 shlQ 1 A [(1,b)] [fA (255::255::List.replicate 14 0)] s [] true Q:=by
 obtain⟨p0,hp0,hb0,hw,hh,hpx⟩:=hs.pl
 have hl:=hs.len
 unfold shlQ
 refine⟨hs.a,by omega,rfl,by decide,by decide,by decide,by decide,by decide,?_⟩
 show ∃p0∈s.pls,p0.b=b∧_
 refine⟨p0,hp0,hb0,fun b' m done hd ok=>?_⟩
 have pok:=hs.ok.pl p0 hp0
 have hen:p0.en≠[]:=en_of_px (x:=0) (y:=0) (s:=s) (by rw[hpx];decide)
 generalize hq:snapPl p0 b' m done=q at ok ⊢
 have hqw:q.w=4:=by subst hq;exact hw
 have hqh:q.h=4:=by subst hq;exact hh
 have hqb:q.b=b':=by subst hq;rfl
 have hk:(snapS s q).pls[s.pls.length]?=some q:=by simp[snapS]
 have hqx: ∀X Y,Go.Tile.pxAt (snapS s q) q X Y=if X=0∧Y=0 then 255 else 0:=fun X Y=>by subst hq;rw[snap_px pok hd,hpx]
 have hp1:p0∈(snapS s q).pls:=List.mem_append_left _ hp0
 have hfree:s.free=0:=free_zero hs.ok hp0 hen
 have hneed: ∀K L,Go.Tile.needs (snapS s q) q K L=true:=fun K L=>by
  have:=needs_snap (b:=b') (m:=m) hs.ok hp0 hd (q:=q) (.inr hq.symm) K L
  rw[hq] at this;exact this
 have hQ':Q (snapS s q) [(1,b')] false:=hQ _ b' fun Q' h2=>⟨⟨_,q,hk,hqb⟩,fun k p hkp hpb=>?_⟩
 ·refine⟨q,hk,hqb,has_at hqw hqh (by decide) (i:=0) (by decide),by decide,fun _=>?_,fun h=>absurd (hqx 0 0) h,fun h=>absurd (hqx 0 0) h⟩
  refine⟨q,hk,hqb,has_at hqw hqh (by decide) (i:=1) (by decide),by decide,fun h=>?_,fun _ _ _=>pixQ_false (Q:=fun s' ok'=>Q s' [(1,b')] ok') hQ',fun _ s' _ hw=>?_⟩
  ·have h3:=hqx 1 0
   have h:Go.Tile.pxAt (snapS s q) q 1 0=255:=h
   rw[h] at h3
   exact absurd h3 (by decide)
  ·rcases hw with ⟨h,_⟩|⟨_,h,_⟩
   ·rw[hneed] at h;cases h
   ·exact absurd hfree h
 ·refine h2 _ ?_ hs.a
  obtain⟨j,hj⟩:=List.getElem?_of_mem hp0
  have hjl:=(List.getElem?_eq_some_iff.1 hj).1
  have hj':(snapS s q).pls[j]?=some p0:=by show(s.pls++[q])[j]?=_;rw[List.getElem?_append_left hjl];exact hj
  have hkl:=(List.getElem?_eq_some_iff.1 hkp).1
  have hkn:k=s.pls.length:=by
   have hlq:=(List.getElem?_eq_some_iff.1 hk).1
   refine(List.getElem_inj (xs:=(snapS s q).pls.map (·.b)) (h₀:=by simpa using hkl) (h₁:=by simpa using hlq) ok.bs).1 ?_
   simp only[List.getElem_map]
   rw[(List.getElem?_eq_some_iff.1 hkp).2,(List.getElem?_eq_some_iff.1 hk).2,hpb,hqb]
  refine free_zero (p:=p0) (drop_ok ok hkp) ?_ hen
  refine List.mem_of_getElem? (i:=j) ?_
  show((snapS s q).pls.set k (bare p))[j]?=_
  rw[List.getElem?_set_ne (by omega)];exact hj'
end Go.Proofs
