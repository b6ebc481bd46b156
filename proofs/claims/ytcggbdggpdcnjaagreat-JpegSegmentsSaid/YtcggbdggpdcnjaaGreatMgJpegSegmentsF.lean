/-
  OWN WORK. Several texts in one: JpT, HuffM, JrA, JrB, JrC, JpH, JpU, JpW, JrD, JrE, JpV, JpI, JrF.
-/
import Derived.Test.YtcggbdggpdcnjaaGreatMgJpegSegmentsE
import Derived.Test.YtcggbdggpdcnjaaGreatMgJpegSegmentsD

set_option linter.unusedVariables false
set_option linter.unusedSimpArgs false
namespace Go.Proofs
open Go.Sh
variable {H0 H:Heap} {σ:List Rs} {R:Value→Heap→Prop}
noncomputable def markM(ma:Int)(d r:List Int)(s:Jst):Option (Jst×List (Nat×Nat)×List Int):=
 if 224≤ma∧ma≤239∨ma=254 then headM r s
 else if ma=219 then(match stepsD d s.st with
  |none=>none
  |some S=>headM r {s with st:=S})
 else if ma=192 then(match sizesM d s with
  |none=>none
  |some s'=>headM r s')
 else if ma=196 then(match codesD d s.cd with
  |none=>none
  |some C=>headM r {s with cd:=C})
 else if ma=218 then(match scanM d s with
  |none=>none
  |some t=>some (s,t,r))
 else none
theorem headM_no{b:List Int}{s:Jst}(h:b.length<2∨b.getD 0 0≠255):headM b s=none:=by rw[headM,if_pos h]
theorem headM_noseg{b:List Int}{s:Jst}(h:segM (b.drop 2)=none):headM b s=none:=by
 by_cases h1:b.length<2∨b.getD 0 0≠255
 ·exact headM_no h1
 ·rw[headM,if_neg h1]
  split
  ·rfl
  ·rename_i heq;rw[h] at heq;cases heq
theorem headM_seg{b d r:List Int}{s:Jst}(h1: ¬(b.length<2∨b.getD 0 0≠255))(h:segM (b.drop 2)=some (d,r)):headM b s=markM (b.getD 1 0) d r s:=by
 rw[headM,if_neg h1]
 split
 ·rename_i heq;rw[h] at heq;cases heq
 ·rename_i heq;rw[h] at heq;cases heq;rfl
theorem drop2{b:List Int}{i:Nat}(h:i+1<b.length):b.drop i=b.getD i 0::b.getD (i+1) 0::b.drop (i+2):=by
 rw[List.drop_eq_getElem_cons (by omega),List.drop_eq_getElem_cons h,gD_get (List.getElem?_eq_getElem (show i<b.length by omega)),gD_get (List.getElem?_eq_getElem h)]
section
variable {r l c:Nat} {p:Option Addr} {s:Jst} {b:List Int}
set_option maxHeartbeats 1000000 in
theorem c33(hs:St H0 H (jrR H0 r p l c s::σ))(hb:SlB H0 p l c b)(hbl:l≤1000000000)
 (hbad:headM b s=none→ ∀cs H',cs.size=6→(∀v∈cs.toList,v.oneCell'=true)→St H0 H' σ→R (.tuple #[.agg cs,.bool false]) H')
 (hR: ∀s' t rest,headM b s=some (s',t,rest)→ ∀f Q p' l' c',JrP H0 Q f p' l' c' s'→SlB H0 p' l' c' rest→l'≤1000000000→ ∀H',St H0 H' (.cell r (tabV 22 f) 97:: .pers Q::σ)→R (.tuple #[.agg (tabV 6 (scanV f t)),.bool true]) H'):
 CallsH Tryz.prog 33 #[.pointer (some ⟨r,0,none⟩)] H R:=by
 obtain⟨res,hres⟩: ∃x,headM b s=x:=⟨_,rfl⟩
 rw[hres] at hbad
 simp only[hres] at hR
 refine Tryz.s33 ?_
 unfold Tryz.S33
 refine hs.alc fun b2 H1 hs1=>?_
 rw[six_nil] at hs1
 have hs1:=hs1.swap
 have ret: ∀{ρ:Rs} (H2:Heap),res=none→St H0 H2 (ρ:: .cell b2 (tabV 6 fun _=> .pointer none) 99::σ)→
  ∃v:Array Value,v.size=6∧rowIn H2 ⟨b2,0,none⟩ v∧v.size=6∧stAt H2 ⟨b2,0,none⟩ v.toList fun H'=> ∃re:Array Value,re.size=6∧rowIn H' ⟨b2,0,none⟩ re∧R (.tuple #[.agg re,.bool false]) H':=fun H2 hn hs2=>
  retC (K:=fun re H'=>R (.tuple #[.agg re,.bool false]) H') hs2 1 rfl (tabV_size _ _) (tabV_one fun _=>rfl) fun H3 hs3=>hbad hn _ H3 (tabV_size _ _) (tabV_one fun _=>rfl) hs3.tail.tail
 have ret': ∀(H2:Heap),res=none→St H0 H2 (.cell b2 (tabV 6 fun _=> .pointer none) 99::σ)→
  ∃v:Array Value,v.size=6∧rowIn H2 ⟨b2,0,none⟩ v∧v.size=6∧stAt H2 ⟨b2,0,none⟩ v.toList fun H'=> ∃re:Array Value,re.size=6∧rowIn H' ⟨b2,0,none⟩ re∧R (.tuple #[.agg re,.bool false]) H':=fun H2 hn hs2=>
  retC (K:=fun re H'=>R (.tuple #[.agg re,.bool false]) H') hs2 0 rfl (tabV_size _ _) (tabV_one fun _=>rfl) fun H3 hs3=>hbad hn _ H3 (tabV_size _ _) (tabV_one fun _=>rfl) hs3.tail
 intro X hX
 have loop: ∀(m:Nat) (b:List Int) (p:Option Addr) (l c:Nat) (s:Jst) (H2:Heap),b.length≤m→SlB H0 p l c b→l≤1000000000→headM b s=res→St H0 H2 (jrR H0 r p l c s:: .cell b2 (tabV 6 fun _=> .pointer none) 99::σ)→X [] H2:=by
  intro m
  induction m with
  |zero=>
   intro b p l c s H2 hm hb hbl he hs2
   have hl:=hb.len
   rw[headM_no (.inl (by omega))] at he
   refine hX H2 ?_
   intro J hJ
   exact⟨_,rfl,_,_,_,jrR_b hs2,br_y (by omega) (ret H2 he.symm hs2)⟩
  |succ m ih=>
   intro b p l c s H2 hm hb hbl he hs2
   have hl:=hb.len
   have hle:=hb.le
   refine hX H2 ?_
   intro J hJ
   refine⟨_,rfl,_,_,_,jrR_b hs2,br_dec (fun h2=>?_) (fun h2=>⟨_,rfl,_,_,_,jrR_b hs2,hb.rd hs2.ext (by omega) (by omega) (br_ne (fun hff=>?_) (fun hff=>hJ H2 ?_))⟩)⟩
   ·rw[headM_no (.inl (by omega))] at he
    exact ret H2 he.symm hs2
   ·rw[headM_no (.inr hff)] at he
    exact ret H2 he.symm hs2
   clear hJ J
   have hok: ¬(b.length<2∨b.getD 0 0≠255):=fun h=>by
    rcases h with h|h
    ·omega
    ·exact h hff
   have hma:=hb.byte 1
   refine⟨_,rfl,_,_,_,jrR_b hs2,hb.rd hs2.ext (by omega) (by omega) ⟨_,rfl,_,_,_,jrR_b hs2,by decide,by omega,_,rfl,?_⟩⟩
   refine jrR_putB hs2 _ _ _ fun H3 hs3=>?_
   have hb2:=hb.from_ (m:=2) (by omega)
   refine c68 hs3 hb2 (fun hno H4 hs4=>⟨_,_,_,_,rfl,br_t rfl ?_⟩) (fun d rest p1 l1 c1 p2 l2 c2 hseg hd hrest H4 hs4=>⟨_,_,_,_,rfl,br_f rfl ?_⟩)
   ·rw[headM_noseg hno] at he
    exact ret' H4 he.symm hs4
   rw[headM_seg hok hseg] at he
   rw[show Int.toNat 1=1 from rfl]
   generalize b.getD 1 0=ma at he hma ⊢
   unfold markM at he
   have hsl:=segM_len hseg
   rw[List.length_drop] at hsl
   have hrl:=hrest.len
   have hdl:l1≤1000000000:=by
    have h1:=hd.len
    have:d.length≤b.length:=by
     unfold segM at hseg
     split at hseg
     ·cases hseg
     ·split at hseg
      ·cases hseg
      ·cases hseg;simp;omega
    omega
   have hm':rest.length≤m:=by omega
   intro J hJ
   have go: ∀(s':Jst) (H5:Heap),headM rest s'=res→St H0 H5 (jrR H0 r p2 l2 c2 s':: .cell b2 (tabV 6 fun _=> .pointer none) 99::σ)→J [.bool true] H5:=fun s' H5 he' hs5=>
    hJ _ H5 (br_f rfl (ih rest p2 l2 c2 s' H5 hm' hrest (by omega) he' hs5))
   have stop: ∀(H5:Heap),res=none→St H0 H5 (.cell b2 (tabV 6 fun _=> .pointer none) 99::σ)→J [.bool false] H5:=fun H5 hn hs5=>hJ _ H5 (br_t rfl (ret' H5 hn hs5))
   refine br_dec (fun h1=>br_dec (fun h2=>?_) (fun h2=>?_)) (fun h1=>?_)
   ·rw[if_pos (.inl ⟨h1,h2⟩)] at he
    exact go s H4 he hs4
   all_goals
    refine br_eq (fun hfe=>?_) (fun hfe=>?_)
    ·rw[if_pos (.inr hfe)] at he
     exact go s H4 he hs4
    rw[if_neg (by omega)] at he
    refine br_eq (fun hm1=>?_) (fun hm1=>?_)
    ·rw[if_pos hm1] at he
     refine c69 hs4 hd hdl (fun hno H5 hs5=>⟨_,rfl,?_⟩) (fun S hS H5 hs5=>⟨_,rfl,?_⟩)
     ·rw[hno] at he;exact stop H5 he.symm hs5
     ·rw[hS] at he;exact go _ H5 he hs5
    rw[if_neg hm1] at he
    refine br_eq (fun hm2=>?_) (fun hm2=>?_)
    ·rw[if_pos hm2] at he
     refine c70 hs4 hd (fun hno H5 hs5=>⟨_,rfl,?_⟩) (fun S hS H5 hs5=>⟨_,rfl,?_⟩)
     ·rw[hno] at he;exact stop H5 he.symm hs5
     ·rw[hS] at he;exact go _ H5 he hs5
    rw[if_neg hm2] at he
    refine br_eq (fun hm3=>?_) (fun hm3=>?_)
    ·rw[if_pos hm3] at he
     refine c71 hs4 hd hdl (fun hno H5 hs5=>⟨_,rfl,?_⟩) (fun S hS H5 hs5=>⟨_,rfl,?_⟩)
     ·rw[hno] at he;exact stop H5 he.symm hs5
     ·rw[hS] at he;exact go _ H5 he hs5
    rw[if_neg hm3] at he
    refine br_eq (fun hm4=>?_) (fun hm4=>?_)
    ·rw[if_pos hm4] at he
     obtain⟨f,Q,hJr,hs4'⟩:=jrR_op hs4
     refine c72 hJr hs4' hd (fun hno cs H5 hcs ho hs5=>⟨_,_,rfl,hcs,?_⟩) (fun t ht H5 hs5=>⟨_,_,rfl,tabV_size _ _,?_⟩)
     ·rw[hno] at he
      refine hs5.putAll 2 rfl (by rw[Array.length_toList,hcs,tabV_size]) ho fun H6 hs6=>⟨cs,hcs,?_,hbad he.symm cs H6 hcs ho hs6.tail.tail.tail⟩
      exact rowIn_whole (hs6.block 2 rfl)
     ·rw[ht] at he
      have ho: ∀v∈(tabV 6 (scanV f t)).toList,v.oneCell'=true:=tabV_one fun i=>hJr.one _
      refine hs5.putAll 2 rfl (by rw[Array.length_toList,tabV_size,tabV_size]) ho fun H6 hs6=>⟨_,tabV_size _ _,rowIn_whole (hs6.block 2 rfl),?_⟩
      exact hR s t rest he.symm f Q p2 l2 c2 hJr hrest (by omega) H6 (hs6.del 2)
    ·rw[if_neg hm4] at he
     exact stop H4 he.symm hs4.tail
 exact loop b.length b p l c s H1 (Nat.le_refl _) hb hbl hres hs1
theorem w1'{i:Nat}(hi:i≤1000000000000):IntKind.wrap .i64 ((i:Int)+1)=((i+1:Nat):Int):=by rw[wrap_id (by omega) (by omega)];omega
theorem c34{f:Nat→Value}(hf:f 0= .slice p l c)(hs:St H0 H (.cell r (tabV 22 f) 97::σ))(hb:SlB H0 p l c b)(hbl:l≤1000000000)
 (hbad:bodyM b=none→ ∀q n m H',St H0 H' (.cell r (tabV 22 f) 97::σ)→R (.tuple #[.slice q n m,.bool false]) H')
 (hR: ∀out,bodyM b=some out→(∀x∈out,0≤x∧x<256)→out.length≤l→ ∀q m H',St H0 H' (.sl q out.length m 5 1 (kints .u8 out):: .cell r (tabV 22 f) 97::σ)→R (.tuple #[.slice q out.length m,.bool true]) H'):
 CallsH Tryz.prog 34 #[.pointer (some ⟨r,0,none⟩)] H R:=by
 have hl:=hb.len
 obtain⟨res,hres⟩: ∃x,bodyM b=x:=⟨_,rfl⟩
 rw[hres] at hbad
 simp only[hres] at hR
 refine Tryz.s34 ?_
 unfold Tryz.S34
 intro X hX
 have loop: ∀(m i:Nat) (acc:List Int) (q:Option Addr) (k:Nat) (H2:Heap),l-i≤m→i≤l→acc.length≤i→(∀x∈acc,0≤x∧x<256)→(bodyM (b.drop i)).map (acc++ ·)=res→St H0 H2 (.sl q acc.length k 5 1 (kints .u8 acc):: .cell r (tabV 22 f) 97::σ)→
  X [.slice q acc.length k,.int .i64 (i:Nat)] H2:=by
  intro m
  induction m with
  |zero=>
   intro i acc q k H2 hm hi hacc hrng he hs2
   have hB:cell H2 ⟨r,0,none⟩=some (.slice p l c):=by rw[getV hs2 1 rfl (by omega),hf]
   refine hX _ _ _ _ H2 ⟨_,rfl,_,_,_,hB,?_⟩
   rw[w1' (by omega)]
   refine br_n (by omega) (hbad ?_ _ _ _ H2 hs2.tail)
   rw[←he,List.drop_eq_nil_of_le (by omega)];rfl
  |succ m ih=>
   intro i acc q k H2 hm hi hacc hrng he hs2
   have hB: ∀{H2:Heap} {ρ:Rs},St H0 H2 (ρ:: .cell r (tabV 22 f) 97::σ)→cell H2 ⟨r,0,none⟩=some (.slice p l c):=fun hs2=>by rw[getV hs2 1 rfl (by omega),hf]
   refine hX _ _ _ _ H2 ⟨_,rfl,_,_,_,hB hs2,?_⟩
   rw[w1' (by omega)]
   refine br_dec (fun hlt=>⟨_,rfl,_,_,_,hB hs2,hb.rd hs2.ext (by omega) (by omega) ?_⟩) (fun hge=>hbad ?_ _ _ _ H2 hs2.tail)
   ·have hlt:i+1<l:=by omega
    rw[Int.toNat_natCast]
    rw[drop2 (by omega)] at he
    have bi:=hb.byte i
    have bi1:=hb.byte (i+1)
    have put: ∀(v:Int) (i':Nat),0≤v∧v<256→i<i'→i'≤l→(bodyM (b.drop i')).map ((acc++[v])++ ·)=res→alc H2 (.cells #[.int .u8 v] 5) fun b12 H13=>appQ 1 1 #[.int .u8 0] H13 q acc.length k (some ⟨b12,0,none⟩) 1 5 fun op ol oc H15=>X [.slice op ol oc,.int .i64 (i':Nat)] H15:=fun v i' hv hi1 hi2 he'=>by
     refine hs2.alc fun b12 H3 hs3=>hs3.appC 1 0 rfl rfl rfl (fun w hw=>by rw[List.mem_singleton.1 hw];rfl) (by decide) rfl (by omega) (by omega) fun p' c' H4 hs4=>?_
     have hs4:=hs4.tail
     simp only[List.set_cons_zero,List.set_cons_succ] at hs4
     have e:kints .u8 acc++[Value.int .u8 v]=kints .u8 (acc++[v]):=by rw[kints_append];rfl
     have e':acc.length+1=(acc++[v]).length:=by simp
     rw[e,e'] at hs4
     rw[e']
     refine ih i' (acc++[v]) p' c' H4 (by omega) (by omega) (by rw[←e'];omega) (fun x hx=>?_) he' hs4
     rcases List.mem_append.1 hx with h|h
     ·exact hrng x h
     ·rw[List.mem_singleton.1 h];exact hv
    rw[bodyM] at he
    refine br_ne (fun hc=>?_) (fun hc=>?_)
    ·rw[if_pos hc] at he
     refine put _ (i+1) bi (by omega) (by omega) ?_
     rw[List.drop_eq_getElem_cons (by omega),←gD_get (List.getElem?_eq_getElem (show i+1<b.length by omega)) (d:=0),show i+1+1=i+2 by omega,←he,Option.map_map]
     congr 1;funext x;simp
    ·rw[if_neg (by omega)] at he
     refine⟨_,rfl,_,_,_,hB hs2,hb.rd hs2.ext (by omega) (by omega) ?_⟩
     rw[Int.toNat_natCast]
     refine br_ne (fun hd=>?_) (fun hd=>?_)
     ·rw[if_pos hd] at he
      refine⟨_,rfl,_,_,_,hB hs2,hb.rd hs2.ext (by omega) (by omega) ?_⟩
      rw[Int.toNat_natCast]
      refine br_eq (fun h9=>⟨_,rfl,_,_,_,hB hs2,?_⟩) (fun h9=>?_)
      ·rw[wrap_id (by omega) (by omega)]
       by_cases hend:i+2=l
       ·rw[if_pos ⟨h9,List.drop_eq_nil_of_le (by omega)⟩] at he
        simp only[Option.map_some,List.append_nil] at he
        rw[show((i:Int)+2==(l:Int))=true from by rw[beq_iff_eq];omega]
        exact hR acc he.symm hrng (by omega) q k H2 hs2
       ·rw[if_neg (fun h=>by have:=congrArg List.length h.2;simp at this;omega)] at he
        rw[show((i:Int)+2==(l:Int))=false from by rw[beq_eq_false_iff_ne];omega]
        exact hbad he.symm _ _ _ H2 hs2.tail
      ·rw[if_neg (fun h=>h9 h.1)] at he
       exact hbad he.symm _ _ _ H2 hs2.tail
     ·rw[if_neg (by omega)] at he
      rw[w1' (by omega)]
      refine put _ (i+2) bi (by omega) (by omega) ?_
      rw[←he,hc,Option.map_map]
      congr 1;funext x;simp
   ·have:(b.drop i).length≤1:=by rw[List.length_drop];omega
    rw[←he]
    match h:b.drop i with
    |[]=>rfl
    |[x]=>rfl
    |x::y::z=>rw[h] at this;simp at this
 exact loop l 0 [] none 0 H (by omega) (by omega) (by simp) (by simp) (by rw[List.drop_zero,hres];cases res<;>simp) (hs.nilSl _ _)
end
end Go.Proofs
namespace Go.Proofs
open Go.Sh
theorem c95{H:Heap}{p q:Option Addr}{l c l2 k:Nat}{ls cs:List Int}(h:IS H p l (ints ls))(hc:IS H q l2 (ints cs))(hll:l≤l2)(hl:l≤1000){n v:Int}{R:Value→Heap→Prop}
 (hf: ∀s:Nat,ls[s]?=some n→cs[s]?=some v→R (.int .i64 s) H)(hn:(∀s:Nat,ls[s]?=some n→cs[s]?≠some v)→R (.int .i64 (-1)) H):
 CallsH Tryz.prog 95 #[.slice p l c,.slice q l2 k,.int .i64 n,.int .i64 v] H R:=by
 have hl1:ls.length=l:=by have:=h.len;rw[ints_len] at this;omega
 have hl2:cs.length=l2:=by have:=hc.len;rw[ints_len] at this;omega
 refine Tryz.s95 ?_
 unfold Tryz.S95
 intro X hX
 have loop: ∀(m s:Nat),l-s=m→s≤l→(∀i:Nat,i<s→ls[i]?=some n→cs[i]?≠some v)→X [.int .i64 s] H:=by
  intro m
  induction m with
  |zero=>
   intro s hm hs hno
   refine hX _ H (br_n (by omega) (hn fun i hi=>hno i ?_ hi))
   have:=(List.getElem?_eq_some_iff.1 hi).1;omega
  |succ m ih=>
   intro s hm hs hno
   have ws:IntKind.wrap .i64 ((s:Int)+1)=((s+1:Nat):Int):=by rw[wrap_id (by omega) (by omega)];omega
   have hv:ls[s]?=some ls[s]:=List.getElem?_eq_getElem (by omega)
   have hw:cs[s]?=some cs[s]:=List.getElem?_eq_getElem (by omega)
   generalize ls[s]=a at hv
   generalize cs[s]=b at hw
   obtain⟨a1,q1,v1⟩:=h.cell (ints_get hv)
   obtain⟨a2,q2,v2⟩:=hc.cell (ints_get hw)
   have nx: ¬(a=n∧b=v)→X [.int .i64 ((s+1:Nat):Int)] H:=fun hne=>ih (s+1) (by omega) (by omega) fun i hi h1 h2=>by
    by_cases his:i=s
    ·subst his;rw[hv] at h1;rw[hw] at h2;cases h1;cases h2;exact hne ⟨rfl,rfl⟩
    ·exact hno i (by omega) h1 h2
   refine hX _ H (br_y (by omega) ⟨_,q1,by omega,by omega,a,by simpa using v1,br_eq (fun he=>⟨_,q2,by omega,by omega,b,by simpa using v2,br_eq (fun he2=>?_) (fun he2=>?_)⟩) (fun he=>?_)⟩)
   ·exact hf s (by rw[hv,he]) (by rw[hw,he2])
   ·rw[ws];exact nx fun hh=>he2 hh.2
   ·rw[ws];exact nx fun hh=>he hh.1
 exact loop l 0 (by omega) (by omega) (fun i hi=>by omega)
theorem c96{H:Heap}{p q:Option Addr}{l c l2 k:Nat}{ls cs:List Int}(h:IS H p l (ints ls))(hc:IS H q l2 (ints cs))(hll:l≤l2)(hl:l≤1000)(hr: ∀x∈ls,0≤x∧x≤16){n v:Int}(hn0:0≤n){R:Value→Heap→Prop}
 (ht: ∀(s:Nat) (a b:Int),ls[s]?=some a→cs[s]?=some b→n<a→b/2^(a-n).toNat=v→R (.bool true) H)(hf:(∀(s:Nat) (a b:Int),ls[s]?=some a→cs[s]?=some b→n<a→b/2^(a-n).toNat≠v)→R (.bool false) H):
 CallsH Tryz.prog 96 #[.slice p l c,.slice q l2 k,.int .i64 n,.int .i64 v] H R:=by
 have hl1:ls.length=l:=by have:=h.len;rw[ints_len] at this;omega
 have hl2:cs.length=l2:=by have:=hc.len;rw[ints_len] at this;omega
 refine Tryz.s96 ?_
 unfold Tryz.S96
 intro X hX
 have loop: ∀(m s:Nat),l-s=m→s≤l→(∀(i:Nat) (a b:Int),i<s→ls[i]?=some a→cs[i]?=some b→n<a→b/2^(a-n).toNat≠v)→X [.int .i64 s] H:=by
  intro m
  induction m with
  |zero=>
   intro s hm hs hno
   refine hX _ H (br_n (by omega) (hf fun i a b hi=>hno i a b ?_ hi))
   have:=(List.getElem?_eq_some_iff.1 hi).1;omega
  |succ m ih=>
   intro s hm hs hno
   have ws:IntKind.wrap .i64 ((s:Int)+1)=((s+1:Nat):Int):=by rw[wrap_id (by omega) (by omega)];omega
   have hv:ls[s]?=some ls[s]:=List.getElem?_eq_getElem (by omega)
   have hw:cs[s]?=some cs[s]:=List.getElem?_eq_getElem (by omega)
   have hra:=hr _ (List.mem_of_getElem? hv)
   generalize ls[s]=a at hv hra
   generalize cs[s]=b at hw
   obtain⟨a1,q1,v1⟩:=h.cell (ints_get hv)
   obtain⟨a2,q2,v2⟩:=hc.cell (ints_get hw)
   have nx: ¬(n<a∧b/2^(a-n).toNat=v)→X [.int .i64 ((s+1:Nat):Int)] H:=fun hne=>ih (s+1) (by omega) (by omega) fun i a' b' hi h1 h2 h3 h4=>by
    by_cases his:i=s
    ·subst his;rw[hv] at h1;rw[hw] at h2;cases h1;cases h2;exact hne ⟨h3,h4⟩
    ·exact hno i a' b' (by omega) h1 h2 h3 h4
   refine hX _ H (br_y (by omega) ⟨_,q1,by omega,by omega,a,by simpa using v1,br_dec (fun he=>?_) (fun he=>?_)⟩)
   ·have w1:IntKind.wrap .i64 (a-n)=a-n:=wrap_id (by omega) (by omega)
    refine⟨_,q2,by omega,by omega,b,by simpa using v2,_,q1,by omega,by omega,a,by simpa using v1,?_⟩
    rw[w1,shr64 (by omega) (by omega)]
    refine⟨by omega,br_eq (fun he2=>ht s a b hv hw he he2) (fun he2=>?_)⟩
    rw[ws];exact nx fun hh=>he2 hh.2
   ·rw[ws];exact nx fun hh=>he hh.1
 exact loop l 0 (by omega) (by omega) (fun i a b hi=>by omega)
end Go.Proofs
namespace Go.Proofs
open Go.Sh
variable {H0 H:Heap} {σ:List Rs} {R:Value→Heap→Prop}
def numV(l:List Int):Int:=l.foldl (fun n v=>256*n+v) 0
theorem numV_snoc(l:List Int)(v:Int):numV (l++[v])=256*numV l+v:=by simp[numV]
theorem numV_rng: ∀(n:Nat) (l:List Int),l.length=n→(∀x∈l,0≤x∧x<256)→0≤numV l∧numV l<256^n
 |0,l,h,_=>by rw[List.length_eq_zero_iff.1 h];simp[numV]
 |n+1,l,h,hr=>by
  obtain⟨M,x,rfl⟩: ∃M x,l=M++[x]:=⟨l.dropLast,l.getLast (by intro h';rw[h'] at h;cases h),(List.dropLast_concat_getLast _).symm⟩
  have ih:=numV_rng n M (by simpa using h) fun y hy=>hr y (List.mem_append_left _ hy)
  have hx:=hr x (by simp)
  rw[numV_snoc,Int.pow_succ]
  omega
theorem c40{p:Option Addr}{l c:Nat}{b:List Int}(hi:IS H p l (kints .u8 b))(hr: ∀x∈b,0≤x∧x<256)(hl:l≤6)(hR:R (.int .i64 (numV b)) H):
 CallsH Tryz.prog 40 #[.slice p l c] H R:=by
 have hbl:=hi.length
 refine Tryz.s40 ?_
 unfold Tryz.S40
 intro X hX
 have loop: ∀i,i≤l→X [.int .i64 (numV (b.take i)),.int .i64 (i:Nat)] H:=upto fun i hi' ih=>by
  refine hX _ _ H (br_dec (fun hlt=>?_) (fun hge=>?_))
  ·have hlt:i<l:=by omega
   refine hi.rd (i:=(i:Int)) (by omega) (by omega) (by rw[Int.toNat_natCast];exact get_gD b 0 (i:=i) (by omega)) ?_
   have hb:=getD_byte hr i
   have hn:=numV_rng i (b.take i) (by rw[List.length_take];omega) fun x hx=>hr x (List.mem_of_mem_take hx)
   have hp:(256:Int)^i≤256^5:=by
    have: ∀k,k≤5→(256:Int)^k≤256^5:=by decide+kernel
    exact this i (by omega)
   have e5:(256:Int)^5=1099511627776:=by decide
   have ht:b.take (i+1)=b.take i++[b.getD i 0]:=by
    rw[List.take_add_one,get_gD b 0 (by omega)];rfl
   have hn2:=ih hlt
   rw[ht,numV_snoc] at hn2
   rw[wrap_id (n:=b.getD i 0) (by omega) (by omega),wrap_id (n:=256*numV (b.take i)) (by omega) (by omega),wrap_id (n:=256*numV (b.take i)+b.getD i 0) (by omega) (by omega),w1 (by omega)]
   exact hn2
  ·have:i=l:=by omega
   subst this
   rw[List.take_of_length_le (by omega)]
   exact hR
 have:=loop 0 (Nat.zero_le _)
 exact this
theorem numV2{b:List Int}{m:Nat}(h:m+2≤b.length):numV ((b.take (m+2)).drop m)=b.getD m 0*256+b.getD (m+1) 0:=by
 have:(b.take (m+2)).drop m=[b.getD m 0,b.getD (m+1) 0]:=by
  refine list_ext_getD (n:=2) (by rw[List.length_drop,List.length_take];omega) rfl fun j hj=>?_
  rw[cut_get (by omega)]
  obtain rfl|rfl:j=0∨j=1:=by omega
  ·rfl
  ·rfl
 rw[this]
 simp only[numV,List.foldl_cons,List.foldl_nil]
 omega
structure DCod(p1 p2:Option Addr)(ls:List Int)(H:Heap):Prop where
 l:IS H p1 ls.length (ints ls)
 c:IS H p2 ls.length (ints (codesM ls))
abbrev DTab(H0:Heap)(Q:Heap→Prop)(T:TabJ)(v1 v2 v3:Value):Prop:= ∃p1 p2 p3 c1 c2 c3,OkC T.1∧T.2.length=T.1.length∧(∀x∈T.2,0≤x∧x<256)∧IS H0 p3 T.1.length (kints .u8 T.2)∧(∀H,Q H→DCod p1 p2 T.1 H)∧
 v1= .slice p1 T.1.length c1∧v2= .slice p2 T.1.length c2∧v3= .slice p3 T.1.length c3
structure RdJ(H0:Heap)(Q:Heap→Prop)(f:Nat→Value)(p:Option Addr)(l c:Nat)(s:Jst):Prop where
 b:f 0= .slice p l c
 W:f 1= .int .i64 s.W
 Ht:f 2= .int .i64 s.Ht
 seen:f 3= .bool s.seen
 half:f 4= .bool s.half
 hf:s.seen=false→s.half=false
 wh: ∀k,k<3→s.wh.getD k 0<4∧f (5+k)= .int .i64 (s.wh.getD k 0:Nat)
 has: ∀k,k<4→f (264+k)= .bool (s.st.getD k none).isSome
 st: ∀k L,k<4→s.st.getD k none=some L→L.length=64∧(∀i,i<64→1≤L.getD i 0∧L.getD i 0≤255)∧ ∀i,i<64→f (8+k*64+i)= .int .i64 (L.getD i 0)
 cd: ∀k,k<8→(s.cd.getD k none=none∧f (268+k*4)= .bool false)∨ ∃T,s.cd.getD k none=some T∧f (268+k*4)= .bool true∧DTab H0 Q T (f (268+k*4+1)) (f (268+k*4+2)) (f (268+k*4+3))
 stl:s.st.length=4
 cdl:s.cd.length=8
 one: ∀i,(f i).oneCell'=true
def rdJ(H0:Heap)(r:Nat)(p:Option Addr)(l c:Nat)(s:Jst):Rs:= .ex fun(x:(Nat→Value)×(Heap→Prop))=> .pu (RdJ H0 x.2 x.1 p l c s) (.star (.cell r (tabV 300 x.1) 80) (.pers x.2))
section
variable {r l c:Nat} {p:Option Addr} {s:Jst} {b:List Int}
theorem rdJ_op(hs:St H0 H (rdJ H0 r p l c s::σ)): ∃f Q,RdJ H0 Q f p l c s∧St H0 H (.cell r (tabV 300 f) 80:: .pers Q::σ):=by
 obtain⟨⟨f,Q⟩,hs⟩:=hs.unex
 obtain⟨h,hs⟩:=hs.fact
 exact⟨f,Q,h,hs.cut⟩
theorem rdJ_mk{f:Nat→Value}{Q:Heap→Prop}(h:RdJ H0 Q f p l c s)(hs:St H0 H (.cell r (tabV 300 f) 80:: .pers Q::σ)):St H0 H (rdJ H0 r p l c s::σ):=
 St.inex (f:=fun(x:(Nat→Value)×(Heap→Prop))=> .pu (RdJ H0 x.2 x.1 p l c s) (.star (.cell r (tabV 300 x.1) 80) (.pers x.2))) (f,Q) (St.with h hs.cat)
theorem DTab.mono{Q Q':Heap→Prop}{T:TabJ}{v1 v2 v3:Value}(h:DTab H0 Q T v1 v2 v3)(hq: ∀H,Q' H→Q H):DTab H0 Q' T v1 v2 v3:=by
 obtain⟨p1,p2,p3,c1,c2,c3,h1,h2,h3,h4,h5,h6⟩:=h
 exact⟨p1,p2,p3,c1,c2,c3,h1,h2,h3,h4,fun H hH=>h5 H (hq H hH),h6⟩
theorem RdJ.low{Q:Heap→Prop}{f f':Nat→Value}(h:RdJ H0 Q f p l c s){p':Option Addr}{l' c':Nat}{W Ht:Int}{seen half:Bool}{wh:List Nat}(hf: ∀i,8≤i→f' i=f i)(h0:f' 0= .slice p' l' c')(h1:f' 1= .int .i64 W)(h2:f' 2= .int .i64 Ht)(h3:f' 3= .bool seen)(h4:f' 4= .bool half)(hsh:seen=false→half=false)
 (hw: ∀k,k<3→wh.getD k 0<4∧f' (5+k)= .int .i64 (wh.getD k 0:Nat))(ho: ∀i,(f' i).oneCell'=true):RdJ H0 Q f' p' l' c' {s with W:=W,Ht:=Ht,seen:=seen,half:=half,wh:=wh} where
 b:=h0
 W:=h1
 Ht:=h2
 seen:=h3
 half:=h4
 hf:=hsh
 wh:=hw
 has k hk:=by rw[hf _ (by omega)];exact h.has k hk
 st k L hk hL:=by
  obtain⟨a1,a2,a3⟩:=h.st k L hk hL
  exact⟨a1,a2,fun i hi=>by rw[hf _ (by omega)];exact a3 i hi⟩
 cd k hk:=by
  rw[hf _ (by omega),hf _ (by omega),hf _ (by omega),hf _ (by omega)];exact h.cd k hk
 stl:=h.stl
 cdl:=h.cdl
 one:=ho
theorem RdJ.setB{Q:Heap→Prop}{f:Nat→Value}(h:RdJ H0 Q f p l c s)(p':Option Addr)(l' c':Nat):RdJ H0 Q (updV f 0 (.slice p' l' c')) p' l' c' s:=
 RdJ.low h (fun i hi=>updV_ne (by omega)) (updV_at _ _ _) (by rw[updV_ne (by omega)];exact h.W) (by rw[updV_ne (by omega)];exact h.Ht) (by rw[updV_ne (by omega)];exact h.seen) (by rw[updV_ne (by omega)];exact h.half) h.hf (fun k hk=>by rw[updV_ne (by omega)];exact h.wh k hk) (updV_one h.one rfl)
theorem rdJ_putB(hs:St H0 H (rdJ H0 r p l c s::σ))(p':Option Addr)(l' c':Nat){K:Heap→Prop}(hK: ∀H',St H0 H' (rdJ H0 r p' l' c' s::σ)→K H'):stAt H ⟨r,0,none⟩ [.slice p' l' c'] K:=by
 obtain⟨f,Q,h,hs⟩:=rdJ_op hs
 exact putV hs 0 rfl (by omega) rfl fun H' hs'=>hK H' (rdJ_mk (h.setB p' l' c') hs')
theorem rdJ_b(hs:St H0 H (rdJ H0 r p l c s::σ)):cell H ⟨r,0,none⟩=some (.slice p l c):=by
 obtain⟨f,Q,h,hs⟩:=rdJ_op hs
 rw[getV hs 0 rfl (by omega),h.b]
def updS(f:Nat→Value)(k:Nat)(l:List Int):Nat→Nat→Value
 |0=>f
 |i+1=>updV (updS f k l i) (8+k*64+zig i) (.int .i64 (l.getD i 0))
theorem updS_ne{f:Nat→Value}{k j:Nat}{l:List Int}(h:j<8+k*64∨8+k*64+64≤j): ∀i,i≤64→updS f k l i j=f j
 |0,_=>rfl
 |i+1,hi=>by
  have:=zig_lt (i:=i) (by omega)
  rw[updS,updV_ne (by omega),updS_ne h i (by omega)]
theorem updS_at{f:Nat→Value}{k j:Nat}{l:List Int}(hj:j<64): ∀i,i≤64→zag j<i→updS f k l i (8+k*64+j)= .int .i64 (l.getD (zag j) 0)
 |i+1,hi,hz=>by
  rw[updS]
  by_cases e:zig i=j
  ·subst e
   rw[updV_at,zag_zig (by omega)]
  ·have hne:zag j≠i:=fun he=>e (by rw[←he,zig_zag hj])
   rw[updV_ne (by omega),updS_at hj i (by omega) (by omega)]
theorem updS_one{f:Nat→Value}{k:Nat}{l:List Int}(h: ∀i,(f i).oneCell'=true): ∀n i,(updS f k l n i).oneCell'=true
 |0=>h
 |n+1=>updV_one (updS_one h n) rfl
theorem RdJ.setT{Q:Heap→Prop}{f:Nat→Value}(h:RdJ H0 Q f p l c s){k:Nat}{l':List Int}(hk:k<4)(hr: ∀i,i<64→1≤l'.getD i 0∧l'.getD i 0≤255):
 RdJ H0 Q (updV (updS f k l' 64) (264+k) (.bool true)) p l c {s with st:=s.st.set k (some (spread zeros64 l' 64))} where
 b:=by rw[updV_ne (by omega),updS_ne (by omega) 64 (Nat.le_refl _)];exact h.b
 W:=by rw[updV_ne (by omega),updS_ne (by omega) 64 (Nat.le_refl _)];exact h.W
 Ht:=by rw[updV_ne (by omega),updS_ne (by omega) 64 (Nat.le_refl _)];exact h.Ht
 seen:=by rw[updV_ne (by omega),updS_ne (by omega) 64 (Nat.le_refl _)];exact h.seen
 half:=by rw[updV_ne (by omega),updS_ne (by omega) 64 (Nat.le_refl _)];exact h.half
 hf:=h.hf
 wh k hk:=by rw[updV_ne (by omega),updS_ne (by omega) 64 (Nat.le_refl _)];exact h.wh k hk
 has j hj:=by
  have hsl:=h.stl
  rw[getD_set_ite _ _ _ _ _ (by omega)]
  by_cases e:k=j
  ·subst e;rw[if_pos rfl,updV_at];rfl
  ·rw[if_neg e,updV_ne (by omega),updS_ne (by omega) 64 (Nat.le_refl _)];exact h.has j hj
 st j L hj hL:=by
  have hsl:=h.stl
  rw[getD_set_ite _ _ _ _ _ (by omega)] at hL
  by_cases e:k=j
  ·subst e
   rw[if_pos rfl] at hL
   obtain rfl:=Option.some.inj hL
   have hg:=fun i hi=>spread_get zeros64 l' zeros64_len 64 (Nat.le_refl _) i hi
   refine⟨by rw[spread_len,zeros64_len],fun i hi=>?_,fun i hi=>?_⟩
   ·rw[hg i hi,if_pos (zag_lt hi)];exact hr _ (zag_lt hi)
   ·rw[hg i hi,if_pos (zag_lt hi),updV_ne (by omega),updS_at hi 64 (Nat.le_refl _) (zag_lt hi)]
  ·rw[if_neg e] at hL
   obtain⟨a1,a2,a3⟩:=h.st j L hj hL
   exact⟨a1,a2,fun i hi=>by rw[updV_ne (by omega),updS_ne (by omega) 64 (Nat.le_refl _)];exact a3 i hi⟩
 cd j hj:=by
  have g: ∀i,268≤i→updV (updS f k l' 64) (264+k) (.bool true) i=f i:=fun i hi=>by rw[updV_ne (by omega),updS_ne (by omega) 64 (Nat.le_refl _)]
  rw[g _ (by omega),g _ (by omega),g _ (by omega),g _ (by omega)]
  exact h.cd j hj
 stl:=by simp[h.stl]
 cdl:=h.cdl
 one:=updV_one (updS_one h.one 64) rfl
set_option maxHeartbeats 1000000 in
theorem c58(hs:St H0 H (rdJ H0 r p l c s::σ)){d:List Int}{dp:Option Addr}{dl dc:Nat}(hd:SlB H0 dp dl dc d)(hdl:dl≤1000000000)
 (hbad:stepsD d s.st=none→ ∀H',St H0 H' σ→R (.bool false) H')
 (hR: ∀S,stepsD d s.st=some S→ ∀H',St H0 H' (rdJ H0 r p l c {s with st:=S}::σ)→R (.bool true) H'):
 CallsH Tryz.prog 58 #[.pointer (some ⟨r,0,none⟩),.slice dp dl dc] H R:=by
 obtain⟨res,hres⟩: ∃x,stepsD d s.st=x:=⟨_,rfl⟩
 rw[hres] at hbad
 simp only[hres] at hR
 refine Tryz.s58 ?_
 unfold Tryz.S58
 refine c62 fun H1 e1=>⟨_,rfl,(hs.step e1).alc fun b6 H2 hs2=>⟨by rw[intsA_size];rfl,hs2.putAllA 0 rfl (by simp[zigI_len]) fun H3 hs3=>?_⟩⟩
 have hs3:St H0 H3 (rdJ H0 r p l c s:: .cell b6 (ints zigI).toArray 48::σ):=hs3.swap
 clear hs2
 intro X hX
 have loop: ∀(m:Nat) (d:List Int) (dp:Option Addr) (dl dc:Nat) (S:StepsT) (H4:Heap),d.length≤m→SlB H0 dp dl dc d→dl≤1000000000→stepsD d S=res→St H0 H4 (rdJ H0 r p l c {s with st:=S}:: .cell b6 (ints zigI).toArray 48::σ)→X [.slice dp dl dc] H4:=by
  intro m
  induction m with
  |zero=>
   intro d dp dl dc S H4 hm hd hdl he hs4
   have hl:=hd.len
   rw[stepsD,if_pos (List.length_eq_zero_iff.1 (by omega))] at he
   exact hX _ _ _ H4 (br_n (by omega) (hR S he.symm H4 (hs4.del 1)))
  |succ m ih=>
   intro d dp dl dc S H4 hm hd hdl he hs4
   have hl:=hd.len
   by_cases h0:dl=0
   ·rw[stepsD,if_pos (List.length_eq_zero_iff.1 (by omega))] at he
    exact hX _ _ _ H4 (br_n (by omega) (hR S he.symm H4 (hs4.del 1)))
   have hd0:d≠[]:=fun h=>by rw[h] at hl;exact h0 hl.symm
   rw[stepsD,if_neg hd0] at he
   refine hX _ _ _ H4 (br_y (by omega) ?_)
   intro J hJ
   have no: ¬okT d→ ∀H',St H0 H' σ→R (.bool false) H':=fun hn=>by
    rw[dif_neg hn] at he
    exact hbad he.symm
   have b0:=hd.byte 0
   refine br_dec (fun h65=>no (fun h=>by have:=h.1;omega) H4 hs4.tail.tail) (fun h65=>hd.rd hs4.ext (by omega) (by omega) (br_dec (fun h3=>no (fun h=>by have:=h.2.1;rw[show Int.toNat 0=0 from rfl] at h3;omega) H4 hs4.tail.tail) (fun h3=>hJ H4 ?_)))
   rw[show Int.toNat 0=0 from rfl] at h3
   refine hd.rd hs4.ext (by omega) (by omega) ?_
   rw[show Int.toNat 0=0 from rfl]
   obtain⟨k,hk⟩:=Int.eq_ofNat_of_zero_le b0.1
   rw[hk] at h3 b0
   rw[hk,wrap_id (n:=(k:Int)) (by omega) (by omega)]
   have hk4:k<4:=by omega
   obtain⟨f,Q,hP,hs5⟩:=rdJ_op hs4
   intro Y hY
   have hdd: ∀i,(d.drop 1).getD i 0=d.getD (1+i) 0:=fun i=>by rw[List.getD_eq_getElem?_getD,List.getElem?_drop,←List.getD_eq_getElem?_getD]
   have go: ∀i,i≤64→(∀j,j<i→d.getD (1+j) 0≠0)→ ∀H6,St H0 H6 (.cell r (tabV 300 (updS f k (d.drop 1) i)) 80:: .pers Q:: .cell b6 (ints zigI).toArray 48::σ)→Y [.int .i64 (i:Nat)] H6:=upto fun i hi ihi hnz H6 hs6=>by
    refine hY _ H6 (br_dec (fun hlt=>?_) (fun hge=>?_))
    ·have hlt:i<64:=by omega
     have hz:=zig_lt hlt
     have hbi:=hd.byte (1+i)
     have w1i:IntKind.wrap .i64 ((1:Int)+(i:Nat))=((1+i:Nat):Int):=by rw[wrap_id (by omega) (by omega)];omega
     rw[w1i]
     refine⟨by omega,by omega,((zig i:Nat):Int),?_,hd.rd hs6.ext (i:=((1+i:Nat):Int)) (by omega) (by omega) ⟨_,rfl,by omega,by omega,by omega,by omega,?_⟩⟩
     ·rw[add_none,Nat.zero_add,Int.toNat_natCast,Nat.mul_one]
      exact hs6.get 2 rfl (by rw[List.getElem?_toArray];exact ints_get (zigI_get hlt))
     rw[Int.toNat_natCast,Int.toNat_natCast,Int.toNat_natCast,wrap_id (n:=d.getD (1+i) 0) (by omega) (by omega),add_none,add_none,add_none,Nat.zero_add,Nat.mul_one]
     refine putV hs6 0 rfl (by omega) rfl fun H7 hs7=>hd.rd hs7.ext (i:=((1+i:Nat):Int)) (by omega) (by omega) ?_
     rw[Int.toNat_natCast]
     refine br_eq (fun h0=>no (fun h=>h.2.2 i hlt h0) H7 hs7.tail.tail.tail) (fun hn0=>?_)
     rw[w1 (by omega)]
     refine ihi hlt (fun j hj=>?_) H7 ?_
     ·rcases Nat.lt_or_ge j i with h|h
      ·exact hnz j h
      ·rw[show j=i by omega];exact hn0
     ·rw[updS,hdd i];exact hs7
    ·have:i=64:=by omega
     subst this
     have hok:okT d:=⟨by omega,by rw[hk];omega,hnz⟩
     rw[dif_pos hok,hk,Int.toNat_natCast] at he
     refine⟨_,rfl,by omega,by omega,?_⟩
     rw[Int.toNat_natCast,add_none,add_none,Nat.zero_add,Nat.mul_one]
     refine putV hs6 0 rfl (by omega) rfl fun H7 hs7=>⟨by omega,by omega,?_⟩
     have h2:=hd.from_ (m:=65) (by omega)
     rw[show Int.toNat 65=65 from rfl]
     refine ih (d.drop 65) _ _ _ _ H7 (by rw[List.length_drop];omega) h2 (by omega) he ?_
     have hP2:=hP.setT (l':=d.drop 1) hk4 fun i hi=>by
      rw[hdd i]
      have:=hd.byte (1+i)
      have:=hnz i hi
      omega
     exact rdJ_mk hP2 hs7
   exact go 0 (by omega) (fun j hj=>by omega) H4 hs5
 exact loop d.length d dp dl dc s.st H3 (Nat.le_refl _) hd hdl hres hs3
set_option maxHeartbeats 1000000 in
theorem c59(hs:St H0 H (rdJ H0 r p l c s::σ)){d:List Int}{dp:Option Addr}{dl dc:Nat}(hd:SlB H0 dp dl dc d)
 (hbad:sizesM d s=none→ ∀H',St H0 H' σ→R (.bool false) H')
 (hR: ∀s',sizesM d s=some s'→ ∀H',St H0 H' (rdJ H0 r p l c s'::σ)→R (.bool true) H'):
 CallsH Tryz.prog 59 #[.pointer (some ⟨r,0,none⟩),.slice dp dl dc] H R:=by
 have hl:=hd.len
 have hle:=hd.le
 obtain⟨f0,Q,hJr,hs0⟩:=rdJ_op hs
 have no: ¬(s.seen=false∧d.length=15∧d.getD 0 0=8∧d.getD 5 0=3∧(∀k,k<3→partOk d k)∧SizedM (d.getD 3 0*256+d.getD 4 0) (d.getD 1 0*256+d.getD 2 0))→ ∀H',St H0 H' σ→R (.bool false) H':=fun hn=>hbad (by unfold sizesM;rw[if_neg hn])
 refine Tryz.s59 ?_
 unfold Tryz.S59
 intro J hJ
 refine⟨_,rfl,s.seen,by rw[←hJr.seen];exact getV hs0 0 (j:=3) rfl (by omega),?_⟩
 cases hseen:s.seen with
 |true=>exact br_t rfl (no (fun h=>by rw[hseen] at h;cases h.1) H hs.tail)
 |false=>
 refine br_f rfl (br_ne (fun h=>no (fun hh=>by omega) H hs.tail) (fun h15=>?_))
 have h15:dl=15:=by omega
 subst h15
 have hrd: ∀{H':Heap} {i:Nat},Ext H0 H'→i<15→ ∀{K:Int→Prop},K (d.getD i 0)→ ∃a:Addr,dp=some a∧0≤(i:Int)∧(i:Int)<((15:Nat):Int)∧ ∃v:Int,Sh.cell H' (Addr.add a (Int.toNat (i:Int)*1))=some (.int .u8 v)∧K v:=fun{H'} {i} he hi {K} hK=>hd.rd he (i:=(i:Int)) (by omega) (by omega) (by rw[Int.toNat_natCast];exact hK)
 refine hrd hs.ext (i:=0) (by omega) (br_ne (fun h=>no (fun hh=>by omega) H hs.tail) (fun h8=>hrd hs.ext (i:=5) (by omega) (br_ne (fun h=>no (fun hh=>by omega) H hs.tail) (fun h3=>hJ H ⟨_,rfl,?_⟩))))
 have hb1:=hd.byte 1
 have hb2:=hd.byte 2
 have hb3:=hd.byte 3
 have hb4:=hd.byte 4
 refine putV hs0 0 (j:=3) rfl (by omega) rfl fun H1 hs1=>⟨by decide,by omega,by decide,by decide,?_⟩
 have hc1:=hd.cut (m:=1) (n:=3) (by omega) (by omega)
 have hc3:=hd.cut (m:=3) (n:=5) (by omega) (by omega)
 rw[show Int.toNat 1=1 from rfl,show Int.toNat 3=3 from rfl,show Int.toNat 5=5 from rfl]
 refine c40 (hc1.is.ext hs1.ext) hc1.rng (by omega) ⟨_,rfl,_,rfl,?_⟩
 rw[show numV ((d.take 3).drop 1)=d.getD 1 0*256+d.getD 2 0 from numV2 (m:=1) (by omega)]
 refine putV hs1 0 (j:=2) rfl (by omega) rfl fun H2 hs2=>⟨by decide,by omega,by decide,by decide,?_⟩
 refine c40 (hc3.is.ext hs2.ext) hc3.rng (by omega) ⟨_,rfl,_,rfl,?_⟩
 rw[show numV ((d.take 5).drop 3)=d.getD 3 0*256+d.getD 4 0 from numV2 (m:=3) (by omega)]
 refine putV hs2 0 (j:=1) rfl (by omega) rfl fun H3 hs3=>?_
 intro X hX
 have loop: ∀k,k≤3→(∀j,j<k→partOk d j)→ ∀(f:Nat→Value) (H4:Heap),(∀i,(i=0∨8≤i)→f i=f0 i)→f 1= .int .i64 (d.getD 3 0*256+d.getD 4 0)→f 2= .int .i64 (d.getD 1 0*256+d.getD 2 0)→f 3= .bool true→f 4= .bool (decide (0<k∧d.getD 7 0=34))→
  (∀j,j<k→f (5+j)= .int .i64 (d.getD (8+3*j) 0))→(∀i,(f i).oneCell'=true)→St H0 H4 (.cell r (tabV 300 f) 80:: .pers Q::σ)→X [.int .i64 (k:Nat)] H4:=upto fun k hk ih hpk f H4 hf h1 h2 h6 h4 hw ho hs4=>by
  have nk: ¬partOk d k→k<3→ ∀H',St H0 H' σ→R (.bool false) H':=fun hn hk=>no fun hh=>hn (hh.2.2.2.2.1 k hk)
  refine hX _ H4 (br_dec (fun hlt=>?_) (fun hge=>?_))
  ·have hlt:k<3:=by omega
   have w3:IntKind.wrap .i64 ((3:Int)*(k:Nat))=((3*k:Nat):Int):=by rw[wrap_id (by omega) (by omega)];omega
   have w8:IntKind.wrap .i64 ((8:Int)+((3*k:Nat):Int))=((8+3*k:Nat):Int):=by rw[wrap_id (by omega) (by omega)];omega
   have w7:IntKind.wrap .i64 ((7:Int)+((3*k:Nat):Int))=((7+3*k:Nat):Int):=by rw[wrap_id (by omega) (by omega)];omega
   have w6:IntKind.wrap .i64 ((6:Int)+((3*k:Nat):Int))=((6+3*k:Nat):Int):=by rw[wrap_id (by omega) (by omega)];omega
   rw[w3,w8,w7,w6]
   intro J2 hJ2
   have b0:=hd.byte (6+3*k)
   have b1:=hd.byte (7+3*k)
   have b2:=hd.byte (8+3*k)
   refine hrd hs4.ext (i:=6+3*k) (by omega) ?_
   rw[wrap_id (n:=d.getD (6+3*k) 0) (by omega) (by omega),w1 (by omega)]
   refine br_ne (fun h=>nk (fun hh=>by have:=hh.1;omega) hlt H4 hs4.tail.tail) (fun hc0=>hrd hs4.ext (i:=8+3*k) (by omega) (br_dec (fun h=>nk (fun hh=>by have:=hh.2.2;omega) hlt H4 hs4.tail.tail) (fun h83=>hJ2 H4 ?_)))
   intro J3 hJ3
   -- the table's number
   have go: ∀(g:Nat→Value) (H5:Heap),partOk d k→(∀i,i≠4→g i=f i)→g 4= .bool (decide (d.getD 7 0=34))→(∀i,(g i).oneCell'=true)→St H0 H5 (.cell r (tabV 300 g) 80:: .pers Q::σ)→J3 [] H5:=fun g H5 hpo hg hg4 hgo hs5=>by
    refine hJ3 H5 (hrd hs5.ext (i:=8+3*k) (by omega) ⟨_,rfl,by omega,by omega,?_⟩)
    rw[wrap_id (n:=d.getD (8+3*k) 0) (by omega) (by omega),add_none,add_none,Nat.zero_add,Int.toNat_natCast,Nat.mul_one]
    refine putV hs5 0 rfl (by omega) rfl fun H6 hs6=>?_
    rw[w1 (by omega)]
    refine ih hlt (fun j hj=>?_) _ H6 (fun i hi=>?_) ?_ ?_ ?_ ?_ (fun j hj=>?_) (updV_one hgo rfl) hs6
    ·rcases Nat.lt_or_ge j k with h|h
     ·exact hpk j h
     ·rw[show j=k by omega];exact hpo
    ·rw[updV_ne (by omega),hg _ (by omega)];exact hf i hi
    ·rw[updV_ne (by omega),hg _ (by omega)];exact h1
    ·rw[updV_ne (by omega),hg _ (by omega)];exact h2
    ·rw[updV_ne (by omega),hg _ (by omega)];exact h6
    ·rw[updV_ne (by omega),hg4]
     congr 1
     exact decide_eq_decide.2 ⟨fun h=>⟨by omega,h⟩,fun h=>h.2⟩
    ·rcases Nat.lt_or_ge j k with h|h
     ·rw[updV_ne (by omega),hg _ (by omega)];exact hw j h
     ·rw[show j=k by omega,updV_at]
   refine hrd hs4.ext (i:=7+3*k) (by omega) (br_eq (fun h34=>br_eq (fun hk0=>?_) (fun hk0=>?_)) (fun h34=>?_))
   ·have hk0:k=0:=by omega
    subst hk0
    refine⟨_,rfl,?_⟩
    rw[add_none,Nat.zero_add]
    refine putV hs4 0 rfl (by omega) rfl fun H5 hs5=>go _ H5 ⟨by omega,.inr ⟨rfl,h34⟩,by omega⟩ (fun i hi=>updV_ne hi) ?_ (updV_one ho rfl) hs5
    rw[updV_at,show d.getD 7 0=34 from h34];rfl
   ·refine hrd hs4.ext (i:=7+3*k) (by omega) (br_t (by rw[h34];rfl) (nk (fun hh=>by rcases hh.2.1 with h|h<;>omega) hlt H4 hs4.tail.tail))
   ·refine hrd hs4.ext (i:=7+3*k) (by omega) (br_ne (fun h=>nk (fun hh=>by rcases hh.2.1 with h|h<;>omega) hlt H4 hs4.tail.tail) (fun h17=>?_))
    refine go f H4 ⟨by omega,.inl h17,by omega⟩ (fun i hi=>rfl) ?_ ho hs4
    rw[h4]
    congr 1
    refine decide_eq_decide.2 ⟨fun h=>h.2,fun h=>⟨?_,h⟩⟩
    rcases Nat.eq_zero_or_pos k with h0|h0
    ·subst h0;exact absurd h h34
    ·exact h0
  ·have:k=3:=by omega
   subst this
   have hr: ∀i,i<300→cell H4 ((⟨r,0,none⟩:Addr).add i)=some (f i):=fun i h=>by
    rw[add_none,Nat.zero_add]
    exact getV hs4 0 rfl h
   refine⟨_,rfl,_,by rw[hr _ (by omega),h1],_,rfl,_,by rw[hr _ (by omega),h2],c6 ⟨_,rfl,?_⟩⟩
   by_cases hz:SizedM (d.getD 3 0*256+d.getD 4 0) (d.getD 1 0*256+d.getD 2 0)
   ·rw[decide_eq_true hz]
    refine hR _ (by unfold sizesM;rw[if_pos ⟨hseen,hl,h8,h3,hpk,hz⟩]) H4 (rdJ_mk (hJr.low (f':=f) (fun i hi=>hf i (.inr hi)) (by rw[hf _ (.inl rfl)];exact hJr.b) h1 h2 h6 ?_ (fun h=>by cases h) (fun k hk=>?_) ho) hs4)
    ·rw[h4]
     congr 1
     exact decide_eq_decide.2 ⟨fun h=>h.2,fun h=>⟨by omega,h⟩⟩
    ·rw[wh_get hk]
     have hb:=hd.byte (8+3*k)
     have:=(hpk k hk).2.2
     refine⟨by omega,?_⟩
     rw[hw k hk]
     congr 1
     omega
   ·rw[decide_eq_false hz]
    exact no (fun hh=>hz hh.2.2.2.2.2) H4 hs4.tail.tail
 refine loop 0 (by omega) (fun j hj=>by omega) _ H3 (fun i hi=>?_) ?_ ?_ ?_ ?_ (fun j hj=>by omega) (updV_one (updV_one (updV_one hJr.one rfl) rfl) rfl) hs3
 ·rw[updV_ne (by omega),updV_ne (by omega),updV_ne (by omega)]
 ·rw[updV_at]
 ·rw[updV_ne (by omega),updV_at]
 ·rw[updV_ne (by omega),updV_ne (by omega),updV_at]
 ·rw[updV_ne (by omega),updV_ne (by omega),updV_ne (by omega),hJr.half,hJr.hf hseen];rfl
end
end Go.Proofs
namespace Go.Proofs
open Go.Sh
variable {H0 H:Heap} {σ:List Rs} {R:Value→Heap→Prop}
def updL(f:Nat→Value)(j:Nat)(vs:List Value):Nat→Value:=fun i=>if j≤i∧i<j+vs.length then vs.getD (i-j) (.bool false) else f i
theorem updL_ne{f:Nat→Value}{i j:Nat}{vs:List Value}(h:i<j∨j+vs.length≤i):updL f j vs i=f i:=if_neg (by omega)
theorem updL_at{f:Nat→Value}{i j:Nat}{vs:List Value}(h:i<vs.length):updL f j vs (j+i)=vs.getD i (.bool false):=by unfold updL;rw[if_pos (by omega),Nat.add_sub_cancel_left]
theorem updL_one{f:Nat→Value}(h: ∀i,(f i).oneCell'=true){j:Nat}{vs:List Value}(hv: ∀v∈vs,v.oneCell'=true): ∀i,(updL f j vs i).oneCell'=true:=fun i=>by
 unfold updL;split
 ·rename_i hh
  refine hv _ (List.mem_of_getElem? (i:=i-j) ?_)
  rw[List.getD_eq_getElem?_getD,List.getElem?_eq_getElem (by omega)];rfl
 ·exact h i
theorem putVs(hs:St H0 H σ)(i:Nat){b n j:Nat}{f:Nat→Value}{ty:TypeId}{vs:List Value}{K:Heap→Prop}(hi:σ[i]?=some (.cell b (tabV n f) ty))(hj:j+vs.length≤n)(hv: ∀v∈vs,v.oneCell'=true)
 (hK: ∀H',St H0 H' (σ.set i (.cell b (tabV n (updL f j vs)) ty))→K H'):stAt H ⟨b,j,none⟩ vs K:=
 hs.putRow i hi (by have:=tabV_size n f;omega) hv fun H' hs'=>hK H' (by
  have e:(setL (tabV n f).toList j vs).toArray=tabV n (updL f j vs):=by
   have hlen:j+vs.length≤(tabV n f).toList.length:=by
    have h0:=tabV_size n f
    have h1:(tabV n f).toList.length=(tabV n f).size:=Array.length_toList
    omega
   refine Array.ext_getElem? fun i=>?_
   rw[List.getElem?_toArray,setL_get hlen]
   rcases Nat.lt_or_ge i n with h|h
   ·rw[tabV_get h]
    unfold updL
    split
    ·rw[List.getD_eq_getElem?_getD,List.getElem?_eq_getElem (by omega)];rfl
    ·rw[Array.getElem?_toList,tabV_get h]
   ·rw[if_neg (by omega),Array.getElem?_eq_none (by rw[tabV_size];exact h),Array.getElem?_toList,Array.getElem?_eq_none (by rw[tabV_size];exact h)]
  rw[e] at hs';exact hs')
theorem retVia{b b' n:Nat}{A B:Array Value}{ty ty':TypeId}{K:Array Value→Heap→Prop}(hs:St H0 H σ)(i i':Nat)(hi:σ[i]?=some (.cell b A ty))(hi':σ[i']?=some (.cell b' B ty'))(hA:A.size=n)(hB:B.size=n)(ho: ∀v∈A.toList,v.oneCell'=true)
 (hK: ∀H',St H0 H' (σ.set i' (.cell b' A ty'))→K A H'):
 ∃v:Array Value,v.size=n∧rowIn H ⟨b,0,none⟩ v∧v.size=n∧stAt H ⟨b',0,none⟩ v.toList fun H'=> ∃re:Array Value,re.size=n∧rowIn H' ⟨b',0,none⟩ re∧K re H':=by
 refine⟨A,hA,rowIn_whole (hs.block i hi),hA,hs.putAll i' hi' (by rw[Array.length_toList];omega) ho fun H1 hs1=>?_⟩
 have hlt:i'<σ.length:=by
  rcases Nat.lt_or_ge i' σ.length with h|h
  ·exact h
  ·rw[List.getElem?_eq_none h] at hi';cases hi'
 exact⟨A,hA,rowIn_whole (hs1.block i' (by rw[List.getElem?_set_self hlt])),hK H1 hs1⟩
section
variable {r l c:Nat} {p:Option Addr} {s:Jst} {b:List Int}
theorem RdJ.setC{Q Q':Heap→Prop}{f f':Nat→Value}(h:RdJ H0 Q f p l c s)(hq: ∀H,Q' H→Q H){k:Nat}{T:TabJ}(hk:k<8)(hf: ∀i,i<268+k*4∨268+k*4+4≤i→f' i=f i)(h0:f' (268+k*4)= .bool true)
 (hT:DTab H0 Q' T (f' (268+k*4+1)) (f' (268+k*4+2)) (f' (268+k*4+3)))(ho: ∀i,(f' i).oneCell'=true):
 RdJ H0 Q' f' p l c {s with cd:=s.cd.set k (some T)} where
 b:=by rw[hf _ (by omega)];exact h.b
 W:=by rw[hf _ (by omega)];exact h.W
 Ht:=by rw[hf _ (by omega)];exact h.Ht
 seen:=by rw[hf _ (by omega)];exact h.seen
 half:=by rw[hf _ (by omega)];exact h.half
 hf:=h.hf
 wh j hj:=by rw[hf _ (by omega)];exact h.wh j hj
 has j hj:=by rw[hf _ (by omega)];exact h.has j hj
 st j L hj hL:=by
  obtain⟨a1,a2,a3⟩:=h.st j L hj hL
  exact⟨a1,a2,fun i hi=>by rw[hf _ (by omega)];exact a3 i hi⟩
 cd j hj:=by
  have hsl:=h.cdl
  rw[getD_set_ite _ _ _ _ _ (by omega)]
  by_cases e:k=j
  ·subst e
   rw[if_pos rfl]
   exact .inr ⟨T,rfl,h0,hT⟩
  ·rw[if_neg e,hf _ (by omega),hf _ (by omega),hf _ (by omega),hf _ (by omega)]
   rcases h.cd j hj with h1|⟨T',h1,h2,h3⟩
   ·exact .inl h1
   ·exact .inr ⟨T',h1,h2,h3.mono hq⟩
 stl:=h.stl
 cdl:=by simp[h.cdl]
 one:=ho
set_option maxHeartbeats 2000000 in
theorem c60(hs:St H0 H (rdJ H0 r p l c s::σ)){d:List Int}{dp:Option Addr}{dl dc:Nat}(hd:SlB H0 dp dl dc d)(hdl:dl≤1000000000)
 (hbad:codesD d s.cd=none→ ∀H',St H0 H' σ→R (.bool false) H')
 (hR: ∀C,codesD d s.cd=some C→ ∀H',St H0 H' (rdJ H0 r p l c {s with cd:=C}::σ)→R (.bool true) H'):
 CallsH Tryz.prog 60 #[.pointer (some ⟨r,0,none⟩),.slice dp dl dc] H R:=by
 obtain⟨res,hres⟩: ∃x,codesD d s.cd=x:=⟨_,rfl⟩
 rw[hres] at hbad
 simp only[hres] at hR
 refine Tryz.s60 ?_
 unfold Tryz.S60
 intro X hX
 have loop: ∀(m:Nat) (d:List Int) (dp:Option Addr) (dl dc:Nat) (C:List (Option (List Int×List Int))) (H4:Heap),d.length≤m→SlB H0 dp dl dc d→dl≤1000000000→codesD d C=res→St H0 H4 (rdJ H0 r p l c {s with cd:=C}::σ)→X [.slice dp dl dc] H4:=by
  intro m
  induction m with
  |zero=>
   intro d dp dl dc C H4 hm hd hdl he hs4
   have hl:=hd.len
   rw[codesD,if_pos (List.length_eq_zero_iff.1 (by omega))] at he
   exact hX _ _ _ H4 (br_n (by omega) (hR C he.symm H4 hs4))
  |succ m ih=>
   intro d dp dl dc C H4 hm hd hdl he hs4
   have hl:=hd.len
   have hle:=hd.le
   by_cases h0:dl=0
   ·rw[codesD,if_pos (List.length_eq_zero_iff.1 (by omega))] at he
    exact hX _ _ _ H4 (br_n (by omega) (hR C he.symm H4 hs4))
   have hd0:d≠[]:=fun h=>by rw[h] at hl;exact h0 hl.symm
   rw[codesD,if_neg hd0] at he
   have no: ¬(17≤d.length∧d.getD 0 0%16≤3∧d.getD 0 0/16≤1∧(lensM d).length≤256∧17+(lensM d).length≤d.length∧OkC (lensM d))→ ∀H',St H0 H' σ→R (.bool false) H':=fun hn=>by
    rw[dif_neg hn] at he
    exact hbad he.symm
   have b0:=hd.byte 0
   refine hX _ _ _ H4 (br_y (by omega) (br_dec (fun h17=>no (fun h=>by have:=h.1;omega) H4 hs4.tail) (fun h17=>hd.rd hs4.ext (by omega) (by omega) ?_)))
   rw[show Int.toNat 0=0 from rfl]
   generalize hv:d.getD 0 0=v at*
   obtain⟨n0,rfl⟩:=Int.eq_ofNat_of_zero_le b0.1
   have w0:IntKind.wrap .i64 (n0:Int)=(n0:Int):=wrap_id (by omega) (by omega)
   have em:Int.tmod (n0:Int) 16=((n0%16:Nat):Int):=tmodN n0 16
   have ed:Int.tdiv (n0:Int) 16=((n0/16:Nat):Int):=tdivN n0 16
   rw[w0,em,ed,wrap_id (n:=((n0/16:Nat):Int)) (by omega) (by omega)]
   intro J8 hJ8
   refine⟨by decide,br_dec (fun h3=>no (fun h=>by have:=h.2.1;omega) H4 hs4.tail) (fun h3=>⟨by decide,br_dec (fun h1=>no (fun h=>by have:=h.2.2.1;omega) H4 hs4.tail) (fun h1=>hJ8 H4 ?_)⟩)⟩
   clear hJ8 J8
   refine hs4.alc fun b10 H5 hs5=>?_
   have hs5:=(hs5.nilSl 3 1).swap
   intro Y hY
   have go: ∀n,n≤16→ ∀lp lc H5,St H0 H5 (.cell b10 #[.bool false,.slice lp (lensN d n).length lc,.slice none 0 0,.slice none 0 0] 77:: .sl lp (lensN d n).length lc 3 1 (ints (lensN d n))::rdJ H0 r p l c {s with cd:=C}::σ)→Y [.int .i64 ((n+1:Nat):Int)] H5:=upto fun n hn ihn lp lc H5 hs5=>by
    refine hY _ H5 (br_dec (fun hlt=>?_) (fun hge=>?_))
    ·have hlt:n<16:=by omega
     have hbn:=hd.byte (n+1)
     have hlen:=lensN_len d hd.rng n
     intro Z hZ
     obtain⟨q,hq⟩:=Int.eq_ofNat_of_zero_le hbn.1
     have hls:=lensN_succ d n
     rw[hq,Int.toNat_natCast] at hls
     have inner: ∀t,t≤q→ ∀lp lc H6,St H0 H6 (.cell b10 #[.bool false,.slice lp (lensN d n++List.replicate t ((n+1:Nat):Int)).length lc,.slice none 0 0,.slice none 0 0] 77:: .sl lp (lensN d n++List.replicate t ((n+1:Nat):Int)).length lc 3 1 (ints (lensN d n++List.replicate t ((n+1:Nat):Int)))::rdJ H0 r p l c {s with cd:=C}::σ)→Z [.int .i64 (t:Nat)] H6:=upto fun t ht iht lp lc H6 hs6=>by
      refine hZ _ H6 (hd.rd hs6.ext (i:=((n+1:Nat):Int)) (by omega) (by omega) ?_)
      rw[Int.toNat_natCast,hq,wrap_id (n:=(q:Int)) (by omega) (by omega)]
      refine br_dec (fun hltt=>?_) (fun hget=>?_)
      ·have hltt:t<q:=by omega
       refine⟨_,_,_,hs6.get 0 (j:=1) rfl rfl,hs6.alc fun b18 H7 hs7=>?_⟩
       refine hs7.appC 2 0 rfl rfl rfl (fun v hv=>by rw[List.mem_singleton.1 hv];rfl) (by decide) rfl (by rw[List.length_append,List.length_replicate];omega) (by rw[List.length_append,List.length_replicate];omega) fun p' c' H8 hs8=>?_
       have hs8:=hs8.tail
       simp only[List.set_cons_zero,List.set_cons_succ] at hs8
       have e:ints (lensN d n++List.replicate t ((n+1:Nat):Int))++[Value.int .i64 ((n+1:Nat):Int)]=ints (lensN d n++List.replicate (t+1) ((n+1:Nat):Int)):=by rw[List.replicate_succ',←List.append_assoc,ints_append (_++_)];rfl
       have e':(lensN d n++List.replicate t ((n+1:Nat):Int)).length+1=(lensN d n++List.replicate (t+1) ((n+1:Nat):Int)).length:=by simp;omega
       rw[e,e'] at hs8
       rw[e']
       refine hs8.put 0 rfl (Nat.lt_of_sub_eq_succ rfl) rfl fun H9 hs9=>?_
       rw[w1 (by omega)]
       exact iht hltt p' c' H9 hs9
      ·have:t=q:=by omega
       subst this
       rw[←hls] at hs6
       rw[w1 (by omega)]
       exact ihn hlt lp lc H6 hs6
     exact inner 0 (by omega) lp lc H5 (by rw[List.replicate_zero,List.append_nil];exact hs5)
    ·have:n=16:=by omega
     subst this
     have hln:(lensM d).length≤255*16:=lensN_len d hd.rng 16
     have hL:lensN d 16=lensM d:=rfl
     rw[hL] at hs5
     intro J26 hJ26
     refine⟨_,_,_,hs5.get 0 (j:=1) rfl rfl,br_dec (fun h256=>no (fun h=>by have:=h.2.2.2.1;omega) H5 hs5.tail.tail.tail) (fun h256=>⟨_,_,_,hs5.get 0 (j:=1) rfl rfl,?_⟩)⟩
     have w17:IntKind.wrap .i64 ((17:Int)+((lensM d).length:Nat))=((17+(lensM d).length:Nat):Int):=by rw[wrap_id (by omega) (by omega)];omega
     rw[w17]
     refine br_dec (fun hlt=>no (fun h=>by have:=h.2.2.2.2.1;omega) H5 hs5.tail.tail.tail) (fun hlt=>hJ26 H5 ⟨_,_,_,hs5.get 0 (j:=1) rfl rfl,?_⟩)
     clear hJ26 J26
     refine c93 (hs5.is 1 rfl) (fun hno=>⟨_,_,_,_,rfl,br_t rfl (no (fun h=>hno h.2.2.2.2.2) H5 hs5.tail.tail.tail)⟩) (fun ok H6 cb hcf e6=>⟨_,_,_,_,rfl,br_f rfl ?_⟩)
     have hs6:=hs5.newSl e6 hcf
     have h:17≤d.length∧d.getD 0 0%16≤3∧d.getD 0 0/16≤1∧(lensM d).length≤256∧17+(lensM d).length≤d.length∧OkC (lensM d):=⟨by omega,by omega,by omega,by omega,by omega,ok⟩
     rw[hv] at h
     rw[dif_pos h] at he
     refine hs6.put 1 rfl (Nat.lt_of_sub_eq_succ rfl) rfl fun H7 hs7=>⟨_,_,_,hs7.get 1 (j:=1) rfl rfl,?_⟩
     rw[w17]
     refine⟨by omega,by omega,by omega,by omega,?_⟩
     rw[Int.toNat_natCast,show Int.toNat 17=17 from rfl,show 17+(lensM d).length-17=(lensM d).length by omega]
     refine hs7.put 1 rfl (Nat.lt_of_sub_eq_succ rfl) rfl fun H8 hs8=>hs8.put 1 rfl (Nat.lt_of_sub_eq_succ rfl) rfl fun H9 hs9=>⟨by decide,by decide,_,rfl,rowIn_whole (hs9.block 1 rfl),_,rfl,?_⟩
     have w4:IntKind.wrap .i64 ((4:Int)*((n0/16:Nat):Int))=((4*(n0/16):Nat):Int):=by rw[wrap_id (by omega) (by omega)];omega
     have wk:IntKind.wrap .i64 (((n0%16:Nat):Int)+((4*(n0/16):Nat):Int))=((n0%16+4*(n0/16):Nat):Int):=by rw[wrap_id (by omega) (by omega)];omega
     rw[w4,wk]
     have hke:((n0:Int)%16+4*((n0:Int)/16)).toNat=n0%16+4*(n0/16):=by omega
     rw[hke] at he
     generalize hk:n0%16+4*(n0/16)=k at he ⊢
     have hk8:k<8:=by omega
     refine⟨by omega,by omega,rfl,?_⟩
     rw[add_none,add_none,Nat.zero_add,Int.toNat_natCast]
     have hs10:=hs9.front 3 rfl
     obtain⟨f,Q,hJr,hs11⟩:=rdJ_op hs10
     refine putVs hs11 0 rfl (by show 268+k*4+4≤300;omega) (by simp[Value.oneCell']) fun H10 hs12=>⟨_,_,_,hs12.get 3 (j:=1) rfl rfl,?_⟩
     rw[w17,Int.toNat_natCast]
     refine⟨by omega,by omega,?_⟩
     have hcd:=hd.cut (m:=17) (n:=17+(lensM d).length) (by omega) (by omega)
     rw[show 17+(lensM d).length-17=(lensM d).length by omega] at hcd
     have hsy:(d.take (17+(lensM d).length)).drop 17=(d.drop 17).take (lensM d).length:=by rw[List.take_drop]
     rw[hsy] at hcd
     have hs13:St H0 H10 (.pers Q:: .sl (some ⟨cb,0,none⟩) (lensM d).length (lensM d).length 3 1 (ints (codesM (lensM d))):: .sl lp (lensM d).length lc 3 1 (ints (lensM d)):: .cell r _ 80::σ):=
      ((hs12.del 3).front 1 rfl).perm (List.Perm.cons _ ((List.Perm.swap _ _ _).trans (List.Perm.cons _ (List.Perm.swap _ _ _))))
     have hs14:=St.persOf (τ:=[.pers Q,_,_]) (Q:=fun H=>Q H∧DCod lp (some ⟨cb,0,none⟩) (lensM d) H) hs13 fun H' hs'=>⟨hs'.persGet 0 rfl,hs'.is 2 rfl,hs'.is 1 rfl⟩
     have hT:DTab H0 (fun H=>Q H∧DCod lp (some ⟨cb,0,none⟩) (lensM d) H) (lensM d,(d.drop 17).take (lensM d).length) (.slice lp (lensM d).length lc) (.slice (some ⟨cb,0,none⟩) (lensM d).length (lensM d).length) (.slice (if dc=17 then dp else Option.map (fun x=>Addr.add x (17*1)) dp) (lensM d).length (dc-17)):=
      ⟨_,_,_,_,_,_,ok,by rw[List.length_take,List.length_drop];show min (lensM d).length _=(lensM d).length;omega,hcd.rng,hcd.is,fun H hQ=>hQ.2,rfl,rfl,rfl⟩
     have hs15:=rdJ_mk (hJr.setC (k:=k) (T:=(lensM d,(d.drop 17).take (lensM d).length)) (f':=updL f (268+k*4) [.bool true,.slice lp (lensM d).length lc,.slice (some ⟨cb,0,none⟩) (lensM d).length (lensM d).length,.slice (if dc=17 then dp else Option.map (fun x=>Addr.add x (17*1)) dp) (lensM d).length (dc-17)]) (fun H hQ=>hQ.1) hk8 (fun i hi=>updL_ne hi) (updL_at (i:=0) (Nat.lt_of_sub_eq_succ rfl)) ?_ (updL_one hJr.one (by simp[Value.oneCell']))) hs14.swap
     ·refine ih _ _ _ _ _ H10 (by rw[List.length_drop];omega) (hd.from_ (m:=17+(lensM d).length) (by omega)) (by omega) he ?_
      exact hs15
     ·rw[updL_at (Nat.lt_of_sub_eq_succ rfl),updL_at (Nat.lt_of_sub_eq_succ rfl),updL_at (Nat.lt_of_sub_eq_succ rfl)];exact hT
   exact go 0 (by omega) none 0 _ hs5
 exact loop d.length d dp dl dc s.cd H (Nat.le_refl _) hd hdl hres hs
def scanW(t:List (Nat×Nat))(i:Nat):Value:= .int .i64 ((if i%2=0 then(t.getD (i/2) (0,0)).1 else(t.getD (i/2) (0,0)).2:Nat):Int)
theorem six_0:(#[.int .i64 0,.int .i64 0,.int .i64 0,.int .i64 0,.int .i64 0,.int .i64 0]:Array Value)=tabV 6 fun _=> .int .i64 0:=rfl
set_option maxHeartbeats 1000000 in
theorem c61{f:Nat→Value}{Q:Heap→Prop}(hJr:RdJ H0 Q f p l c s)(hs:St H0 H (.cell r (tabV 300 f) 80::σ)){d:List Int}{dp:Option Addr}{dl dc:Nat}(hd:SlB H0 dp dl dc d)
 (hbad:scanM d s=none→ ∀cs H',cs.size=6→(∀v∈cs.toList,v.oneCell'=true)→St H0 H' (.cell r (tabV 300 f) 80::σ)→R (.tuple #[.agg cs,.bool false]) H')
 (hR: ∀t,scanM d s=some t→ ∀H',St H0 H' (.cell r (tabV 300 f) 80::σ)→R (.tuple #[.agg (tabV 6 (scanW t)),.bool true]) H'):
 CallsH Tryz.prog 61 #[.pointer (some ⟨r,0,none⟩),.slice dp dl dc] H R:=by
 have hl:=hd.len
 have no: ¬(s.seen=true∧d.length=10∧d.getD 0 0=3∧d.getD 7 0=0∧d.getD 8 0=63∧d.getD 9 0=0∧ ∀k,k<3→scanOk d s k)→scanM d s=none:=fun hn=>by unfold scanM;rw[if_neg hn]
 refine Tryz.s61 ?_
 unfold Tryz.S61
 refine hs.alc fun b3 H1 hs1=>hs1.alc fun b5 H2 hs2=>?_
 rw[six_0] at hs2
 clear hs1
 have ret: ∀(g:Nat→Value) (H3:Heap),scanM d s=none→(∀i,(g i).oneCell'=true)→St H0 H3 (.cell b5 (tabV 6 g) 81:: .cell b3 (tabV 6 fun _=> .int .i64 0) 81:: .cell r (tabV 300 f) 80::σ)→
  ∃v:Array Value,v.size=6∧rowIn H3 ⟨b5,0,none⟩ v∧v.size=6∧stAt H3 ⟨b3,0,none⟩ v.toList fun H'=> ∃re:Array Value,re.size=6∧rowIn H' ⟨b3,0,none⟩ re∧R (.tuple #[.agg re,.bool false]) H':=fun g H3 hn hg hs3=>
  retVia (K:=fun re H'=>R (.tuple #[.agg re,.bool false]) H') hs3 0 1 rfl rfl (tabV_size _ _) (tabV_size _ _) (tabV_one hg) fun H4 hs4=>hbad hn _ H4 (tabV_size _ _) (tabV_one hg) hs4.tail.tail
 have r0:=fun hn=>ret _ H2 hn (fun _=>rfl) hs2
 intro J hJ
 refine⟨_,rfl,s.seen,by rw[←hJr.seen];exact getV hs2 2 (j:=3) rfl (by omega),?_⟩
 cases hseen:s.seen with
 |false=>exact br_t rfl (r0 (no fun h=>by rw[hseen] at h;cases h.1))
 |true=>
 refine br_f rfl (br_ne (fun h=>r0 (no fun hh=>by omega)) (fun h10=>?_))
 have h10:dl=10:=by omega
 subst h10
 have hrd: ∀{H':Heap} {i:Nat},Ext H0 H'→i<10→ ∀{K:Int→Prop},K (d.getD i 0)→ ∃a:Addr,dp=some a∧0≤(i:Int)∧(i:Int)<((10:Nat):Int)∧ ∃v:Int,Sh.cell H' (Addr.add a (Int.toNat (i:Int)*1))=some (.int .u8 v)∧K v:=fun{H'} {i} he hi {K} hK=>hd.rd he (i:=(i:Int)) (by omega) (by omega) (by rw[Int.toNat_natCast];exact hK)
 refine hrd hs2.ext (i:=0) (by omega) (br_ne (fun h=>r0 (no fun hh=>by omega)) (fun h3=>?_))
 refine hrd hs2.ext (i:=7) (by omega) (br_ne (fun h=>r0 (no fun hh=>by omega)) (fun h7=>?_))
 refine hrd hs2.ext (i:=8) (by omega) (br_ne (fun h=>r0 (no fun hh=>by omega)) (fun h8=>?_))
 refine hrd hs2.ext (i:=9) (by omega) (br_ne (fun h=>r0 (no fun hh=>by omega)) (fun h9=>hJ H2 ?_))
 intro X hX
 have loop: ∀k,k≤3→(∀j,j<k→scanOk d s j)→ ∀(g:Nat→Value) (H4:Heap),(∀j,j<k→g (2*j)=scanW (scanL d) (2*j)∧g (2*j+1)=scanW (scanL d) (2*j+1))→(∀i,(g i).oneCell'=true)→
  St H0 H4 (.cell b5 (tabV 6 g) 81:: .cell b3 (tabV 6 fun _=> .int .i64 0) 81:: .cell r (tabV 300 f) 80::σ)→X [.int .i64 (k:Nat)] H4:=upto fun k hk ih hpk g H4 hg ho hs4=>by
  refine hX _ H4 (br_dec (fun hlt=>?_) (fun hge=>?_))
  ·have hlt:k<3:=by omega
   have rk:=fun hn: ¬scanOk d s k=>ret g H4 (no fun hh=>hn (hh.2.2.2.2.2.2 k hlt)) ho hs4
   have w2:IntKind.wrap .i64 ((2:Int)*(k:Nat))=((2*k:Nat):Int):=by rw[wrap_id (by omega) (by omega)];omega
   have w22:IntKind.wrap .i64 ((2:Int)+((2*k:Nat):Int))=((2+2*k:Nat):Int):=by rw[wrap_id (by omega) (by omega)];omega
   have w12:IntKind.wrap .i64 ((1:Int)+((2*k:Nat):Int))=((1+2*k:Nat):Int):=by rw[wrap_id (by omega) (by omega)];omega
   rw[w2,w22,w12]
   have bv:=hd.byte (2+2*k)
   have bw:=hd.byte (1+2*k)
   refine hrd hs4.ext (i:=2+2*k) (by omega) ⟨by decide,hrd hs4.ext (i:=2+2*k) (by omega) ⟨by decide,?_⟩⟩
   obtain⟨n0,hn0⟩:=Int.eq_ofNat_of_zero_le bv.1
   have w0:IntKind.wrap .i64 (n0:Int)=(n0:Int):=wrap_id (by omega) (by omega)
   have em:Int.tmod (n0:Int) 16=((n0%16:Nat):Int):=tmodN n0 16
   have ed:Int.tdiv (n0:Int) 16=((n0/16:Nat):Int):=tdivN n0 16
   have w4b:IntKind.wrap .i64 ((4:Int)+((n0%16:Nat):Int))=((4+n0%16:Nat):Int):=by rw[wrap_id (by omega) (by omega)];omega
   have hta:(d.getD (2+2*k) 0/16).toNat=n0/16:=by omega
   have htb:(4+d.getD (2+2*k) 0%16).toNat=4+n0%16:=by omega
   rw[hn0,w0,em,ed,wrap_id (n:=((n0/16:Nat):Int)) (by omega) (by omega),w4b]
   intro J2 hJ2
   refine hrd hs4.ext (i:=1+2*k) (by omega) ?_
   rw[wrap_id (n:=d.getD (1+2*k) 0) (by omega) (by omega),w1 (by omega)]
   refine br_ne (fun h=>rk (fun hh=>by have:=hh.1;omega)) (fun hc0=>br_dec (fun h=>rk (fun hh=>by have:=hh.2.1;omega)) (fun ha=>br_dec (fun h=>rk (fun hh=>by have:=hh.2.2.1;omega)) (fun hb=>⟨_,rfl,by omega,by omega,?_⟩)))
   obtain⟨hw4,hwk⟩:=hJr.wh k hlt
   refine⟨(s.wh.getD k 0:Nat),?_,_,rfl,by omega,by omega,(s.st.getD (s.wh.getD k 0) none).isSome,?_,?_⟩
   ·rw[add_none,add_none,Nat.zero_add,Int.toNat_natCast,Nat.mul_one,getV hs4 2 rfl (by omega),hwk]
   ·rw[add_none,add_none,Nat.zero_add,Int.toNat_natCast,Nat.mul_one,getV hs4 2 rfl (by omega),hJr.has _ hw4]
   cases hst:(s.st.getD (s.wh.getD k 0) none).isSome with
   |false=>exact br_t rfl (rk (fun hh=>by have:=hh.2.2.2.1;rw[hst] at this;cases this))
   |true=>
   have there: ∀j,j<8→f (268+j*4)= .bool (s.cd.getD j none).isSome:=fun j hj=>by
    rcases hJr.cd j hj with ⟨h1,h2⟩|⟨T,h1,h2,_⟩
    ·rw[h1,h2];rfl
    ·rw[h1,h2];rfl
   refine br_f rfl ⟨_,rfl,by omega,by omega,(s.cd.getD (n0/16) none).isSome,?_,?_⟩
   ·rw[add_none,add_none,add_none,Nat.zero_add,Int.toNat_natCast,Nat.add_zero,getV hs4 2 rfl (by omega),there _ (by omega)]
   cases hc1:(s.cd.getD (n0/16) none).isSome with
   |false=>exact br_t rfl (rk (fun hh=>by have:=hh.2.2.2.2.1;rw[hta,hc1] at this;cases this))
   |true=>
   refine br_f rfl ⟨_,rfl,by omega,by omega,(s.cd.getD (4+n0%16) none).isSome,?_,?_⟩
   ·rw[add_none,add_none,add_none,Nat.zero_add,Int.toNat_natCast,Nat.add_zero,getV hs4 2 rfl (by omega),there _ (by omega)]
   cases hc2:(s.cd.getD (4+n0%16) none).isSome with
   |false=>exact br_t rfl (rk (fun hh=>by have:=hh.2.2.2.2.2;rw[htb,hc2] at this;cases this))
   |true=>
   have hok:scanOk d s k:=⟨by omega,by omega,by omega,hst,by rw[hta];exact hc1,by rw[htb];exact hc2⟩
   refine br_f rfl (hJ2 H4 ⟨by omega,by omega,?_⟩)
   rw[add_none,Nat.zero_add,Int.toNat_natCast,Nat.mul_one]
   refine putV hs4 0 rfl (by omega) rfl fun H5 hs5=>?_
   have w21:IntKind.wrap .i64 (((2*k:Nat):Int)+1)=((2*k+1:Nat):Int):=by rw[wrap_id (by omega) (by omega)];omega
   rw[w21]
   refine⟨by omega,by omega,?_⟩
   rw[add_none,Nat.zero_add,Int.toNat_natCast,Nat.mul_one]
   refine putV hs5 0 rfl (by omega) rfl fun H6 hs6=>?_
   rw[w1 (by omega)]
   refine ih hlt (fun j hj=>?_) _ H6 (fun j hj=>?_) (updV_one (updV_one ho rfl) rfl) hs6
   ·rcases Nat.lt_or_ge j k with h|h
    ·exact hpk j h
    ·rw[show j=k by omega];exact hok
   ·rcases Nat.lt_or_ge j k with h|h
    ·rw[updV_ne (by omega),updV_ne (by omega),updV_ne (by omega),updV_ne (by omega)];exact hg j h
    ·have:j=k:=by omega
     subst this
     rw[updV_ne (by omega),updV_at,updV_at]
     unfold scanW
     rw[if_pos (by omega),if_neg (by omega),show 2*j/2=j by omega,show(2*j+1)/2=j by omega,scanL_get hlt]
     simp only
     rw[hta,htb]
     exact⟨rfl,rfl⟩
  ·have:k=3:=by omega
   subst this
   have hsc:scanM d s=some (scanL d):=by unfold scanM;rw[if_pos ⟨hseen,hl,h3,h7,h8,h9,hpk⟩];rfl
   refine retVia (K:=fun re H'=>R (.tuple #[.agg re,.bool true]) H') hs4 0 1 rfl rfl (tabV_size _ _) (tabV_size _ _) (tabV_one ho) fun H5 hs5=>?_
   have e:tabV 6 g=tabV 6 (scanW (scanL d)):=tabV_congr fun i hi=>by
    rcases Nat.mod_two_eq_zero_or_one i with h|h
    ·have:=(hg (i/2) (by omega)).1
     rwa [show 2*(i/2)=i by omega] at this
    ·have:=(hg (i/2) (by omega)).2
     rwa [show 2*(i/2)+1=i by omega] at this
   rw[e]
   exact hR _ hsc H5 hs5.tail.tail
 exact loop 0 (by omega) (fun j hj=>by omega) _ H2 (fun j hj=>by omega) (fun _=>rfl) hs2
end
end Go.Proofs
namespace Go.Proofs
open Go.Sh
variable {H0 H:Heap} {σ:List Rs} {R:Value→Heap→Prop}
theorem drop_take2(b:List Int)(n:Nat):((b.drop 2).take n).drop 2=(b.take (2+n)).drop 4:=by
 rw[List.take_drop,List.drop_drop]
section
variable {r l c:Nat} {p:Option Addr} {s:Jst} {b:List Int}
set_option maxHeartbeats 1000000 in
theorem c29(hs:St H0 H (rdJ H0 r p l c s::σ))(hb:SlB H0 p l c b)(hbl:l≤1000000000)
 (hbad:headM b s=none→ ∀cs H',cs.size=6→(∀v∈cs.toList,v.oneCell'=true)→St H0 H' σ→R (.tuple #[.agg cs,.bool false]) H')
 (hR: ∀s' t rest,headM b s=some (s',t,rest)→ ∀f Q p' l' c',RdJ H0 Q f p' l' c' s'→SlB H0 p' l' c' rest→l'≤1000000000→ ∀H',St H0 H' (.cell r (tabV 300 f) 80:: .pers Q::σ)→R (.tuple #[.agg (tabV 6 (scanW t)),.bool true]) H'):
 CallsH Tryz.prog 29 #[.pointer (some ⟨r,0,none⟩)] H R:=by
 obtain⟨res,hres⟩: ∃x,headM b s=x:=⟨_,rfl⟩
 rw[hres] at hbad
 simp only[hres] at hR
 refine Tryz.s29 ?_
 unfold Tryz.S29
 refine hs.alc fun b2 H1 hs1=>hs1.alc fun b4 H2 hs2=>?_
 rw[six_0] at hs2
 have hs2:=hs2.front 2 rfl
 clear hs1
 have ret: ∀{ρ:Rs} (H3:Heap),res=none→St H0 H3 (ρ:: .cell b4 (tabV 6 fun _=> .int .i64 0) 81:: .cell b2 (tabV 6 fun _=> .int .i64 0) 81::σ)→
  ∃v:Array Value,v.size=6∧rowIn H3 ⟨b4,0,none⟩ v∧v.size=6∧stAt H3 ⟨b2,0,none⟩ v.toList fun H'=> ∃re:Array Value,re.size=6∧rowIn H' ⟨b2,0,none⟩ re∧R (.tuple #[.agg re,.bool false]) H':=fun H3 hn hs3=>
  retVia (K:=fun re H'=>R (.tuple #[.agg re,.bool false]) H') hs3 1 2 rfl rfl (tabV_size _ _) (tabV_size _ _) (tabV_one fun _=>rfl) fun H4 hs4=>hbad hn _ H4 (tabV_size _ _) (tabV_one fun _=>rfl) hs4.tail.tail.tail
 have ret': ∀(H3:Heap),res=none→St H0 H3 (.cell b4 (tabV 6 fun _=> .int .i64 0) 81:: .cell b2 (tabV 6 fun _=> .int .i64 0) 81::σ)→
  ∃v:Array Value,v.size=6∧rowIn H3 ⟨b4,0,none⟩ v∧v.size=6∧stAt H3 ⟨b2,0,none⟩ v.toList fun H'=> ∃re:Array Value,re.size=6∧rowIn H' ⟨b2,0,none⟩ re∧R (.tuple #[.agg re,.bool false]) H':=fun H3 hn hs3=>
  retVia (K:=fun re H'=>R (.tuple #[.agg re,.bool false]) H') hs3 0 1 rfl rfl (tabV_size _ _) (tabV_size _ _) (tabV_one fun _=>rfl) fun H4 hs4=>hbad hn _ H4 (tabV_size _ _) (tabV_one fun _=>rfl) hs4.tail.tail
 intro X hX
 have loop: ∀(m:Nat) (b:List Int) (p:Option Addr) (l c:Nat) (s:Jst) (H2:Heap),b.length≤m→SlB H0 p l c b→l≤1000000000→headM b s=res→St H0 H2 (rdJ H0 r p l c s:: .cell b4 (tabV 6 fun _=> .int .i64 0) 81:: .cell b2 (tabV 6 fun _=> .int .i64 0) 81::σ)→X [] H2:=by
  intro m
  induction m with
  |zero=>
   intro b p l c s H2 hm hb hbl he hs2
   have hl:=hb.len
   rw[headM_no (.inl (by omega))] at he
   refine hX H2 ?_
   intro J hJ
   exact⟨_,rfl,_,_,_,rdJ_b hs2,br_n (by omega) (ret H2 he.symm hs2)⟩
  |succ m ih=>
   intro b p l c s H2 hm hb hbl he hs2
   have hl:=hb.len
   have hle:=hb.le
   refine hX H2 ?_
   intro J hJ
   have seg4: ∀h4:l<4,res=none:=fun h4=>by
    by_cases hok:b.length<2∨b.getD 0 0≠255
    ·rw[headM_no hok] at he;exact he.symm
    ·rw[headM_noseg (by unfold segM;rw[if_pos (by rw[List.length_drop];omega)])] at he;exact he.symm
   refine⟨_,rfl,_,_,_,rdJ_b hs2,br_dec (fun h2=>⟨_,rfl,_,_,_,rdJ_b hs2,hb.rd hs2.ext (by omega) (by omega) (br_eq (fun hff=>hJ H2 ?_) (fun hff=>?_))⟩) (fun h2=>ret H2 (seg4 (by omega)) hs2)⟩
   rotate_left
   ·rw[headM_no (.inr hff)] at he
    exact ret H2 he.symm hs2
   clear hJ J
   have hok: ¬(b.length<2∨b.getD 0 0≠255):=fun h=>by
    rcases h with h|h
    ·omega
    ·exact h hff
   have hma:=hb.byte 1
   have hc:=hb.cut (m:=2) (n:=4) (by omega) (by omega)
   have hd2: ∀i,(b.drop 2).getD i 0=b.getD (2+i) 0:=fun i=>by rw[List.getD_eq_getElem?_getD,List.getElem?_drop,←List.getD_eq_getElem?_getD]
   refine⟨_,rfl,_,_,_,rdJ_b hs2,hb.rd hs2.ext (by omega) (by omega) ⟨_,rfl,_,_,_,rdJ_b hs2,by decide,by omega,by decide,by decide,?_⟩⟩
   rw[show Int.toNat 2=2 from rfl,show Int.toNat 4=4 from rfl,show Int.toNat 1=1 from rfl]
   refine c40 (hc.is.ext hs2.ext) hc.rng (by omega) ⟨_,rfl,?_⟩
   rw[show numV ((b.take 4).drop 2)=b.getD 2 0*256+b.getD 3 0 from numV2 (m:=2) (by omega)]
   have b2:=hb.byte 2
   have b3:=hb.byte 3
   have hsg:segM (b.drop 2)=if b.getD 2 0*256+b.getD 3 0<2∨((l-2:Nat):Int)<b.getD 2 0*256+b.getD 3 0 then none else some ((b.take (2+(b.getD 2 0*256+b.getD 3 0).toNat)).drop 4,b.drop (2+(b.getD 2 0*256+b.getD 3 0).toNat)):=by
    unfold segM
    rw[if_neg (by rw[List.length_drop];omega),hd2,hd2,List.length_drop,hl,drop_take2,List.drop_drop]
   generalize hN:b.getD 2 0*256+b.getD 3 0=N at*
   obtain⟨n,rfl⟩:=Int.eq_ofNat_of_zero_le (show 0≤N by omega)
   rw[Int.toNat_natCast] at hsg
   have w2n:IntKind.wrap .i64 ((2:Int)+(n:Int))=((2+n:Nat):Int):=by rw[wrap_id (by omega) (by omega)];omega
   rw[w2n]
   intro J19 hJ19
   refine br_dec (fun hn2=>?_) (fun hn2=>⟨_,rfl,_,_,_,rdJ_b hs2,br_dec (fun hnl=>?_) (fun hnl=>hJ19 H2 ?_)⟩)
   ·rw[if_pos (.inl hn2)] at hsg
    rw[headM_noseg hsg] at he
    exact ret H2 he.symm hs2
   ·rw[if_pos (.inr (by omega))] at hsg
    rw[headM_noseg hsg] at he
    exact ret H2 he.symm hs2
   clear hJ19 J19
   rw[if_neg (by omega)] at hsg
   rw[headM_seg hok hsg] at he
   refine⟨_,rfl,_,_,_,rdJ_b hs2,by omega,by omega,by decide,by omega,_,rfl,_,_,_,rdJ_b hs2,by omega,by omega,_,rfl,?_⟩
   rw[Int.toNat_natCast]
   refine rdJ_putB hs2 _ _ _ fun H3 hs3=>?_
   have hd:=hb.cut (m:=4) (n:=2+n) (by omega) (by omega)
   have hrest:=hb.from_ (m:=2+n) (by omega)
   generalize b.getD 1 0=ma at he hma ⊢
   generalize (b.take (2+n)).drop 4=d at*
   have hrl:=hrest.len
   have hm':(b.drop (2+n)).length≤m:=by rw[List.length_drop];omega
   generalize b.drop (2+n)=rest at*
   unfold markM at he
   intro J27 hJ27
   have go: ∀(s':Jst) (H5:Heap),headM rest s'=res→St H0 H5 (rdJ H0 r _ _ _ s':: .cell b4 (tabV 6 fun _=> .int .i64 0) 81:: .cell _ (tabV 6 fun _=> .int .i64 0) 81::σ)→X [] H5:=fun s' H5 he' hs5=>
    ih rest _ _ _ s' H5 hm' hrest (by omega) he' hs5
   -- a mark that counts,or none
   have other: ∀ok:Bool,¬(224≤ma∧ma≤239∨ma=254)→(ok=false∨ma=219∨ma=192∨ma=196∨ma=218)→J27 [.bool ok] H3:=fun ok hnot hokm=>by
    rw[if_neg hnot] at he
    refine hJ27 _ H3 ?_
    intro J30 hJ30
    refine br_eq (fun hm1=>?_) (fun hm1=>?_)
    ·rw[if_pos hm1] at he
     refine c58 hs3 hd (by omega) (fun hno H5 hs5=>⟨_,rfl,hJ30 _ H5 ?_⟩) (fun S hS H5 hs5=>⟨_,rfl,hJ30 _ H5 (br_f rfl ?_)⟩)
     ·rw[hno] at he;exact br_t rfl (ret' H5 he.symm hs5)
     ·rw[hS] at he;exact go _ H5 he hs5
    rw[if_neg hm1] at he
    refine br_eq (fun hm2=>?_) (fun hm2=>?_)
    ·rw[if_pos hm2] at he
     refine c59 hs3 hd (fun hno H5 hs5=>⟨_,rfl,hJ30 _ H5 ?_⟩) (fun S hS H5 hs5=>⟨_,rfl,hJ30 _ H5 (br_f rfl ?_)⟩)
     ·rw[hno] at he;exact br_t rfl (ret' H5 he.symm hs5)
     ·rw[hS] at he;exact go _ H5 he hs5
    rw[if_neg hm2] at he
    refine br_eq (fun hm3=>?_) (fun hm3=>?_)
    ·rw[if_pos hm3] at he
     refine c60 hs3 hd (by omega) (fun hno H5 hs5=>⟨_,rfl,hJ30 _ H5 ?_⟩) (fun S hS H5 hs5=>⟨_,rfl,hJ30 _ H5 (br_f rfl ?_)⟩)
     ·rw[hno] at he;exact br_t rfl (ret' H5 he.symm hs5)
     ·rw[hS] at he;exact go _ H5 he hs5
    rw[if_neg hm3] at he
    refine br_eq (fun hm4=>?_) (fun hm4=>?_)
    ·rw[if_pos hm4] at he
     obtain⟨f,Q,hJr,hs4'⟩:=rdJ_op hs3
     refine c61 hJr hs4' hd (fun hno cs H5 hcs ho hs5=>⟨_,_,rfl,hcs,?_⟩) (fun t ht H5 hs5=>⟨_,_,rfl,tabV_size _ _,?_⟩)
     ·rw[hno] at he
      refine hs5.putAll 3 rfl (by rw[Array.length_toList,hcs,tabV_size]) ho fun H6 hs6=>⟨cs,hcs,rowIn_whole (hs6.block 3 rfl),hbad he.symm cs H6 hcs ho hs6.tail.tail.tail.tail⟩
     ·rw[ht] at he
      have ho: ∀v∈(tabV 6 (scanW t)).toList,v.oneCell'=true:=tabV_one fun i=>rfl
      refine hs5.putAll 3 rfl (by rw[Array.length_toList,tabV_size,tabV_size]) ho fun H6 hs6=>⟨_,tabV_size _ _,rowIn_whole (hs6.block 3 rfl),?_⟩
      exact hR s t rest he.symm f Q _ _ _ hJr hrest (by omega) H6 ((hs6.del 2).del 2)
    ·rw[if_neg hm4] at he
     have:ok=false:=by
      rcases hokm with h|h|h|h|h
      ·exact h
      ·exact absurd h hm1
      ·exact absurd h hm2
      ·exact absurd h hm3
      ·exact absurd h hm4
     subst this
     exact hJ30 _ H3 (br_t rfl (ret H3 he.symm hs3))
   -- a mark that doesn't count
   have skip:(224≤ma∧ma≤239∨ma=254)→J27 [.bool true] H3:=fun hyes=>by
    rw[if_pos hyes] at he
    refine hJ27 _ H3 ?_
    intro J30 hJ30
    refine br_eq (fun h=>by omega) (fun _=>br_eq (fun h=>by omega) (fun _=>br_eq (fun h=>by omega) (fun _=>br_eq (fun h=>by omega) (fun _=>hJ30 _ H3 (br_f rfl (go s H3 he hs3))))))
   refine br_eq (fun h254=>skip (.inr h254)) (fun h254=>br_dec (fun h224=>?_) (fun h224=>other false (by omega) (.inl rfl)))
   by_cases h239:ma≤239
   ·rw[decide_eq_true h239];exact skip (.inl ⟨h224,h239⟩)
   ·rw[decide_eq_false h239];exact other false (by omega) (.inl rfl)
 exact loop b.length b p l c s H2 (Nat.le_refl _) hb hbl hres hs2
end
theorem shr8: ∀v:Fin 256,∀k:Fin 8,shrI .u8 (v.val:Int) (k.val:Int)=((v.val/2^k.val:Nat):Int):=by decide+kernel
theorem byteBits_get{c:Int}{j:Nat}(hj:j<8):(byteBits c)[j]?=some (c/2^(7-j)%2):=by
 unfold byteBits;rw[List.getElem?_map,List.getElem?_range hj];rfl
theorem bitsH_snoc(B:List Int)(c:Int):bitsH (B++[c])=bitsH B++byteBits c:=by unfold bitsH;rw[List.flatMap_append];simp
set_option maxHeartbeats 1000000 in
theorem c30{p:Option Addr}{l c:Nat}{b:List Int}(hs:St H0 H σ)(hb:SlB H0 p l c b)(hbl:l≤1000000000)
 (hbad:bodyM b=none→ ∀cs H',cs.size=3→(∀v∈cs.toList,v.oneCell'=true)→St H0 H' σ→R (.tuple #[.agg cs,.bool false]) H')
 (hR: ∀B,bodyM b=some B→B.length≤l→ ∀H' q m,St H0 H' (.sl q (8*B.length) m 3 1 (ints (bitsH B))::σ)→R (.tuple #[.agg #[.slice q (8*B.length) m,.int .i64 0,.bool true],.bool true]) H'):
 CallsH Tryz.prog 30 #[.slice p l c] H R:=by
 have hl:=hb.len
 obtain⟨res,hres⟩: ∃x,bodyM b=x:=⟨_,rfl⟩
 rw[hres] at hbad
 simp only[hres] at hR
 refine Tryz.s30 ?_
 unfold Tryz.S30
 refine hs.alc fun b2 H1 hs1=>hs1.alc fun b4 H2 hs2=>⟨rfl,hs2.putAll 0 rfl rfl (by simp[Value.oneCell']) fun H3 hs3=>?_⟩
 have hs3:=(hs3.nilSl 3 1).swap
 intro X hX
 -- the state goes out
 have out3: ∀(ok:Bool) {q:Option Addr} {n m:Nat} {L:List Int} {B2:Array Value} {K:Array Value→Heap→Prop} (H4:Heap),B2.size=3→St H0 H4 (.cell b4 #[.slice q n m,.int .i64 0,.bool true] 85:: .sl q n m 3 1 (ints L):: .cell b2 B2 85::σ)→
  (∀H5,Ext H4 H5∨True→St H0 H5 (.sl q n m 3 1 (ints L)::σ)→K #[.slice q n m,.int .i64 0,.bool true] H5)→ ∃v:Array Value,v.size=3∧rowIn H4 ⟨b4,0,none⟩ v∧v.size=3∧stAt H4 ⟨b2,0,none⟩ v.toList fun H5=> ∃re:Array Value,re.size=3∧rowIn H5 ⟨b2,0,none⟩ re∧K re H5:=fun ok {q n m L B2 K} H4 hB hs4 hK=>
  retVia (K:=K) hs4 0 2 rfl rfl rfl hB (by simp[Value.oneCell']) fun H5 hs5=>hK H5 (.inr trivial) (hs5.tail.del 1)
 have loop: ∀(m i:Nat) (B:List Int) (q:Option Addr) (cap:Nat) (H4:Heap),l-i≤m→B.length≤i→(bodyM (b.drop i)).map (B++ ·)=res→St H0 H4 (.cell b4 #[.slice q (8*B.length) cap,.int .i64 0,.bool true] 85:: .sl q (8*B.length) cap 3 1 (ints (bitsH B)):: .cell b2 #[.slice none 0 0,.int .i64 0,.bool false] 85::σ)→i≤l+2→X [.int .i64 (i:Nat)] H4:=by
  intro m
  induction m using Nat.strongRecOn with
  |_ m ih=>
   intro i B q cap H4 hm hBi he hs4 hil
   have wi1:IntKind.wrap .i64 ((i:Int)+1)=((i+1:Nat):Int):=w1' (by omega)
   have wi2:IntKind.wrap .i64 (((i+1:Nat):Int)+1)=((i+2:Nat):Int):=by rw[w1' (by omega)]
   have wi2':IntKind.wrap .i64 ((i:Int)+2)=((i+2:Nat):Int):=by rw[wrap_id (by omega) (by omega)];omega
   refine hX _ H4 ?_
   rw[wi1]
   refine br_dec (fun hlt=>?_) (fun hge=>?_)
   ·have hlt:i+1<l:=by omega
    rw[drop2 (by omega),bodyM] at he
    -- a byte comes in
    intro J hJ
    have hbi:=hb.byte i
    have take:(∀H5 q2 cap2,St H0 H5 (.cell b4 #[.slice q2 (8*(B++[b.getD i 0]).length) cap2,.int .i64 0,.bool true] 85:: .sl q2 (8*(B++[b.getD i 0]).length) cap2 3 1 (ints (bitsH (B++[b.getD i 0]))):: .cell b2 #[.slice none 0 0,.int .i64 0,.bool false] 85::σ)→
     X [.int .i64 (((if b.getD i 0=255 then i+2 else i+1):Nat):Int)] H5)→J [] H4:=fun hnext=>by
     refine hJ H4 ?_
     intro Y hY
     have inner: ∀j,j≤8→ ∀q cap H5,St H0 H5 (.cell b4 #[.slice q (8*B.length+j) cap,.int .i64 0,.bool true] 85:: .sl q (8*B.length+j) cap 3 1 (ints (bitsH B++(byteBits (b.getD i 0)).take j)):: .cell b2 #[.slice none 0 0,.int .i64 0,.bool false] 85::σ)→Y [.int .i64 (7-(j:Int))] H5:=upto fun j hj ihj q cap H5 hs5=>by
      refine hY _ H5 (br_dec (fun hlt8=>?_) (fun hge8=>?_))
      ·have hj8:j<8:=by omega
       refine⟨_,_,_,hs5.get 0 (j:=0) rfl rfl,hb.rd hs5.ext (i:=(i:Int)) (by omega) (by omega) ⟨by omega,by decide,?_⟩⟩
       rw[Int.toNat_natCast]
       obtain⟨v,hv⟩:=Int.eq_ofNat_of_zero_le hbi.1
       have hsh:=shr8 ⟨v,by omega⟩ ⟨7-j,by omega⟩
       simp only at hsh
       have h7:(7-(j:Int))=((7-j:Nat):Int):=by omega
       have hval:Int.tmod (IntKind.wrap .i64 (shrI .u8 (b.getD i 0) (7-(j:Int)))) 2=b.getD i 0/2^(7-j)%2:=by
        have hle:v/2^(7-j)≤v:=Nat.div_le_self _ _
        rw[hv,h7,hsh]
        generalize hq:v/2^(7-j)=w at hle ⊢
        have hq':(v:Int)/2^(7-j)=(w:Int):=by rw[←hq];simp
        rw[hq',wrap_id (by omega) (by omega)]
        have:=tmodN w 2
        rw[show((2:Nat):Int)=2 from rfl] at this
        rw[this]
        omega
       rw[hval]
       refine hs5.alcE fun b18 H6 e6 hs6=>⟨.inl e6,?_⟩
       refine hs6.appC 2 0 rfl rfl rfl (fun v hv=>by rw[List.mem_singleton.1 hv];rfl) (by decide) rfl (by omega) (by omega) fun p' c' H8 hs8=>?_
       have hs8:=hs8.tail
       simp only[List.set_cons_zero,List.set_cons_succ] at hs8
       have e:ints (bitsH B++(byteBits (b.getD i 0)).take j)++[Value.int .i64 (b.getD i 0/2^(7-j)%2)]=ints (bitsH B++(byteBits (b.getD i 0)).take (j+1)):=by
        rw[List.take_add_one,byteBits_get hj8,←List.append_assoc,ints_append (_++_)];rfl
       rw[e] at hs8
       refine hs8.put 0 rfl (Nat.lt_of_sub_eq_succ rfl) rfl fun H9 hs9=>?_
       have wk:IntKind.wrap .i64 ((7-(j:Int))-1)=7-((j+1:Nat):Int):=by rw[wrap_id (by omega) (by omega)];omega
       rw[wk]
       exact ihj hj8 p' c' H9 hs9
      ·have:j=8:=by omega
       subst this
       refine hb.rd hs5.ext (i:=(i:Int)) (by omega) (by omega) ?_
       rw[Int.toNat_natCast,wi2]
       have hs5:St H0 H5 (.cell b4 #[.slice q (8*(B++[b.getD i 0]).length) cap,.int .i64 0,.bool true] 85:: .sl q (8*(B++[b.getD i 0]).length) cap 3 1 (ints (bitsH (B++[b.getD i 0]))):: .cell b2 #[.slice none 0 0,.int .i64 0,.bool false] 85::σ):=by
        have e1:(byteBits (b.getD i 0)).take 8=byteBits (b.getD i 0):=List.take_of_length_le (by rw[byteBits_len];omega)
        rw[e1,←bitsH_snoc] at hs5
        have e2:8*(B++[b.getD i 0]).length=8*B.length+8:=by rw[List.length_append,List.length_singleton];omega
        rw[e2];exact hs5
       have hn:=hnext H5 q cap hs5
       refine br_eq (fun h=>?_) (fun h=>?_)
       ·rw[if_pos h] at hn;exact hn
       ·rw[if_neg h] at hn;exact hn
     have:=inner 0 (by omega) q cap H4 (by rw[List.take_zero,List.append_nil];exact hs4)
     exact this
    have hstep: ∀(x:List Int),(B++[b.getD i 0])++x=B++(b.getD i 0::x):=fun x=>by simp
    refine hb.rd hs4.ext (i:=(i:Int)) (by omega) (by omega) ?_
    rw[Int.toNat_natCast]
    refine br_eq (fun h255=>?_) (fun h255=>?_)
    ·rw[if_neg (by rw[h255];simp)] at he
     refine hb.rd hs4.ext (i:=((i+1:Nat):Int)) (by omega) (by omega) ?_
     rw[Int.toNat_natCast]
     refine br_ne (fun hn0=>?_) (fun h0=>?_)
     ·rw[if_pos hn0] at he
      refine⟨_,rfl,rowIn_whole (hs4.block 0 rfl),hb.rd hs4.ext (i:=((i+1:Nat):Int)) (by omega) (by omega) ?_⟩
      rw[Int.toNat_natCast,wi2']
      refine br_eq (fun h217=>⟨rfl,hs4.putAll 2 rfl rfl (by simp[Value.oneCell']) fun H5 hs5=>⟨.inr rfl,_,rfl,rowIn_whole (hs5.block 2 rfl),?_⟩⟩) (fun h217=>⟨rfl,hs4.putAll 2 rfl rfl (by simp[Value.oneCell']) fun H5 hs5=>⟨_,rfl,rowIn_whole (hs5.block 2 rfl),?_⟩⟩)
      ·have hs5:=hs5.tail.del 1
       by_cases hend:i+2=l
       ·rw[if_pos ⟨h217,List.drop_eq_nil_of_le (by omega)⟩] at he
        have h1:(((i+2:Nat):Int)==(l:Int))=true:=by rw[beq_iff_eq];omega
        rw[h1]
        have he:res=some B:=by rw[←he];simp
        exact hR B he (by omega) H5 q cap hs5
       ·rw[if_neg (fun h=>hend (by have:=congrArg List.length h.2;rw[List.length_drop,List.length_nil] at this;omega))] at he
        have h1:(((i+2:Nat):Int)==(l:Int))=false:=by rw[beq_eq_false_iff_ne];omega
        rw[h1]
        exact hbad he.symm _ H5 rfl (by simp[Value.oneCell']) hs5.tail
      ·rw[if_neg (fun h=>h217 h.1)] at he
       exact hbad he.symm _ H5 rfl (by simp[Value.oneCell']) (hs5.tail.del 1).tail
     ·have h0:b.getD (i+1) 0=0:=by omega
      rw[if_neg (by rw[h0];simp)] at he
      refine take fun H5 q2 cap2 hs5=>?_
      rw[if_pos h255]
      refine ih (l-(i+2)) (by omega) (i+2) _ q2 cap2 H5 (Nat.le_refl _) (by rw[List.length_append,List.length_singleton];omega) ?_ hs5 (by omega)
      rw[←he,Option.map_map]
      congr 1
      funext x
      rw[hstep,h255];rfl
    ·rw[if_pos h255] at he
     refine take fun H5 q2 cap2 hs5=>?_
     rw[if_neg h255]
     refine ih (l-(i+1)) (by omega) (i+1) _ q2 cap2 H5 (Nat.le_refl _) (by rw[List.length_append,List.length_singleton];omega) ?_ hs5 (by omega)
     have hd1:b.drop (i+1)=b.getD (i+1) 0::b.drop (i+2):=by
      rw[List.drop_eq_getElem_cons (by omega),gD_get (List.getElem?_eq_getElem (show i+1<b.length by omega))]
     rw[←he,hd1,Option.map_map]
     congr 1
     funext x
     rw[hstep];rfl
   ·have hno:bodyM (b.drop i)=none:=by
     have h1:(b.drop i).length≤1:=by rw[List.length_drop];omega
     match hd:b.drop i,h1 with
     |[],_=>rfl
     |[x],_=>rfl
    rw[hno] at he
    exact out3 false (K:=fun re H5=>R (.tuple #[.agg re,.bool false]) H5) H4 rfl hs4 fun H5 _ hs5=>hbad he.symm _ H5 rfl (by simp[Value.oneCell']) hs5.tail
 refine loop l 0 [] none 0 H3 (by omega) (by simp) ?_ hs3 (by omega)
 rw[List.drop_zero,hres]
 cases res<;>rfl
end Go.Proofs
namespace Go.Proofs
open Go.Sh
variable {H0 H:Heap} {σ:List Rs} {R:Value→Heap→Prop}
theorem flat_take{l:List (List Int)}{t:Nat}{b:List Int}(h:l[t]?=some b):(l.take (t+1)).flatten=(l.take t).flatten++b:=by
 rw[List.take_add_one,h];simp
theorem St.rebase{H1 H2:Heap}(he:Ext H H1)(hs:St H1 H2 σ):St H H2 σ:=by
 have:=(St.of_ext he).call hs
 rwa [List.append_nil] at this
theorem order_cnt(W Ht:Nat)(half:Bool)(hW:W≤1000)(hH:Ht≤1000):(orderM W Ht half).length≤95256:=by
 have h1:=rows_len half (unitsN half W) (unitsN half Ht)
 have hny:unitsN half Ht≤126:=by unfold unitsN sideM;cases half<;>simp<;>omega
 have hnx:unitsN half W≤126:=by unfold unitsN sideM;cases half<;>simp<;>omega
 have hb2:unitsN half Ht*(6*unitsN half W)≤126*(6*126):=Nat.mul_le_mul (by omega) (by omega)
 unfold orderM
 omega
theorem order_cnt2(W Ht:Nat)(half:Bool)(hW:W≤40000)(hH:Ht≤40000):(orderM W Ht half).length≤150060006:=by
 have h1:=rows_len half (unitsN half W) (unitsN half Ht)
 have hny:unitsN half Ht≤5001:=by unfold unitsN sideM;cases half<;>simp<;>omega
 have hnx:unitsN half W≤5001:=by unfold unitsN sideM;cases half<;>simp<;>omega
 have hb2:unitsN half Ht*(6*unitsN half W)≤5001*(6*5001):=Nat.mul_le_mul (by omega) (by omega)
 unfold orderM
 omega
theorem rowPlaces{H:Heap}{p:Option Addr}{n:Nat}{el:TypeId}{O:List (Nat×Nat×Nat)}(h:RS H p n el 3 (ints (flat3 O))){t:Nat}{u:Nat×Nat×Nat}(hu:O[t]?=some u)(ht:t<n):
 ∃blk,p=some ⟨blk,0,none⟩∧rowIn H ⟨blk,t*3,none⟩ #[.int .i64 (u.1:Nat),.int .i64 (u.2.1:Nat),.int .i64 (u.2.2:Nat)]:=
 h.row ht (by decide) fun j v hv=>by
  obtain⟨h1,h2,h3⟩:=flat3_get hu
  have hj:=(Array.getElem?_eq_some_iff.1 hv).1
  obtain rfl|rfl|rfl:j=0∨j=1∨j=2:=by simp at hj;omega
  ·cases hv;exact ints_get h1
  ·cases hv;exact ints_get h2
  ·cases hv;exact ints_get h3
set_option maxHeartbeats 4000000 in
theorem c14{w h q:Int}{l c:Nat}{p:Option Addr}{rgb:List Int}{half:Bool}(hi:IS H p l (kints .u8 rgb))(hr: ∀x∈rgb,0≤x∧x<256)(hl:l≤3000)
 (h31: ¬SizedM w h→ ∀H',Ext H H'→R (.tuple #[.slice none 0 0,.int .i64 31]) H')
 (h25:SizedM w h→(l:Int)≠3*w*h→ ∀H',Ext H H'→R (.tuple #[.slice none 0 0,.int .i64 25]) H')
 (h32:SizedM w h→(l:Int)=3*w*h→ ¬(1≤q∧q≤100)→ ∀H',Ext H H'→R (.tuple #[.slice none 0 0,.int .i64 32]) H')
 (hR: ∀W Ht:Nat,w=W→h=Ht→1≤W→1≤Ht→l=3*(W*Ht)→W*Ht≤1000→1≤q∧q≤100→ ∀H' b m,St H H' [.sl b (orderM W Ht half).length m 48 64 (ints (blocksL W Ht rgb q half).flatten)]→R (.tuple #[.slice b (orderM W Ht half).length m,.int .i64 0]) H'):
 CallsH Tryz.prog 14 #[.int .i64 w,.int .i64 h,.slice p l c,.int .i64 q,.bool half] H R:=by
 refine Tryz.s14 ?_
 unfold Tryz.S14
 refine stepsC fun H1 e1=>⟨_,_,rfl,?_⟩
 refine(St.of_ext e1).alc fun b10 H2 hs2=>⟨by rw[intsA_size];exact stL_len q false,hs2.putAllA 0 rfl (by rw[stL_len];simp) fun H3 hs3=>?_⟩
 refine stepsC fun H4 e4=>⟨_,_,rfl,?_⟩
 refine(hs3.step e4).alc fun b17 H5 hs5=>⟨by rw[intsA_size];exact stL_len q true,hs5.putAllA 0 rfl (by rw[stL_len];simp) fun H6 hs6=>?_⟩
 have e6:=hs6.ext
 refine c41 ⟨_,rfl,br_not (fun hns=>h31 (of_decide_eq_false hns) H6 e6) (fun hsz=>?_)⟩
 have hsz:=of_decide_eq_true hsz
 have hm:=mul_bd2 (w:=w) (h:=h) (by unfold SizedM at hsz;omega) (by unfold SizedM at hsz;omega)
 have e3:IntKind.wrap .i64 (IntKind.wrap .i64 (3*w)*h)=3*w*h:=by
  unfold SizedM at hsz
  have e:=Int.mul_assoc 3 w h
  rw[wrap_id (n:=3*w) (by omega) (by omega),wrap_id (by omega) (by omega)]
 rw[e3]
 refine br_ne (fun hne=>h25 hsz hne H6 e6) (fun heq=>br_not (fun hnq=>h32 hsz heq (of_decide_eq_false hnq) H6 e6) (fun hq=>?_))
 have hq:=of_decide_eq_true hq
 unfold SizedM at hsz
 obtain⟨W,rfl⟩:=Int.eq_ofNat_of_zero_le (show 0≤w by omega)
 obtain⟨Ht,rfl⟩:=Int.eq_ofNat_of_zero_le (show 0≤h by omega)
 rw[Int.mul_assoc,←Int.natCast_mul] at heq
 have hlN:l=3*(W*Ht):=by omega
 have hn:W*Ht≤1000:=by omega
 have hW:1≤W:=by omega
 have hH:1≤Ht:=by omega
 obtain⟨bW,bH⟩:=le_of_area hW hH hn
 have hR:=hR W Ht rfl rfl hW hH hlN hn hq
 clear h31 h25 h32 heq e3 hm
 have hst: ∀d,stL q d=stepsM q d:=fun d=>by unfold stL;rw[if_pos hq]
 rw[hst,hst] at hs6
 refine c42 (hi.ext e6) hr hlN hW hH hn fun H7 p0 c0 p1 n1 c1 p2 n2 c2 e7 i0 i1 i2=>⟨_,rfl,?_⟩
 have k10:H7[b10]?=some (.cells (ints (stepsM q false)).toArray 48):=e7 _ _ (hs6.block 1 rfl)
 have k17:H7[b17]?=some (.cells (ints (stepsM q true)).toArray 48):=e7 _ _ (hs6.block 0 rfl)
 have e67:=e6.trans e7
 have hsl: ∀d,(stepsM q d).length=64:=stepsM_len q
 refine(St.nil H7).alc fun b26 H8 hs8=>⟨rfl,hs8.putAll 0 rfl rfl (by simp[Value.oneCell']) fun H9 hs9=>?_⟩
 have hs9:St H7 H9 [.cell b26 #[.int .i64 (W:Nat),.int .i64 (Ht:Nat),.slice p0 (W*Ht) c0,.int .i64 (hw half W:Nat),.int .i64 (hw half Ht:Nat),.slice p1 n1 c1,.int .i64 (hw half W:Nat),.int .i64 (hw half Ht:Nat),.slice p2 n2 c2] 119]:=hs9
 refine c35 (Nat.le_trans bW (by decide)) (Nat.le_trans bH (by decide)) fun H10 qo mo hs10=>⟨_,_,_,rfl,?_⟩
 have hs10:=hs9.call hs10
 have hor:=order_rng W Ht half bW bH
 have hcnt:=order_cnt W Ht half bW bH
 have hbl:=blocksL_len W Ht rgb q half
 have h64:=blocksL_64 W Ht rgb q half
 have hget: ∀(t:Nat) (u:Nat×Nat×Nat),(orderM W Ht half)[t]?=some u→(blocksL W Ht rgb q half)[t]?=some (blockV W Ht rgb q half u):=fun t u h=>by simp[blocksL,h]
 generalize hO:orderM W Ht half=O at*
 generalize hB:blocksL W Ht rgb q half=B at*
 -- a part's sample
 have pdim: ∀n:Nat,1≤n→1≤hw half n∧hw half n≤n:=fun n hn=>by unfold hw;split<;>omega
 have parea:hw half W*hw half Ht≤1000:=Nat.le_trans (Nat.mul_le_mul (pdim W hW).2 (pdim Ht hH).2) hn
 have plen: ∀k,(partL W Ht rgb half k).length=hw half W*hw half Ht:=fun k=>by
  unfold partL hw
  cases half with
  |true=>simp only[if_true];exact halfL_len _ _ _
  |false=>simp only[Bool.false_eq_true,if_false];exact planeL_len _ _ _
 have part: ∀{H11:Heap} {R:Value→Heap→Prop} (k x y:Nat),k<3→x≤3000→y≤3000→St H7 H11 [.cell b26 #[.int .i64 (W:Nat),.int .i64 (Ht:Nat),.slice p0 (W*Ht) c0,.int .i64 (hw half W:Nat),.int .i64 (hw half Ht:Nat),.slice p1 n1 c1,.int .i64 (hw half W:Nat),.int .i64 (hw half Ht:Nat),.slice p2 n2 c2] 119]→(∀H',Ext H11 H'→R (.int .i64 (sampM W Ht rgb half k x y)) H')→
  ∃v47:Array Value,v47.size=3∧rowIn H11 ⟨b26,k*3,none⟩ v47∧CallsH Tryz.prog 43 #[.agg v47,.int .i64 (x:Nat),.int .i64 (y:Nat)] H11 R:=fun{H11 R} k x y hk hx hy hs hR'=>by
  obtain rfl|rfl|rfl:k=0∨k=1∨k=2:=by omega
  ·refine⟨#[.int .i64 (W:Nat),.int .i64 (Ht:Nat),.slice p0 (W*Ht) c0],rfl,rowIn_block (hs.block 0 rfl) fun j v hv=>?_,c43 (i0.ext hs.ext) (planeL_len _ _ _) hW hH hn (by omega) (by omega) fun H' e'=>?_⟩
   ·have hj:=(Array.getElem?_eq_some_iff.1 hv).1
    obtain rfl|rfl|rfl:j=0∨j=1∨j=2:=by simp at hj;omega
    all_goals exact hv
   ·have:=hR' H' e'
    unfold sampM at this
    rw[if_neg (by simp)] at this
    exact this
  ·refine⟨#[.int .i64 (hw half W:Nat),.int .i64 (hw half Ht:Nat),.slice p1 n1 c1],rfl,rowIn_block (hs.block 0 rfl) fun j v hv=>?_,c43 (i1.ext hs.ext) (plen 1) (pdim W hW).1 (pdim Ht hH).1 parea (by omega) (by omega) fun H' e'=>?_⟩
   ·have hj:=(Array.getElem?_eq_some_iff.1 hv).1
    obtain rfl|rfl|rfl:j=0∨j=1∨j=2:=by simp at hj;omega
    all_goals exact hv
   ·rw[samp_part hW hH rgb half (by decide)];exact hR' H' e'
  ·refine⟨#[.int .i64 (hw half W:Nat),.int .i64 (hw half Ht:Nat),.slice p2 n2 c2],rfl,rowIn_block (hs.block 0 rfl) fun j v hv=>?_,c43 (i2.ext hs.ext) (plen 2) (pdim W hW).1 (pdim Ht hH).1 parea (by omega) (by omega) fun H' e'=>?_⟩
   ·have hj:=(Array.getElem?_eq_some_iff.1 hv).1
    obtain rfl|rfl|rfl:j=0∨j=1∨j=2:=by simp at hj;omega
    all_goals exact hv
   ·rw[samp_part hW hH rgb half (by decide)];exact hR' H' e'
 intro X hX
 have go: ∀t,t≤O.length→ ∀H11 qb mb,St H7 H11 [.sl qb t mb 48 64 (ints (B.take t).flatten),.sl qo O.length mo 112 3 (ints (flat3 O)),.cell b26 #[.int .i64 (W:Nat),.int .i64 (Ht:Nat),.slice p0 (W*Ht) c0,.int .i64 (hw half W:Nat),.int .i64 (hw half Ht:Nat),.slice p1 n1 c1,.int .i64 (hw half W:Nat),.int .i64 (hw half Ht:Nat),.slice p2 n2 c2] 119]→X [.slice qb t mb,.int .i64 (t:Nat)] H11:=upto fun t ht ih H11 qb mb hs11=>by
  refine hX _ _ _ _ H11 (br_dec (fun hlt=>?_) (fun hge=>?_))
  ·have hlt:t<O.length:=by omega
   obtain⟨u,hu⟩: ∃u,O[t]?=some u:=⟨_,List.getElem?_eq_getElem hlt⟩
   have hur:=hor u (List.mem_of_getElem? hu)
   have hbt:=hget t u hu
   obtain⟨blk,hqo,hrow⟩:=rowPlaces (hs11.rs 1 rfl) hu hlt
   refine⟨_,hqo,by omega,by omega,_,rfl,by rw[add_none,Nat.zero_add,Int.toNat_natCast];exact hrow,?_⟩
   rw[w1 (i:=t) (by omega)]
   refine hs11.alc fun b38 H12 hs12=>⟨rfl,hs12.putAll 0 rfl rfl (by simp[Value.oneCell']) fun H13 hs13=>hs13.alc fun b41 H14 hs14=>?_⟩
   simp only[zeroA,List.set_cons_zero] at hs14
   clear hs11 hs12 hs13 hrow
   intro Y hY
   have hsm:=smpL_len W Ht rgb half u
   -- behind the samples
   have rest: ∀H15,St H7 H15 [.cell b41 (ints (smpL W Ht rgb half u)).toArray 48,.cell b38 #[.int .i64 (u.1:Nat),.int .i64 (u.2.1:Nat),.int .i64 (u.2.2:Nat)] 112,.sl qb t mb 48 64 (ints (B.take t).flatten),.sl qo O.length mo 112 3 (ints (flat3 O)),.cell b26 #[.int .i64 (W:Nat),.int .i64 (Ht:Nat),.slice p0 (W*Ht) c0,.int .i64 (hw half W:Nat),.int .i64 (hw half Ht:Nat),.slice p1 n1 c1,.int .i64 (hw half W:Nat),.int .i64 (hw half Ht:Nat),.slice p2 n2 c2] 119]→Y [.int .i64 ((64:Nat):Int)] H15:=fun H15 hs15=>by
    have hfl:=fwdM_len (smpL W Ht rgb half u)
    refine hY _ H15 (br_n (by decide) ⟨_,by rw[intsA_size];exact hsm,rowIn_whole (hs15.block 0 rfl),c44 (smpL_small W Ht rgb half u) fun H16 e16=>⟨_,rfl,?_⟩⟩)
    refine(hs15.step e16).alc fun b58 H17 hs17=>⟨by rw[intsA_size];exact hfl,hs17.putAllA 0 rfl (by rw[hfl];simp) fun H18 hs18=>?_⟩
    simp only[List.set_cons_zero] at hs18
    clear hs17
    intro Z hZ
    have hvl:=blockV_len W Ht rgb q half u
    have hvg: ∀i,i<64→(blockV W Ht rgb q half u).getD i 0=inStepsM ((fwdM (smpL W Ht rgb half u)).getD i 0) (stepV q (decide (0<u.1)) i):=fun i hi=>tab_getD hi
    have hfr: ∀i,i<64→ -5000≤(fwdM (smpL W Ht rgb half u)).getD i 0∧(fwdM (smpL W Ht rgb half u)).getD i 0≤5000:=fun i hi=>fwd_rng (smpL_small W Ht rgb half u) hi
    generalize hF:fwdM (smpL W Ht rgb half u)=F at*
    generalize hV:blockV W Ht rgb q half u=V at*
    have mixl: ∀i,i≤64→(V.take i++F.drop i).length=64:=fun i hi=>by rw[List.length_append,List.length_take,List.length_drop];omega
    have go2: ∀i,i≤64→ ∀H19,St H7 H19 [.cell b58 (ints (V.take i++F.drop i)).toArray 48,.cell b41 (ints (smpL W Ht rgb half u)).toArray 48,.cell b38 #[.int .i64 (u.1:Nat),.int .i64 (u.2.1:Nat),.int .i64 (u.2.2:Nat)] 112,.sl qb t mb 48 64 (ints (B.take t).flatten),.sl qo O.length mo 112 3 (ints (flat3 O)),.cell b26 #[.int .i64 (W:Nat),.int .i64 (Ht:Nat),.slice p0 (W*Ht) c0,.int .i64 (hw half W:Nat),.int .i64 (hw half Ht:Nat),.slice p1 n1 c1,.int .i64 (hw half W:Nat),.int .i64 (hw half Ht:Nat),.slice p2 n2 c2] 119]→Z [.int .i64 (i:Nat)] H19:=upto fun i hi ihi H19 hs19=>by
     refine hZ _ H19 (br_dec (fun hlti=>?_) (fun hgei=>?_))
     ·have hlti:i<64:=by omega
      have s0:(stepsM q false)[i]?=some (stepV q false i):=tab_get hlti
      have s1:(stepsM q true)[i]?=some (stepV q true i):=tab_get hlti
      have c10:cell H19 (Addr.add ⟨b10,0,none⟩ (Int.toNat (i:Int)*1))=some (.int .i64 (stepV q false i)):=by
       rw[add_none,Nat.zero_add,Int.toNat_natCast,Nat.mul_one]
       exact cell_get (hs19.ext _ _ k10) (by rw[List.getElem?_toArray];exact ints_get s0)
      have c17:cell H19 (Addr.add ⟨b17,0,none⟩ (Int.toNat (i:Int)*1))=some (.int .i64 (stepV q true i)):=by
       rw[add_none,Nat.zero_add,Int.toNat_natCast,Nat.mul_one]
       exact cell_get (hs19.ext _ _ k17) (by rw[List.getElem?_toArray];exact ints_get s1)
      refine⟨by omega,by omega,_,c10,?_⟩
      intro J hJ
      have nx: ∀s,s=stepV q (decide (0<u.1)) i→J [.int .i64 s] H19:=fun s hs=>by
       subst hs
       have hfi:(V.take i++F.drop i)[i]?=some (F.getD i 0):=by
        rw[List.getElem?_append_right (by rw[List.length_take];omega),List.length_take,Nat.min_eq_left (by omega),Nat.sub_self,List.getElem?_drop,Nat.add_zero,getD_some F 0 (by omega)]
       refine hJ _ H19 ⟨by omega,by omega,F.getD i 0,?_,?_⟩
       ·rw[add_none,Nat.zero_add,Int.toNat_natCast,Nat.mul_one];exact hs19.rdA 0 rfl hfi
       ·refine c45 (hfr i hlti) (stepV_rng _ _ _) ⟨_,rfl,by omega,by omega,?_⟩
        rw[add_none,Nat.zero_add,Int.toNat_natCast,Nat.mul_one,w1 (i:=i) (by omega),←hvg i hlti]
        refine hs19.putA 0 rfl (by rw[mixl i hi];exact hlti) fun H20 hs20=>ihi hlti H20 ?_
        have e:(V.take i++F.drop i).set i (V.getD i 0)=V.take (i+1)++F.drop (i+1):=by
         rw[List.set_append_right _ _ (by rw[List.length_take];omega),List.length_take,Nat.min_eq_left (by omega),Nat.sub_self,List.drop_eq_getElem_cons (by omega),List.set_cons_zero,List.take_add_one,getD_some V 0 (by omega),List.append_assoc];rfl
        rw[e] at hs20
        exact hs20
      refine⟨_,hs19.get 2 (j:=0) rfl rfl,br_dec (fun hpos=>⟨by omega,by omega,_,c17,nx _ ?_⟩) (fun hz=>nx _ ?_)⟩
      ·rw[decide_eq_true (by omega)]
      ·rw[decide_eq_false (by omega)]
     ·have:i=64:=by omega
      subst this
      rw[List.take_of_length_le (by omega),List.drop_of_length_le (by omega),List.append_nil] at hs19
      refine⟨_,by rw[intsA_size];exact hvl,rowIn_whole (hs19.block 0 rfl),by rw[intsA_size];exact hvl,by decide,hs19.alc fun b76 H20 hs20=>?_⟩
      rw[setL_all (by simp[ints,hvl])] at hs20
      refine hs20.appC 4 0 (el:=48) (k:=64) (n:=1) rfl rfl (by simp[ints,hvl]) (fun v hv=>ints_one V v (by simpa using hv)) (by decide) (by simp) (by omega) (by omega) fun qb2 mb2 H21 hs21=>?_
      refine ih hlt H21 qb2 mb2 ?_
      have hs22:=hs21.drop 4
      rw[flat_take hbt,ints_append]
      simpa using hs22
    exact go2 0 (by omega) H18 (by rw[List.take_zero,List.nil_append,List.drop_zero];exact hs18)
   have hsg: ∀i,i<64→(smpL W Ht rgb half u).getD i 0=sampM W Ht rgb half u.1 (u.2.1+i%8) (u.2.2+i/8)-128:=fun i hi=>tab_getD hi
   have go1: ∀i,i≤64→ ∀H15,St H7 H15 [.cell b41 (ints (fillA (smpL W Ht rgb half u) i)).toArray 48,.cell b38 #[.int .i64 (u.1:Nat),.int .i64 (u.2.1:Nat),.int .i64 (u.2.2:Nat)] 112,.sl qb t mb 48 64 (ints (B.take t).flatten),.sl qo O.length mo 112 3 (ints (flat3 O)),.cell b26 #[.int .i64 (W:Nat),.int .i64 (Ht:Nat),.slice p0 (W*Ht) c0,.int .i64 (hw half W:Nat),.int .i64 (hw half Ht:Nat),.slice p1 n1 c1,.int .i64 (hw half W:Nat),.int .i64 (hw half Ht:Nat),.slice p2 n2 c2] 119]→Y [.int .i64 (i:Nat)] H15:=upto fun i hi ihi H15 hs15=>by
    by_cases hlti:i<64
    ·refine hY _ H15 (br_y (by omega) ⟨_,hs15.get 1 (j:=0) rfl rfl,by omega,by omega,?_⟩)
     obtain⟨v47,hv1,hv2,hv3⟩:=part (H11:=H15) (R:=fun r50 H_51=> ∃r52:Int,r50=Value.int .i64 r52∧0≤(i:Int)∧(i:Int)<((64:Nat):Int)∧stAt H_51 (Addr.add ⟨b41,0,none⟩ (Int.toNat (i:Int)*1)) [Value.int .i64 (IntKind.wrap .i64 (r52-(128:Int)))] fun H_53=>Y [Value.int .i64 (IntKind.wrap .i64 ((i:Int)+(1:Int)))] H_53) u.1 (u.2.1+i%8) (u.2.2+i/8) hur.1 (by omega) (by omega) (hs15.drop 4) (fun H16 e16=>by
      have hsr:=sampM_rng W Ht rgb half u.1 (u.2.1+i%8) (u.2.2+i/8)
      refine⟨_,rfl,by omega,by omega,?_⟩
      rw[add_none,Nat.zero_add,Int.toNat_natCast,Nat.mul_one,w1 (i:=i) (by omega),wrap_id (by omega) (by omega),←hsg i hlti]
      refine(hs15.step e16).putA 0 rfl (by rw[fillA_len (by omega)];omega) fun H17 hs17=>ihi hlti H17 ?_
      rw[fillA_set (by omega)] at hs17
      exact hs17)
     refine⟨v47,hv1,by rw[add_none,Nat.zero_add,Int.toNat_natCast];exact hv2,_,hs15.get 1 (j:=1) rfl rfl,by decide,_,hs15.get 1 (j:=2) rfl rfl,by decide,?_⟩
     rw[ix3,ix4 (by omega),←Int.natCast_add,wN (k:=u.2.1+i%8) (by omega),←Int.natCast_add,wN (k:=u.2.2+i/8) (by omega)]
     exact hv3
    ·have:i=64:=by omega
     subst this
     have e:=fillA_all (smpL W Ht rgb half u)
     rw[hsm] at e
     rw[e] at hs15
     exact rest H15 hs15
   exact go1 0 (by omega) H14 (by rw[fillA_zero,hsm];exact hs14)
  ·have:t=O.length:=by omega
   subst this
   rw[List.take_of_length_le (by omega)] at hs11
   exact hR H11 qb mb (St.rebase e67 (hs11.take 1))
 exact go 0 (by omega) H10 none 0 (hs10.nilSl _ 64)
end Go.Proofs
namespace Go.Proofs
open Go.Sh
variable {H0 H:Heap} {σ:List Rs} {R:Value→Heap→Prop}
def w16(n:Nat):Nat:=(n+15)/16*16
theorem w16_le(n:Nat):n≤w16 n∧w16 n≤n+15:=by unfold w16;omega
def putN(w x y:Nat)(v:List Int)(L:List Int):Nat→List Int
 |0=>L
 |i+1=>(putN w x y v L i).set ((y+i/8)*w+x+i%8) (cutM (v.getD i 0+128))
theorem putN_len(w x y:Nat)(v L:List Int): ∀i,(putN w x y v L i).length=L.length
 |0=>rfl
 |i+1=>by rw[putN,List.length_set,putN_len]
def mulL(b st:List Int):List Int:=(List.range 64).map fun i=>b.getD i 0*st.getD i 0
def blkV(b st:List Int):List Int:=bakM (mulL b st)
def laidV(w n:Nat)(O:List (Nat×Nat×Nat))(bl st:List (List Int)):Nat→Nat→List Int
 |0,_=>List.replicate n 0
 |t+1,k=>if k=(O.getD t (0,0,0)).1 then putN w (O.getD t (0,0,0)).2.1 (O.getD t (0,0,0)).2.2 (blkV (bl.getD t []) (st.getD (O.getD t (0,0,0)).1 [])) (laidV w n O bl st t k) 64 else laidV w n O bl st t k
theorem laidV_len(w n:Nat)(O:List (Nat×Nat×Nat))(bl st:List (List Int)): ∀t k,(laidV w n O bl st t k).length=n
 |0,_=>by simp[laidV]
 |t+1,k=>by rw[laidV];split;rw[putN_len,laidV_len];exact laidV_len w n O bl st t k
theorem byt_set{L:List Int}(h:Byt L)(j:Nat){v:Int}(hv:0≤v∧v≤255):Byt (L.set j v):=fun i=>by
 rcases Nat.lt_or_ge j L.length with hj|hj
 ·rw[getD_set_ite _ _ _ _ _ hj];split
  ·exact hv
  ·exact h i
 ·rw[List.set_eq_of_length_le hj];exact h i
theorem putN_byt{w x y:Nat}{v L:List Int}(h:Byt L): ∀i,Byt (putN w x y v L i)
 |0=>h
 |i+1=>by rw[putN];exact byt_set (putN_byt h i) _ (cutM_rng _)
theorem laidV_byt(w n:Nat)(O:List (Nat×Nat×Nat))(bl st:List (List Int)): ∀t k,Byt (laidV w n O bl st t k)
 |0,_=>fun i=>by
  rw[laidV]
  have:(List.replicate n (0:Int)).getD i 0=0:=by rw[List.getD_eq_getElem?_getD,List.getElem?_replicate];split<;>rfl
  omega
 |t+1,k=>by
  rw[laidV];split
  ·exact putN_byt (laidV_byt w n O bl st t k) 64
  ·exact laidV_byt w n O bl st t k
def pxL(W:Nat)(half:Bool)(P:Nat→List Int)(i:Nat):List Int:=
 colourL ((P 0).getD (i/W*w16 W+i%W) 0) ((P 1).getD ((if half then i/W/2 else i/W)*w16 W+(if half then i%W/2 else i%W)) 0) ((P 2).getD ((if half then i/W/2 else i/W)*w16 W+(if half then i%W/2 else i%W)) 0)
def rgbN(W:Nat)(half:Bool)(P:Nat→List Int)(n:Nat):List Int:=(List.range n).flatMap (pxL W half P)
theorem rgbN_succ(W:Nat)(half:Bool)(P:Nat→List Int)(n:Nat):rgbN W half P (n+1)=rgbN W half P n++pxL W half P n:=by
 unfold rgbN;rw[List.range_succ,List.flatMap_append];simp
theorem rgbN_len(W:Nat)(half:Bool)(P:Nat→List Int): ∀n,(rgbN W half P n).length=3*n
 |0=>rfl
 |n+1=>by rw[rgbN_succ,List.length_append,rgbN_len W half P n];show 3*n+3=_;omega
def laidP(W Ht:Nat)(half:Bool)(bl st:List (List Int)):Nat→List Int:=laidV (w16 W) (w16 W*w16 Ht) (orderM W Ht half) bl st (orderM W Ht half).length
def paintM(W Ht:Nat)(half:Bool)(bl st:List (List Int)):List Int:=rgbN W half (laidP W Ht half bl st) (W*Ht)
theorem paintM_len(W Ht:Nat)(half:Bool)(bl st:List (List Int)):(paintM W Ht half bl st).length=3*(W*Ht):=rgbN_len _ _ _ _
structure PaintOk(W Ht:Nat)(half:Bool)(bl st:List (List Int)):Prop where
 W1:1≤W
 H1:1≤Ht
 area:W*Ht≤4194304
 W2:W≤32768
 H2:Ht≤32768
 bln:bl.length=(orderM W Ht half).length
 bl64: ∀b∈bl,b.length=64
 blr: ∀b∈bl,∀i,-32768≤b.getD i 0∧b.getD i 0≤32768
 stn:st.length=3
 st64: ∀b∈st,b.length=64
 str: ∀b∈st,∀i,i<64→1≤b.getD i 0∧b.getD i 0≤255
theorem mulL_mid{b s:List Int}(hb: ∀i,-32768≤b.getD i 0∧b.getD i 0≤32768)(hs: ∀i,i<64→1≤s.getD i 0∧s.getD i 0≤255):Mid (mulL b s):=by
 refine⟨tab_len _ _,fun i=>?_⟩
 rcases Nat.lt_or_ge i 64 with hi|hi
 ·rw[show(mulL b s).getD i 0=b.getD i 0*s.getD i 0 from tab_getD hi]
  have:=mul_bd (hb i) (show-255≤s.getD i 0∧s.getD i 0≤255 by have:=hs i hi;omega)
  omega
 ·rw[gD_none _ _ (by rw[mulL,tab_len];exact hi)];omega
theorem order_in{W Ht:Nat}{half:Bool}: ∀t∈orderM W Ht half,t.1<3∧t.2.1+8≤w16 W∧t.2.2+8≤w16 Ht:=fun t ht=>by
 obtain⟨j,hj,ht⟩:=List.mem_flatMap.1 ht
 obtain⟨i,hi,ht⟩:=List.mem_flatMap.1 ht
 have hj:=List.mem_range.1 hj
 have hi:=List.mem_range.1 hi
 unfold unitsN sideM at hi hj
 unfold w16
 cases half with
 |true=>
  simp only[if_true] at hi hj
  simp[unitM] at ht
  rcases ht with rfl|rfl|rfl|rfl|rfl|rfl<;>simp<;>omega
 |false=>
  simp at hi hj
  simp[unitM] at ht
  rcases ht with rfl|rfl|rfl<;>simp<;>omega
theorem place_lt{w h x y i:Nat}(hx:x+8≤w)(hy:y+8≤h)(hi:i<64):(y+i/8)*w+x+i%8<w*h:=by
 have h1:(y+i/8)*w+w≤h*w:=by
  rw[←Nat.succ_mul];exact Nat.mul_le_mul_right w (by omega)
 rw[Nat.mul_comm w h];omega
theorem w16_area{W Ht:Nat}(hW:1≤W)(hH:1≤Ht)(hn:W*Ht≤4194304):w16 W*w16 Ht≤70000000:=by
 obtain⟨b1,b2⟩:=le_of_area hW hH hn
 have h1:=(w16_le W).2
 have h2:=(w16_le Ht).2
 have h3:w16 W*w16 Ht≤(W+15)*(Ht+15):=Nat.mul_le_mul h1 h2
 have h4:(W+15)*(Ht+15)=W*Ht+15*W+15*Ht+225:=by
  rw[Nat.add_mul,Nat.mul_add,Nat.mul_add];omega
 have h5:W+Ht≤W*Ht+1:=by
  obtain⟨a,rfl⟩: ∃a,W=a+1:=⟨W-1,by omega⟩
  obtain⟨b,rfl⟩: ∃b,Ht=b+1:=⟨Ht-1,by omega⟩
  rw[Nat.add_mul,Nat.mul_add];omega
 omega
def three(q:Nat→Nat)(n:Nat)(P:Nat→List Int):List Rs:=[.sl (some ⟨q 0,0,none⟩) n n 3 1 (ints (P 0)),.sl (some ⟨q 1,0,none⟩) n n 3 1 (ints (P 1)),.sl (some ⟨q 2,0,none⟩) n n 3 1 (ints (P 2))]
def updP(P:Nat→List Int)(k:Nat)(L:List Int):Nat→List Int:=fun j=>if j=k then L else P j
theorem three_get{q:Nat→Nat}{n k:Nat}{P:Nat→List Int}{ρ:List Rs}(hk:k<3):(three q n P++ρ)[k]?=some (.sl (some ⟨q k,0,none⟩) n n 3 1 (ints (P k))):=by
 obtain rfl|rfl|rfl:k=0∨k=1∨k=2:=by omega
 all_goals rfl
theorem three_set{q:Nat→Nat}{n k:Nat}{P:Nat→List Int}{ρ:List Rs}(hk:k<3)(L:List Int):(three q n P++ρ).set k (.sl (some ⟨q k,0,none⟩) n n 3 1 (ints L))=three q n (updP P k L)++ρ:=by
 obtain rfl|rfl|rfl:k=0∨k=1∨k=2:=by omega
 all_goals rfl
theorem updP_at(P:Nat→List Int)(k:Nat)(L:List Int):updP P k L k=L:=if_pos rfl
theorem updP_upd(P:Nat→List Int)(k:Nat)(L L':List Int):updP (updP P k L) k L'=updP P k L':=by
 funext j;unfold updP;split<;>simp_all
theorem planeAt2{W Ht l c:Nat}{p:Option Addr}{L:List Int}(h:IS H p l (ints L))(hL:L.length=W*Ht)(hn:W*Ht≤100000000)(hW:W≤100000)(hH:Ht≤100000){x y:Nat}(hx:x<W)(hy:y<Ht)
 (hR: ∀H',Ext H H'→R (.int .i64 (L.getD (y*W+x) 0)) H'):CallsH Tryz.prog 43 #[.agg #[.int .i64 (W:Nat),.int .i64 (Ht:Nat),.slice p l c],.int .i64 (x:Nat),.int .i64 (y:Nat)] H R:=by
 have hll:L.length=l:=by have:=h.len;rwa [ints_len] at this
 refine Tryz.s43 ?_
 unfold Tryz.S43
 refine(St.nil H).alc fun b4 H1 hs1=>⟨_,_,_,hs1.get 0 (j:=2) rfl rfl,_,hs1.get 0 (j:=1) rfl rfl,_,hs1.get 0 (j:=0) rfl rfl,_,hs1.get 0 (j:=0) rfl rfl,?_⟩
 have e1:min (y:Int) (IntKind.wrap .i64 ((Ht:Int)-1))=(y:Nat):=by rw[wrap_id (by omega) (by omega)];omega
 have e2:min (x:Int) (IntKind.wrap .i64 ((W:Int)-1))=(x:Nat):=by rw[wrap_id (by omega) (by omega)];omega
 have hlt:=ix_lt (X:=x) (Y:=y) (W:=W) (Ht:=Ht) (by omega) (by omega) (by omega) (by omega)
 rw[e1,e2,←Int.natCast_mul,wN (by omega),←Int.natCast_add,wN (by omega)]
 exact(h.ext hs1.ext).rd (k:= .i64) (by omega) (by omega) (by rw[Int.toNat_natCast];exact getD_some L 0 (by omega)) (hR H1 hs1.ext)
end Go.Proofs
namespace Go.Proofs
open Go.Sh
def InvS(s:Jst):Prop:=s.seen=true→SizedM s.W s.Ht
structure ScanF(s:Jst)(t:List (Nat×Nat)):Prop where
 rng: ∀k,k<3→(t.getD k (0,0)).1<4∧(t.getD k (0,0)).2<8
 st: ∀k,k<3→(s.st.getD (s.wh.getD k 0) none).isSome
 c0: ∀k,k<3→(s.cd.getD (t.getD k (0,0)).1 none).isSome
 c1: ∀k,k<3→(s.cd.getD (t.getD k (0,0)).2 none).isSome
theorem sizesM_some{d:List Int}{s s':Jst}(h:sizesM d s=some s'):s'.seen=true∧SizedM s'.W s'.Ht:=by
 unfold sizesM at h
 split at h
 ·rename_i hc;cases h;exact⟨rfl,hc.2.2.2.2.2⟩
 ·cases h
theorem scanM_some{d:List Int}{s:Jst}{t:List (Nat×Nat)}(hd: ∀x∈d,0≤x∧x<256)(h:scanM d s=some t):s.seen=true∧ScanF s t:=by
 unfold scanM at h
 split at h
 ·rename_i hc
  obtain⟨h1,h2,_,_,_,_,hk⟩:=hc
  cases h
  have hg: ∀k,k<3→((List.range 3).map fun k=>((d.getD (2+2*k) 0/16).toNat,(4+d.getD (2+2*k) 0%16).toNat)).getD k (0,0)=((d.getD (2+2*k) 0/16).toNat,(4+d.getD (2+2*k) 0%16).toNat):=fun k hk=>scanL_get hk
  refine⟨h1,fun k hk3=>?_,fun k hk3=>?_,fun k hk3=>?_,fun k hk3=>?_⟩
  ·rw[hg k hk3]
   obtain⟨_,a1,a2,_⟩:=hk k hk3
   have:=getD_byte hd (2+2*k)
   exact⟨by show(d.getD (2+2*k) 0/16).toNat<4;omega,by show(4+d.getD (2+2*k) 0%16).toNat<8;omega⟩
  ·exact(hk k hk3).2.2.2.1
  ·rw[hg k hk3];exact(hk k hk3).2.2.2.2.1
  ·rw[hg k hk3];exact(hk k hk3).2.2.2.2.2
 ·cases h
theorem segM_rng{b d r:List Int}(h:segM b=some (d,r))(hb: ∀x∈b,0≤x∧x<256):(∀x∈d,0≤x∧x<256)∧ ∀x∈r,0≤x∧x<256:=by
 unfold segM at h
 split at h
 ·cases h
 ·split at h
  ·cases h
  ·cases h
   exact⟨fun x hx=>hb x (List.mem_of_mem_take (List.mem_of_mem_drop hx)),fun x hx=>hb x (List.mem_of_mem_drop hx)⟩
theorem headM_ok: ∀(m:Nat) {b:List Int} {s s':Jst} {t:List (Nat×Nat)} {r:List Int},b.length≤m→(∀x∈b,0≤x∧x<256)→InvS s→headM b s=some (s',t,r)→s'.seen=true∧SizedM s'.W s'.Ht∧ScanF s' t:=by
 intro m
 induction m with
 |zero=>
  intro b s s' t r hm hb hi h
  rw[headM_no (.inl (by omega))] at h;cases h
 |succ m ih=>
  intro b s s' t r hm hb hi h
  by_cases hok:b.length<2∨b.getD 0 0≠255
  ·rw[headM_no hok] at h;cases h
  cases hseg:segM (b.drop 2) with
  |none=>rw[headM_noseg hseg] at h;cases h
  |some dr=>
   obtain⟨d,rest⟩:=dr
   rw[headM_seg hok hseg] at h
   have hl:=segM_len hseg
   rw[List.length_drop] at hl
   obtain⟨hd,hr⟩:=segM_rng hseg fun x hx=>hb x (List.mem_of_mem_drop hx)
   have hm':rest.length≤m:=by omega
   unfold markM at h
   split at h
   ·exact ih hm' hr hi h
   split at h
   ·split at h
    ·cases h
    ·rename_i S hS;exact ih (s:={s with st:=S}) hm' hr hi h
   split at h
   ·split at h
    ·cases h
    ·rename_i s2 hs2
     exact ih hm' hr (fun _=>(sizesM_some hs2).2) h
   split at h
   ·split at h
    ·cases h
    ·rename_i C hC;exact ih (s:={s with cd:=C}) hm' hr hi h
   split at h
   ·split at h
    ·cases h
    ·rename_i t2 ht2
     cases h
     obtain⟨h1,h2⟩:=scanM_some hd ht2
     exact⟨h1,hi h1,h2⟩
   ·cases h
theorem valB_rng: ∀(L:List Int),(∀x∈L,x=0∨x=1)→0≤valB L∧valB L<2^L.length:=by
 intro L
 induction h:L.length generalizing L with
 |zero=>intro _;rw[List.length_eq_zero_iff.1 h];simp[valB]
 |succ n ih=>
  intro hL
  obtain⟨M,x,rfl⟩: ∃M x,L=M++[x]:=⟨L.dropLast,L.getLast (by intro h';rw[h'] at h;cases h),(List.dropLast_concat_getLast _).symm⟩
  have hM:M.length=n:=by simp at h;exact h
  have:=ih M hM fun y hy=>hL y (List.mem_append_left _ hy)
  have hx:=hL x (by simp)
  rw[valB_snoc]
  simp only[Int.pow_succ]
  omega
theorem bitsH_01(B:List Int): ∀x∈bitsH B,x=0∨x=1:=fun x hx=>by
 obtain⟨c,_,hx⟩:=List.mem_flatMap.1 hx
 obtain⟨k,_,rfl⟩:=List.mem_map.1 hx
 omega
def Bits01(L:List Int):Prop:= ∀x∈L,x=0∨x=1
theorem numJ_rng{n:Nat}{L L':List Int}{v:Int}(hL:Bits01 L)(hn:n≤15)(h:numJ n L=some (v,L')): -32768≤v∧v≤32768∧Bits01 L':=by
 unfold numJ at h
 split at h
 ·cases h
 ·cases h
  have h1:=valB_rng (L.take n) fun x hx=>hL x (List.mem_of_mem_take hx)
  rw[List.length_take,Nat.min_eq_left (by omega)] at h1
  have h2:=signM_rng h1
  have hp:(2:Int)^n≤2^15:=pow_le hn
  have e15:(2:Int)^15=32768:=by decide
  exact⟨by omega,by omega,fun x hx=>hL x (List.mem_of_mem_drop hx)⟩
theorem symB_01{ls:List Int}: ∀{g n:Nat} {v:Int} {L L':List Int} {s:Nat},Bits01 L→symB ls g n v L=some (s,L')→Bits01 L'
 |0,_,_,L,_,_,_,h=>by cases L<;>simp[symB] at h
 |g+1,_,_,[],_,_,_,h=>by simp[symB] at h
 |g+1,n,v,b::L,L',s,hL,h=>by
  rw[symB] at h
  have hL':Bits01 L:=fun x hx=>hL x (List.mem_cons_of_mem _ hx)
  split at h
  ·cases h;exact hL'
  ·split at h
   ·exact symB_01 hL' h
   ·cases h
def Blk(X:List Int):Prop:=X.length=64∧ ∀i,-32768≤X.getD i 0∧X.getD i 0≤32768
theorem Blk.set{X:List Int}(h:Blk X){i:Nat}(hi:i<64){v:Int}(hv: -32768≤v∧v≤32768):Blk (X.set i v):=by
 refine⟨by rw[List.length_set];exact h.1,fun j=>?_⟩
 rw[getD_set_ite _ _ _ _ _ (by rw[h.1];exact hi)]
 split
 ·exact hv
 ·exact h.2 j
theorem Blk.zeros:Blk zeros64:=⟨zeros64_len,fun i=>by
 have:zeros64.getD i 0=0:=by unfold zeros64;rw[List.getD_eq_getElem?_getD,List.getElem?_replicate];split<;>rfl
 omega⟩
theorem acJ_rng{t:TabJ}: ∀(m k:Nat) {out L X L':List Int},64-k≤m→Blk out→Bits01 L→acJ t k out L=some (X,L')→Blk X∧Bits01 L':=by
 intro m
 induction m with
 |zero=>
  intro k out L X L' hm ho hL h
  rw[acJ,if_neg (by omega)] at h
  cases h;exact⟨ho,hL⟩
 |succ m ih=>
  intro k out L X L' hm ho hL h
  rw[acJ] at h
  split at h
  ·split at h
   ·cases h
   ·rename_i s L1 hs
    have h1:Bits01 L1:=symB_01 hL hs
    split at h
    ·cases h;exact⟨ho,h1⟩
    split at h
    ·cases h
    split at h
    ·exact ih _ (by omega) ho h1 h
    split at h
    ·cases h
    ·rename_i v L2 hv
     have h2:=numJ_rng h1 (by omega) hv
     exact ih _ (by omega) (ho.set (zig_lt (by omega)) ⟨h2.1,h2.2.1⟩) h2.2.2 h
  ·cases h;exact⟨ho,hL⟩
theorem blockJ_rng{T:TabJ×TabJ}{la:Int}{L X L':List Int}(hL:Bits01 L)(h:blockJ T la L=some (X,L')):Blk X∧Bits01 L':=by
 unfold blockJ at h
 split at h
 ·cases h
 ·rename_i s L1 hs
  have h1:Bits01 L1:=symB_01 hL hs
  split at h
  ·cases h
  split at h
  ·cases h
  ·rename_i v L2 hv
   have h2:=numJ_rng h1 (by omega) hv
   have hc:=cut16M_rng (la+v)
   exact acJ_rng 64 1 (by omega) (Blk.zeros.set (by omega) (by omega)) h2.2.2 h
end Go.Proofs
namespace Go.Proofs
open Go.Sh
variable {H0 H:Heap} {σ:List Rs} {R:Value→Heap→Prop}
abbrev btV(q:Option Addr)(n m a:Nat)(ok:Bool):Array Value:=#[.slice q n m,.int .i64 (a:Nat),.bool ok]
abbrev btR(s:Nat)(q:Option Addr)(n m a:Nat)(ok:Bool):Rs:= .cell s (btV q n m a ok) 85
section
variable {s n m a:Nat} {q:Option Addr} {L:List Int}
theorem c94{ok:Bool}{j:Nat}(hs:St H0 H (btR s q n m a ok::σ))(hj:σ[j]?=some (.sl q n m 3 1 (ints L)))(hn:n≤100000000000)(ha:a≤n)
 (hbad:n≤a→ ∀H',St H0 H' (btR s q n m a false::σ)→R (.int .i64 0) H')
 (hR:a<n→ ∀H',St H0 H' (btR s q n m (a+1) ok::σ)→R (.int .i64 (L.getD a 0)) H'):
 CallsH Tryz.prog 94 #[.pointer (some ⟨s,0,none⟩)] H R:=by
 have hIS:=hs.is (j+1) (by rw[List.getElem?_cons_succ];exact hj)
 have hLn:L.length=n:=by have:=hIS.len;rwa [ints_len] at this
 refine Tryz.s94 ⟨_,rfl,_,hs.get 0 (j:=1) rfl rfl,_,rfl,_,_,_,hs.get 0 (j:=0) rfl rfl,br_dec (fun hge=>⟨_,rfl,?_⟩) (fun hlt=>⟨_,rfl,_,hs.get 0 (j:=1) rfl rfl,_,rfl,?_⟩)⟩
 ·exact hs.put 0 rfl (Nat.lt_of_sub_eq_succ rfl) rfl fun H' hs'=>hbad (by omega) H' hs'
 ·have hlt:a<n:=by omega
  rw[w1' (by omega)]
  refine hs.put 0 rfl (Nat.lt_of_sub_eq_succ rfl) rfl fun H' hs'=>⟨_,rfl,_,_,_,hs'.get 0 (j:=0) rfl rfl,_,rfl,_,hs'.get 0 (j:=1) rfl rfl,?_⟩
  have wm:IntKind.wrap .i64 (((a+1:Nat):Int)-1)=((a:Nat):Int):=by rw[wrap_id (by omega) (by omega)];omega
  rw[wm]
  have hIS':=hs'.is (j+1) (by rw[List.set_cons_zero,List.getElem?_cons_succ];exact hj)
  refine hIS'.rd (i:=(a:Int)) (by omega) (by omega) (by rw[Int.toNat_natCast];exact get_gD L 0 (by omega)) (hR hlt H' hs')
theorem dfind{H:Heap}{p1 p2:Option Addr}{c1 c2 g:Nat}{ls:List Int}{v:Int}{R:Value→Heap→Prop}(hC:DCod p1 p2 ls H)(ok:OkC ls)(hg:0<g)
 (hs: ∀s,findM ls g v=some s→R (.int .i64 s) H)(hn:findM ls g v=none→R (.int .i64 (-1)) H):
 CallsH Tryz.prog 95 #[.slice p1 ls.length c1,.slice p2 ls.length c2,.int .i64 (g:Nat),.int .i64 v] H R:=by
 have l300:=ok.w.len
 refine c95 hC.l hC.c (Nat.le_refl _) (by omega) (fun s h1 h2=>?_) (fun hno=>?_)
 ·have hsl:=(List.getElem?_eq_some_iff.1 h1).1
  rw[codesM_get hsl] at h2
  exact hs s (findM_eq ok hg h1 (Option.some.inj h2))
 ·refine hn ?_
  cases hf:findM ls g v with
  |none=>rfl
  |some s=>
   obtain⟨h1,h2⟩:=findM_some hf
   exact absurd (by rw[codesM_get (List.getElem?_eq_some_iff.1 h1).1,h2]) (hno s h1)
theorem dbegins{H:Heap}{p1 p2:Option Addr}{c1 c2 g:Nat}{ls:List Int}{v:Int}{R:Value→Heap→Prop}(hC:DCod p1 p2 ls H)(ok:OkC ls)
 (hR:R (.bool (begM ls g v)) H):CallsH Tryz.prog 96 #[.slice p1 ls.length c1,.slice p2 ls.length c2,.int .i64 (g:Nat),.int .i64 v] H R:=by
 have l300:=ok.w.len
 refine c96 hC.l hC.c (Nat.le_refl _) (by omega) ok.w.rng (by omega) (fun s x y h1 h2 h3 h4=>?_) (fun hno2=>?_)
 ·have hsl:=(List.getElem?_eq_some_iff.1 h1).1
  rw[codesM_get hsl] at h2
  obtain⟨m,rfl⟩:=Int.eq_ofNat_of_zero_le (show 0≤x by omega)
  have hbg:begM ls g v=true:=begM_mk h1 (by omega) (by
   rw[Option.some.inj h2,←h4]
   congr 2
   omega)
  rw[hbg] at hR;exact hR
 ·have hbg:begM ls g v=false:=by
   cases hbg:begM ls g v with
   |false=>rfl
   |true=>
    obtain⟨s,m,h1,h2,h3⟩:=begM_true ok.w.rng hbg
    exact absurd (by rw[←h3];congr 2;omega) (hno2 s m _ h1 (codesM_get (List.getElem?_eq_some_iff.1 h1).1) (by omega))
  rw[hbg] at hR;exact hR
theorem beg16{ls:List Int}(ok:OkC ls)(v:Int){g:Nat}(hg:16≤g):begM ls g v=false:=by
 cases hb:begM ls g v with
 |false=>rfl
 |true=>
  obtain⟨s,m,h1,h2,_⟩:=begM_true ok.w.rng hb
  have:=ok.w.rng _ (List.mem_of_getElem? h1)
  omega
abbrev cdV(p1 p2 p3:Option Addr)(c1 c2 c3:Nat)(T:TabJ):Array Value:=#[.bool true,.slice p1 T.1.length c1,.slice p2 T.1.length c2,.slice p3 T.1.length c3]
set_option maxHeartbeats 1000000 in
theorem c63{j k:Nat}{p1 p2 p3:Option Addr}{c1 c2 c3:Nat}{T:TabJ}{Q:Heap→Prop}(hs:St H0 H (btR s q n m a true::σ))(hj:σ[j]?=some (.sl q n m 3 1 (ints L)))(hk:σ[k]?=some (.pers Q))(hq: ∀H,Q H→DCod p1 p2 T.1 H)(h3:IS H0 p3 T.1.length (kints .u8 T.2))(ok:OkC T.1)(ht2:T.2.length=T.1.length)(hr2: ∀x∈T.2,0≤x∧x<256)(hL:Bits01 L)(hn:n≤100000000000)(ha:a≤n)
 (hbad:symJ T.1 (L.drop a)=none→ ∀H' a',a'≤n→St H0 H' (btR s q n m a' false::σ)→R (.int .i64 0) H')
 (hR: ∀y a',symJ T.1 (L.drop a)=some (y,L.drop a')→a'≤n→ ∀H',St H0 H' (btR s q n m a' true::σ)→R (.int .i64 (T.2.getD y 0)) H'):
 CallsH Tryz.prog 63 #[.pointer (some ⟨s,0,none⟩),.agg (cdV p1 p2 p3 c1 c2 c3 T)] H R:=by
 have hIS:=hs.is (j+1) (by rw[List.getElem?_cons_succ];exact hj)
 have hLn:L.length=n:=by have:=hIS.len;rwa [ints_len] at this
 obtain⟨res,hres⟩: ∃x,symJ T.1 (L.drop a)=x:=⟨_,rfl⟩
 rw[hres] at hbad
 simp only[hres] at hR
 refine Tryz.s63 ?_
 unfold Tryz.S63
 refine hs.alc fun b3 H1 hs1=>?_
 have hs1:=hs1.swap
 clear hIS hs
 intro J hJ X hX
 have stop: ∀(H2:Heap) (a':Nat) (okb:Bool),res=none→a'≤n→St H0 H2 (btR s q n m a' okb:: .cell b3 (cdV p1 p2 p3 c1 c2 c3 T) 77::σ)→J [] H2:=fun H2 a' okb hn' ha' hs2=>
  hJ H2 ⟨_,rfl,hs2.put 0 rfl (Nat.lt_of_sub_eq_succ rfl) rfl fun H3 hs3=>hbad hn' H3 a' ha' (hs3.del 1)⟩
 have loop: ∀(f g:Nat) (v:Int) (a1:Nat) (H2:Heap),g+f=17→1≤f→0≤v∧v<2^g→a1≤n→symB T.1 f g v (L.drop a1)=res→St H0 H2 (btR s q n m a1 true:: .cell b3 (cdV p1 p2 p3 c1 c2 c3 T) 77::σ)→X [.int .i64 v,.int .i64 ((g+1:Nat):Int)] H2:=by
  intro f
  induction f with
  |zero=>intro g v a1 H2 _ h1;omega
  |succ f ih=>
   intro g v a1 H2 hg _ hv ha1 he hs2
   have hpn:(2:Int)^g≤2^17:=pow_le (by omega)
   have e17:(2:Int)^17=131072:=by decide
   refine hX _ _ H2 ?_
   intro J2 hJ2
   rcases Nat.lt_or_ge 15 g with h16|h16
   ·-- behind sixteen bits
    have hres0:res=none:=by
     have hf:f=0:=by omega
     subst hf
     rw[←he]
     cases L.drop a1 with
     |nil=>rfl
     |cons b M=>
      rw[symB]
      cases hf:findM T.1 (g+1) (2*v+b) with
      |some y=>
       have:=ok.w.rng _ (List.mem_of_getElem? (findM_some hf).1)
       omega
      |none=>simp only;rw[beg16 ok _ (by omega)];rfl
    exact br_n (by omega) (stop H2 a1 true hres0 ha1 hs2)
   refine br_y (by omega) ⟨_,rfl,_,hs2.get 0 (j:=2) rfl rfl,br_t rfl (hJ2 H2 ?_)⟩
   clear hJ2 J2
   refine c94 (j:=j+1) hs2 (by rw[List.getElem?_cons_succ];exact hj) hn ha1 (fun hend H3 hs3=>?_) (fun hlt H3 hs3=>?_)
   ·-- none is left
    have hres0:res=none:=by rw[←he,List.drop_eq_nil_of_le (by omega)];rfl
    have hC:=hq _ (hs3.persGet (k+2) (by rw[List.getElem?_cons_succ,List.getElem?_cons_succ];exact hk))
    refine⟨_,rfl,_,_,_,hs3.get 1 (j:=1) rfl rfl,_,_,_,hs3.get 1 (j:=2) rfl rfl,?_⟩
    have fin: ∀x:Int,∃k22,Value.int .i64 x= .int .i64 k22∧ ∀J23:Kl,(∀H24,(∃L25p L25l L25c,cell H24 (.add ⟨b3,0,none⟩ 1)=some (.slice L25p L25l L25c)∧ ∃C26p C26l C26c,cell H24 (.add ⟨b3,0,none⟩ 2)=some (.slice C26p C26l C26c)∧Tryz.C 96 #[.slice L25p L25l L25c,.slice C26p C26l C26c,.int .i64 ((g+1:Nat):Int),.int .i64 (IntKind.wrap .i64 ((IntKind.wrap .i64 ((2:Int)*v))+0))] H24 fun r27 H28=> ∃r29,r27= .bool r29∧br (!r29) (J [] H28) (X [.int .i64 (IntKind.wrap .i64 ((IntKind.wrap .i64 ((2:Int)*v))+0)),.int .i64 (IntKind.wrap .i64 (((g+1:Nat):Int)+1))] H28))→J23 [] H24)→
     br (decide (k22≥0)) (∃a30,(some (⟨s,0,none⟩:Addr))=some a30∧ ∃OK31,cell H3 (.add a30 2)=some (.bool OK31)∧br OK31
      (∃S32p S32l S32c,cell H3 (.add ⟨b3,0,none⟩ 3)=some (.slice S32p S32l S32c)∧ ∃a33,S32p=some a33∧0≤k22∧k22<(S32l:Int)∧ ∃v34,cell H3 (.add a33 (Int.toNat k22*1))=some (.int .u8 v34)∧R (.int .i64 (IntKind.wrap .i64 v34)) H3)
      (J23 [] H3)) (J23 [] H3):=fun x=>by
     refine⟨_,rfl,?_⟩
     intro J23 hJ23
     have hj23:J23 [] H3:=hJ23 H3 ⟨_,_,_,hs3.get 1 (j:=1) rfl rfl,_,_,_,hs3.get 1 (j:=2) rfl rfl,dbegins hC ok ⟨_,rfl,by
      have hs4:J [] H3:=stop H3 a1 false hres0 ha1 hs3
      refine⟨fun _=>hs4,fun _=>hX _ _ H3 ?_⟩
      intro J2 hJ2
      exact br_dec (fun _=>⟨_,rfl,_,hs3.get 0 (j:=2) rfl rfl,br_f rfl hs4⟩) (fun _=>hs4)⟩⟩
     exact br_dec (fun _=>⟨_,rfl,_,hs3.get 0 (j:=2) rfl rfl,br_f rfl hj23⟩) (fun _=>hj23)
    exact dfind hC ok (by omega) (fun y _=>fin _) (fun _=>fin _)
   ·rw[List.drop_eq_getElem_cons (by omega),show L[a1]=L.getD a1 0 from(gD_get (List.getElem?_eq_getElem (by omega))).symm,symB] at he
    have hb01:L.getD a1 0=0∨L.getD a1 0=1:=hL _ (List.mem_of_getElem? (get_gD L 0 (by omega)))
    generalize L.getD a1 0=b at*
    have hC:=hq _ (hs3.persGet (k+2) (by rw[List.getElem?_cons_succ,List.getElem?_cons_succ];exact hk))
    have wv:IntKind.wrap .i64 (IntKind.wrap .i64 (2*v)+b)=2*v+b:=by rw[wrap_id (n:=2*v) (by omega) (by omega),wrap_id (by omega) (by omega)]
    have hv2:0≤2*v+b∧2*v+b<2^(g+1):=by rw[Int.pow_succ];omega
    refine⟨_,rfl,?_⟩
    rw[wv]
    refine⟨_,_,_,hs3.get 1 (j:=1) rfl rfl,_,_,_,hs3.get 1 (j:=2) rfl rfl,dfind hC ok (by omega) (fun y hy=>?_) (fun hno=>?_)⟩
    ·rw[hy] at he
     simp only at he
     have hyl:=(List.getElem?_eq_some_iff.1 (findM_some hy).1).1
     refine⟨_,rfl,?_⟩
     intro J23 hJ23
     refine br_y (by omega) ⟨_,rfl,_,hs3.get 0 (j:=2) rfl rfl,br_t rfl ⟨_,_,_,hs3.get 1 (j:=3) rfl rfl,?_⟩⟩
     refine(h3.ext hs3.ext).rd (i:=(y:Int)) (by omega) (by omega) (by rw[Int.toNat_natCast];exact get_gD T.2 0 (by omega)) ?_
     have hb:=getD_byte hr2 y
     rw[wrap_id (n:=T.2.getD y 0) (by omega) (by omega)]
     exact hR y (a1+1) he.symm (by omega) H3 (hs3.del 1)
    ·rw[hno] at he
     simp only at he
     refine⟨_,rfl,?_⟩
     intro J23 hJ23
     refine br_n (by decide) (hJ23 H3 ⟨_,_,_,hs3.get 1 (j:=1) rfl rfl,_,_,_,hs3.get 1 (j:=2) rfl rfl,dbegins hC ok ⟨_,rfl,?_⟩⟩)
     cases hbg:begM T.1 (g+1) (2*v+b) with
     |false=>
      rw[hbg] at he
      exact br_t rfl (stop H3 (a1+1) true he.symm (by omega) hs3)
     |true=>
      rw[hbg] at he
      simp only[if_true] at he
      rw[w1' (by omega)]
      refine br_f rfl (ih (g+1) _ (a1+1) H3 (by omega) ?_ hv2 (by omega) he hs3)
      rcases Nat.eq_zero_or_pos f with h0|h0
      ·subst h0
       rw[beg16 ok _ (by omega)] at hbg;cases hbg
      ·exact h0
 exact loop 17 0 0 a H1 (by omega) (by omega) (by decide) ha hres hs1
theorem dnum_0{okb:Bool}(hs:St H0 H (btR s q n m a okb::σ))(hR:R (.int .i64 0) H):CallsH Tryz.prog 65 #[.pointer (some ⟨s,0,none⟩),.int .i64 0] H R:=by
 refine Tryz.s65 ?_
 unfold Tryz.S65
 intro X hX
 refine hX _ _ H (br_n (by decide) ?_)
 intro J hJ
 exact br_n (by decide) (hJ _ H hR)
theorem c65{j:Nat}{z:Nat}(hs:St H0 H (btR s q n m a true::σ))(hj:σ[j]?=some (.sl q n m 3 1 (ints L)))(hL:Bits01 L)(hn:n≤100000000000)(ha:a≤n)(hz:z≤15)
 (hbad:numJ z (L.drop a)=none→ ∀v H' a',a'≤n→ -100000≤v∧v≤100000→St H0 H' (btR s q n m a' false::σ)→R (.int .i64 v) H')
 (hR: ∀v,numJ z (L.drop a)=some (v,L.drop (a+z))→a+z≤n→ -32768≤v∧v≤32768→ ∀H',St H0 H' (btR s q n m (a+z) true::σ)→R (.int .i64 v) H'):
 CallsH Tryz.prog 65 #[.pointer (some ⟨s,0,none⟩),.int .i64 (z:Nat)] H R:=by
 have hIS:=hs.is (j+1) (by rw[List.getElem?_cons_succ];exact hj)
 have hLn:L.length=n:=by have:=hIS.len;rwa [ints_len] at this
 clear hIS
 refine Tryz.s65 ?_
 unfold Tryz.S65
 intro X hX
 have hpz: ∀i:Nat,i≤15→(2:Int)^i≤32768:=fun i hi=>by
  have h1:(2:Int)^i≤2^15:=pow_le hi
  rwa [show(2:Int)^15=32768 by decide] at h1
 -- what is told at the end
 have fin: ∀(v:Int) (H2:Heap),0≤v∧v<2^z→(∀w,w=signM z v→ -32768≤w∧w≤32768→R (.int .i64 w) H2)→ ∀J10:Kl,(∀(v11:Int) H12,(R (.int .i64 v11) H12)→J10 [.int .i64 v11] H12)→
  br (decide ((z:Int)>0)) (0≤(IntKind.wrap .i64 ((z:Int)-1))∧br (decide (v<(shlI .i64 1 (IntKind.wrap .i64 ((z:Int)-1))))) (0≤(z:Int)∧J10 [.int .i64 (IntKind.wrap .i64 ((IntKind.wrap .i64 (v-(shlI .i64 1 (z:Int))))+1))] H2) (J10 [.int .i64 v] H2)) (J10 [.int .i64 v] H2):=fun v H2 hv hRv J10 hJ10=>by
  have hz15:=hpz z hz
  have hs1:=signM_rng hv
  refine br_dec (fun h0=>?_) (fun h0=>hJ10 _ H2 (hRv v ?_ (by omega)))
  ·have wz:IntKind.wrap .i64 ((z:Int)-1)=((z-1:Nat):Int):=by rw[wrap_id (by omega) (by omega)];omega
   have sh1: ∀i:Nat,i≤15→shlI .i64 1 (i:Int)=2^i:=fun i hi=>by
    have hp:=hpz i hi
    rw[shl_of (x:=1) (k:=i) (by omega) (by omega) (by omega)];omega
   rw[wz,sh1 _ (by omega),sh1 _ hz]
   refine⟨by omega,br_dec (fun hlt=>⟨by omega,hJ10 _ H2 ?_⟩) (fun hge=>hJ10 _ H2 (hRv v ?_ (by omega)))⟩
   ·rw[wrap_id (n:=v-2^z) (by omega) (by omega),wrap_id (by omega) (by omega)]
    exact hRv _ (by unfold signM;rw[if_pos ⟨by omega,hlt⟩]) (by omega)
   ·unfold signM;rw[if_neg (fun h=>hge h.2)]
  ·unfold signM;rw[if_neg (by omega)]
 -- without enough bits
 have short:n<a+z→ ∀i,i≤z→ ∀(v:Int) (H2:Heap) (a1:Nat) (okb:Bool),0≤v∧v<2^i→a1≤n→(okb=true→a1=a+i)→St H0 H2 (btR s q n m a1 okb::σ)→X [.int .i64 v,.int .i64 (i:Nat)] H2:=fun hsh=>upto fun i hi ih v H2 a1 okb hv ha1 hok hs2=>by
  have hp:=hpz i (by omega)
  refine hX _ _ H2 (br_dec (fun hlt=>?_) (fun hge=>?_))
  ·have hlt:i<z:=by omega
   have hp1:=hpz (i+1) (by omega)
   rw[Int.pow_succ] at hp1
   refine c94 (j:=j) hs2 hj hn ha1 (fun hend H3 hs3=>⟨_,rfl,?_⟩) (fun hlt2 H3 hs3=>⟨_,rfl,?_⟩)
   ·rw[wrap_id (n:=2*v) (by omega) (by omega),wrap_id (n:=2*v+0) (by omega) (by omega),w1 (by omega)]
    exact ih hlt _ H3 a1 false (by rw[Int.pow_succ];omega) ha1 nofun hs3
   ·have hb01:L.getD a1 0=0∨L.getD a1 0=1:=hL _ (List.mem_of_getElem? (get_gD L 0 (by omega)))
    rw[wrap_id (n:=2*v) (by omega) (by omega),wrap_id (n:=2*v+_) (by omega) (by omega),w1 (by omega)]
    exact ih hlt _ H3 (a1+1) okb (by rw[Int.pow_succ];omega) (by omega) (fun h=>by have:=hok h;omega) hs3
  ·have:i=z:=by omega
   subst this
   have hokf:okb=false:=by
    cases okb with
    |false=>rfl
    |true=>have:=hok rfl;omega
   subst hokf
   exact fin v H2 hv fun w hw hwr=>hbad (by unfold numJ;rw[if_pos (by rw[List.length_drop];omega)]) w H2 a1 ha1 (by omega) hs2
 -- with enough bits
 have long:a+z≤n→ ∀i,i≤z→ ∀(H2:Heap),St H0 H2 (btR s q n m (a+i) true::σ)→X [.int .i64 (valB ((L.drop a).take i)),.int .i64 (i:Nat)] H2:=fun hlo=>upto fun i hi ih H2 hs2=>by
  have hp:=hpz i (by omega)
  have hv:=valB_rng ((L.drop a).take i) fun x hx=>hL x (List.mem_of_mem_drop (List.mem_of_mem_take hx))
  rw[List.length_take,List.length_drop,Nat.min_eq_left (by omega)] at hv
  refine hX _ _ H2 (br_dec (fun hlt=>?_) (fun hge=>?_))
  ·have hlt:i<z:=by omega
   have hp1:=hpz (i+1) (by omega)
   rw[Int.pow_succ] at hp1
   refine c94 (j:=j) hs2 hj hn (by omega) (fun hend=>by omega) (fun hlt2 H3 hs3=>⟨_,rfl,?_⟩)
   have hb01:L.getD (a+i) 0=0∨L.getD (a+i) 0=1:=hL _ (List.mem_of_getElem? (get_gD L 0 (by omega)))
   rw[wrap_id (n:=2*_) (by omega) (by omega),wrap_id (n:=2*_+_) (by omega) (by omega),w1 (by omega)]
   have hi1:=ih hlt H3 (by rw[←Nat.add_assoc];exact hs3)
   have ht:(L.drop a).take (i+1)=(L.drop a).take i++[L.getD (a+i) 0]:=by
    rw[List.take_add_one,List.getElem?_drop,get_gD L 0 (by omega)];rfl
   rw[ht,valB_snoc] at hi1
   exact hi1
  ·have:i=z:=by omega
   subst this
   refine fin _ H2 hv fun w hw hwr=>hR w ?_ hlo hwr H2 hs2
   unfold numJ
   rw[if_neg (by rw[List.length_drop];omega),List.drop_drop,hw]
 rcases Nat.lt_or_ge n (a+z) with h|h
 ·exact short h 0 (by omega) 0 H a true (by decide) ha (fun _=>rfl) hs
 ·exact long h 0 (by omega) H hs
theorem c64{v lo hi:Int}(h:lo≤hi)(hR:R (.int .i64 (min hi (max lo v))) H):CallsH Tryz.prog 64 #[.int .i64 v,.int .i64 lo,.int .i64 hi] H R:=by
 refine Tryz.s64 (br_dec (fun h1=>?_) (fun h1=>br_dec (fun h2=>?_) (fun h2=>?_)))
 ·rwa [show min hi (max lo v)=lo by omega] at hR
 ·rwa [show min hi (max lo v)=hi by omega] at hR
 ·rwa [show min hi (max lo v)=v by omega] at hR
end
end Go.Proofs
namespace Go.Proofs
open Go.Sh
variable {H0 H:Heap} {σ:List Rs} {R:Value→Heap→Prop}
section
variable {s n m a:Nat} {q:Option Addr} {L:List Int}
structure SymD(H0:Heap)(s:Nat)(q:Option Addr)(n m:Nat)(L:List Int)(T:TabJ)(σ:List Rs)(a:Nat)(c:Int)(okb:Bool)(a':Nat)(H':Heap):Prop where
 no:okb=false→symJ T.1 (L.drop a)=none∧c=0
 yes:okb=true→ ∃y,symJ T.1 (L.drop a)=some (y,L.drop a')∧c=T.2.getD y 0
 le:a'≤n
 rng:0≤c∧c<256
 st:St H0 H' (btR s q n m a' okb::σ)
theorem symD{Q:Heap→Prop}{T:TabJ}{v1 v2 v3:Value}(hT:DTab H0 Q T v1 v2 v3){j k:Nat}(hs:St H0 H (btR s q n m a true::σ))(hj:σ[j]?=some (.sl q n m 3 1 (ints L)))(hk:σ[k]?=some (.pers Q))(hL:Bits01 L)(hn:n≤100000000000)(ha:a≤n):
 CallsH Tryz.prog 63 #[.pointer (some ⟨s,0,none⟩),.agg #[.bool true,v1,v2,v3]] H (fun w H'=> ∃c okb a',w= .int .i64 c∧SymD H0 s q n m L T σ a c okb a' H'):=by
 obtain⟨p1,p2,p3,c1,c2,c3,ok,ht2,hr2,h3,hq,rfl,rfl,rfl⟩:=hT
 exact c63 hs hj hk hq h3 ok ht2 hr2 hL hn ha (fun hno H' a' ha' hs'=>⟨0,false,a',rfl,fun _=>⟨hno,rfl⟩,nofun,ha',by decide,hs'⟩)
  (fun y a' h1 h2 H' hs'=>⟨_,true,a',rfl,nofun,fun _=>⟨y,h1,rfl⟩,h2,getD_byte hr2 y,hs'⟩)
structure NumD(H0:Heap)(s:Nat)(q:Option Addr)(n m:Nat)(L:List Int)(z:Nat)(σ:List Rs)(a:Nat)(okb:Bool)(v:Int)(okb':Bool)(a':Nat)(H':Heap):Prop where
 no:okb'=false→okb=true→numJ z (L.drop a)=none
 yes:okb'=true→okb=true∧numJ z (L.drop a)=some (v,L.drop a')
 le:a'≤n
 rng: -100000≤v∧v≤100000
 st:St H0 H' (btR s q n m a' okb'::σ)
theorem numD{j z:Nat}{okb:Bool}(hs:St H0 H (btR s q n m a okb::σ))(hj:σ[j]?=some (.sl q n m 3 1 (ints L)))(hL:Bits01 L)(hn:n≤100000000000)(ha:a≤n)(hz:z≤15)(hok:okb=false→z=0):
 CallsH Tryz.prog 65 #[.pointer (some ⟨s,0,none⟩),.int .i64 (z:Nat)] H (fun w H'=> ∃v okb' a',w= .int .i64 v∧NumD H0 s q n m L z σ a okb v okb' a' H'):=by
 cases okb with
 |false=>
  obtain rfl:=hok rfl
  exact dnum_0 hs ⟨0,false,a,rfl,nofun,nofun,ha,by decide,hs⟩
 |true=>
  exact c65 hs hj hL hn ha hz (fun hno v H' a' ha' hv hs'=>⟨v,false,a',rfl,fun _ _=>hno,nofun,ha',hv,hs'⟩)
   (fun v h1 h2 h3 H' hs'=>⟨v,true,a+z,rfl,nofun,fun _=>⟨rfl,h1⟩,h2,by omega,hs'⟩)
set_option maxHeartbeats 1000000 in
theorem c31{j k:Nat}{Q:Heap→Prop}{Ta Tb:TabJ}{u1 u2 u3 v1 v2 v3:Value}(hs:St H0 H (btR s q n m a true::σ))(hj:σ[j]?=some (.sl q n m 3 1 (ints L)))(hk:σ[k]?=some (.pers Q))(hTa:DTab H0 Q Ta u1 u2 u3)(hTb:DTab H0 Q Tb v1 v2 v3)(hL:Bits01 L)(hn:n≤100000000000)(ha:a≤n)
 {la:Int}(hla: -32768≤la∧la≤32768)
 (hbad:blockJ (Ta,Tb) la (L.drop a)=none→ ∀X H' a',X.length=64→a'≤n→St H0 H' (btR s q n m a' false::σ)→R (.agg (ints X).toArray) H')
 (hR: ∀X a',blockJ (Ta,Tb) la (L.drop a)=some (X,L.drop a')→a'≤n→X.length=64→ ∀H',St H0 H' (btR s q n m a' true::σ)→R (.agg (ints X).toArray) H'):
 CallsH Tryz.prog 31 #[.pointer (some ⟨s,0,none⟩),.agg #[.bool true,u1,u2,u3],.agg #[.bool true,v1,v2,v3],.int .i64 la] H R:=by
 obtain⟨res,hres⟩: ∃x,blockJ (Ta,Tb) la (L.drop a)=x:=⟨_,rfl⟩
 rw[hres] at hbad
 simp only[hres] at hR
 unfold blockJ at hres
 refine Tryz.s31 ?_
 unfold Tryz.S31
 refine hs.alc fun b5 H1 hs1=>hs1.alc fun b7 H2 hs2=>hs2.alc fun b9 H3 hs3=>hs3.alc fun b11 H4 hs4=>c62 fun H5 e5=>⟨_,rfl,(hs4.step e5).alc fun b16 H6 hs6=>⟨by rw[intsA_size];rfl,hs6.putAllA 0 rfl (by simp[zigI_len]) fun H7 hs7=>?_⟩⟩
 have hs7:St H0 H7 (btR s q n m a true:: .cell b16 (ints zigI).toArray 48:: .cell b11 (ints zeros64).toArray 48:: .cell b9 (ints zeros64).toArray 48:: .cell b7 #[.bool true,v1,v2,v3] 77:: .cell b5 #[.bool true,u1,u2,u3] 77::σ):=by
  have:=hs7.front 5 rfl
  rw[zeroA] at this
  exact this
 clear hs1 hs2 hs3 hs4 hs6
 refine⟨_,rfl,rowIn_whole (hs7.block 5 rfl),?_⟩
 generalize hρ:(Rs.cell b9 (ints zeros64).toArray 48::Rs.cell b7 #[.bool true,v1,v2,v3] 77::Rs.cell b5 #[.bool true,u1,u2,u3] 77::σ)=ρ at hs7
 have hj':ρ[j+3]?=some (.sl q n m 3 1 (ints L)):=by rw[←hρ];exact hj
 have hk':ρ[k+3]?=some (.pers Q):=by rw[←hρ];exact hk
 have h9:ρ[0]?=some (.cell b9 (ints zeros64).toArray 48):=by rw[←hρ];rfl
 have h7:ρ[1]?=some (.cell b7 #[.bool true,v1,v2,v3] 77):=by rw[←hρ];rfl
 -- the end
 have ret: ∀(okb:Bool) (X:List Int) (H8:Heap) (a':Nat),X.length=64→a'≤n→(okb=false→res=none)→(okb=true→res=some (X,L.drop a'))→St H0 H8 (btR s q n m a' okb:: .cell b16 (ints zigI).toArray 48:: .cell b11 (ints X).toArray 48::ρ)→
  ∃v:Array Value,v.size=64∧rowIn H8 ⟨b11,0,none⟩ v∧v.size=64∧stAt H8 ⟨b9,0,none⟩ v.toList fun H'=> ∃re:Array Value,re.size=64∧rowIn H' ⟨b9,0,none⟩ re∧R (.agg re) H':=fun okb X H8 a' hX ha' hf ht hs8=>
  retVia (K:=fun re H'=>R (.agg re) H') hs8 2 3 rfl (by rw[List.getElem?_cons_succ,List.getElem?_cons_succ,List.getElem?_cons_succ];exact h9) (by rw[intsA_size];exact hX) (by rw[intsA_size];rfl) (fun v hv=>ints_one X v (by simpa using hv)) fun H9 hs9=>by
   have hs9:St H0 H9 (btR s q n m a' okb::σ):=by
    rw[←hρ] at hs9
    exact((((hs9.del 1).del 1).del 1).del 1).del 1
   cases okb with
   |false=>exact hbad (hf rfl) X H9 a' hX ha' hs9
   |true=>exact hR X a' (ht rfl) ha' hX H9 hs9
 clear hbad hR
 refine(symD hTa (j:=j+5) (k:=k+5) hs7 (by rw[List.getElem?_cons_succ,List.getElem?_cons_succ];exact hj') (by rw[List.getElem?_cons_succ,List.getElem?_cons_succ];exact hk') hL hn ha).mono fun w H8 ⟨c,okb,a1,hw,hsym⟩=>⟨c,hw,?_⟩
 have hs8:=hsym.st
 have hc:=hsym.rng
 obtain⟨z,rfl⟩:=Int.eq_ofNat_of_zero_le hc.1
 refine br_dec (fun h11=>?_) (fun h11=>?_)
 ·refine⟨_,rfl,hs8.put 0 rfl (Nat.lt_of_sub_eq_succ rfl) rfl fun H9 hs9=>ret false zeros64 H9 a1 zeros64_len hsym.le (fun _=>?_) nofun hs9⟩
  cases okb with
  |false=>rw[(hsym.no rfl).1] at hres;exact hres.symm
  |true=>
   obtain⟨y,hy,hcy⟩:=hsym.yes rfl
   rw[hy] at hres
   simp only at hres
   rw[if_pos (by omega)] at hres
   exact hres.symm
 refine(numD (z:=z) (j:=j+5) hs8 (by rw[List.getElem?_cons_succ,List.getElem?_cons_succ];exact hj') hL hn hsym.le (by omega) (fun h=>by have:=(hsym.no h).2;omega)).mono fun w H9 ⟨v,okb2,a2,hw2,hnum⟩=>⟨v,hw2,?_⟩
 have hs9:=hnum.st
 have hv:=hnum.rng
 have hno:okb2=false→res=none:=fun h=>by
  cases okb with
  |false=>rw[(hsym.no rfl).1] at hres;exact hres.symm
  |true=>
   obtain⟨y,hy,hcy⟩:=hsym.yes rfl
   rw[hy] at hres
   simp only at hres
   rw[if_neg (by omega),←hcy,Int.toNat_natCast,hnum.no h rfl] at hres
   exact hres.symm
 have hyes:okb2=true→acJ Tb 1 (zeros64.set 0 (cut16M (la+v))) (L.drop a2)=res:=fun h=>by
  obtain⟨hb,hn2⟩:=hnum.yes h
  obtain⟨y,hy,hcy⟩:=hsym.yes hb
  rw[hy] at hres
  simp only at hres
  rw[if_neg (by omega),←hcy,Int.toNat_natCast,hn2] at hres
  exact hres
 rw[wrap_id (n:=la+v) (by omega) (by omega)]
 refine c64 (by decide) ⟨_,rfl,by decide,by decide,?_⟩
 rw[show min 32767 (max (-32768) (la+v))=cut16M (la+v) from rfl,show Int.toNat 0*1=0 from rfl,add_none,Nat.zero_add]
 refine hs9.putA 2 rfl (by rw[zeros64_len];decide) fun H10 hs10=>?_
 intro J hJ X hX
 have loop: ∀(f k:Nat) (out:List Int) (a3:Nat) (okb:Bool) (H11:Heap),64-k≤f→1≤k→k≤64→a3≤n→out.length=64→(okb=false→res=none)→(okb=true→acJ Tb k out (L.drop a3)=res)→St H0 H11 (btR s q n m a3 okb:: .cell b16 (ints zigI).toArray 48:: .cell b11 (ints out).toArray 48::ρ)→X [.int .i64 (k:Nat)] H11:=by
  intro f
  induction f with
  |zero=>
   intro k out a3 okb H11 hf h1 hk hb3 hol hf0 ht hs11
   refine hX _ H11 ?_
   intro J2 hJ2
   refine br_n (by omega) (hJ H11 (ret okb out H11 a3 hol hb3 hf0 (fun h=>?_) hs11))
   rw[←ht h,acJ,if_neg (by omega)]
  |succ f ih=>
   intro k out a3 okb H11 hf h1 hk hb3 hol hf0 ht hs11
   refine hX _ H11 ?_
   intro J2 hJ2
   refine br_dec (fun hlt=>?_) (fun hge=>hJ H11 (ret okb out H11 a3 hol hb3 hf0 (fun h=>by rw[←ht h,acJ,if_neg (by omega)]) hs11))
   have hlt:k<64:=by omega
   refine⟨_,rfl,_,hs11.get 0 (j:=2) rfl rfl,?_⟩
   cases okb with
   |false=>exact br_f rfl (hJ H11 (ret false out H11 a3 hol hb3 hf0 nofun hs11))
   |true=>
   have he:=ht rfl
   rw[acJ,if_pos hlt] at he
   refine br_t rfl (hJ2 H11 ⟨_,rfl,rowIn_whole (hs11.block 4 (by rw[List.getElem?_cons_succ,List.getElem?_cons_succ,List.getElem?_cons_succ];exact h7)),?_⟩)
   refine(symD hTb (j:=j+5) (k:=_+5) hs11 (by rw[List.getElem?_cons_succ,List.getElem?_cons_succ];exact hj') (by rw[List.getElem?_cons_succ,List.getElem?_cons_succ];exact hk') hL hn hb3).mono fun w H12 ⟨c,okc,a4,hw,hsym2⟩=>⟨c,hw,?_⟩
   have hs12:=hsym2.st
   have hcr:=hsym2.rng
   intro J3 hJ3
   refine⟨_,rfl,_,hs12.get 0 (j:=2) rfl rfl,?_⟩
   cases okc with
   |false=>
    rw[(hsym2.no rfl).1] at he
    exact br_t rfl (hJ H12 (ret false out H12 a4 hol hsym2.le (fun _=>he.symm) nofun hs12))
   |true=>
   obtain⟨y,hy,hcy⟩:=hsym2.yes rfl
   rw[hy] at he
   simp only at he
   rw[←hcy] at he
   have hle:=hsym2.le
   clear hy hcy hsym2 hs11 hJ2
   refine br_f rfl (br_eq (fun h0=>?_) (fun h0=>?_))
   ·rw[if_pos h0] at he
    exact hJ H12 (ret true out H12 a4 hol hle nofun (fun _=>he.symm) hs12)
   rw[if_neg h0] at he
   obtain⟨c,rfl⟩:=Int.eq_ofNat_of_zero_le hcr.1
   have em:Int.tmod (c:Int) 16=((c%16:Nat):Int):=tmodN c 16
   have ed:Int.tdiv (c:Int) 16=((c/16:Nat):Int):=tdivN c 16
   refine hJ3 H12 ?_
   rw[em,ed,wrap_id (n:=((c/16:Nat):Int)) (by omega) (by omega)]
   have wk:IntKind.wrap .i64 ((k:Int)+((c/16:Nat):Int))=((k+c/16:Nat):Int):=by rw[wrap_id (by omega) (by omega)];omega
   rw[wk]
   have ec:((c:Int)/16).toNat=c/16:=by omega
   have ec2:((c:Int)%16).toNat=c%16:=by omega
   rw[ec,ec2] at he
   refine⟨by decide,?_⟩
   intro J4 hJ4
   have stop:(10<(c:Int)%16∨(c:Int)%16=0∧(c:Int)/16≠15∨63<k+c/16)→ ∃a59,(some (⟨s,0,none⟩:Addr))=some a59∧stAt H12 (.add a59 2) [.bool false] fun H60=>J [] H60:=fun hbad=>by
    rw[if_pos hbad] at he
    exact⟨_,rfl,hs12.put 0 rfl (Nat.lt_of_sub_eq_succ rfl) rfl fun H13 hs13=>hJ H13 (ret false out H13 a4 hol hle (fun _=>he.symm) nofun hs13)⟩
   have good: ¬(10<(c:Int)%16∨(c:Int)%16=0∧(c:Int)/16≠15∨63<k+c/16)→J4 [] H12:=fun hgood=>by
    rw[if_neg hgood] at he
    have hk2:k+c/16<64:=by omega
    refine hJ4 H12 ⟨by decide,br_dec (fun h16=>?_) (fun h16=>?_)⟩
    ·rw[if_neg (by omega)] at he
     have hz:=zigI_get hk2
     have hzl:=zig_lt hk2
     refine⟨by omega,by omega,((zig (k+c/16):Nat):Int),?_,by decide,(numD (z:=c%16) (j:=j+5) hs12 (by rw[List.getElem?_cons_succ,List.getElem?_cons_succ];exact hj') hL hn hle (by omega) nofun).mono fun w H13 ⟨v,okb3,a5,hw,hnum2⟩=>⟨v,hw,.inr ⟨((zig (k+c/16):Nat):Int),?_,rfl⟩,by omega,by omega,?_⟩⟩
     ·rw[add_none,Nat.zero_add,Int.toNat_natCast,Nat.mul_one];exact hs12.rdA 1 rfl hz
     ·rw[add_none,Nat.zero_add,Int.toNat_natCast,Nat.mul_one];exact hnum2.st.rdA 1 rfl hz
     ·rw[add_none,Nat.zero_add,Int.toNat_natCast,Nat.mul_one,w1 (by omega)]
      refine hnum2.st.putA 2 rfl (by rw[hol];exact hzl) fun H14 hs14=>?_
      refine ih _ _ a5 okb3 H14 (by omega) (by omega) (by omega) hnum2.le (by rw[List.length_set];exact hol) (fun h=>?_) (fun h=>?_) hs14
      ·rw[hnum2.no h rfl] at he;exact he.symm
      ·rw[(hnum2.yes h).2] at he;exact he
    ·rw[if_pos (by omega)] at he
     rw[w1 (by omega)]
     exact ih _ out a4 true H12 (by omega) (by omega) (by omega) hle hol nofun (fun _=>he) hs12
   refine⟨by decide,br_dec (fun h1=>stop (by omega)) (fun h1=>⟨by decide,br_eq (fun h2=>br_ne (fun h3=>stop (by omega)) (fun h3=>br_dec (fun h4=>stop (by omega)) (fun h4=>good (by omega)))) (fun h2=>br_dec (fun h4=>stop (by omega)) (fun h4=>good (by omega)))⟩)⟩
 exact loop 63 1 _ a2 okb2 H10 (by omega) (by omega) (by omega) hnum.le (by rw[List.length_set,zeros64_len]) hno hyes hs10
end
end Go.Proofs
namespace Go.Proofs
open Go.Sh
variable {H0 H:Heap} {σ:List Rs} {R:Value→Heap→Prop}
theorem flat_st{st:List (List Int)}(h: ∀b∈st,b.length=64){k j:Nat}(hk:k<st.length)(hj:j<64):st.flatten[k*64+j]?=some ((st.getD k []).getD j 0):=by
 have hg:=get_gD st [] hk
 rw[flat64_get h hg hj]
 exact get_gD _ 0 (by rw[h _ (List.mem_of_getElem? hg)];exact hj)
theorem mulL_len(b s:List Int):(mulL b s).length=64:=tab_len _ _
set_option maxHeartbeats 4000000 in
theorem c39{r bc W Ht:Nat}{bp:Option Addr}{half:Bool}{bl st:List (List Int)}{f:Nat→Value}(ok:PaintOk W Ht half bl st)
 (hs:St H0 H (.cell r (tabV 22 f) 97:: .sl bp bl.length bc 48 64 (ints bl.flatten)::σ))(f1:f 1= .int .i64 (W:Nat))(f2:f 2= .int .i64 (Ht:Nat))(f3:f 3= .slice none 0 0)(f4:f 4= .bool half)(f5:f 5= .slice bp bl.length bc)(fo: ∀i,(f i).oneCell'=true)
 (hR: ∀q m H',St H0 H' (.sl q (paintM W Ht half bl st).length m 5 1 (kints .u8 (paintM W Ht half bl st)):: .cell r (tabV 22 (updV f 3 (.slice q (paintM W Ht half bl st).length m))) 97:: .sl bp bl.length bc 48 64 (ints bl.flatten)::σ)→R (.tuple #[]) H'):
 CallsH Tryz.prog 39 #[.pointer (some ⟨r,1,none⟩),.agg (ints st.flatten).toArray] H R:=by
 obtain⟨W1,H1',hn,bW,bH,hbln,bl64,blr,stn,st64,str⟩:=ok
 have hA:=w16_area W1 H1' hn
 have hwW:=w16_le W
 have hwH:=w16_le Ht
 have hSl:st.flatten.length=192:=by rw[flat64_len st64,stn]
 refine Tryz.s39 ?_
 unfold Tryz.S39
 refine hs.alc fun b3 Ha hsa=>hsa.alc fun b5 Hb hsb=>?_
 intro X hX
 have rd1: ∀{H':Heap} {ρ:List Rs} (i:Nat) {g:Nat→Value},St H0 H' ρ→ρ[i]?=some (.cell r (tabV 22 g) 97)→g 1=f 1→cell H' ⟨r,1,none⟩=some (.int .i64 (W:Nat)):=fun i g hs' hi hg=>by rw[getV hs' i hi (by omega),hg,f1]
 have rd2: ∀{H':Heap} {ρ:List Rs} (i:Nat) {g:Nat→Value},St H0 H' ρ→ρ[i]?=some (.cell r (tabV 22 g) 97)→g 2=f 2→cell H' ⟨r,2,none⟩=some (.int .i64 (Ht:Nat)):=fun i g hs' hi hg=>by rw[getV hs' i hi (by omega),hg,f2]
 have eW:IntKind.wrap .i64 (IntKind.wrap .i64 (Int.tdiv (IntKind.wrap .i64 ((W:Int)+15)) 16)*16)=((w16 W:Nat):Int):=by
  rw[wrap_id (n:=(W:Int)+15) (by omega) (by omega),show(W:Int)+15=((W+15:Nat):Int) by omega,show(16:Int)=((16:Nat):Int) from rfl,tdivN,wN (by omega),wrap_id (by omega) (by omega)]
  unfold w16;omega
 have eH:IntKind.wrap .i64 (IntKind.wrap .i64 (Int.tdiv (IntKind.wrap .i64 ((Ht:Int)+15)) 16)*16)=((w16 Ht:Nat):Int):=by
  rw[wrap_id (n:=(Ht:Int)+15) (by omega) (by omega),show(Ht:Int)+15=((Ht+15:Nat):Int) by omega,show(16:Int)=((16:Nat):Int) from rfl,tdivN,wN (by omega),wrap_id (by omega) (by omega)]
  unfold w16;omega
 have eA:IntKind.wrap .i64 (((w16 W:Nat):Int)*((w16 Ht:Nat):Int))=((w16 W*w16 Ht:Nat):Int):=by rw[←Int.natCast_mul,wN (by omega)]
 have w1k: ∀k:Nat,k<3→IntKind.wrap .i64 ((k:Int)+1)=((k+1:Nat):Int):=fun k hk=>w1 (by omega)
 generalize hw:w16 W=w at*
 generalize hh:w16 Ht=h at*
 have step: ∀(k:Nat) (H':Heap) (ρ:List Rs) (cs:Array Value),k<3→cs.size=9→St H0 H' (.cell b5 cs 119::ρ)→(∃i:Nat,ρ[i]?=some (Rs.cell r (tabV 22 f) 97))→
  (∀q H2,St H0 H2 (.cell b5 (setL cs.toList (k*3) [.int .i64 (w:Nat),.int .i64 (h:Nat),.slice (some ⟨q,0,none⟩) (w*h) (w*h)]).toArray 119:: .sl (some ⟨q,0,none⟩) (w*h) (w*h) 3 1 (ints (List.replicate (w*h) 0))::ρ)→X [.int .i64 ((k+1:Nat):Int)] H2)→X [.int .i64 (k:Nat)] H':=fun k H' ρ cs hk hcs hs' ⟨i,hi⟩ hK=>by
  refine hX _ H' (br_y (by omega) ⟨_,rfl,_,rd1 (i+1) hs' hi rfl,by decide,_,rfl,_,rd2 (i+1) hs' hi rfl,by decide,?_⟩)
  rw[eW,eH,eA,Int.toNat_natCast,w1k k hk]
  refine⟨by omega,by omega,by omega,by omega,hs'.alc fun q H2 hs2=>⟨by omega,by omega,rfl,?_⟩⟩
  rw[repsA] at hs2
  rw[add_none,Nat.zero_add,Int.toNat_natCast]
  refine hs2.putRow 1 rfl (by rw[hcs];simp;omega) (by simp[Value.oneCell']) fun H3 hs3=>hK q H3 ?_
  have hs3:=hs3.toSl 0 (k:=1) rfl (by rw[intsA_size,List.length_replicate,Nat.mul_one]) rfl (fun v hv=>ints_one _ v hv)
  exact hs3.swap
 refine step 0 Hb _ _ (by omega) rfl hsb ⟨1,rfl⟩ fun q0 Hc hsc=>?_
 refine step 1 Hc _ _ (by omega) rfl hsc ⟨2,rfl⟩ fun q1 Hd hsd=>?_
 refine step 2 Hd _ _ (by omega) rfl hsd ⟨3,rfl⟩ fun q2 He hse=>?_
 clear step hsa hsb hsc hsd
 refine hX _ He (br_n (by decide) ?_)
 clear hX X
 obtain⟨q,hq⟩: ∃q:Nat→Nat,q=fun k=>if k=0 then q0 else if k=1 then q1 else q2:=⟨_,rfl⟩
 obtain⟨B5,hB5⟩: ∃B:Array Value,B=#[.int .i64 (w:Nat),.int .i64 (h:Nat),.slice (some ⟨q0,0,none⟩) (w*h) (w*h),.int .i64 (w:Nat),.int .i64 (h:Nat),.slice (some ⟨q1,0,none⟩) (w*h) (w*h),.int .i64 (w:Nat),.int .i64 (h:Nat),.slice (some ⟨q2,0,none⟩) (w*h) (w*h)]:=⟨_,rfl⟩
 have hb5: ∀k,k<3→B5[k*3]?=some (.int .i64 (w:Nat))∧B5[k*3+1]?=some (.int .i64 (h:Nat))∧B5[k*3+2]?=some (.slice (some ⟨q k,0,none⟩) (w*h) (w*h)):=fun k hk=>by
  obtain rfl|rfl|rfl:k=0∨k=1∨k=2:=by omega
  all_goals (rw[hB5,hq];exact⟨rfl,rfl,rfl⟩)
 have hs1:St H0 He (three q (w*h) (fun _=>List.replicate (w*h) 0)++(.cell b5 B5 119:: .cell b3 (ints st.flatten).toArray 90:: .cell r (tabV 22 f) 97:: .sl bp bl.length bc 48 64 (ints bl.flatten)::σ)):=by
  rw[hB5,hq]
  refine hse.perm ?_
  exact((List.reverse_perm [_,_,_,_]).append_right _)
 clear hse
 generalize hn':w*h=n at*
 refine⟨_,rfl,_,rd1 5 hs1 rfl rfl,_,rfl,_,rd2 5 hs1 rfl rfl,_,rfl,half,?_,c35 (Nat.le_trans bW (by decide)) (Nat.le_trans bH (by decide)) fun H1 qo mo hs2=>⟨_,_,_,rfl,?_⟩⟩
 ·rw[←f4];exact getV hs1 5 (j:=4) rfl (by omega)
 have hin:=order_in (W:=W) (Ht:=Ht) (half:=half)
 rw[hw,hh] at hin
 have hs3:=(hs1.call hs2).perm (List.perm_middle (l₁:=three q n (fun _=>List.replicate n 0))).symm
 clear hs1 hs2
 have hP:paintM W Ht half bl st=rgbN W half (laidV w n (orderM W Ht half) bl st (orderM W Ht half).length) (W*Ht):=by
  unfold paintM laidP;rw[hw,hh,hn']
 have hPl:=paintM_len W Ht half bl st
 have hcnt:=order_cnt2 W Ht half (Nat.le_trans bW (by decide)) (Nat.le_trans bH (by decide))
 generalize hO:orderM W Ht half=O at*
 intro X hX
 have blocks: ∀t,t≤O.length→ ∀H2,St H0 H2 (three q n (laidV w n O bl st t)++(.sl qo O.length mo 112 3 (ints (flat3 O)):: .cell b5 B5 119:: .cell b3 (ints st.flatten).toArray 90:: .cell r (tabV 22 f) 97:: .sl bp bl.length bc 48 64 (ints bl.flatten)::σ))→X [.int .i64 (t:Nat)] H2:=upto fun t ht iht H2 hs2=>by
  refine hX _ H2 (br_dec (fun hlt=>?_) (fun hge=>?_))
  ·have hlt:t<O.length:=by omega
   have hu:=get_gD O (0,0,0) hlt
   obtain⟨hk3,hx8,hy8⟩:=hin _ (List.mem_of_getElem? hu)
   generalize hu':O.getD t (0,0,0)=u at*
   obtain⟨blk,hqo,hrow⟩:=rowPlaces (hs2.rs 3 rfl) hu hlt
   refine⟨_,hqo,by omega,by omega,_,rfl,by rw[add_none,Nat.zero_add,Int.toNat_natCast];exact hrow,?_⟩
   refine hs2.alc fun b31 H3 hs3=>⟨rfl,hs3.putAll 0 rfl rfl (by simp[Value.oneCell']) fun H4 hs4=>hs4.alc fun b34 H5 hs5=>?_⟩
   rw[zeroA] at hs5
   have hbt:bl[t]?=some (bl.getD t []):=get_gD bl [] (by omega)
   have hst:=get_gD st [] (i:=u.1) (by omega)
   have hbm:=List.mem_of_getElem? hbt
   have hsm:=List.mem_of_getElem? hst
   obtain⟨blk2,hbp,hrow2⟩:=St.row64 hs5 9 rfl bl64 hbt (by omega)
   refine⟨_,rfl,_,_,_,by rw[←f5];exact getV hs5 8 (j:=5) rfl (by omega),_,hbp,by omega,by omega,(ints (bl.getD t [])).toArray,by rw[intsA_size];exact bl64 _ hbm,by rw[add_none,Nat.zero_add,Int.toNat_natCast];exact hrow2,?_⟩
   generalize hb:bl.getD t []=b at*
   have hbl:=bl64 b hbm
   have hbr:=blr b hbm
   have hsr:=str _ hsm
   intro Y hY
   have mul: ∀i,i≤64→ ∀H6,St H0 H6 (.cell b34 (ints (fillA (mulL b (st.getD u.1 [])) i)).toArray 48:: .cell b31 #[.int .i64 (u.1:Nat),.int .i64 (u.2.1:Nat),.int .i64 (u.2.2:Nat)] 112::(three q n (laidV w n O bl st t)++(.sl qo O.length mo 112 3 (ints (flat3 O)):: .cell b5 B5 119:: .cell b3 (ints st.flatten).toArray 90:: .cell r (tabV 22 f) 97:: .sl bp bl.length bc 48 64 (ints bl.flatten)::σ)))→Y [.int .i64 (i:Nat)] H6:=upto fun i hi ihi H6 hs6=>by
    refine hY _ H6 (br_dec (fun hlti=>?_) (fun hgei=>?_))
    ·have hlti:i<64:=by omega
     have hg1:=get_gD b 0 (i:=i) (by omega)
     refine⟨by omega,by omega,b.getD i 0,by rw[Int.toNat_natCast,Nat.mul_one,List.getElem?_toArray];exact ints_get hg1,_,hs6.get 1 (j:=0) rfl rfl,by omega,by omega,by omega,by omega,(st.getD u.1 []).getD i 0,?_,by omega,by omega,?_⟩
     ·rw[add_none,add_none,Nat.zero_add,Int.toNat_natCast,Int.toNat_natCast,Nat.mul_one];exact hs6.rdA 7 rfl (flat_st st64 (by omega) hlti)
     ·have:=mul_bd (hbr i) (show-255≤(st.getD u.1 []).getD i 0∧(st.getD u.1 []).getD i 0≤255 by have:=hsr i hlti;omega)
      rw[add_none,Nat.zero_add,Int.toNat_natCast,Nat.mul_one,wrap_id (by omega) (by omega),w1 (by omega)]
      refine hs6.putA 0 rfl (by rw[fillA_len (by rw[mulL_len];omega),mulL_len];omega) fun H7 hs7=>ihi hlti H7 ?_
      have e:b.getD i 0*(st.getD u.1 []).getD i 0=(mulL b (st.getD u.1 [])).getD i 0:=(tab_getD (f:=fun i=>b.getD i 0*(st.getD u.1 []).getD i 0) hlti).symm
      rw[e,fillA_set (by rw[mulL_len];omega)] at hs7
      exact hs7
    ·have:i=64:=by omega
     subst this
     have e:=fillA_all (mulL b (st.getD u.1 []))
     rw[mulL_len] at e
     rw[e] at hs6
     refine⟨_,by rw[intsA_size];exact mulL_len _ _,rowIn_whole (hs6.block 0 rfl),c76 (mulL_mid hbr hsr) fun H7 e7=>⟨_,rfl,?_⟩⟩
     have hs7:=hs6.step e7
     have hv:bakM (mulL b (st.getD u.1 []))=blkV b (st.getD u.1 []):=rfl
     rw[hv]
     have hvl:(blkV b (st.getD u.1 [])).length=64:=bakM_len _
     have hvr: ∀i,i<64→ -200000000≤(blkV b (st.getD u.1 [])).getD i 0∧(blkV b (st.getD u.1 [])).getD i 0≤200000000:=fun i hi=>bakM_rng (mulL_mid hbr hsr) hi
     generalize hV:blkV b (st.getD u.1 [])=v at*
     clear hs6 hY
     intro Z hZ
     have lay: ∀i,i≤64→ ∀H8,St H0 H8 (.cell b34 (ints (mulL b (st.getD u.1 []))).toArray 48:: .cell b31 #[.int .i64 (u.1:Nat),.int .i64 (u.2.1:Nat),.int .i64 (u.2.2:Nat)] 112::(three q n (updP (laidV w n O bl st t) u.1 (putN w u.2.1 u.2.2 v (laidV w n O bl st t u.1) i))++(.sl qo O.length mo 112 3 (ints (flat3 O)):: .cell b5 B5 119:: .cell b3 (ints st.flatten).toArray 90:: .cell r (tabV 22 f) 97:: .sl bp bl.length bc 48 64 (ints bl.flatten)::σ)))→Z [.int .i64 (i:Nat)] H8:=upto fun i hi ihi H8 hs8=>by
      refine hZ _ H8 (br_dec (fun hlti=>?_) (fun hgei=>?_))
      ·have hlti:i<64:=by omega
       have hg1:=get_gD v 0 (i:=i) (by omega)
       have hvi:=hvr i hlti
       obtain⟨c1,_,c3⟩:=hb5 u.1 hk3
       have hpl:=place_lt hx8 hy8 hlti
       rw[hn'] at hpl
       refine⟨by omega,by omega,v.getD i 0,by rw[Int.toNat_natCast,Nat.mul_one,List.getElem?_toArray];exact ints_get hg1,_,hs8.get 1 (j:=0) rfl rfl,by omega,by omega,some ⟨q u.1,0,none⟩,n,n,?_,_,hs8.get 1 (j:=2) rfl rfl,by decide,_,hs8.get 1 (j:=0) rfl rfl,by omega,by omega,(w:Nat),?_,_,hs8.get 1 (j:=1) rfl rfl,by decide,_,rfl,?_⟩
       ·rw[add_none,add_none,Nat.zero_add,Int.toNat_natCast];exact hs8.get 6 rfl c3
       ·rw[add_none,add_none,Nat.zero_add,Int.toNat_natCast,Nat.add_zero];exact hs8.get 6 rfl c1
       ·have hidx:IntKind.wrap .i64 (IntKind.wrap .i64 (IntKind.wrap .i64 (IntKind.wrap .i64 ((u.2.2:Int)+IntKind.wrap .i64 (Int.tdiv (i:Int) 8))*(w:Int))+(u.2.1:Nat))+Int.tmod (i:Int) 8)=(((u.2.2+i/8)*w+u.2.1+i%8:Nat):Int):=by
         rw[ix4 (by omega),ix3,wrap_id (n:=(u.2.2:Int)+((i/8:Nat):Int)) (by omega) (by omega),show(u.2.2:Int)+((i/8:Nat):Int)=((u.2.2+i/8:Nat):Int) by omega,←Int.natCast_mul,wN (by omega),wrap_id (n:=(((u.2.2+i/8)*w:Nat):Int)+(u.2.1:Nat)) (by omega) (by omega),wrap_id (by omega) (by omega)]
         omega
        rw[hidx]
        refine⟨by omega,by omega,?_⟩
        rw[add_none,Nat.zero_add,Int.toNat_natCast,Nat.mul_one,wrap_id (n:=v.getD i 0+128) (by omega) (by omega),w1 (by omega)]
        refine hs8.slPut (u.1+2) (three_get hk3) (by rw[ints_len,updP_at,putN_len,laidV_len];exact hpl) rfl fun H9 hs9=>ihi hlti H9 ?_
        simp only[List.set_cons_succ] at hs9
        rw[ints_set,three_set hk3,updP_at,updP_upd] at hs9
        exact hs9
      ·have:i=64:=by omega
       subst this
       rw[w1 (by omega)]
       refine iht hlt H8 ?_
       have e:updP (laidV w n O bl st t) u.1 (putN w u.2.1 u.2.2 v (laidV w n O bl st t u.1) 64)=laidV w n O bl st (t+1):=by
        funext k
        rw[laidV,hu',hb,hV]
        unfold updP
        split
        ·rename_i hk;subst hk;rfl
        ·rfl
       rw[e] at hs8
       exact hs8.tail.tail
     refine lay 0 (by omega) H7 ?_
     have e:updP (laidV w n O bl st t) u.1 (putN w u.2.1 u.2.2 v (laidV w n O bl st t u.1) 0)=laidV w n O bl st t:=by
      funext k;unfold updP;split
      ·rename_i hk;subst hk;rfl
      ·rfl
     rw[e];exact hs7
   exact mul 0 (by omega) H5 (by rw[fillA_zero,mulL_len];exact hs5)
  ·have:t=O.length:=by omega
   subst this
   refine⟨_,rfl,_,rd1 6 hs2 rfl rfl,_,rfl,_,rd2 6 hs2 rfl rfl,?_⟩
   rw[←Int.natCast_mul,wN (by omega)]
   have hby:=laidV_byt w n O bl st O.length
   have hpl:=laidV_len w n O bl st O.length
   generalize hPP:laidV w n O bl st O.length=P at*
   have hf0:updV f 3 (.slice none 0 0)=f:=by
    funext k;unfold updV;split
    ·rename_i hk;subst hk;exact f3.symm
    ·rfl
   intro Y hY
   have px: ∀i,i≤W*Ht→ ∀rp rc H3,St H0 H3 (.sl rp (rgbN W half P i).length rc 5 1 (kints .u8 (rgbN W half P i))::(three q n P++(.sl qo O.length mo 112 3 (ints (flat3 O)):: .cell b5 B5 119:: .cell b3 (ints st.flatten).toArray 90:: .cell r (tabV 22 (updV f 3 (.slice rp (rgbN W half P i).length rc))) 97:: .sl bp bl.length bc 48 64 (ints bl.flatten)::σ)))→Y [.int .i64 (i:Nat)] H3:=upto fun i hi ihi rp rc H3 hs3=>by
    refine hY _ H3 (br_dec (fun hlt=>?_) (fun hge=>?_))
    ·have hlt:i<W*Ht:=by omega
     have hW: ∀{H':Heap} {ρ:List Rs} {v:Value},St H0 H' ρ→ρ[7]?=some (Rs.cell r (tabV 22 (updV f 3 v)) 97)→cell H' ⟨r,1,none⟩=some (.int .i64 (W:Nat)):=fun hs' hi=>rd1 7 hs' hi (updV_ne (by omega))
     refine⟨_,rfl,_,hW hs3 rfl,by omega,_,rfl,_,hW hs3 rfl,by omega,?_⟩
     have hx:i%W<W:=Nat.mod_lt _ (by omega)
     have hy:i/W<Ht:=by rw[Nat.div_lt_iff_lt_mul (by omega),Nat.mul_comm];exact hlt
     have hyb:i/W≤32768:=by omega
     rw[tmodN,tdivN,wN (by omega)]
     have hlen:=rgbN_len W half P i
     intro J hJ
     have go: ∀hx2 hy2:Nat,hx2=(if half then i%W/2 else i%W)→hy2=(if half then i/W/2 else i/W)→J [.int .i64 (hx2:Nat),.int .i64 (hy2:Nat)] H3:=fun hx2 hy2 hex hey=>by
      have hx3:hx2<w:=by rw[hex];split<;>omega
      have hy3:hy2<h:=by rw[hey];split<;>omega
      refine hJ _ _ H3 ?_
      have rowp: ∀{H':Heap} (k:Nat),k<3→St H0 H' (.sl rp (rgbN W half P i).length rc 5 1 (kints .u8 (rgbN W half P i))::(three q n P++(.sl qo O.length mo 112 3 (ints (flat3 O)):: .cell b5 B5 119:: .cell b3 (ints st.flatten).toArray 90:: .cell r (tabV 22 (updV f 3 (.slice rp (rgbN W half P i).length rc))) 97:: .sl bp bl.length bc 48 64 (ints bl.flatten)::σ)))→rowIn H' ⟨b5,k*3,none⟩ #[.int .i64 (w:Nat),.int .i64 (h:Nat),.slice (some ⟨q k,0,none⟩) n n]:=fun k hk hs'=>by
       obtain⟨c1,c2,c3⟩:=hb5 k hk
       refine rowIn_block (hs'.block 5 rfl) fun j v hv=>?_
       have hj:=(Array.getElem?_eq_some_iff.1 hv).1
       obtain rfl|rfl|rfl:j=0∨j=1∨j=2:=by simp at hj;omega
       ·cases hv;exact c1
       ·cases hv;exact c2
       ·cases hv;exact c3
      have ats: ∀{H':Heap} {R':Value→Heap→Prop} (k x y:Nat),k<3→x<w→y<h→St H0 H' (.sl rp (rgbN W half P i).length rc 5 1 (kints .u8 (rgbN W half P i))::(three q n P++(.sl qo O.length mo 112 3 (ints (flat3 O)):: .cell b5 B5 119:: .cell b3 (ints st.flatten).toArray 90:: .cell r (tabV 22 (updV f 3 (.slice rp (rgbN W half P i).length rc))) 97:: .sl bp bl.length bc 48 64 (ints bl.flatten)::σ)))→(∀H2,Ext H' H2→R' (.int .i64 ((P k).getD (y*w+x) 0)) H2)→CallsH Tryz.prog 43 #[.agg #[.int .i64 (w:Nat),.int .i64 (h:Nat),.slice (some ⟨q k,0,none⟩) n n],.int .i64 (x:Nat),.int .i64 (y:Nat)] H' R':=fun{H'} {R'} k x y hk hx hy hs' hR'=>
       planeAt2 (hs'.is (k+1) (three_get hk)) (by rw[hpl,←hn']) (by omega) (by omega) (by omega) hx hy hR'
      refine⟨by decide,by decide,_,rfl,rowp 0 (by omega) hs3,by decide,by decide,_,rfl,rowp 1 (by omega) hs3,by decide,by decide,_,rfl,rowp 2 (by omega) hs3,?_⟩
      refine ats 0 _ _ (by omega) (by omega) (by omega) hs3 fun H4 e4=>⟨_,rfl,.inl e4,?_⟩
      refine ats 1 _ _ (by omega) hx3 hy3 (hs3.step e4) fun H5 e5=>⟨_,rfl,.inl e5,?_⟩
      refine ats 2 _ _ (by omega) hx3 hy3 ((hs3.step e4).step e5) fun H6 e6=>⟨_,rfl,?_⟩
      have hc0:=hby 0 (i/W*w+i%W)
      have hc1:=hby 1 (hy2*w+hx2)
      have hc2:=hby 2 (hy2*w+hx2)
      refine c77 (by omega) (by omega) (by omega) fun H7 e7=>⟨_,rfl,?_⟩
      have hs7:=(((hs3.step e4).step e5).step e6).step e7
      have hpx:colourL ((P 0).getD (i/W*w+i%W) 0) ((P 1).getD (hy2*w+hx2) 0) ((P 2).getD (hy2*w+hx2) 0)=pxL W half P i:=by
       unfold pxL;rw[hw,←hex,←hey]
      rw[hpx]
      have hcl:(pxL W half P i).length=3:=rfl
      have hcr: ∀j,j<3→0≤(pxL W half P i).getD j 0∧(pxL W half P i).getD j 0<256:=fun j hj=>by
       unfold pxL colourL colourM
       obtain rfl|rfl|rfl:j=0∨j=1∨j=2:=by omega
       all_goals (simp only[List.getD_cons_zero,List.getD_cons_succ];exact⟨(cutM_rng _).1,Int.lt_of_le_of_lt (cutM_rng _).2 (by decide)⟩)
      have hsucc:=rgbN_succ W half P i
      generalize hacc:rgbN W half P i=acc at*
      generalize hC:pxL W half P i=C at*
      intro Z hZ
      have app: ∀t,t≤3→ ∀rp rc H8,St H0 H8 (.sl rp (acc++C.take t).length rc 5 1 (kints .u8 (acc++C.take t))::(three q n P++(.sl qo O.length mo 112 3 (ints (flat3 O)):: .cell b5 B5 119:: .cell b3 (ints st.flatten).toArray 90:: .cell r (tabV 22 (updV f 3 (.slice rp (acc++C.take t).length rc))) 97:: .sl bp bl.length bc 48 64 (ints bl.flatten)::σ)))→Z [.int .i64 (t:Nat)] H8:=upto fun t ht iht rp rc H8 hs8=>by
       refine hZ _ H8 (br_dec (fun hltt=>?_) (fun hget=>?_))
       ·have hltt:t<3:=by omega
        have hct:=get_gD C 0 (i:=t) (by omega)
        have hcrt:=hcr t hltt
        have hRG:cell H8 ⟨r,3,none⟩=some (.slice rp (acc++C.take t).length rc):=by rw[getV hs8 7 rfl (by omega),updV_at]
        refine⟨by omega,by omega,C.getD t 0,by rw[Int.toNat_natCast,Nat.mul_one,List.getElem?_toArray];exact ints_get hct,_,rfl,_,_,_,hRG,?_⟩
        rw[wr8 hcrt]
        have hal:(acc++C.take t).length=acc.length+t:=by rw[List.length_append,List.length_take];omega
        have hal':(acc++C.take (t+1)).length=acc.length+(t+1):=by rw[List.length_append,List.length_take];omega
        refine hs8.alc fun b99 H9 hs9=>hs9.appC 1 0 rfl rfl rfl (fun v hv=>by rw[List.mem_singleton.1 hv];rfl) (by decide) rfl (by rw[hal];omega) (by rw[hal];omega) fun p' c' H10 hs10=>⟨_,rfl,?_⟩
        have hs10:=hs10.tail
        refine putV hs10 7 (j:=3) rfl (by omega) rfl fun H11 hs11=>?_
        have e:kints .u8 (acc++C.take t)++[Value.int .u8 (C.getD t 0)]=kints .u8 (acc++C.take (t+1)):=by
         rw[List.take_add_one,hct,←List.append_assoc,kints_append .u8 (acc++C.take t)];rfl
        rw[w1 (by omega)]
        have e2:(acc++C.take t).length+1=(acc++C.take (t+1)).length:=by omega
        have e3: ∀v v':Value,updV (updV f 3 v) 3 v'=updV f 3 v':=fun v v'=>by funext k;unfold updV;split<;>rfl
        refine iht hltt p' c' H11 ?_
        rw[←e,←e2]
        have e4:=e3 (.slice rp (acc++C.take t).length rc) (.slice p' ((acc++C.take t).length+1) c')
        rw[e4] at hs11
        exact hs11
       ·have:t=3:=by omega
        subst this
        rw[List.take_of_length_le (by omega),←hsucc] at hs8
        rw[w1 (by omega)]
        exact ihi hlt rp rc H8 hs8
      exact app 0 (by omega) rp rc H7 (by rw[List.take_zero,List.append_nil];exact hs7)
     refine⟨_,rfl,half,?_,?_⟩
     ·rw[←f4]
      have:=getV hs3 7 (j:=4) rfl (by omega)
      rw[updV_ne (by omega)] at this
      exact this
     cases half with
     |true=>
      refine br_t rfl ⟨by decide,by decide,?_⟩
      rw[show(2:Int)=((2:Nat):Int) from rfl,tdivN,tdivN,wN (by omega),wN (by omega)]
      exact go _ _ rfl rfl
     |false=>exact br_f rfl (go _ _ rfl rfl)
    ·have:i=W*Ht:=by omega
     subst this
     rw[←hP] at hs3
     have hs4:St H0 H3 ([_]++(three q n P++[.sl qo O.length mo 112 3 (ints (flat3 O)),.cell b5 B5 119,.cell b3 (ints st.flatten).toArray 90])++(.cell r (tabV 22 (updV f 3 (.slice rp (paintM W Ht half bl st).length rc))) 97:: .sl bp bl.length bc 48 64 (ints bl.flatten)::σ)):=hs3
     refine hR rp rc H3 ?_
     exact((((((hs3.del 1).del 1).del 1).del 1).del 1).del 1)
   exact px 0 (by omega) none 0 H2 (by
    have:rgbN W half P 0=[]:=rfl
    rw[this,show([]:List Int).length=0 from rfl,hf0]
    exact hs2.nilSl _ _)
 exact blocks 0 (by omega) H1 hs3
end Go.Proofs
namespace Go.Proofs
open Go.Sh
variable {H0 H:Heap} {σ:List Rs} {R:Value→Heap→Prop}
set_option maxHeartbeats 4000000 in
theorem c8{w h q:Int}{l c:Nat}{p:Option Addr}{rgb:List Int}{half:Bool}(hi:IS H p l (kints .u8 rgb))(hr: ∀x∈rgb,0≤x∧x<256)(hl:l≤3000)
 (h31: ¬SizedM w h→ ∀H',Ext H H'→R (.tuple #[.slice none 0 0,.int .i64 31]) H')
 (h25:SizedM w h→(l:Int)≠3*w*h→ ∀H',Ext H H'→R (.tuple #[.slice none 0 0,.int .i64 25]) H')
 (h32:SizedM w h→(l:Int)=3*w*h→ ¬(1≤q∧q≤100)→ ∀H',Ext H H'→R (.tuple #[.slice none 0 0,.int .i64 32]) H')
 (hR: ∀W Ht:Nat,w=W→h=Ht→1≤W→1≤Ht→l=3*(W*Ht)→W*Ht≤1000→1≤q∧q≤100→ ∀H' b m,St H H' [.sl b (orderM W Ht half).length m 48 64 (ints (blocksL W Ht rgb q half).flatten)]→R (.tuple #[.slice b (orderM W Ht half).length m,.int .i64 0]) H'):
 CallsH Tryz.prog 8 #[.agg #[.int .i64 w,.int .i64 h,.slice p l c],.int .i64 q,.bool half] H R:=by
 have hi0:=hi
 refine Tryz.s8 ?_
 unfold Tryz.S8
 refine(St.nil H).alc fun b4 H0' hs0=>⟨_,hs0.get 0 (j:=0) rfl rfl,_,hs0.get 0 (j:=1) rfl rfl,?_⟩
 refine c6 ⟨_,rfl,br_not (fun hns=>h31 (of_decide_eq_false hns) _ hs0.ext) (fun hsz=>?_)⟩
 have hsz:=of_decide_eq_true hsz
 have hm:=mul_bd2 (w:=w) (h:=h) (by unfold SizedM at hsz;omega) (by unfold SizedM at hsz;omega)
 have e3:IntKind.wrap .i64 (IntKind.wrap .i64 (3*w)*h)=3*w*h:=by
  unfold SizedM at hsz
  have e:=Int.mul_assoc 3 w h
  rw[wrap_id (n:=3*w) (by omega) (by omega),wrap_id (by omega) (by omega)]
 refine⟨_,_,_,hs0.get 0 (j:=2) rfl rfl,_,hs0.get 0 (j:=0) rfl rfl,_,hs0.get 0 (j:=1) rfl rfl,?_⟩
 rw[e3]
 refine br_ne (fun hne=>h25 hsz hne _ hs0.ext) (fun heq=>?_)
 refine stepsC2 fun H1 e1=>⟨_,_,rfl,?_⟩
 refine(hs0.step e1).alc fun b10 H2 hs2=>⟨by rw[intsA_size];exact stL_len q false,hs2.putAllA 0 rfl (by rw[stL_len];simp) fun H3 hs3=>?_⟩
 refine stepsC2 fun H4 e4=>⟨_,_,rfl,?_⟩
 refine(hs3.step e4).alc fun b17 H5 hs5=>⟨by rw[intsA_size];exact stL_len q true,hs5.putAllA 0 rfl (by rw[stL_len];simp) fun H6 hs6=>?_⟩
 have e6:=hs6.ext
 refine br_not (fun hnq=>h32 hsz heq (of_decide_eq_false hnq) H6 e6) (fun hq=>?_)
 have hq:=of_decide_eq_true hq
 unfold SizedM at hsz
 obtain⟨W,rfl⟩:=Int.eq_ofNat_of_zero_le (show 0≤w by omega)
 obtain⟨Ht,rfl⟩:=Int.eq_ofNat_of_zero_le (show 0≤h by omega)
 rw[Int.mul_assoc,←Int.natCast_mul] at heq
 have hlN:l=3*(W*Ht):=by omega
 have hn:W*Ht≤1000:=by omega
 have hW:1≤W:=by omega
 have hH:1≤Ht:=by omega
 obtain⟨bW,bH⟩:=le_of_area hW hH hn
 have hR:=hR W Ht rfl rfl hW hH hlN hn hq
 clear h31 h25 h32 heq e3 hm
 have hst: ∀d,stL q d=stepsM q d:=fun d=>by unfold stL;rw[if_pos hq]
 rw[hst,hst] at hs6
 have hs6:St H H6 [.cell b17 (ints (stepsM q true)).toArray 48,.cell b10 (ints (stepsM q false)).toArray 48,.cell b4 #[.int .i64 (W:Nat),.int .i64 (Ht:Nat),.slice p l c] 32]:=hs6
 have k10:H6[b10]?=some (.cells (ints (stepsM q false)).toArray 48):=hs6.block 1 rfl
 have k17:H6[b17]?=some (.cells (ints (stepsM q true)).toArray 48):=hs6.block 0 rfl
 have k4:H6[b4]?=some (.cells #[.int .i64 (W:Nat),.int .i64 (Ht:Nat),.slice p l c] 32):=hs6.block 2 rfl
 have hsl: ∀d,(stepsM q d).length=64:=stepsM_len q
 refine⟨_,hs6.get 2 (j:=0) rfl rfl,_,hs6.get 2 (j:=1) rfl rfl,?_⟩
 refine c25 (Nat.le_trans bW (by decide)) (Nat.le_trans bH (by decide)) fun H10 qo mo hs10=>⟨_,_,_,rfl,?_⟩
 have hor:=order_rng W Ht half bW bH
 have hcnt:=order_cnt W Ht half bW bH
 have hbl:=blocksL_len W Ht rgb q half
 have h64:=blocksL_64 W Ht rgb q half
 have hget: ∀(t:Nat) (u:Nat×Nat×Nat),(orderM W Ht half)[t]?=some u→(blocksL W Ht rgb q half)[t]?=some (blockV W Ht rgb q half u):=fun t u h=>by simp[blocksL,h]
 generalize hO:orderM W Ht half=O at*
 generalize hB:blocksL W Ht rgb q half=B at*
 intro X hX
 have go: ∀t,t≤O.length→ ∀H11 qb mb,St H6 H11 [.sl qb t mb 48 64 (ints (B.take t).flatten),.sl qo O.length mo 69 3 (ints (flat3 O))]→X [.slice qb t mb,.int .i64 (t:Nat)] H11:=upto fun t ht ih H11 qb mb hs11=>by
  refine hX _ _ _ _ H11 (br_dec (fun hlt=>?_) (fun hge=>?_))
  ·have hlt:t<O.length:=by omega
   obtain⟨u,hu⟩: ∃u,O[t]?=some u:=⟨_,List.getElem?_eq_getElem hlt⟩
   have hur:=hor u (List.mem_of_getElem? hu)
   have hbt:=hget t u hu
   -- the place's cells
   have pc: ∀{H12:Heap} {τ:List Rs} (i:Nat),St H6 H12 τ→τ[i]?=some (.sl qo O.length mo 69 3 (ints (flat3 O)))→ ∃blk,qo=some ⟨blk,0,none⟩∧
    cell H12 (Addr.add (Addr.add ⟨blk,0,none⟩ (Int.toNat (t:Int)*3)) 0)=some (.int .i64 (u.1:Nat))∧cell H12 (Addr.add (Addr.add ⟨blk,0,none⟩ (Int.toNat (t:Int)*3)) 1)=some (.int .i64 (u.2.1:Nat))∧cell H12 (Addr.add (Addr.add ⟨blk,0,none⟩ (Int.toNat (t:Int)*3)) 2)=some (.int .i64 (u.2.2:Nat)):=fun{H12 τ} i hs hi=>by
    obtain⟨blk,h1,h2⟩:=rowPlaces (hs.rs i hi) hu hlt
    refine⟨blk,h1,?_⟩
    rw[add_none,Nat.zero_add,Int.toNat_natCast]
    exact⟨h2 0 _ rfl,h2 1 _ rfl,h2 2 _ rfl⟩
   rw[w1 (i:=t) (by omega)]
   refine hs11.alc fun b41 H14 hs14=>?_
   simp only[zeroA] at hs14
   clear hs11
   intro Y hY
   have hsm:=smpL_len W Ht rgb half u
   have rest: ∀H15,St H6 H15 [.cell b41 (ints (smpL W Ht rgb half u)).toArray 48,.sl qb t mb 48 64 (ints (B.take t).flatten),.sl qo O.length mo 69 3 (ints (flat3 O))]→Y [.int .i64 ((64:Nat):Int)] H15:=fun H15 hs15=>by
    have hfl:=fwdM_len (smpL W Ht rgb half u)
    refine hY _ H15 (br_n (by decide) ⟨_,by rw[intsA_size];exact hsm,rowIn_whole (hs15.block 0 rfl),c27 (smpL_small W Ht rgb half u) fun H16 e16=>⟨_,rfl,?_⟩⟩)
    refine(hs15.step e16).alc fun b58 H17 hs17=>⟨by rw[intsA_size];exact hfl,hs17.putAllA 0 rfl (by rw[hfl];simp) fun H18 hs18=>?_⟩
    simp only[List.set_cons_zero] at hs18
    clear hs17
    intro Z hZ
    have hvl:=blockV_len W Ht rgb q half u
    have hvg: ∀i,i<64→(blockV W Ht rgb q half u).getD i 0=inStepsM ((fwdM (smpL W Ht rgb half u)).getD i 0) (stepV q (decide (0<u.1)) i):=fun i hi=>tab_getD hi
    have hfr: ∀i,i<64→ -5000≤(fwdM (smpL W Ht rgb half u)).getD i 0∧(fwdM (smpL W Ht rgb half u)).getD i 0≤5000:=fun i hi=>fwd_rng (smpL_small W Ht rgb half u) hi
    generalize hF:fwdM (smpL W Ht rgb half u)=F at*
    generalize hV:blockV W Ht rgb q half u=V at*
    have mixl: ∀i,i≤64→(V.take i++F.drop i).length=64:=fun i hi=>by rw[List.length_append,List.length_take,List.length_drop];omega
    have go2: ∀i,i≤64→ ∀H19,St H6 H19 [.cell b58 (ints (V.take i++F.drop i)).toArray 48,.cell b41 (ints (smpL W Ht rgb half u)).toArray 48,.sl qb t mb 48 64 (ints (B.take t).flatten),.sl qo O.length mo 69 3 (ints (flat3 O))]→Z [.int .i64 (i:Nat)] H19:=upto fun i hi ihi H19 hs19=>by
     refine hZ _ H19 (br_dec (fun hlti=>?_) (fun hgei=>?_))
     ·have hlti:i<64:=by omega
      have s0:(stepsM q false)[i]?=some (stepV q false i):=tab_get hlti
      have s1:(stepsM q true)[i]?=some (stepV q true i):=tab_get hlti
      have c10:cell H19 (Addr.add ⟨b10,0,none⟩ (Int.toNat (i:Int)*1))=some (.int .i64 (stepV q false i)):=by
       rw[add_none,Nat.zero_add,Int.toNat_natCast,Nat.mul_one]
       exact cell_get (hs19.ext _ _ k10) (by rw[List.getElem?_toArray];exact ints_get s0)
      have c17:cell H19 (Addr.add ⟨b17,0,none⟩ (Int.toNat (i:Int)*1))=some (.int .i64 (stepV q true i)):=by
       rw[add_none,Nat.zero_add,Int.toNat_natCast,Nat.mul_one]
       exact cell_get (hs19.ext _ _ k17) (by rw[List.getElem?_toArray];exact ints_get s1)
      refine⟨by omega,by omega,_,c10,?_⟩
      intro J hJ
      have nx: ∀s,s=stepV q (decide (0<u.1)) i→J [.int .i64 s] H19:=fun s hs=>by
       subst hs
       have hfi:(V.take i++F.drop i)[i]?=some (F.getD i 0):=by
        rw[List.getElem?_append_right (by rw[List.length_take];omega),List.length_take,Nat.min_eq_left (by omega),Nat.sub_self,List.getElem?_drop,Nat.add_zero,getD_some F 0 (by omega)]
       refine hJ _ H19 ⟨by omega,by omega,F.getD i 0,?_,?_⟩
       ·rw[add_none,Nat.zero_add,Int.toNat_natCast,Nat.mul_one];exact hs19.rdA 0 rfl hfi
       ·refine c28 (hfr i hlti) (stepV_rng _ _ _) ⟨_,rfl,by omega,by omega,?_⟩
        rw[add_none,Nat.zero_add,Int.toNat_natCast,Nat.mul_one,w1 (i:=i) (by omega),←hvg i hlti]
        refine hs19.putA 0 rfl (by rw[mixl i hi];exact hlti) fun H20 hs20=>ihi hlti H20 ?_
        have e:(V.take i++F.drop i).set i (V.getD i 0)=V.take (i+1)++F.drop (i+1):=by
         rw[List.set_append_right _ _ (by rw[List.length_take];omega),List.length_take,Nat.min_eq_left (by omega),Nat.sub_self,List.drop_eq_getElem_cons (by omega),List.set_cons_zero,List.take_add_one,getD_some V 0 (by omega),List.append_assoc];rfl
        rw[e] at hs20
        exact hs20
      obtain⟨blk,hqo,p0,_,_⟩:=pc 3 hs19 rfl
      refine⟨_,hqo,by omega,by omega,_,p0,br_dec (fun hpos=>⟨by omega,by omega,_,c17,nx _ ?_⟩) (fun hz=>nx _ ?_)⟩
      ·rw[decide_eq_true (by omega)]
      ·rw[decide_eq_false (by omega)]
     ·have:i=64:=by omega
      subst this
      rw[List.take_of_length_le (by omega),List.drop_of_length_le (by omega),List.append_nil] at hs19
      refine⟨_,by rw[intsA_size];exact hvl,rowIn_whole (hs19.block 0 rfl),by rw[intsA_size];exact hvl,by decide,hs19.alc fun b76 H20 hs20=>?_⟩
      rw[setL_all (by simp[ints,hvl])] at hs20
      refine hs20.appC 3 0 (el:=48) (k:=64) (n:=1) rfl rfl (by simp[ints,hvl]) (fun v hv=>ints_one V v (by simpa using hv)) (by decide) (by simp) (by omega) (by omega) fun qb2 mb2 H21 hs21=>?_
      refine ih hlt H21 qb2 mb2 ?_
      have hs22:=hs21.drop 3
      rw[flat_take hbt,ints_append]
      simpa using hs22
    exact go2 0 (by omega) H18 (by rw[List.take_zero,List.nil_append,List.drop_zero];exact hs18)
   have hsg: ∀i,i<64→(smpL W Ht rgb half u).getD i 0=sampM W Ht rgb half u.1 (u.2.1+i%8) (u.2.2+i/8)-128:=fun i hi=>tab_getD hi
   have go1: ∀i,i≤64→ ∀H15,St H6 H15 [.cell b41 (ints (fillA (smpL W Ht rgb half u) i)).toArray 48,.sl qb t mb 48 64 (ints (B.take t).flatten),.sl qo O.length mo 69 3 (ints (flat3 O))]→Y [.int .i64 (i:Nat)] H15:=upto fun i hi ihi H15 hs15=>by
    by_cases hlti:i<64
    ·obtain⟨blk,hqo,p0,p1,p2⟩:=pc 2 hs15 rfl
     refine hY _ H15 (br_y (by omega) ⟨_,rfl,rowIn_whole (hs15.ext _ _ k4),_,hqo,by omega,by omega,_,p0,_,hqo,by omega,by omega,_,p1,by decide,_,hqo,by omega,by omega,_,p2,by decide,?_⟩)
     rw[ix3,ix4 (by omega),←Int.natCast_add,wN (k:=u.2.1+i%8) (by omega),←Int.natCast_add,wN (k:=u.2.2+i/8) (by omega)]
     refine c26 ((hi0.ext e6).ext hs15.ext) hr hlN hW hH hn hur.1 (by omega) (by omega) fun H16 e16=>?_
     have hsr:=sampM_rng W Ht rgb half u.1 (u.2.1+i%8) (u.2.2+i/8)
     refine⟨_,rfl,by omega,by omega,?_⟩
     rw[add_none,Nat.zero_add,Int.toNat_natCast,Nat.mul_one,w1 (i:=i) (by omega),wrap_id (by omega) (by omega),←hsg i hlti]
     refine(hs15.step e16).putA 0 rfl (by rw[fillA_len (by omega)];omega) fun H17 hs17=>ihi hlti H17 ?_
     rw[fillA_set (by omega)] at hs17
     exact hs17
    ·have:i=64:=by omega
     subst this
     have e:=fillA_all (smpL W Ht rgb half u)
     rw[hsm] at e
     rw[e] at hs15
     exact rest H15 hs15
   exact go1 0 (by omega) H14 (by rw[fillA_zero,hsm];exact hs14)
  ·have:t=O.length:=by omega
   subst this
   rw[List.take_of_length_le (by omega)] at hs11
   exact hR H11 qb mb (St.rebase e6 (hs11.take 1))
 exact go 0 (by omega) H10 none 0 (hs10.nilSl _ 64)
end Go.Proofs
namespace Go.Proofs
open Go.Sh
variable {H0 H:Heap} {σ:List Rs} {R:Value→Heap→Prop}
theorem mix_set{V F:List Int}(h:V.length=F.length){i:Nat}(hi:i<V.length):(V.take i++F.drop i).set i (V.getD i 0)=V.take (i+1)++F.drop (i+1):=by
 rw[List.set_append_right _ _ (by rw[List.length_take];omega),List.length_take,Nat.min_eq_left (by omega),Nat.sub_self,List.drop_eq_getElem_cons (by omega),List.set_cons_zero,List.take_add_one,getD_some V 0 (by omega),List.append_assoc];rfl
theorem mix_get{V F:List Int}{i:Nat}(hi:i<F.length)(hv:i≤V.length):(V.take i++F.drop i)[i]?=some (F.getD i 0):=by
 rw[List.getElem?_append_right (by rw[List.length_take];omega),List.length_take,Nat.min_eq_left (by omega),Nat.sub_self,List.getElem?_drop,Nat.add_zero,getD_some F 0 (by omega)]
theorem pxL_rng(W:Nat)(half:Bool)(P:Nat→List Int)(i:Nat): ∀j,j<3→0≤(pxL W half P i).getD j 0∧(pxL W half P i).getD j 0<256:=fun j hj=>by
 unfold pxL colourL colourM
 obtain rfl|rfl|rfl:j=0∨j=1∨j=2:=by omega
 all_goals (simp only[List.getD_cons_zero,List.getD_cons_succ];exact⟨(cutM_rng _).1,Int.lt_of_le_of_lt (cutM_rng _).2 (by decide)⟩)
set_option maxHeartbeats 4000000 in
theorem c32{bc W Ht:Nat}{bp:Option Addr}{half:Bool}{bl st:List (List Int)}(ok:PaintOk W Ht half bl st)
 (hs:St H0 H (.sl bp bl.length bc 48 64 (ints bl.flatten)::σ))
 (hR: ∀q m H',St H0 H' (.sl q (paintM W Ht half bl st).length m 5 1 (kints .u8 (paintM W Ht half bl st)):: .sl bp bl.length bc 48 64 (ints bl.flatten)::σ)→R (.slice q (paintM W Ht half bl st).length m) H'):
 CallsH Tryz.prog 32 #[.int .i64 (W:Nat),.int .i64 (Ht:Nat),.bool half,.slice bp bl.length bc,.agg (ints st.flatten).toArray] H R:=by
 obtain⟨W1,H1',hn,bW,bH,hbln,bl64,blr,stn,st64,str⟩:=ok
 have hA:=w16_area W1 H1' hn
 have hwW:=w16_le W
 have hwH:=w16_le Ht
 have hSl:st.flatten.length=192:=by rw[flat64_len st64,stn]
 refine Tryz.s32 ?_
 unfold Tryz.S32
 refine hs.alc fun b3 Ha hsa=>⟨by decide,by decide,hsa.alc fun b5 Hb hsb=>?_⟩
 have eW:IntKind.wrap .i64 (IntKind.wrap .i64 (Int.tdiv (IntKind.wrap .i64 ((W:Int)+15)) 16)*16)=((w16 W:Nat):Int):=by
  rw[wrap_id (n:=(W:Int)+15) (by omega) (by omega),show(W:Int)+15=((W+15:Nat):Int) by omega,show(16:Int)=((16:Nat):Int) from rfl,tdivN,wN (by omega),wrap_id (by omega) (by omega)]
  unfold w16;omega
 have eH:IntKind.wrap .i64 (IntKind.wrap .i64 (Int.tdiv (IntKind.wrap .i64 ((Ht:Int)+15)) 16)*16)=((w16 Ht:Nat):Int):=by
  rw[wrap_id (n:=(Ht:Int)+15) (by omega) (by omega),show(Ht:Int)+15=((Ht+15:Nat):Int) by omega,show(16:Int)=((16:Nat):Int) from rfl,tdivN,wN (by omega),wrap_id (by omega) (by omega)]
  unfold w16;omega
 have eA:IntKind.wrap .i64 (((w16 W:Nat):Int)*((w16 Ht:Nat):Int))=((w16 W*w16 Ht:Nat):Int):=by rw[←Int.natCast_mul,wN (by omega)]
 rw[eW,eH,eA,Int.toNat_natCast]
 generalize hw:w16 W=w at*
 generalize hh:w16 Ht=h at*
 intro X hX
 have w1k: ∀k:Nat,k<3→IntKind.wrap .i64 ((k:Int)+1)=((k+1:Nat):Int):=fun k hk=>w1 (by omega)
 have step: ∀(k:Nat) (H':Heap) (ρ:List Rs) (cs:Array Value),k<3→cs.size=3→St H0 H' (.cell b5 cs 139::ρ)→
  (∀q H2,St H0 H2 (.cell b5 (cs.setIfInBounds k (.slice (some ⟨q,0,none⟩) (w*h) (w*h))) 139:: .sl (some ⟨q,0,none⟩) (w*h) (w*h) 3 1 (ints (List.replicate (w*h) 0))::ρ)→X [.int .i64 ((k+1:Nat):Int)] H2)→X [.int .i64 (k:Nat)] H':=fun k H' ρ cs hk hcs hs' hK=>by
  refine hX _ H' (br_y (by omega) ⟨by omega,by omega,by omega,by omega,?_⟩)
  rw[w1k k hk]
  refine hs'.alc fun q H2 hs2=>⟨by omega,by omega,?_⟩
  rw[repsA] at hs2
  rw[add_none,Nat.zero_add,Int.toNat_natCast,Nat.mul_one]
  refine hs2.put 1 rfl (by rw[hcs];exact hk) rfl fun H3 hs3=>hK q H3 ?_
  have hs3:=hs3.toSl 0 (k:=1) rfl (by rw[intsA_size,List.length_replicate,Nat.mul_one]) rfl (fun v hv=>ints_one _ v hv)
  exact hs3.swap
 refine step 0 Hb _ _ (by omega) rfl hsb fun q0 Hc hsc=>?_
 refine step 1 Hc _ _ (by omega) rfl hsc fun q1 Hd hsd=>?_
 refine step 2 Hd _ _ (by omega) rfl hsd fun q2 He hse=>?_
 clear step hsa hsb hsc hsd
 refine hX _ He (br_n (by decide) ?_)
 clear hX X
 obtain⟨q,hq⟩: ∃q:Nat→Nat,q=fun k=>if k=0 then q0 else if k=1 then q1 else q2:=⟨_,rfl⟩
 obtain⟨B5,hB5⟩: ∃B:Array Value,B=#[.slice (some ⟨q0,0,none⟩) (w*h) (w*h),.slice (some ⟨q1,0,none⟩) (w*h) (w*h),.slice (some ⟨q2,0,none⟩) (w*h) (w*h)]:=⟨_,rfl⟩
 have hb5: ∀k,k<3→B5[k]?=some (.slice (some ⟨q k,0,none⟩) (w*h) (w*h)):=fun k hk=>by
  obtain rfl|rfl|rfl:k=0∨k=1∨k=2:=by omega
  all_goals (rw[hB5,hq];rfl)
 have hs1:St H0 He (three q (w*h) (fun _=>List.replicate (w*h) 0)++(.cell b5 B5 139:: .cell b3 (ints st.flatten).toArray 90:: .sl bp bl.length bc 48 64 (ints bl.flatten)::σ)):=by
  rw[hB5,hq]
  refine hse.perm ?_
  exact((List.reverse_perm [_,_,_,_]).append_right _)
 clear hse
 generalize hn':w*h=n at*
 refine c25 (Nat.le_trans bW (by decide)) (Nat.le_trans bH (by decide)) fun H1 qo mo hs2=>⟨_,_,_,rfl,?_⟩
 have hin:=order_in (W:=W) (Ht:=Ht) (half:=half)
 rw[hw,hh] at hin
 have hs3:=(hs1.call hs2).perm (List.perm_middle (l₁:=three q n (fun _=>List.replicate n 0))).symm
 clear hs1 hs2
 have hP:paintM W Ht half bl st=rgbN W half (laidV w n (orderM W Ht half) bl st (orderM W Ht half).length) (W*Ht):=by
  unfold paintM laidP;rw[hw,hh,hn']
 have hPl:=paintM_len W Ht half bl st
 have hcnt:=order_cnt2 W Ht half (Nat.le_trans bW (by decide)) (Nat.le_trans bH (by decide))
 generalize hO:orderM W Ht half=O at*
 intro X hX
 have blocks: ∀t,t≤O.length→ ∀H2,St H0 H2 (three q n (laidV w n O bl st t)++(.sl qo O.length mo 69 3 (ints (flat3 O)):: .cell b5 B5 139:: .cell b3 (ints st.flatten).toArray 90:: .sl bp bl.length bc 48 64 (ints bl.flatten)::σ))→X [.int .i64 (t:Nat)] H2:=upto fun t ht iht H2 hs2=>by
  refine hX _ H2 (br_dec (fun hlt=>?_) (fun hge=>?_))
  ·have hlt:t<O.length:=by omega
   have hu:=get_gD O (0,0,0) hlt
   obtain⟨hk3,hx8,hy8⟩:=hin _ (List.mem_of_getElem? hu)
   generalize hu':O.getD t (0,0,0)=u at*
   have pc: ∀{H12:Heap} {τ:List Rs} (i:Nat),St H0 H12 τ→τ[i]?=some (.sl qo O.length mo 69 3 (ints (flat3 O)))→ ∃blk,qo=some ⟨blk,0,none⟩∧
    cell H12 (Addr.add (Addr.add ⟨blk,0,none⟩ (Int.toNat (t:Int)*3)) 0)=some (.int .i64 (u.1:Nat))∧cell H12 (Addr.add (Addr.add ⟨blk,0,none⟩ (Int.toNat (t:Int)*3)) 1)=some (.int .i64 (u.2.1:Nat))∧cell H12 (Addr.add (Addr.add ⟨blk,0,none⟩ (Int.toNat (t:Int)*3)) 2)=some (.int .i64 (u.2.2:Nat)):=fun{H12 τ} i hs hi=>by
    obtain⟨blk,h1,h2⟩:=rowPlaces (hs.rs i hi) hu hlt
    refine⟨blk,h1,?_⟩
    rw[add_none,Nat.zero_add,Int.toNat_natCast]
    exact⟨h2 0 _ rfl,h2 1 _ rfl,h2 2 _ rfl⟩
   have hbt:bl[t]?=some (bl.getD t []):=get_gD bl [] (by omega)
   have hst:=get_gD st [] (i:=u.1) (by omega)
   have hbm:=List.mem_of_getElem? hbt
   have hsm:=List.mem_of_getElem? hst
   obtain⟨blk2,hbp,hrow2⟩:=St.row64 hs2 6 rfl bl64 hbt (by omega)
   refine⟨_,hbp,by omega,by omega,(ints (bl.getD t [])).toArray,by rw[intsA_size];exact bl64 _ hbm,by rw[add_none,Nat.zero_add,Int.toNat_natCast];exact hrow2,?_⟩
   generalize hb:bl.getD t []=b at*
   have hbl:=bl64 b hbm
   have hbr:=blr b hbm
   have hsr:=str _ hsm
   refine hs2.alc fun b34 H3 hs3=>⟨by rw[intsA_size];exact hbl,?_⟩
   rw[zeroA] at hs3
   refine hs3.putAllA 0 rfl (by rw[hbl];rfl) fun H5 hs5=>?_
   have hml:=mulL_len b (st.getD u.1 [])
   have mixl: ∀i,i≤64→((mulL b (st.getD u.1 [])).take i++b.drop i).length=64:=fun i hi=>by rw[List.length_append,List.length_take,List.length_drop];omega
   intro Y hY
   have mul: ∀i,i≤64→ ∀H6,St H0 H6 (.cell b34 (ints ((mulL b (st.getD u.1 [])).take i++b.drop i)).toArray 48::(three q n (laidV w n O bl st t)++(.sl qo O.length mo 69 3 (ints (flat3 O)):: .cell b5 B5 139:: .cell b3 (ints st.flatten).toArray 90:: .sl bp bl.length bc 48 64 (ints bl.flatten)::σ)))→Y [.int .i64 (i:Nat)] H6:=upto fun i hi ihi H6 hs6=>by
    refine hY _ H6 (br_dec (fun hlti=>?_) (fun hgei=>?_))
    ·have hlti:i<64:=by omega
     obtain⟨blk,hqo,p0,_,_⟩:=pc 4 hs6 rfl
     refine⟨by omega,by omega,b.getD i 0,?_,_,hqo,by omega,by omega,_,p0,by omega,by omega,by omega,by omega,(st.getD u.1 []).getD i 0,?_,by omega,by omega,?_⟩
     ·rw[add_none,Nat.zero_add,Int.toNat_natCast,Nat.mul_one];exact hs6.rdA 0 rfl (mix_get (by omega) (by omega))
     ·rw[add_none,add_none,Nat.zero_add,Int.toNat_natCast,Int.toNat_natCast,Nat.mul_one];exact hs6.rdA 6 rfl (flat_st st64 (by omega) hlti)
     ·have:=mul_bd (hbr i) (show-255≤(st.getD u.1 []).getD i 0∧(st.getD u.1 []).getD i 0≤255 by have:=hsr i hlti;omega)
      rw[add_none,Nat.zero_add,Int.toNat_natCast,Nat.mul_one,wrap_id (by omega) (by omega),w1 (by omega)]
      refine hs6.putA 0 rfl (by rw[mixl i hi];exact hlti) fun H7 hs7=>ihi hlti H7 ?_
      have e:b.getD i 0*(st.getD u.1 []).getD i 0=(mulL b (st.getD u.1 [])).getD i 0:=(tab_getD (f:=fun i=>b.getD i 0*(st.getD u.1 []).getD i 0) hlti).symm
      rw[e,mix_set (by omega) (by omega)] at hs7
      exact hs7
    ·have:i=64:=by omega
     subst this
     rw[List.take_of_length_le (by omega),List.drop_of_length_le (by omega),List.append_nil] at hs6
     refine⟨_,by rw[intsA_size];exact mulL_len _ _,rowIn_whole (hs6.block 0 rfl),c66 (mulL_mid hbr hsr) fun H7 e7=>⟨_,rfl,?_⟩⟩
     have hs7:=(hs6.step e7).tail
     have hv:bakM (mulL b (st.getD u.1 []))=blkV b (st.getD u.1 []):=rfl
     rw[hv]
     have hvl:(blkV b (st.getD u.1 [])).length=64:=bakM_len _
     have hvr: ∀i,i<64→ -200000000≤(blkV b (st.getD u.1 [])).getD i 0∧(blkV b (st.getD u.1 [])).getD i 0≤200000000:=fun i hi=>bakM_rng (mulL_mid hbr hsr) hi
     generalize hV:blkV b (st.getD u.1 [])=v at*
     clear hs6 hY
     refine hs7.alc fun b39 H8 hs8=>⟨by rw[intsA_size];exact hvl,?_⟩
     rw[zeroA] at hs8
     refine hs8.putAllA 0 rfl (by rw[hvl];rfl) fun H9 hs9=>?_
     intro Z hZ
     have lay: ∀i,i≤64→ ∀H8,St H0 H8 (.cell b39 (ints v).toArray 48::(three q n (updP (laidV w n O bl st t) u.1 (putN w u.2.1 u.2.2 v (laidV w n O bl st t u.1) i))++(.sl qo O.length mo 69 3 (ints (flat3 O)):: .cell b5 B5 139:: .cell b3 (ints st.flatten).toArray 90:: .sl bp bl.length bc 48 64 (ints bl.flatten)::σ)))→Z [.int .i64 (i:Nat)] H8:=upto fun i hi ihi H8 hs8=>by
      refine hZ _ H8 (br_dec (fun hlti=>?_) (fun hgei=>?_))
      ·have hlti:i<64:=by omega
       have hg1:=get_gD v 0 (i:=i) (by omega)
       have hvi:=hvr i hlti
       have c3:=hb5 u.1 hk3
       have hpl:=place_lt hx8 hy8 hlti
       rw[hn'] at hpl
       obtain⟨blk,hqo,p0,p1,p2⟩:=pc 4 hs8 rfl
       refine⟨_,hqo,by omega,by omega,_,p0,by omega,by omega,some ⟨q u.1,0,none⟩,n,n,?_,_,hqo,by omega,by omega,_,p2,by decide,_,hqo,by omega,by omega,_,p1,by decide,by omega,by omega,v.getD i 0,?_,?_⟩
       ·rw[add_none,Nat.zero_add,Int.toNat_natCast,Nat.mul_one];exact hs8.get 5 rfl c3
       ·rw[add_none,Nat.zero_add,Int.toNat_natCast,Nat.mul_one];exact hs8.rdA 0 rfl hg1
       have hidx:IntKind.wrap .i64 (IntKind.wrap .i64 (IntKind.wrap .i64 (IntKind.wrap .i64 ((u.2.2:Int)+IntKind.wrap .i64 (Int.tdiv (i:Int) 8))*(w:Int))+(u.2.1:Nat))+Int.tmod (i:Int) 8)=(((u.2.2+i/8)*w+u.2.1+i%8:Nat):Int):=by
        rw[ix4 (by omega),ix3,wrap_id (n:=(u.2.2:Int)+((i/8:Nat):Int)) (by omega) (by omega),show(u.2.2:Int)+((i/8:Nat):Int)=((u.2.2+i/8:Nat):Int) by omega,←Int.natCast_mul,wN (by omega),wrap_id (n:=(((u.2.2+i/8)*w:Nat):Int)+(u.2.1:Nat)) (by omega) (by omega),wrap_id (by omega) (by omega)]
        omega
       rw[hidx,wrap_id (n:=v.getD i 0+128) (by omega) (by omega),w1 (by omega)]
       refine c64 (by decide) ⟨_,rfl,.inl (Ext.refl _),_,rfl,by omega,by omega,?_⟩
       rw[show min 255 (max 0 (v.getD i 0+128))=cutM (v.getD i 0+128) from rfl,add_none,Nat.zero_add,Int.toNat_natCast,Nat.mul_one]
       refine hs8.slPut (u.1+1) (three_get hk3) (by rw[ints_len,updP_at,putN_len,laidV_len];exact hpl) rfl fun H9 hs9=>ihi hlti H9 ?_
       simp only[List.set_cons_succ] at hs9
       rw[ints_set,three_set hk3,updP_at,updP_upd] at hs9
       exact hs9
      ·have:i=64:=by omega
       subst this
       rw[w1 (by omega)]
       refine iht hlt H8 ?_
       have e:updP (laidV w n O bl st t) u.1 (putN w u.2.1 u.2.2 v (laidV w n O bl st t u.1) 64)=laidV w n O bl st (t+1):=by
        funext k
        rw[laidV,hu',hb,hV]
        unfold updP
        split
        ·rename_i hk;subst hk;rfl
        ·rfl
       rw[e] at hs8
       exact hs8.tail
     refine lay 0 (by omega) H9 ?_
     have e:updP (laidV w n O bl st t) u.1 (putN w u.2.1 u.2.2 v (laidV w n O bl st t u.1) 0)=laidV w n O bl st t:=by
      funext k;unfold updP;split
      ·rename_i hk;subst hk;rfl
      ·rfl
     rw[e];exact hs9
   exact mul 0 (by omega) H5 (by rw[List.take_zero,List.nil_append,List.drop_zero];exact hs5)
  ·have:t=O.length:=by omega
   subst this
   have hby:=laidV_byt w n O bl st O.length
   have hpl:=laidV_len w n O bl st O.length
   generalize hPP:laidV w n O bl st O.length=P at*
   have hrl:=rgbN_len W half P
   intro Y hY
   have row: ∀y,y≤Ht→ ∀rp rc H3,St H0 H3 (.sl rp (rgbN W half P (y*W)).length rc 5 1 (kints .u8 (rgbN W half P (y*W)))::(three q n P++(.sl qo O.length mo 69 3 (ints (flat3 O)):: .cell b5 B5 139:: .cell b3 (ints st.flatten).toArray 90:: .sl bp bl.length bc 48 64 (ints bl.flatten)::σ)))→Y [.slice rp (rgbN W half P (y*W)).length rc,.int .i64 (y:Nat)] H3:=upto fun y hy ihy rp rc H3 hs3=>by
    refine hY _ _ _ _ H3 (br_dec (fun hlty=>?_) (fun hgey=>?_))
    ·have hlty:y<Ht:=by omega
     have hyW:y*W+W≤W*Ht:=by
      have:=Nat.mul_le_mul_right W (show y+1≤Ht from hlty)
      rw[Nat.succ_mul,Nat.mul_comm Ht W] at this;exact this
     intro Z hZ
     have px: ∀x,x≤W→ ∀rp rc H4,St H0 H4 (.sl rp (rgbN W half P (y*W+x)).length rc 5 1 (kints .u8 (rgbN W half P (y*W+x)))::(three q n P++(.sl qo O.length mo 69 3 (ints (flat3 O)):: .cell b5 B5 139:: .cell b3 (ints st.flatten).toArray 90:: .sl bp bl.length bc 48 64 (ints bl.flatten)::σ)))→Z [.slice rp (rgbN W half P (y*W+x)).length rc,.int .i64 (x:Nat)] H4:=upto fun x hx ihx rp rc H4 hs4=>by
      refine hZ _ _ _ _ H4 (br_dec (fun hltx=>?_) (fun hgex=>?_))
      ·have hltx:x<W:=by omega
       have hdiv:(y*W+x)/W=y:=by rw[Nat.add_comm,Nat.add_mul_div_right _ _ (by omega),Nat.div_eq_of_lt hltx,Nat.zero_add]
       have hmod:(y*W+x)%W=x:=by rw[Nat.add_comm,Nat.add_mul_mod_self_right,Nat.mod_eq_of_lt hltx]
       intro J hJ
       have in_pl: ∀x' y',x'<w→y'<h→y'*w+x'<n:=fun x' y' h1 h2=>by
        have:=Nat.mul_le_mul_right w (show y'+1≤h from h2)
        rw[Nat.succ_mul,Nat.mul_comm h w,hn'] at this;omega
       have go: ∀x2 y2:Nat,x2=(if half then x/2 else x)→y2=(if half then y/2 else y)→J [.int .i64 ((y2*w+x2:Nat):Int)] H4:=fun x2 y2 hx2 hy2=>by
        have hx3:x2<w:=by rw[hx2];split<;>omega
        have hy3:y2<h:=by rw[hy2];split<;>omega
        have i1:=in_pl x y (by omega) (by omega)
        have i2:=in_pl x2 y2 hx3 hy3
        refine hJ _ H4 ?_
        have hi0:IntKind.wrap .i64 (IntKind.wrap .i64 ((y:Int)*(w:Int))+(x:Int))=((y*w+x:Nat):Int):=by
         rw[←Int.natCast_mul,wN (by omega),←Int.natCast_add,wN (by omega)]
        rw[hi0]
        have hpx:colourL ((P 0).getD (y*w+x) 0) ((P 1).getD (y2*w+x2) 0) ((P 2).getD (y2*w+x2) 0)=pxL W half P (y*W+x):=by
         unfold pxL;rw[hdiv,hmod,hw,←hx2,←hy2]
        have hc0:=hby 0 (y*w+x)
        have hc1:=hby 1 (y2*w+x2)
        have hc2:=hby 2 (y2*w+x2)
        have hcl:(pxL W half P (y*W+x)).length=3:=rfl
        have hcr:=pxL_rng W half P (y*W+x)
        have hsucc:=rgbN_succ W half P (y*W+x)
        have hl3:=hrl (y*W+x)
        -- three bytes come in
        intro J73 hJ73
        have put3: ∀(c:Nat) (H5:Heap),St H0 H5 (.cell c (ints (pxL W half P (y*W+x))).toArray 73:: .sl rp (rgbN W half P (y*W+x)).length rc 5 1 (kints .u8 (rgbN W half P (y*W+x)))::(three q n P++(.sl qo O.length mo 69 3 (ints (flat3 O)):: .cell b5 B5 139:: .cell b3 (ints st.flatten).toArray 90:: .sl bp bl.length bc 48 64 (ints bl.flatten)::σ)))→J73 [.pointer (some ⟨c,0,none⟩)] H5:=fun c H5 hs5=>by
         refine hJ73 _ H5 ?_
         generalize hC:pxL W half P (y*W+x)=C at*
         have cc: ∀j:Nat,j<3→cell H5 ((⟨c,0,none⟩:Addr).add (Int.toNat (j:Int)*1))=some (.int .i64 (C.getD j 0)):=fun j hj=>by
          rw[add_none,Nat.zero_add,Int.toNat_natCast,Nat.mul_one];exact hs5.rdA 0 rfl (get_gD C 0 (by omega))
         refine⟨by decide,by decide,_,cc 0 (by omega),by decide,by decide,_,cc 1 (by omega),by decide,by decide,_,cc 2 (by omega),?_⟩
         rw[wr8 (hcr 0 (by omega)),wr8 (hcr 1 (by omega)),wr8 (hcr 2 (by omega))]
         refine hs5.alc fun b79 H6 hs6=>?_
         refine hs6.appC 2 0 rfl rfl (n:=3) rfl (by simp[Value.oneCell']) (by decide) rfl (by omega) (by omega) fun p' c' H7 hs7=>?_
         rw[w1 (by omega)]
         have e3:C=[C.getD 0 0,C.getD 1 0,C.getD 2 0]:=by
          refine list_ext_getD (n:=3) hcl rfl fun j hj=>?_
          obtain rfl|rfl|rfl:j=0∨j=1∨j=2:=by omega
          all_goals rfl
         have e:kints .u8 (rgbN W half P (y*W+x))++[Value.int .u8 (C.getD 0 0),Value.int .u8 (C.getD 1 0),Value.int .u8 (C.getD 2 0)]=kints .u8 (rgbN W half P (y*W+(x+1))):=by
          rw[←Nat.add_assoc,hsucc,kints_append .u8];rw[e3];rfl
         have e4:(rgbN W half P (y*W+x)).length+3=(rgbN W half P (y*W+(x+1))).length:=by rw[←Nat.add_assoc,hsucc,List.length_append,hcl]
         rw[e4]
         refine ihx hltx p' c' H7 ?_
         rw[←e4,←e]
         exact hs7.tail.tail
        have rdP: ∀{H5:Heap} {τ:List Rs} (k i:Nat),k<3→i<n→St H0 H5 (τ++(three q n P++(.sl qo O.length mo 69 3 (ints (flat3 O)):: .cell b5 B5 139:: .cell b3 (ints st.flatten).toArray 90:: .sl bp bl.length bc 48 64 (ints bl.flatten)::σ)))→cell H5 ((⟨q k,0,none⟩:Addr).add (Int.toNat (i:Int)*1))=some (.int .i64 ((P k).getD i 0)):=fun{H5 τ} k i hk hi hs5=>by
         have hIS:=hs5.is (τ.length+k) (by rw[List.getElem?_append_right (by omega),Nat.add_sub_cancel_left];exact three_get hk)
         obtain⟨a,ha,hc⟩:=hIS.get i _ (ints_get (get_gD (P k) 0 (by rw[hpl];exact hi)))
         cases ha
         rw[Int.toNat_natCast,Nat.mul_one];exact hc
        have rdB: ∀{H5:Heap} {τ:List Rs} (k:Nat),k<3→St H0 H5 (τ++(three q n P++(.sl qo O.length mo 69 3 (ints (flat3 O)):: .cell b5 B5 139:: .cell b3 (ints st.flatten).toArray 90:: .sl bp bl.length bc 48 64 (ints bl.flatten)::σ)))→cell H5 ((⟨b5,0,none⟩:Addr).add (Int.toNat (k:Int)*1))=some (.slice (some ⟨q k,0,none⟩) n n):=fun{H5 τ} k hk hs5=>by
         rw[add_none,Nat.zero_add,Int.toNat_natCast,Nat.mul_one]
         exact hs5.get (τ.length+4) (by rw[List.getElem?_append_right (by omega),Nat.add_sub_cancel_left];rfl) (hb5 k hk)
        refine⟨by decide,by decide,_,_,_,rdB (τ:=[_]) 0 (by omega) hs4,_,rfl,by omega,by omega,_,rdP (τ:=[_]) 0 _ (by omega) i1 hs4,by decide,by decide,_,_,_,rdB (τ:=[_]) 1 (by omega) hs4,_,rfl,by omega,by omega,_,rdP (τ:=[_]) 1 _ (by omega) i2 hs4,by decide,by decide,_,_,_,rdB (τ:=[_]) 2 (by omega) hs4,_,rfl,by omega,by omega,_,rdP (τ:=[_]) 2 _ (by omega) i2 hs4,?_,?_⟩
        ·refine c67 (by omega) (by omega) (by omega) fun H5 e5=>⟨_,rfl,?_⟩
         rw[hpx]
         refine(hs4.step e5).alc fun b95 H6 hs6=>⟨by rw[intsA_size];exact hcl,?_⟩
         exact hs6.putAll 0 rfl (by rw[Array.length_toList,intsA_size];exact hcl) (fun v hv=>ints_one _ v (by simpa using hv)) fun H7 hs7=>put3 b95 H7 hs7
        ·refine hs4.alcE fun b98 H5 e5 hs5=>⟨.inl e5,c67 (by omega) (by omega) (by omega) fun H6 e6=>⟨_,rfl,?_⟩⟩
         rw[hpx]
         refine⟨by rw[intsA_size];exact hcl,?_⟩
         exact(hs5.step e6).putAll 0 rfl (by rw[Array.length_toList,intsA_size];exact hcl) (fun v hv=>ints_one _ v (by simpa using hv)) fun H7 hs7=>put3 b98 H7 hs7
       cases half with
       |true=>
        refine br_t rfl ⟨by decide,by decide,?_⟩
        have e2:IntKind.wrap .i64 (IntKind.wrap .i64 (IntKind.wrap .i64 (Int.tdiv (y:Int) 2)*(w:Int))+IntKind.wrap .i64 (Int.tdiv (x:Int) 2))=((y/2*w+x/2:Nat):Int):=by
         have i2:=in_pl (x/2) (y/2) (by omega) (by omega)
         have ty:Int.tdiv (y:Int) 2=((y/2:Nat):Int):=tdivN y 2
         have tx:Int.tdiv (x:Int) 2=((x/2:Nat):Int):=tdivN x 2
         rw[ty,tx,wN (k:=y/2) (by omega),wN (k:=x/2) (by omega),←Int.natCast_mul,wN (by omega),←Int.natCast_add,wN (by omega)]
        rw[e2]
        exact go _ _ rfl rfl
       |false=>
        have e2:IntKind.wrap .i64 (IntKind.wrap .i64 ((y:Int)*(w:Int))+(x:Int))=((y*w+x:Nat):Int):=by
         have i2:=in_pl x y (by omega) (by omega)
         rw[←Int.natCast_mul,wN (by omega),←Int.natCast_add,wN (by omega)]
        refine br_f rfl ?_
        rw[e2]
        exact go _ _ rfl rfl
      ·have:x=W:=by omega
       subst this
       rw[w1 (by omega)]
       have hyy:y*x+x=(y+1)*x:=by rw[Nat.succ_mul]
       rw[hyy] at hs4 ⊢
       exact ihy hlty rp rc H4 hs4
     exact px 0 (by omega) rp rc H3 hs3
    ·have:y=Ht:=by omega
     subst this
     rw[Nat.mul_comm,←hP] at hs3 ⊢
     exact hR rp rc H3 ((((((hs3.del 1).del 1).del 1).del 1).del 1).del 1)
   have:=row 0 (by omega) none 0 H2 (by rw[Nat.zero_mul];exact hs2.nilSl 5 1)
   rw[Nat.zero_mul] at this
   exact this
 exact blocks 0 (by omega) H1 hs3
end Go.Proofs
