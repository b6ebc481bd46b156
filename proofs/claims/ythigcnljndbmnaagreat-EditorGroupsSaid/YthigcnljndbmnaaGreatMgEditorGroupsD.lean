/-
  OWN WORK. Several texts in one: TileQ, TileT, TileU, TileV, ShS, ShT, ShU, TrA, TrB, TrC, EdC, EdD, TrD, TrE.
-/
import Derived.Test.YthigcnljndbmnaaGreatMgEditorGroupsC
import Derived.Test.YthigcnljndbmnaaGreatMgEditorGroupsB
import Derived.Lib.Overlaps

set_option linter.unusedSimpArgs false
set_option linter.unusedVariables false
set_option maxRecDepth 10000
namespace Go.Tile
theorem tile_inj{cap:Int}{s:St}(h:Ok cap s){p:Pl}(hp:p∈s.pls){x y x' y':Int}{t:Nat}(h1:tileOf p.en x y=some t)(h2:tileOf p.en x' y'=some t):x=x'∧y=y':=by
 obtain⟨e,he,hat,het⟩:=tileOf_mem h1
 obtain⟨f,hf,hft,hftt⟩:=tileOf_mem h2
 have a1:=at_iff.1 hat
 have a2:=at_iff.1 hft
 by_cases hef:e=f
 ·subst hef;exact⟨a1.1.trans a2.1.symm,a1.2.trans a2.2.symm⟩
 ·have:=countP_two (f:=fun e:En=>e.t==t) he hf hef (by simp[het]) (by simp[hftt])
  have:=h.one p hp t
  omega
structure Step(s:St)(k:Nat)(p:Pl)(x y v:Int)(s':St)(p':Pl):Prop where
 pk:s'.pls[k]?=some p'
 oth: ∀j,j≠k→s'.pls[j]?=s.pls[j]?
 like:Like p p'
 free:s'.free=s.free-if needs s p (x/16) (y/16)=true then 1 else 0
 need: ∀K L,needs s' p' K L=(needs s p K L&& !(K==x/16&&L==y/16))
 tile: ∃n,(needs s p (x/16) (y/16)=true→n∉s.ts.map (·.1))∧ ∀K L,tileOf p'.en K L=if needs s p (x/16) (y/16)=true∧K=x/16∧L=y/16 then some n else tileOf p.en K L
 keys: ∀t,t∈s.ts.map (·.1)→t∈s'.ts.map (·.1)
theorem wrote_step{cap:Int}{s:St}(h:Ok cap s){k:Nat}{p:Pl}(hk:s.pls[k]?=some p){x y v:Int}{s':St}(hw:Wrote s k p x y v s'): ∃p',Step s k p x y v s' p':=by
 have hp:p∈s.pls:=List.mem_of_getElem? hk
 rcases hw with ⟨hnd,t,ht,h1,rfl⟩|⟨hneed,hfree,n,hn,rfl⟩
 ·refine⟨p,hk,fun j _=>rfl,Like.refl p,by simp[hnd,wrS],fun K L=>?_,⟨0,by simp[hnd],fun K L=>by simp[hnd]⟩,fun t ht=>by show t∈(wrTs s.ts _ _ _).map (·.1);rwa [wrTs_keys]⟩
  have e1:needs (wrS s t (idx x y) v) p K L=needs s p K L:=rfl
  rw[e1]
  by_cases hKL:K=x/16∧L=y/16
  ·rw[hKL.1,hKL.2,hnd];rfl
  ·have:(K==x/16&&L==y/16)=false:=by
    rw[←Bool.not_eq_true,Bool.and_eq_true,beq_iff_eq,beq_iff_eq];exact hKL
   rw[this];simp
 ·have hnt: ∀q∈s.pls,∀e∈q.en,e.t≠n:=fun q hq e he heq=>by
   have:=(h.live e.t).1 (refs_pos hq he)
   rw[heq] at this
   exact hn this
  obtain⟨r1,r2⟩:=refs_own hk (x:=x/16) (y:=y/16) hnt
  have htl: ∀K L,tileOf (p.own (x/16) (y/16) n).en K L=if K=x/16∧L=y/16 then some n else tileOf p.en K L:=fun K L=>tileOf_set _ _ _ _ _ _ _
  refine⟨p.own (x/16) (y/16) n,?_,fun j hj=>?_,⟨rfl,rfl,rfl,rfl⟩,?_,fun K L=>?_,⟨n,fun _=>hn,fun K L=>?_⟩,fun t ht=>?_⟩
  ·show(ownS s k p (x/16) (y/16) n).pls[k]?=_
   rw[own_pls _ _ _ hk,if_pos rfl]
  ·show(ownS s k p (x/16) (y/16) n).pls[j]?=_
   rw[own_pls _ _ _ hk,if_neg hj]
  ·rw[if_pos hneed];rfl
  ·have e1:needs (wrS (ownS s k p (x/16) (y/16) n) n (idx x y) v) (p.own (x/16) (y/16) n) K L=needs (ownS s k p (x/16) (y/16) n) (p.own (x/16) (y/16) n) K L:=rfl
   rw[e1]
   unfold needs
   rw[htl]
   by_cases hKL:K=x/16∧L=y/16
   ·rw[if_pos hKL,hKL.1,hKL.2]
    simp[r1]
   ·have hb:(K==x/16&&L==y/16)=false:=by
     rw[←Bool.not_eq_true,Bool.and_eq_true,beq_iff_eq,beq_iff_eq];exact hKL
    rw[if_neg hKL,hb]
    cases ht:tileOf p.en K L with
    |none=>rfl
    |some t=>
     have htn:t≠n:=fun h'=>hn (h'▸(refs_of_tile h hp ht).2)
     have:=r2 t htn
     have hne: ¬tileOf p.en (x/16) (y/16)=some t:=fun h'=>hKL (tile_inj h hp ht h')
     rw[if_neg hne] at this
     simp only[Nat.add_zero] at this
     simp only[]
     rw[this];simp
  ·show tileOf (p.own (x/16) (y/16) n).en K L=_
   rw[htl,hneed];simp
  ·show t∈(wrTs _ _ _ _).map (·.1)
   rw[wrTs_keys]
   exact List.mem_cons_of_mem _ ht
theorem wrote_ok{cap:Int}{s:St}(h:Ok cap s){k:Nat}{p:Pl}(hk:s.pls[k]?=some p){x y v:Int}(hv:0≤v∧v<4294967296){s':St}(hw:Wrote s k p x y v s'):Ok cap s':=by
 rcases hw with ⟨_,t,_,_,rfl⟩|⟨hneed,hfree,n,hn,rfl⟩
 ·exact wrS_ok h _ _ hv.1 hv.2
 ·exact wrS_ok (ownS_ok h hk hneed hfree hn) _ _ hv.1 hv.2
def hit(s:St)(p:Pl)(v:Int)(c:Int×Int):Prop:=pxAt s p c.1 c.2≠v∧needs s p (c.1/16) (c.2/16)=true
theorem mem_needKeys(s:St)(p:Pl)(v:Int): ∀(cs ks:List (Int×Int)) (K:Int×Int),K∈needKeys s p v cs ks↔K∈ks∨ ∃c∈cs,hit s p v c∧K=(c.1/16,c.2/16)
 |[],ks,K=>by simp[needKeys]
 |c::r,ks,K=>by
  unfold needKeys
  rw[mem_needKeys s p v r]
  by_cases hc:pxAt s p c.1 c.2≠v∧needs s p (c.1/16) (c.2/16)=true
  ·rw[if_pos hc]
   by_cases hm:(c.1/16,c.2/16)∈ks
   ·rw[if_pos hm]
    constructor
    ·rintro(h|⟨c',h1,h2,h3⟩)
     ·exact .inl h
     ·exact .inr ⟨c',List.mem_cons_of_mem _ h1,h2,h3⟩
    ·rintro(h|⟨c',h1,h2,h3⟩)
     ·exact .inl h
     ·rcases List.mem_cons.1 h1 with rfl|h1
      ·exact .inl (h3▸hm)
      ·exact .inr ⟨c',h1,h2,h3⟩
   ·rw[if_neg hm]
    constructor
    ·rintro(h|⟨c',h1,h2,h3⟩)
     ·rcases List.mem_append.1 h with h|h
      ·exact .inl h
      ·exact .inr ⟨c,List.mem_cons_self,hc,by simpa using h⟩
     ·exact .inr ⟨c',List.mem_cons_of_mem _ h1,h2,h3⟩
    ·rintro(h|⟨c',h1,h2,h3⟩)
     ·exact .inl (List.mem_append_left _ h)
     ·rcases List.mem_cons.1 h1 with rfl|h1
      ·exact .inl (List.mem_append_right _ (by simp[h3]))
      ·exact .inr ⟨c',h1,h2,h3⟩
  ·rw[if_neg hc]
   constructor
   ·rintro(h|⟨c',h1,h2,h3⟩)
    ·exact .inl h
    ·exact .inr ⟨c',List.mem_cons_of_mem _ h1,h2,h3⟩
   ·rintro(h|⟨c',h1,h2,h3⟩)
    ·exact .inl h
    ·rcases List.mem_cons.1 h1 with rfl|h1
     ·exact absurd h2 hc
     ·exact .inr ⟨c',h1,h2,h3⟩
theorem nodup_needKeys(s:St)(p:Pl)(v:Int): ∀(cs ks:List (Int×Int)),ks.Nodup→(needKeys s p v cs ks).Nodup
 |[],ks,h=>h
 |c::r,ks,h=>by
  unfold needKeys
  refine nodup_needKeys s p v r _ ?_
  split
  ·split
   ·exact h
   ·rename_i hm
    rw[List.nodup_append]
    exact⟨h,by simp,fun a ha b hb=>by simp at hb;subst hb;intro heq;exact hm (heq▸ha)⟩
  ·exact h
theorem nodup_length_le{α:Type}[DecidableEq α]: ∀{l m:List α},l.Nodup→(∀a∈l,a∈m)→l.length≤m.length
 |[],_,_,_=>by simp
 |a::r,m,h,hs=>by
  have ha:=hs a List.mem_cons_self
  have h1:=List.nodup_cons.1 h
  have:=nodup_length_le (m:=m.erase a) h1.2 fun b hb=>by
   have hne:b≠a:=fun he=>h1.1 (he▸hb)
   exact(List.mem_erase_of_ne hne).2 (hs b (List.mem_cons_of_mem _ hb))
  rw[List.length_erase_of_mem ha] at this
  have hpos:0<m.length:=List.length_pos_of_mem ha
  simp only[List.length_cons]
  omega
theorem needKeys_step{cap:Int}{s:St}(h:Ok cap s){k:Nat}{p:Pl}(hk:s.pls[k]?=some p){x y v:Int}(hin:p.has x y=true)(hne:pxAt s p x y≠v){s':St}(hw:Wrote s k p x y v s'){p':Pl}
 (hp':s'.pls[k]?=some p')(r:List (Int×Int)):
 (needKeys s' p' v r []).length+(if needs s p (x/16) (y/16)=true then 1 else 0)=(needKeys s p v ((x,y)::r) []).length:=by
 obtain⟨p1,st⟩:=wrote_step h hk hw
 have:p1=p':=by have:=st.pk;rw[hp'] at this;exact(Option.some.inj this).symm
 subst this
 have hv:=wrote_views h hk hin hw
 obtain⟨q',hq',_,hpx⟩:=hv.pl k p hk
 rw[hp'] at hq';cases hq'
 have hhit: ∀c,hit s' p1 v c↔(hit s p v c∧ ¬((c.1/16,c.2/16)=(x/16,y/16))):=by
  intro c
  unfold hit
  rw[hpx,st.need]
  simp only[put1,Bool.and_eq_true,Bool.not_eq_true',Prod.mk.injEq]
  have hb:(c.1/16==x/16&&c.2/16==y/16)=false↔ ¬(c.1/16=x/16∧c.2/16=y/16):=by
   rw[←Bool.not_eq_true,Bool.and_eq_true,beq_iff_eq,beq_iff_eq]
  rw[hb]
  by_cases hc:c.1=x∧c.2=y
  ·rw[if_pos ⟨trivial,hc.1,hc.2⟩,hc.1,hc.2]
   simp
  ·rw[if_neg (fun h=>hc ⟨h.2.1,h.2.2⟩)]
   constructor
   ·rintro⟨a,b,c⟩;exact⟨⟨a,b⟩,c⟩
   ·rintro⟨⟨a,b⟩,c⟩;exact⟨a,b,c⟩
 have n1:=nodup_needKeys s' p1 v r [] List.nodup_nil
 have n2:=nodup_needKeys s p v ((x,y)::r) [] List.nodup_nil
 have m1:=mem_needKeys s' p1 v r []
 have m2:=mem_needKeys s p v ((x,y)::r) []
 have hsub: ∀K∈needKeys s' p1 v r [],K∈needKeys s p v ((x,y)::r) []∧K≠(x/16,y/16):=by
  intro K hK
  rcases (m1 K).1 hK with h'|⟨c,hc,hh,rfl⟩
  ·cases h'
  ·have:=(hhit c).1 hh
   exact⟨(m2 _).2 (.inr ⟨c,List.mem_cons_of_mem _ hc,this.1,rfl⟩),this.2⟩
 have hsup: ∀K∈needKeys s p v ((x,y)::r) [],K≠(x/16,y/16)→K∈needKeys s' p1 v r []:=by
  intro K hK hne'
  rcases (m2 K).1 hK with h'|⟨c,hc,hh,rfl⟩
  ·cases h'
  ·rcases List.mem_cons.1 hc with rfl|hc
   ·exact absurd rfl hne'
   ·exact(m1 _).2 (.inr ⟨c,hc,(hhit c).2 ⟨hh,hne'⟩,rfl⟩)
 by_cases hnd:needs s p (x/16) (y/16)=true
 ·rw[if_pos hnd]
  have hmem:(x/16,y/16)∈needKeys s p v ((x,y)::r) []:=(m2 _).2 (.inr ⟨(x,y),List.mem_cons_self,⟨hne,hnd⟩,rfl⟩)
  have l1:=nodup_length_le (l:=(x/16,y/16)::needKeys s' p1 v r []) (m:=needKeys s p v ((x,y)::r) []) (List.nodup_cons.2 ⟨fun hh=>(hsub _ hh).2 rfl,n1⟩) (fun K hK=>by
   rcases List.mem_cons.1 hK with rfl|hK
   ·exact hmem
   ·exact(hsub K hK).1)
  have l2:=nodup_length_le (l:=needKeys s p v ((x,y)::r) []) (m:=(x/16,y/16)::needKeys s' p1 v r []) n2 (fun K hK=>by
   by_cases hKe:K=(x/16,y/16)
   ·exact hKe▸List.mem_cons_self
   ·exact List.mem_cons_of_mem _ (hsup K hK hKe))
  simp only[List.length_cons] at l1 l2
  omega
 ·rw[if_neg hnd]
  have hno:(x/16,y/16)∉needKeys s p v ((x,y)::r) []:=fun hh=>by
   rcases (m2 _).1 hh with h'|⟨c,hc,hh,heq⟩
   ·cases h'
   ·simp only[Prod.mk.injEq] at heq
    have:=hh.2
    rw[←heq.1,←heq.2] at this
    exact hnd this
  have l1:=nodup_length_le n1 fun K hK=>(hsub K hK).1
  have l2:=nodup_length_le n2 fun K hK=>hsup K hK (fun he=>hno (he▸hK))
  omega
end Go.Tile
namespace Go.Proofs
open Go.Sh Go.Tile
def seenG{α:Type}(g:α→MapEntry)(done:List α):Array Nat:=(done.map fun e=>(g e).born).toArray
theorem findStamp{α:Type}{g:α→MapEntry}: ∀{en:List α} {e:α},(en.map fun e=>(g e).born).Nodup→e∈en→(en.map g).toArray.find? (fun y=>y.born==(g e).born)=some (g e):=by
 intro en e hn he
 rw[List.find?_toArray]
 induction en with
 |nil=>cases he
 |cons f r ih=>
  rw[List.map_cons,List.nodup_cons] at hn
  rw[List.map_cons,List.find?_cons]
  rcases List.mem_cons.1 he with rfl|he
  ·simp
  ·have hne:(g f).born≠(g e).born:=fun h=>hn.1 (by rw[h];exact List.mem_map.2 ⟨e,he,rfl⟩)
   have:((g f).born==(g e).born)=false:=by simpa using hne
   rw[this]
   exact ih hn.2 he
theorem nextStamp{α:Type}{g:α→MapEntry}{H:Heap}{r m:Nat}{en done:List α}{clk:Nat}{Kd:Heap→Prop}{Kn:MapEntry→Heap→Prop}(hr:H[r]?=some (.mapIter (some m) clk (seenG g done) clk))
 (hm:H[m]?=some (.map (en.map g).toArray clk))(hlt: ∀e∈en,(g e).born<clk)(hd:(∀e∈en,(g e).born∈done.map fun e=>(g e).born)→Kd H)
 (hn: ∀e∈en,((g e).born∉done.map fun e=>(g e).born)→Kn (g e) (H.setIfInBounds r (.mapIter (some m) clk (seenG g (done++[e])) clk))):nextQ H r Kd Kn:=by
 refine .inr ⟨m,clk,seenG g done,clk,_,clk,hr,hm,?_,fun h=>hd fun e he=>?_,fun y hy hc=>?_⟩
 ·cases en with
  |nil=>simp
  |cons f r=>
   have:decide ((g f).born≥clk)=false:=by have:=hlt f List.mem_cons_self;simp;omega
   simp[this]
 ·have hnil:((en.map g).toArray.filter fun e=> !(seenG g done).contains e.born&&decide (e.born<clk))=#[]:=by simpa using h
  by_cases hc:(g e).born∈done.map fun e=>(g e).born
  ·exact hc
  ·exfalso
   have:g e∈((en.map g).toArray.filter fun e=> !(seenG g done).contains e.born&&decide (e.born<clk)):=by
    rw[Array.mem_filter]
    refine⟨by simpa using⟨e,he,rfl⟩,?_⟩
    have h1:(seenG g done).contains (g e).born=false:=by
     rw[←Bool.not_eq_true,Array.contains_iff_mem]
     simpa[seenG] using hc
    rw[h1]
    have h2:(g e).born<clk:=hlt e he
    simp[h2]
   rw[hnil] at this
   simp at this
 ·simp only[List.mem_map] at hy
  obtain⟨e,he,rfl⟩:=hy
  have hc':(g e).born∉done.map fun e=>(g e).born:=by
   rw[←Bool.not_eq_true,Array.contains_iff_mem] at hc
   simpa[seenG] using hc
  have:=hn e he hc'
  have h2:(seenG g done).push (g e).born=seenG g (done++[e]):=by simp[seenG]
  rw[h2]
  exact this
def seenOf(done:List En):Array Nat:=(done.map (·.born)).toArray
theorem find_born{en:List En}{e:En}(hn:(en.map (·.born)).Nodup)(he:e∈en):(en.map tenc).toArray.find? (fun y=>y.born==e.born)=some (tenc e):=findStamp (g:=tenc) hn he
theorem nextQ_en{H:Heap}{r m:Nat}{en done:List En}{clk:Nat}{Kd:Heap→Prop}{Kn:MapEntry→Heap→Prop}(hr:H[r]?=some (.mapIter (some m) clk (seenOf done) clk))
 (hm:H[m]?=some (.map (en.map tenc).toArray clk))(hlt: ∀e∈en,e.born<clk)(hd:(∀e∈en,e.born∈done.map (·.born))→Kd H)
 (hn: ∀e∈en,e.born∉done.map (·.born)→Kn (tenc e) (H.setIfInBounds r (.mapIter (some m) clk (seenOf (done++[e])) clk))):nextQ H r Kd Kn:=nextStamp (g:=tenc) hr hm hlt hd hn
theorem seen_back(done:List En)(e:En):(seenOf (done++[e])).back?=some e.born:=by simp[seenOf]
def cp(done:List En):List En:=done.zipIdx.map fun z=>⟨z.1.x,z.1.y,z.1.t,z.2⟩
theorem cp_append(done:List En)(e:En):cp (done++[e])=cp done++[⟨e.x,e.y,e.t,done.length⟩]:=by simp[cp,List.zipIdx_append]
theorem cp_map'{α:Type}(f:Int→Int→Nat→α): ∀(done:List En) (n:Nat),(done.zipIdx n).map (fun z=>f z.1.x z.1.y z.1.t)=done.map fun e=>f e.x e.y e.t
 |[],_=>rfl
 |e::r,n=>by rw[List.zipIdx_cons,List.map_cons,List.map_cons,cp_map' f r]
theorem cp_map{α:Type}(f:Int→Int→Nat→α)(done:List En):(cp done).map (fun e=>f e.x e.y e.t)=done.map fun e=>f e.x e.y e.t:=by
 rw[←cp_map' f done 0,cp,List.map_map];rfl
theorem cp_born': ∀(done:List En) (n:Nat),((done.zipIdx n).map fun z=>(⟨z.1.x,z.1.y,z.1.t,z.2⟩:En)).map (·.born)=List.range' n done.length
 |[],_=>rfl
 |e::r,n=>by
  rw[List.zipIdx_cons,List.map_cons,List.map_cons,cp_born' r,List.length_cons,List.range'_succ]
theorem cp_born(done:List En):(cp done).map (·.born)=List.range' 0 done.length:=cp_born' done 0
theorem cp_count(done:List En)(t:Nat):(cp done).countP (·.t==t)=done.countP (·.t==t):=by
 have h1: ∀l:List En,l.countP (·.t==t)=(l.map fun e=>(fun(_ _:Int) (u:Nat)=>u) e.x e.y e.t).countP (· ==t):=fun l=>by rw[List.countP_map];rfl
 rw[h1,h1,cp_map (fun _ _ u=>u)]
theorem tileOf_cp'(X Y:Int): ∀(done:List En) (n:Nat),tileOf ((done.zipIdx n).map fun z=>(⟨z.1.x,z.1.y,z.1.t,z.2⟩:En)) X Y=tileOf done X Y
 |[],_=>rfl
 |e::r,n=>by
  rw[List.zipIdx_cons,List.map_cons,tileOf_cons,tileOf_cons,tileOf_cp' X Y r]
  rfl
theorem tileOf_cp(done:List En)(X Y:Int):tileOf (cp done) X Y=tileOf done X Y:=tileOf_cp' X Y done 0
theorem tileOf_none_iff{en:List En}{X Y:Int}:tileOf en X Y=none↔(X,Y)∉en.map fun e=>(e.x,e.y):=by
 unfold tileOf
 rw[Option.map_eq_none_iff,List.find?_eq_none]
 constructor
 ·intro h hm
  obtain⟨e,he,heq⟩:=List.mem_map.1 hm
  simp only[Prod.mk.injEq] at heq
  exact h e he (at_iff.2 ⟨heq.1.symm,heq.2.symm⟩)
 ·intro h e he ha
  have:=at_iff.1 ha
  exact h (List.mem_map.2 ⟨e,he,by rw[this.1,this.2]⟩)
theorem tileOf_of_mem{en:List En}(hn:(en.map fun e=>(e.x,e.y)).Nodup){e:En}(he:e∈en):tileOf en e.x e.y=some e.t:=by
 induction en with
 |nil=>cases he
 |cons f r ih=>
  rw[List.map_cons,List.nodup_cons] at hn
  rw[tileOf_cons]
  rcases List.mem_cons.1 he with rfl|he
  ·rw[if_pos (at_iff.2 ⟨rfl,rfl⟩)]
  ·rw[if_neg,ih hn.2 he]
   intro ha
   have:=at_iff.1 ha
   exact hn.1 (by rw[←this.1,←this.2];exact List.mem_map.2 ⟨e,he,rfl⟩)
structure Same(done en:List En):Prop where
 sub: ∀e∈done,e∈en
 all: ∀e∈en,e∈done
 nd:done.Nodup
theorem nodup_of_map{α β:Type}{f:α→β}: ∀{l:List α},(l.map f).Nodup→l.Nodup
 |[],_=>List.nodup_nil
 |a::r,h=>by
  rw[List.map_cons,List.nodup_cons] at h
  exact List.nodup_cons.2 ⟨fun hm=>h.1 (List.mem_map.2 ⟨a,hm,rfl⟩),nodup_of_map h.2⟩
theorem nodup_map_of{α β:Type}{f:α→β}{en:List α}(hn:(en.map f).Nodup){a b:α}(ha:a∈en)(hb:b∈en)(h:f a=f b):a=b:=by
 induction en with
 |nil=>cases ha
 |cons c r ih=>
  rw[List.map_cons,List.nodup_cons] at hn
  rcases List.mem_cons.1 ha with rfl|ha'
  ·rcases List.mem_cons.1 hb with rfl|hb'
   ·rfl
   ·exact absurd (List.mem_map.2 ⟨b,hb',h.symm⟩) hn.1
  ·rcases List.mem_cons.1 hb with rfl|hb'
   ·exact absurd (show f b∈r.map f from(by rw[←h];exact List.mem_map.2 ⟨a,ha',rfl⟩)) hn.1
   ·exact ih hn.2 ha' hb'
theorem map_nodup_of{α β:Type}{f:α→β}{done en:List α}(hn:(en.map f).Nodup)(hs: ∀e∈done,e∈en)(hd:done.Nodup):(done.map f).Nodup:=by
 induction done with
 |nil=>exact List.nodup_nil
 |cons a r ih=>
  rw[List.nodup_cons] at hd
  rw[List.map_cons,List.nodup_cons]
  refine⟨fun hm=>?_,ih (fun e he=>hs e (List.mem_cons_of_mem _ he)) hd.2⟩
  obtain⟨b,hb,heq⟩:=List.mem_map.1 hm
  have:=nodup_map_of hn (hs b (List.mem_cons_of_mem _ hb)) (hs a List.mem_cons_self) heq
  rw[this] at hb
  exact hd.1 hb
theorem Same.perm{done en:List En}(h:Same done en)(hn:en.Nodup):done.Perm en:=by
 refine(List.perm_ext_iff_of_nodup h.nd hn).2 fun a=>⟨h.sub a,h.all a⟩
theorem sub_count{done en:List En}(hs: ∀e∈done,e∈en)(hd:done.Nodup)(t:Nat):done.countP (·.t==t)≤en.countP (·.t==t):=by
 rw[List.countP_eq_length_filter,List.countP_eq_length_filter]
 haveI:DecidableEq En:=fun a b=>Classical.propDecidable _
 refine nodup_length_le (List.Pairwise.filter _ hd) fun a ha=>?_
 rw[List.mem_filter] at ha ⊢
 exact⟨hs a ha.1,ha.2⟩
end Go.Proofs
namespace Go.Proofs
open Go.Sh Go.Tile
def snapPl(p:Pl)(b m:Nat)(done:List En):Pl:=⟨b,m,p.w,p.h,cp done,done.length⟩
def snapS(s:St)(q:Pl):St:={s with pls:=s.pls++[q]}
theorem refs_snap(s:St)(p:Pl)(b m:Nat)(done:List En)(t:Nat):refs (snapS s (snapPl p b m done)).pls t=refs s.pls t+done.countP (·.t==t):=by
 show refs (s.pls++[snapPl p b m done]) t=_
 rw[refs_append]
 show refs s.pls t+((cp done).countP (·.t==t)+0)=_
 rw[cp_count];omega
theorem snap_ok{cap:Int}{s:St}{p:Pl}{b m:Nat}{done:List En}(hok:Ok cap s)(hp:p∈s.pls)(hs:Same done p.en)(hb:b∉s.pls.map (·.b))(hm:m∉s.pls.map (·.m))(hlen:s.pls.length<1000000):
 Ok cap (snapS s (snapPl p b m done)):=by
 have pok:=hok.pl p hp
 refine⟨fun q hq=>?_,?_,?_,hok.ts,hok.px,fun t=>?_,hok.count,hok.free,fun q hq t=>?_,?_,hok.capb⟩
 ·rcases List.mem_append.1 hq with hq|hq
  ·exact hok.pl q hq
  ·rw[List.mem_singleton] at hq;subst hq
   refine⟨?_,?_,fun e he=>?_,pok.w0,pok.w1,pok.h0,pok.h1⟩
   ·show((cp done).map fun e=>(e.x,e.y)).Nodup
    rw[cp_map (fun x y _=>(x,y))]
    exact map_nodup_of pok.keys hs.sub hs.nd
   ·show((cp done).map (·.born)).Nodup
    rw[cp_born];exact List.nodup_range'
   ·have:e.born∈(cp done).map (·.born):=List.mem_map.2 ⟨e,he,rfl⟩
    rw[cp_born,List.mem_range'] at this
    obtain⟨i,hi,h⟩:=this
    show e.born<done.length
    omega
 ·show((s.pls++[snapPl p b m done]).map (·.b)).Nodup
  rw[List.map_append,List.nodup_append]
  refine⟨hok.bs,by simp,fun a ha c hc hac=>?_⟩
  simp[snapPl] at hc
  subst hc;subst hac;exact hb ha
 ·show((s.pls++[snapPl p b m done]).map (·.m)).Nodup
  rw[List.map_append,List.nodup_append]
  refine⟨hok.ms,by simp,fun a ha c hc hac=>?_⟩
  simp[snapPl] at hc
  subst hc;subst hac;exact hm ha
 ·show 0<refs (snapS s (snapPl p b m done)).pls t↔t∈s.ts.map (·.1)
  rw[refs_snap,←hok.live t]
  refine⟨fun h=>?_,fun h=>by omega⟩
  rcases Nat.eq_zero_or_pos (refs s.pls t) with h0|h0
  ·have hc:0<done.countP (·.t==t):=by omega
   obtain⟨e,he,het⟩:=List.countP_pos_iff.1 hc
   have:=refs_pos hp (hs.sub e he)
   have het':e.t=t:=by simpa using het
   rw[het'] at this
   exact this
  ·exact h0
 ·rcases List.mem_append.1 hq with hq|hq
  ·exact hok.one q hq t
  ·rw[List.mem_singleton] at hq;subst hq
   show(cp done).countP (·.t==t)≤1
   rw[cp_count]
   exact Nat.le_trans (sub_count hs.sub hs.nd t) (hok.one p hp t)
 ·show(s.pls++[snapPl p b m done]).length≤1000000
  simp;omega
theorem same_tileOf{done en:List En}(hs:Same done en)(hk:(en.map fun e=>(e.x,e.y)).Nodup)(X Y:Int):tileOf done X Y=tileOf en X Y:=by
 have hkd:=map_nodup_of hk hs.sub hs.nd
 cases h:tileOf en X Y with
 |none=>
  rw[tileOf_none_iff] at h ⊢
  intro hm
  obtain⟨e,he,heq⟩:=List.mem_map.1 hm
  exact h (List.mem_map.2 ⟨e,hs.sub e he,heq⟩)
 |some t=>
  obtain⟨e,he,ha,rfl⟩:=tileOf_mem h
  have:=at_iff.1 ha
  rw[this.1,this.2]
  exact tileOf_of_mem hkd (hs.all e he)
set_option maxHeartbeats 2000000 in
theorem c80{cap:Int}{H:Heap}{s:St}(hin:In H s)(hok:Ok cap s){p:Pl}(hp:p∈s.pls)(hlen:s.pls.length<1000000){R:Value→Heap→Prop}
 (hR: ∀H' b m done,H.size≤b→Same done p.en→Goes cap H s H' (snapS s (snapPl p b m done))→R (.pointer (some ⟨b,0,none⟩)) H'):
 CallsH Tryz.prog 80 #[.pointer (some ⟨p.b,0,none⟩)] H R:=by
 have pok:=hok.pl p hp
 refine Tryz.s80 ?_
 unfold Tryz.S80 alc
 refine⟨_,rfl,_,cell_get (hin.plane p hp) rfl,_,rfl,p.w,cell_get (hin.plane p hp) rfl,_,rfl,p.h,cell_get (hin.plane p hp) rfl,.inl (Ext.push _ _),?_⟩
 have hsz1:(H.push (.map #[] 0)).size=H.size+1:=by simp
 rw[hsz1]
 generalize hH2:(H.push (.map #[] 0)).push _=H2
 have e2:Ext H H2:=by subst hH2;exact(Ext.push _ _).trans (Ext.push _ _)
 have hm2:H2[H.size]?=some (.map #[] 0):=by subst hH2;exact get_push (get_push_self _ _)
 have hb2:H2[H.size+1]?=some (planeO s.A (snapPl p (H.size+1) H.size [])):=by subst hH2;rw[←hsz1];exact get_push_self _ _
 have s2:H2.size=H.size+2:=by subst hH2;simp
 have hin2:=hin.ext e2
 refine⟨_,rfl,_,cell_get (hin2.plane p hp) rfl,p.clk,⟨_,hin2.map p hp⟩,?_⟩
 rw[s2]
 generalize hH3:H2.push _=H3
 have e3:Ext H2 H3:=by subst hH3;exact Ext.push _ _
 have hr3:H3[H.size+2]?=some (.mapIter (some p.m) p.clk (seenOf []) p.clk):=by subst hH3;rw[←s2];exact get_push_self _ _
 have s3:H3.size=H.size+3:=by subst hH3;simp[s2]
 intro X hX
 have hnew: ∀z∈s.ts,z.1<H.size:=fun z hz=>lt_of_get (hin.tile z hz)
 have loop: ∀(n:Nat) (done:List En) (H4:Heap),p.en.length-done.length=n→(∀e∈done,e∈p.en)→done.Nodup→In H4 (snapS s (snapPl p (H.size+1) H.size done))→
  H4[H.size+2]?=some (.mapIter (some p.m) p.clk (seenOf done) p.clk)→(∀b o,H[b]?=some o→ ¬owned s b→H4[b]?=some o)→H.size+3≤H4.size→X [] H4:=by
  intro n
  induction n using Nat.strongRecOn with
  |_ n ih=>
   intro done H4 hn hsub hnd hin4 hr4 hfr hs4
   have hpq:p∈(snapS s (snapPl p (H.size+1) H.size done)).pls:=List.mem_append_left _ hp
   have hmp:H4[p.m]?=some (.map (p.en.map tenc).toArray p.clk):=hin4.map p hpq
   refine hX H4 (nextQ_en hr4 hmp pok.clk (fun hall=>br_false ?_) (fun e he hne=>br_true ?_))
   ·-- all were seen
    have hs:Same done p.en:=⟨hsub,fun e he=>by
     obtain⟨f,hf,hfb⟩:=List.mem_map.1 (hall e he)
     rw[←nodup_map_of pok.born (hsub f hf) he hfb];exact hf,hnd⟩
    refine hR H4 (H.size+1) H.size done (by omega) hs ⟨hin4,snap_ok hok hp hs (fun h=>?_) (fun h=>?_) hlen,hfr,fun b hb=>?_,by omega⟩
    ·obtain⟨q,hq,hqb⟩:=List.mem_map.1 h
     have:=lt_of_get (hin.plane q hq);omega
    ·obtain⟨q,hq,hqb⟩:=List.mem_map.1 h
     have:=lt_of_get (hin.map q hq);omega
    ·rcases hb with hb|⟨q,hq,hb⟩|hb
     ·exact .inl (.inl hb)
     ·rcases List.mem_append.1 hq with hq|hq
      ·exact .inl (.inr (.inl ⟨q,hq,hb⟩))
      ·rw[List.mem_singleton] at hq;subst hq
       right;rw[hb];exact Nat.le_refl _
     ·exact .inl (.inr (.inr hb))
   ·-- an entry
    have hnd':(done++[e]).Nodup:=by
     rw[List.nodup_append]
     refine⟨hnd,by simp,fun a ha b hb hab=>?_⟩
     simp at hb
     exact hne (List.mem_map.2 ⟨a,ha,by rw[hab,hb]⟩)
    have hsub': ∀f∈done++[e],f∈p.en:=fun f hf=>by
     rcases List.mem_append.1 hf with hf|hf
     ·exact hsub f hf
     ·simp at hf;subst hf;exact he
    have hlt:done.length<p.en.length:=by
     haveI:DecidableEq En:=fun a b=>Classical.propDecidable _
     have:=nodup_length_le hnd' hsub'
     simp at this;omega
    have htile:tileOf p.en e.x e.y=some e.t:=tileOf_of_mem pok.keys he
    obtain⟨l,_,hm,hl,_⟩:=hok.px_of hp htile
    have ht4:H4[e.t]?=some (tileO l ((refs (snapS s (snapPl p (H.size+1) H.size done)).pls e.t:Nat):Int)):=hin4.tile _ hm
    have hb4:=hin4.plane _ (show snapPl p (H.size+1) H.size done∈(snapS s (snapPl p (H.size+1) H.size done)).pls from List.mem_append_right _ (List.mem_singleton.2 rfl))
    have hm4:=hin4.map _ (show snapPl p (H.size+1) H.size done∈(snapS s (snapPl p (H.size+1) H.size done)).pls from List.mem_append_right _ (List.mem_singleton.2 rfl))
    generalize hH5:H4.setIfInBounds (H.size+2) _=H5
    have hr5:H5[H.size+2]?=some (.mapIter (some p.m) p.clk (seenOf (done++[e])) p.clk):=by subst hH5;exact get_set_self hr4
    have f5: ∀b o,H4[b]?=some o→b≠H.size+2→H5[b]?=some o:=fun b o hb hne=>by subst hH5;exact get_set_ne (Ne.symm hne) hb
    have s5:H5.size=H4.size:=by subst hH5;simp
    have hm5:H5[p.m]?=some (.map (p.en.map tenc).toArray p.clk):=f5 _ _ hmp (ne_of_get hmp hr4 (fun h=>by cases h))
    refine⟨p.m,_,_,_,e.born,_,tenc e,hr5,seen_back done e,hm5,find_born pok.born he,#[.int .i64 e.x,.int .i64 e.y],rfl,some ⟨e.t,0,none⟩,rfl,?_⟩
    refine⟨rfl,stAt_whole (get_push_self _ _) rfl (by simp[Value.oneCell']) ?_⟩
    generalize hH6:Array.setIfInBounds _ _ _=H6
    have e6:Ext H5 H6:=by
     subst hH6
     exact fun b o hb=>get_set_ne (Nat.ne_of_gt (lt_of_get hb)) (get_push hb)
    have hk6:H6[H5.size]?=some (.cells #[Value.int .i64 e.x,Value.int .i64 e.y] 153):=by
     subst hH6
     exact get_set_self (get_push_self _ _)
    have ht6:=e6 _ _ (f5 _ _ ht4 (ne_of_get ht4 hr4 (fun h=>by cases h)))
    refine⟨_,rfl,_,tile_users ht6 hl,_,rfl,?_⟩
    have hc1:refs s.pls e.t≤s.pls.length:=refs_le hok.one e.t
    have hc2:done.countP (·.t==e.t)≤1:=Nat.le_trans (sub_count hsub hnd e.t) (hok.one p hp e.t)
    have hru:=refs_snap s p (H.size+1) H.size done e.t
    rw[wrap_id (by omega) (by omega)]
    simp only[add_none,Nat.zero_add]
    refine stAt_users ht6 hl ?_
    generalize hH7:Array.setIfInBounds _ _ _=H7
    have ht7:H7[e.t]?=some (tileO l ((refs (snapS s (snapPl p (H.size+1) H.size done)).pls e.t:Nat)+1)):=by subst hH7;exact get_set_self ht6
    have f7: ∀b o,H6[b]?=some o→b≠e.t→H7[b]?=some o:=fun b o hb hne=>by subst hH7;exact get_set_ne (Ne.symm hne) hb
    have f47: ∀b o,H4[b]?=some o→b≠H.size+2→b≠e.t→H7[b]?=some o:=fun b o hb h1 h2=>f7 _ _ (e6 _ _ (f5 _ _ hb h1)) h2
    have hb7:=f47 _ _ hb4 (ne_of_get hb4 hr4 (fun h=>by cases h)) (ne_of_ty hb4 ht4 (by decide))
    have hm7:=f47 _ _ hm4 (ne_of_get hm4 hr4 (fun h=>by cases h)) (ne_of_map' hm4 ht4)
    have hk7:=f7 _ _ hk6 (ne_of_ty hk6 ht6 (by decide))
    refine⟨_,rfl,some H.size,cell_get hb7 rfl,_,rfl,rowIn_whole hk7,updQ_enc (en:=cp done) (clk:=done.length) hm7 ?_⟩
    have hnone:tileOf (cp done) e.x e.y=none:=by
     rw[tileOf_cp,tileOf_none_iff]
     intro hm
     obtain⟨f,hf,hfk⟩:=List.mem_map.1 hm
     have:=nodup_map_of pok.keys (hsub f hf) he hfk
     rw[this] at hf
     exact hne (List.mem_map.2 ⟨e,hf,rfl⟩)
    have hset:setEn e.x e.y e.t done.length (cp done)=cp (done++[e]):=by rw[set_none _ _ hnone,cp_append]
    have hclk:setClk (cp done) e.x e.y done.length=(done++[e]).length:=by simp[setClk,hnone]
    rw[hset,hclk]
    generalize hH8:Array.setIfInBounds _ _ _=H8
    have f8: ∀b o,H7[b]?=some o→b≠H.size→H8[b]?=some o:=fun b o hb hne=>by subst hH8;exact get_set_ne (Ne.symm hne) hb
    have hm8:H8[H.size]?=some (tmapO (snapPl p (H.size+1) H.size (done++[e]))):=by subst hH8;exact get_set_self hm7
    have f48: ∀b o,H4[b]?=some o→b≠H.size+2→b≠e.t→b≠H.size→H8[b]?=some o:=fun b o hb h1 h2 h3=>f8 _ _ (f47 b o hb h1 h2) h3
    have hr8:H8[H.size+2]?=some (.mapIter (some p.m) p.clk (seenOf (done++[e])) p.clk):=
     f8 _ _ (f7 _ _ (e6 _ _ hr5) (ne_of_get (e6 _ _ hr5) ht6 (fun h=>by cases h))) (by omega)
    have s8:H4.size≤H8.size:=by
     subst hH8 hH7
     have:=e6.size
     simp;omega
    refine ih (p.en.length-(done++[e]).length) (by simp;omega) (done++[e]) H8 rfl hsub' hnd' ⟨?_,fun q hq=>?_,fun q hq=>?_,fun z hz=>?_⟩ hr8 (fun b o hb hno=>?_) (by omega)
    ·exact f48 _ _ hin4.arena (ne_of_get hin4.arena hr4 (fun h=>by cases h)) (ne_of_ty hin4.arena ht4 (by decide)) (ne_of_map hin4.arena hm4)
    ·have key: ∀q',H4[q'.b]?=some (planeO s.A q')→H8[q'.b]?=some (planeO s.A q'):=fun q' h=>
      f48 _ _ h (ne_of_get h hr4 (fun h=>by cases h)) (ne_of_ty h ht4 (by decide)) (ne_of_map h hm4)
     rcases List.mem_append.1 hq with hq|hq
     ·exact key q (hin4.plane q (List.mem_append_left _ hq))
     ·rw[List.mem_singleton] at hq;subst hq
      exact f48 _ _ hb4 (ne_of_get hb4 hr4 (fun h=>by cases h)) (ne_of_ty hb4 ht4 (by decide)) (ne_of_map hb4 hm4)
    ·rcases List.mem_append.1 hq with hq|hq
     ·have h:=hin4.map q (List.mem_append_left _ hq)
      have:=lt_of_get (hin.map q hq)
      exact f48 _ _ h (ne_of_get h hr4 (fun h=>by cases h)) (ne_of_map' h ht4) (by omega)
     ·rw[List.mem_singleton] at hq;subst hq
      exact hm8
    ·show H8[z.1]?=some (tileO z.2 ((refs (snapS s (snapPl p (H.size+1) H.size (done++[e]))).pls z.1:Nat):Int))
     rw[refs_snap,List.countP_append]
     by_cases hze:z.1=e.t
     ·have hz2:z.2=l:=by
       have:=nodup_map_of hok.ts hz hm (by exact hze)
       rw[this]
      rw[hze,hz2]
      have h8:=f8 _ _ ht7 (ne_of_map ht7 hm7)
      rw[h8,refs_snap]
      simp only[List.countP_cons,List.countP_nil,beq_self_eq_true,if_true]
      congr 2
     ·have hc:[e].countP (·.t==z.1)=0:=by
       simp only[List.countP_cons,List.countP_nil]
       rw[if_neg (by simpa using fun h=>hze h.symm)]
      rw[hc,Nat.add_zero]
      have h:=hin4.tile z hz
      have h':=refs_snap s p (H.size+1) H.size done z.1
      rw[h'] at h
      exact f48 _ _ h (ne_of_get h hr4 (fun h=>by cases h)) hze (ne_of_map h hm4)
    ·have hlt:=lt_of_get hb
     refine f48 b o (hfr b o hb hno) (by omega) (fun h=>hno (.inr (.inr ?_))) (by omega)
     rw[h];exact List.mem_map.2 ⟨_,hm,rfl⟩
 refine loop _ [] H3 rfl (fun e he=>by cases he) List.nodup_nil ⟨e3 _ _ hin2.arena,fun q hq=>?_,fun q hq=>?_,fun z hz=>?_⟩ hr3 (fun b o hb _=>e3 _ _ (e2 _ _ hb)) (by omega)
 ·rcases List.mem_append.1 hq with hq|hq
  ·exact e3 _ _ (hin2.plane q hq)
  ·rw[List.mem_singleton] at hq;subst hq
   exact e3 _ _ hb2
 ·rcases List.mem_append.1 hq with hq|hq
  ·exact e3 _ _ (hin2.map q hq)
  ·rw[List.mem_singleton] at hq;subst hq
   exact e3 _ _ hm2
 ·show H3[z.1]?=some (tileO z.2 ((refs (snapS s (snapPl p (H.size+1) H.size [])).pls z.1:Nat):Int))
  rw[refs_snap]
  exact e3 _ _ (hin2.tile z hz)
end Go.Proofs
namespace Go.Proofs
open Go.Sh Go.Tile
def bare(p:Pl):Pl:={p with en:=[]}
def dropL(s:St)(k:Nat)(p:Pl):List Pl:=s.pls.set k (bare p)
def dropS(s:St)(k:Nat)(p:Pl):St:=
 {s with free:=s.free+(s.ts.countP fun z=>refs (dropL s k p) z.1==0),pls:=dropL s k p,ts:=s.ts.filter fun z=> !(refs (dropL s k p) z.1==0)}
theorem map_set_same{α β:Type}{f:α→β}{l:List α}{k:Nat}{a b:α}(hk:l[k]?=some a)(h:f b=f a):(l.set k b).map f=l.map f:=by
 apply List.ext_getElem?
 intro i
 rw[List.map_set,List.getElem?_set]
 split
 ·rename_i hi
  subst hi
  rw[List.getElem?_map,hk]
  have:=(List.getElem?_eq_some_iff.1 hk).1
  simp[this,h]
 ·rfl
theorem refs_drop{s:St}{k:Nat}{p:Pl}(hk:s.pls[k]?=some p)(t:Nat):refs (dropL s k p) t+p.en.countP (·.t==t)=refs s.pls t:=by
 have:=refs_set (p':=bare p) hk t
 simpa[dropL,bare] using this
theorem drop_ok{cap:Int}{s:St}(hok:Ok cap s){k:Nat}{p:Pl}(hk:s.pls[k]?=some p):Ok cap (dropS s k p):=by
 have hp:p∈s.pls:=List.mem_of_getElem? hk
 have pok:=hok.pl p hp
 refine⟨fun q hq=>?_,?_,?_,?_,fun z hz=>hok.px z (List.mem_filter.1 hz).1,fun t=>?_,?_,?_,fun q hq t=>?_,?_,hok.capb⟩
 ·rcases List.mem_or_eq_of_mem_set hq with hq|rfl
  ·exact hok.pl q hq
  ·exact⟨List.nodup_nil,List.nodup_nil,(fun e he=>by cases he),pok.w0,pok.w1,pok.h0,pok.h1⟩
 ·show((dropL s k p).map (·.b)).Nodup
  rw[dropL,map_set_same (f:=fun q:Pl=>q.b) (b:=bare p) hk rfl];exact hok.bs
 ·show((dropL s k p).map (·.m)).Nodup
  rw[dropL,map_set_same (f:=fun q:Pl=>q.m) (b:=bare p) hk rfl];exact hok.ms
 ·show((s.ts.filter fun z=> !(refs (dropL s k p) z.1==0)).map (·.1)).Nodup
  exact map_nodup_of hok.ts (fun z hz=>(List.mem_filter.1 hz).1) (List.Pairwise.filter _ (nodup_of_map hok.ts))
 ·show 0<refs (dropL s k p) t↔t∈(s.ts.filter fun z=> !(refs (dropL s k p) z.1==0)).map (·.1)
  constructor
  ·intro h
   have h1:=refs_drop hk t
   obtain⟨z,hz,rfl⟩:=List.mem_map.1 ((hok.live t).1 (by omega))
   refine List.mem_map.2 ⟨z,List.mem_filter.2 ⟨hz,?_⟩,rfl⟩
   have:refs (dropL s k p) z.1≠0:=by omega
   simp[this]
  ·intro h
   obtain⟨z,hz,rfl⟩:=List.mem_map.1 h
   have:=(List.mem_filter.1 hz).2
   simp at this
   omega
 ·show(s.free+((s.ts.countP fun z=>refs (dropL s k p) z.1==0):Nat))+((s.ts.filter fun z=> !(refs (dropL s k p) z.1==0)).length:Nat)=cap
  have h1:=hok.count
  have h2:=List.length_eq_countP_add_countP (fun z:Nat×List Int=>refs (dropL s k p) z.1==0) (l:=s.ts)
  rw[←List.countP_eq_length_filter]
  have h3:(s.ts.countP fun z=> !(refs (dropL s k p) z.1==0))=s.ts.countP (fun a=>decide ¬(refs (dropL s k p) a.1==0)=true):=by
   apply List.countP_congr
   intro z _
   simp
  rw[h3]
  omega
 ·show 0≤s.free+((s.ts.countP fun z=>refs (dropL s k p) z.1==0):Nat)
  have:=hok.free
  omega
 ·rcases List.mem_or_eq_of_mem_set hq with hq|rfl
  ·exact hok.one q hq t
  ·simp[bare]
 ·show(dropL s k p).length≤1000000
  rw[dropL,List.length_set];exact hok.len
theorem countP_point {z0 : Nat × List Int} {f g : Nat → Bool} : ∀ {ts : List (Nat × List Int)}, (ts.map (·.1)).Nodup → z0 ∈ ts → (∀ t, t ≠ z0.1 → f t = g t) → f z0.1 = false →
    (ts.countP fun z => g z.1) = (ts.countP fun z => f z.1) + (if g z0.1 = true then 1 else 0)
  | [], _, h, _, _ => by cases h
  | z :: r, hn, h, hfg, h0 => by
    rw [List.map_cons, List.nodup_cons] at hn
    rw [List.countP_cons, List.countP_cons]
    rcases List.mem_cons.1 h with rfl | h
    · have : (r.countP fun z => g z.1) = r.countP fun z => f z.1 := List.countP_congr fun y hy => by
        rw [hfg y.1 fun hh => hn.1 (by rw [← hh]; exact List.mem_map.2 ⟨y, hy, rfl⟩)]
      rw [this, h0]
      simp
    · have hz : z.1 ≠ z0.1 := fun hh => hn.1 (by rw [hh]; exact List.mem_map.2 ⟨z0, h, rfl⟩)
      rw [countP_point hn.2 h hfg h0, hfg z.1 hz]
      omega
def gone(s:St)(done:List En):Nat:=s.ts.countP fun z=>refs s.pls z.1-done.countP (·.t==z.1)==0
set_option maxHeartbeats 2000000 in
theorem c77{cap:Int}{H:Heap}{s:St}(hin:In H s)(hok:Ok cap s){k:Nat}{p:Pl}(hk:s.pls[k]?=some p){R:Value→Heap→Prop}
 (hR: ∀H',Goes cap H s H' (dropS s k p)→R (.tuple #[]) H'):
 CallsH Tryz.prog 77 #[.pointer (some ⟨p.b,0,none⟩)] H R:=by
 have hp:p∈s.pls:=List.mem_of_getElem? hk
 have pok:=hok.pl p hp
 refine Tryz.s77 ?_
 unfold Tryz.S77 alc
 intro J hJ
 refine⟨_,rfl,_,cell_get (hin.plane p hp) rfl,p.clk,⟨_,hin.map p hp⟩,?_⟩
 generalize hH3:H.push _=H3
 have e3:Ext H H3:=by subst hH3;exact Ext.push _ _
 have hr3:H3[H.size]?=some (.mapIter (some p.m) p.clk (seenOf []) p.clk):=by subst hH3;exact get_push_self _ _
 have s3:H3.size=H.size+1:=by subst hH3;simp
 intro X hX
 have loop: ∀(n:Nat) (done:List En) (H4:Heap),p.en.length-done.length=n→(∀e∈done,e∈p.en)→done.Nodup→H4[s.A]?=some (arenaO (s.free+gone s done))→
  (∀q∈s.pls,H4[q.b]?=some (planeO s.A q))→(∀q∈s.pls,H4[q.m]?=some (tmapO q))→(∀z∈s.ts,H4[z.1]?=some (tileO z.2 ((refs s.pls z.1:Int)-(done.countP (·.t==z.1):Nat))))→
  H4[H.size]?=some (.mapIter (some p.m) p.clk (seenOf done) p.clk)→(∀b o,H[b]?=some o→ ¬owned s b→H4[b]?=some o)→H.size+1≤H4.size→X [] H4:=by
  intro n
  induction n using Nat.strongRecOn with
  |_ n ih=>
   intro done H4 hn hsub hnd ha4 hb4 hm4 ht4 hr4 hfr hs4
   have hmp:H4[p.m]?=some (.map (p.en.map tenc).toArray p.clk):=hm4 p hp
   have hcle: ∀(d:List En),(∀e∈d,e∈p.en)→d.Nodup→ ∀t,d.countP (·.t==t)≤refs s.pls t:=fun d h1 h2 t=>Nat.le_trans (sub_count h1 h2 t) (refs_ge hp t)
   refine hX H4 (nextQ_en hr4 hmp pok.clk (fun hall=>br_false ?_) (fun e he hne=>br_true ?_))
   ·-- all were seen
    have hs:Same done p.en:=⟨hsub,fun e he=>by
     obtain⟨f,hf,hfb⟩:=List.mem_map.1 (hall e he)
     rw[←nodup_map_of pok.born (hsub f hf) he hfb];exact hf,hnd⟩
    have hperm:=hs.perm (nodup_of_map pok.born)
    have hcnt: ∀t,done.countP (·.t==t)=p.en.countP (·.t==t):=fun t=>hperm.countP_eq _
    refine hJ H4 ⟨_,rfl,_,cell_get (hb4 p hp) rfl,_,rfl,_,_,hmp,?_⟩
    unfold sto
    generalize hH5:H4.setIfInBounds p.m _=H5
    have f5: ∀b o,H4[b]?=some o→b≠p.m→H5[b]?=some o:=fun b o hb hne=>by subst hH5;exact get_set_ne (Ne.symm hne) hb
    have hm5:H5[p.m]?=some (tmapO (bare p)):=by subst hH5;exact get_set_self hmp
    have s5:H5.size=H4.size:=by subst hH5;simp
    have hrd:=refs_drop hk
    have hgone:gone s done=s.ts.countP fun z=>refs (dropL s k p) z.1==0:=by
     unfold gone
     apply List.countP_congr
     intro z _
     rw[hcnt z.1]
     have:=hrd z.1
     rw[show refs s.pls z.1-p.en.countP (·.t==z.1)=refs (dropL s k p) z.1 by omega]
    refine hR H5 ⟨⟨?_,fun q hq=>?_,fun q hq=>?_,fun z hz=>?_⟩,drop_ok hok hk,fun b o hb hno=>?_,fun b hb=>?_,by omega⟩
    ·rw[hgone] at ha4
     exact f5 _ _ ha4 (ne_of_map ha4 hmp)
    ·rcases List.mem_or_eq_of_mem_set hq with hq|rfl
     ·exact f5 _ _ (hb4 q hq) (ne_of_map (hb4 q hq) hmp)
     ·exact f5 _ _ (hb4 p hp) (ne_of_map (hb4 p hp) hmp)
    ·obtain⟨j,hj⟩:=List.getElem?_of_mem hq
     have hj':(s.pls.set k (bare p))[j]?=some q:=hj
     rw[List.getElem?_set] at hj'
     split at hj'
     ·rename_i hkj
      split at hj'
      ·cases hj';exact hm5
      ·cases hj'
     ·rename_i hkj
      have hqm:q∈s.pls:=List.mem_of_getElem? hj'
      refine f5 _ _ (hm4 q hqm) (fun heq=>hkj ?_)
      have h1:(s.pls.map (·.m))[j]?=some q.m:=by rw[List.getElem?_map,hj'];rfl
      have h2:(s.pls.map (·.m))[k]?=some q.m:=by rw[List.getElem?_map,hk,heq];rfl
      exact((List.getElem?_inj (List.getElem?_eq_some_iff.1 h1).1 hok.ms).1 (by rw[h1,h2])).symm
    ·have hz':=(List.mem_filter.1 hz).1
     have h:=ht4 z hz'
     have h2:=hrd z.1
     rw[hcnt z.1] at h
     show H5[z.1]?=some (tileO z.2 ((refs (dropL s k p) z.1:Nat):Int))
     rw[show((refs (dropL s k p) z.1:Nat):Int)=(refs s.pls z.1:Int)-(p.en.countP (·.t==z.1):Nat) by omega]
     exact f5 _ _ h (ne_of_map h hmp)
    ·exact f5 _ _ (hfr b o hb hno) (fun h=>hno (.inr (.inl ⟨p,hp,h⟩)))
    ·left
     rcases hb with hb|⟨q,hq,hb⟩|hb
     ·exact .inl hb
     ·rcases List.mem_or_eq_of_mem_set hq with hq|rfl
      ·exact .inr (.inl ⟨q,hq,hb⟩)
      ·exact .inr (.inl ⟨p,hp,hb⟩)
     ·obtain⟨z,hz,hzb⟩:=List.mem_map.1 hb
      exact .inr (.inr (List.mem_map.2 ⟨z,(List.mem_filter.1 hz).1,hzb⟩))
   ·-- an entry
    have hnd':(done++[e]).Nodup:=by
     rw[List.nodup_append]
     refine⟨hnd,by simp,fun a ha b hb hab=>?_⟩
     simp at hb
     exact hne (List.mem_map.2 ⟨a,ha,by rw[hab,hb]⟩)
    have hsub': ∀f∈done++[e],f∈p.en:=fun f hf=>by
     rcases List.mem_append.1 hf with hf|hf
     ·exact hsub f hf
     ·simp at hf;subst hf;exact he
    have hlt:done.length<p.en.length:=by
     haveI:DecidableEq En:=fun a b=>Classical.propDecidable _
     have:=nodup_length_le hnd' hsub'
     simp at this;omega
    have htile:tileOf p.en e.x e.y=some e.t:=tileOf_of_mem pok.keys he
    obtain⟨l,_,hm,hl,_⟩:=hok.px_of hp htile
    have ht:H4[e.t]?=some (tileO l ((refs s.pls e.t:Int)-(done.countP (·.t==e.t):Nat))):=ht4 _ hm
    have hcount1: ∀t,(done++[e]).countP (·.t==t)=done.countP (·.t==t)+(if e.t=t then 1 else 0):=fun t=>by
     rw[List.countP_append,List.countP_cons,List.countP_nil]
     by_cases h:e.t=t<;>simp[h]
    have hle':=hcle _ hsub' hnd'
    have hlee:=hle' e.t
    have hce:=hcount1 e.t
    rw[if_pos rfl] at hce
    have hc1:refs s.pls e.t≤s.pls.length:=refs_le hok.one e.t
    have hlen:=hok.len
    generalize hH5:H4.setIfInBounds H.size _=H5
    have hr5:H5[H.size]?=some (.mapIter (some p.m) p.clk (seenOf (done++[e])) p.clk):=by subst hH5;exact get_set_self hr4
    have f5: ∀b o,H4[b]?=some o→b≠H.size→H5[b]?=some o:=fun b o hb hne=>by subst hH5;exact get_set_ne (Ne.symm hne) hb
    have s5:H5.size=H4.size:=by subst hH5;simp
    have hm5:H5[p.m]?=some (.map (p.en.map tenc).toArray p.clk):=f5 _ _ hmp (ne_of_get hmp hr4 (fun h=>by cases h))
    have ht5:=f5 _ _ ht (ne_of_get ht hr4 (fun h=>by cases h))
    refine⟨p.m,_,_,_,e.born,_,tenc e,hr5,seen_back done e,hm5,find_born pok.born he,_,rfl,some ⟨e.t,0,none⟩,rfl,_,rfl,_,tile_users ht5 hl,_,rfl,?_⟩
    rw[wrap_id (by omega) (by omega)]
    simp only[add_none,Nat.zero_add]
    refine stAt_users ht5 hl ?_
    generalize hH7:Array.setIfInBounds _ _ _=H7
    have ht7:H7[e.t]?=some (tileO l ((refs s.pls e.t:Int)-(done.countP (·.t==e.t):Nat)-1)):=by subst hH7;exact get_set_self ht5
    have f7: ∀b o,H5[b]?=some o→b≠e.t→H7[b]?=some o:=fun b o hb hne=>by subst hH7;exact get_set_ne (Ne.symm hne) hb
    have f47: ∀b o,H4[b]?=some o→b≠H.size→b≠e.t→H7[b]?=some o:=fun b o hb h1 h2=>f7 _ _ (f5 _ _ hb h1) h2
    have s7:H7.size=H4.size:=by subst hH7;simp[s5]
    have ha7:=f47 _ _ ha4 (ne_of_get ha4 hr4 (fun h=>by cases h)) (ne_of_ty ha4 ht (by decide))
    have hb7: ∀q∈s.pls,H7[q.b]?=some (planeO s.A q):=fun q hq=>f47 _ _ (hb4 q hq) (ne_of_get (hb4 q hq) hr4 (fun h=>by cases h)) (ne_of_ty (hb4 q hq) ht (by decide))
    have hm7: ∀q∈s.pls,H7[q.m]?=some (tmapO q):=fun q hq=>f47 _ _ (hm4 q hq) (ne_of_get (hm4 q hq) hr4 (fun h=>by cases h)) (ne_of_map' (hm4 q hq) ht)
    have hr7:=f7 _ _ hr5 (ne_of_get hr5 ht5 (fun h=>by cases h))
    have ht7': ∀z∈s.ts,H7[z.1]?=some (tileO z.2 ((refs s.pls z.1:Int)-((done++[e]).countP (·.t==z.1):Nat))):=fun z hz=>by
     by_cases hze:z.1=e.t
     ·have hz2:z.2=l:=by
       have:=nodup_map_of hok.ts hz hm (by exact hze)
       rw[this]
      rw[hze,hz2,hce,ht7]
      congr 2
      omega
     ·have hc:=hcount1 z.1
      rw[if_neg (fun h=>hze h.symm),Nat.add_zero] at hc
      rw[hc]
      exact f47 _ _ (ht4 z hz) (ne_of_get (ht4 z hz) hr4 (fun h=>by cases h)) hze
    have hfr7: ∀b o,H[b]?=some o→ ¬owned s b→H7[b]?=some o:=fun b o hb hno=>by
     have:=lt_of_get hb
     refine f47 b o (hfr b o hb hno) (by omega) (fun h=>hno (.inr (.inr ?_)))
     rw[h];exact List.mem_map.2 ⟨_,hm,rfl⟩
    have hpoint:=countP_point (f:=fun t=>refs s.pls t-done.countP (·.t==t)==0) (g:=fun t=>refs s.pls t-(done++[e]).countP (·.t==t)==0) hok.ts hm
     (fun t ht=>by
      have:=hcount1 t
      rw[if_neg (fun h=>ht h.symm),Nat.add_zero] at this
      show(_==0)=(_==0)
      rw[this])
     (by
      show(refs s.pls e.t-done.countP (·.t==e.t)==0)=false
      simp;omega)
    have hgone:gone s (done++[e])=gone s done+(if (refs s.pls e.t-(done++[e]).countP (·.t==e.t)==0)=true then 1 else 0):=hpoint
    refine⟨_,rfl,_,tile_users ht7 hl,br_eq (fun h0=>?_) (fun h0=>?_)⟩
    ·have hg1:gone s (done++[e])=gone s done+1:=by rw[hgone,if_pos (by simp;omega)]
     have hgle:gone s (done++[e])≤s.ts.length:=List.countP_le_length
     have hcount:=hok.count
     have hcapb:=hok.capb
     have hfree:=hok.free
     refine⟨_,rfl,_,cell_get (hb7 p hp) rfl,_,rfl,_,cell_get ha7 rfl,_,rfl,?_⟩
     rw[wrap_id (by omega) (by omega)]
     refine stAt_one ha7 (by simp) rfl ?_
     generalize hH9:H7.setIfInBounds s.A _=H9
     have ha9:H9[s.A]?=some (arenaO (s.free+gone s (done++[e]))):=by
      subst hH9
      rw[hg1,Int.natCast_add,←Int.add_assoc]
      exact get_set_self ha7
     have f9: ∀b o,H7[b]?=some o→b≠s.A→H9[b]?=some o:=fun b o hb hne=>by subst hH9;exact get_set_ne (Ne.symm hne) hb
     have s9:H9.size=H7.size:=by subst hH9;simp
     refine ih (p.en.length-(done++[e]).length) (by simp;omega) (done++[e]) H9 rfl hsub' hnd' ha9 (fun q hq=>f9 _ _ (hb7 q hq) (ne_of_ty (hb7 q hq) ha7 (by decide)))
      (fun q hq=>f9 _ _ (hm7 q hq) (ne_of_map' (hm7 q hq) ha7)) (fun z hz=>f9 _ _ (ht7' z hz) (ne_of_ty (ht7' z hz) ha7 (by decide))) (f9 _ _ hr7 (ne_of_get hr7 ha7 (fun h=>by cases h)))
      (fun b o hb hno=>f9 _ _ (hfr7 b o hb hno) (fun h=>hno (.inl h))) (by omega)
    ·have hg0:gone s (done++[e])=gone s done:=by rw[hgone,if_neg (by simp;omega)];rfl
     rw[←hg0] at ha7
     exact ih (p.en.length-(done++[e]).length) (by simp;omega) (done++[e]) H7 rfl hsub' hnd' ha7 hb7 hm7 ht7' hr7 hfr7 (by omega)
 have hg:gone s []=0:=by
  unfold gone
  rw[List.countP_eq_zero]
  intro z hz
  have:=(hok.live z.1).2 (List.mem_map.2 ⟨z,hz,rfl⟩)
  simp;omega
 refine loop _ [] H3 rfl (fun e he=>by cases he) List.nodup_nil ?_ (fun q hq=>e3 _ _ (hin.plane q hq)) (fun q hq=>e3 _ _ (hin.map q hq)) (fun z hz=>?_) hr3 (fun b o hb _=>e3 _ _ hb) (by omega)
 ·rw[hg]
  have:=e3 _ _ hin.arena
  simpa using this
 ·have:=e3 _ _ (hin.tile z hz)
  simpa using this
end Go.Proofs
namespace Go.Sh
def ints(l:List Int):List Value:=l.map (Value.int .i64)
theorem ints_get{l:List Int}{i:Nat}{v:Int}(h:l[i]?=some v):(ints l)[i]?=some (Value.int .i64 v):=by simp[ints,h]
theorem ints_len(l:List Int):(ints l).length=l.length:=by simp[ints]
theorem ints_set(l:List Int)(i:Nat)(v:Int):(ints l).set i (.int .i64 v)=ints (l.set i v):=by simp[ints]
theorem ints_one(l:List Int): ∀v∈ints l,v.oneCell'=true:=fun v hv=>by
 obtain⟨x,_,rfl⟩:=List.mem_map.1 hv;rfl
structure RS(H:Heap)(p:Option Addr)(l:Nat)(el:TypeId)(k:Nat)(fs:List Value):Prop where
 len:fs.length=l*k
 one: ∀v∈fs,v.oneCell'=true
 at_:l=0∨ ∃blk cs,p=some ⟨blk,0,none⟩∧H[blk]?=some (.cells cs el)∧ ∀(i:Nat) v,fs[i]?=some v→cs[i]?=some v
structure FS(n0:Nat)(H:Heap)(p:Option Addr)(l c:Nat)(el:TypeId)(k:Nat)(fs:List Value):Prop where
 len:fs.length=l*k
 le:l≤c
 one: ∀v∈fs,v.oneCell'=true
 at_:(p=none∧c=0)∨ ∃blk cs,p=some ⟨blk,0,none⟩∧n0≤blk∧H[blk]?=some (.cells cs el)∧cs.size=c*k∧ ∀(i:Nat) v,fs[i]?=some v→cs[i]?=some v
theorem FS.rs{n0:Nat}{H:Heap}{p:Option Addr}{l c:Nat}{el:TypeId}{k:Nat}{fs:List Value}(h:FS n0 H p l c el k fs):RS H p l el k fs:=by
 refine⟨h.len,h.one,?_⟩
 rcases h.at_ with ⟨_,h2⟩|⟨blk,cs,h1,_,h3,_,h5⟩
 ·left;have:=h.le;omega
 ·exact .inr ⟨blk,cs,h1,h3,h5⟩
theorem RS.keep{H H':Heap}{p:Option Addr}{l:Nat}{el:TypeId}{k:Nat}{fs:List Value}(h:RS H p l el k fs)(hk: ∀b cs,p=some ⟨b,0,none⟩→H[b]?=some (.cells cs el)→H'[b]?=some (.cells cs el)):RS H' p l el k fs:=by
 refine⟨h.len,h.one,?_⟩
 rcases h.at_ with h1|⟨blk,cs,h1,h3,h5⟩
 ·exact .inl h1
 ·exact .inr ⟨blk,cs,h1,hk _ _ h1 h3,h5⟩
theorem RS.ext{H H':Heap}{p:Option Addr}{l:Nat}{el:TypeId}{k:Nat}{fs:List Value}(h:RS H p l el k fs)(he:Ext H H'):RS H' p l el k fs:=h.keep fun b cs _ hb=>he _ _ hb
theorem FS.keep{n0:Nat}{H H':Heap}{p:Option Addr}{l c:Nat}{el:TypeId}{k:Nat}{fs:List Value}(h:FS n0 H p l c el k fs)(hk: ∀b cs,p=some ⟨b,0,none⟩→H[b]?=some (.cells cs el)→H'[b]?=some (.cells cs el)):FS n0 H' p l c el k fs:=by
 refine⟨h.len,h.le,h.one,?_⟩
 rcases h.at_ with h1|⟨blk,cs,h1,h2,h3,h5⟩
 ·exact .inl h1
 ·exact .inr ⟨blk,cs,h1,h2,hk _ _ h1 h3,h5⟩
theorem FS.ext{n0:Nat}{H H':Heap}{p:Option Addr}{l c:Nat}{el:TypeId}{k:Nat}{fs:List Value}(h:FS n0 H p l c el k fs)(he:Ext H H'):FS n0 H' p l c el k fs:=h.keep fun b cs _ hb=>he _ _ hb
theorem FS.lower{n0 n1:Nat}{H:Heap}{p:Option Addr}{l c:Nat}{el:TypeId}{k:Nat}{fs:List Value}(h:FS n0 H p l c el k fs)(hn:n1≤n0):FS n1 H p l c el k fs:=by
 refine⟨h.len,h.le,h.one,?_⟩
 rcases h.at_ with h1|⟨blk,cs,h1,h2,h3,h5⟩
 ·exact .inl h1
 ·exact .inr ⟨blk,cs,h1,by omega,h3,h5⟩
theorem FS.nil(n0:Nat)(H:Heap)(el:TypeId)(k:Nat):FS n0 H none 0 0 el k []:=⟨by simp,Nat.le_refl _,by simp,.inl ⟨rfl,rfl⟩⟩
theorem RS.nil(H:Heap)(p:Option Addr)(el:TypeId)(k:Nat):RS H p 0 el k []:=⟨by simp,by simp,.inl rfl⟩
theorem FS.whole{n0:Nat}{H:Heap}{b l k:Nat}{el:TypeId}{cs:Array Value}(hb:n0≤b)(h:H[b]?=some (.cells cs el))(hs:cs.size=l*k)(ho: ∀v∈cs.toList,v.oneCell'=true):FS n0 H (some ⟨b,0,none⟩) l l el k cs.toList:=
 ⟨by simpa using hs,Nat.le_refl _,ho,.inr ⟨b,cs,rfl,hb,h,hs,fun i v hv=>by simpa using hv⟩⟩
theorem RS.cell{H:Heap}{p:Option Addr}{l:Nat}{el:TypeId}{k:Nat}{fs:List Value}(h:RS H p l el k fs){i:Nat}{v:Value}(hv:fs[i]?=some v): ∃blk,p=some ⟨blk,0,none⟩∧Go.Sh.cell H ⟨blk,i,none⟩=some v:=by
 rcases h.at_ with h1|⟨blk,cs,h1,h3,h5⟩
 ·have:=(List.getElem?_eq_some_iff.1 hv).1
  have:=h.len
  rw[h1] at this
  omega
 ·exact⟨blk,h1,cell_get h3 (h5 i v hv)⟩
theorem RS.row{H:Heap}{p:Option Addr}{l:Nat}{el:TypeId}{k:Nat}{fs:List Value}(h:RS H p l el k fs){i:Nat}(hi:i<l)(hk:0<k){xs:Array Value}(hx: ∀(j:Nat) v,xs[j]?=some v→fs[i*k+j]?=some v): ∃blk,p=some ⟨blk,0,none⟩∧rowIn H ⟨blk,i*k,none⟩ xs:=by
 rcases h.at_ with h1|⟨blk,cs,h1,h3,h5⟩
 ·omega
 ·exact⟨blk,h1,rowIn_block h3 fun j v hv=>h5 _ _ (hx j v hv)⟩
structure IS(H:Heap)(p:Option Addr)(l:Nat)(fs:List Value):Prop where
 len:fs.length=l
 get: ∀(i:Nat) v,fs[i]?=some v→ ∃a,p=some a∧Go.Sh.cell H (a.add i)=some v
theorem IS.ext{H H':Heap}{p:Option Addr}{l:Nat}{fs:List Value}(h:IS H p l fs)(he:Ext H H'):IS H' p l fs:=⟨h.len,fun i v hv=>let ⟨a,h1,h2⟩:=h.get i v hv;⟨a,h1,he.cell h2⟩⟩
theorem IS.cell{H:Heap}{p:Option Addr}{l:Nat}{fs:List Value}(h:IS H p l fs){i:Nat}{v:Value}(hv:fs[i]?=some v): ∃a,p=some a∧Go.Sh.cell H (a.add i)=some v:=h.get i v hv
theorem RS.is{H:Heap}{p:Option Addr}{l:Nat}{el:TypeId}{fs:List Value}(h:RS H p l el 1 fs):IS H p l fs:=
 ⟨by have:=h.len;omega,fun i v hv=>let ⟨blk,h1,h2⟩:=h.cell hv;⟨_,h1,by simpa using h2⟩⟩
theorem RS.rowOf{H:Heap}{p:Option Addr}{l:Nat}{el:TypeId}{k:Nat}{fs:List Value}(h:RS H p l el k fs):rowOf H p (l*k) fs.toArray:=by
 rcases h.at_ with h1|⟨blk,cs,h1,h3,h5⟩
 ·have:=h.len
  rw[h1,Nat.zero_mul] at this
  have:fs=[]:=List.length_eq_zero_iff.1 this
  subst this
  subst h1
  cases p with
  |none=>rfl
  |some a=>exact⟨by simp,fun j v hv=>by simp at hv⟩
 ·subst h1
  refine⟨by simp[h.len],rowIn_block h3 fun j v hv=>?_⟩
  rw[Nat.zero_add]
  exact h5 j v (by simpa using hv)
theorem setL_get{c vs:List Value}{i:Nat}(h:i+vs.length≤c.length)(j:Nat):(setL c i vs)[j]?=if i≤j∧j<i+vs.length then vs[j-i]? else c[j]?:=by
 unfold setL
 by_cases h1:j<i
 ·rw[if_neg (by omega),List.append_assoc,List.getElem?_append_left (by simp;omega),List.getElem?_take_of_lt h1]
 ·by_cases h2:j<i+vs.length
  ·rw[if_pos ⟨by omega,h2⟩,List.append_assoc,List.getElem?_append_right (by simp;omega),List.getElem?_append_left (by simp;omega)]
   congr 1
   simp;omega
  ·rw[if_neg (by omega),List.getElem?_append_right (by simp;omega),List.getElem?_drop]
   congr 1
   simp;omega
theorem setL_len{c vs:List Value}{i:Nat}(h:i+vs.length≤c.length):(setL c i vs).length=c.length:=by unfold setL;simp;omega
theorem stAt_some{H:Heap}{b i:Nat}{c:Array Value}{t:TypeId}{vs:List Value}{f:Heap→Prop}(h:H[b]?=some (.cells c t (0,0)))(hl:i+vs.length≤c.size)(ho: ∀v∈vs,v.oneCell'=true)
 (hf: ∀c':Array Value,c'.size=c.size→(∀j:Nat,c'[j]?=if i≤j∧j<i+vs.length then vs[j-i]? else c[j]?)→f (H.setIfInBounds b (.cells c' t (0,0)))):stAt H ⟨b,i,none⟩ vs f:=by
 have hl':i+vs.length≤c.toList.length:=by simpa using hl
 refine⟨c,t,h,rfl,hl,ho,?_⟩
 refine hf (setL c.toList i vs).toArray (by simp[setL_len hl']) fun j=>?_
 rw[List.getElem?_toArray,setL_get hl' j,Array.getElem?_toList (xs:=c)]
theorem FS.app'{n0:Nat}{H:Heap}{p q:Option Addr}{l c n:Nat}{el:TypeId}{k bytes:Nat}{zero:Array Value}{fs gs:List Value}(h:FS n0 H p l c el k fs)(hrow:Go.Sh.rowOf H q (n*k) gs.toArray)(hgl:gs.length=n*k)(hgo: ∀v∈gs,v.oneCell'=true)(hk:0<k)(hn:n0≤H.size)(hz:zero.size=k)
 (hb:(l+n)*bytes≤70368744177664)(hm:l+n≤1000000000000){K:Option Addr→Nat→Nat→Heap→Prop}
 (hK: ∀p' c' H',FS n0 H' p' (l+n) c' el k (fs++gs)→(∀(b:Nat) (o:Obj),H[b]?=some o→p≠some ⟨b,0,none⟩→H'[b]?=some o)→H.size≤H'.size→K p' (l+n) c' H'):appQ k bytes zero H p l c q n el K:=by
 have hfl:=h.len
 have hlen:(fs++gs).length=(l+n)*k:=by rw[List.length_append,hfl,hgl,Nat.add_mul]
 have hone: ∀v∈fs++gs,v.oneCell'=true:=fun v hv=>(List.mem_append.1 hv).elim (h.one v) (hgo v)
 refine⟨hb,by omega,gs.toArray,hrow,fun hle=>?_,fun hlt=>?_⟩
 ·rcases h.at_ with ⟨rfl,hc0⟩|⟨blk,cs,rfl,h2,h3,h4,h5⟩
  ·refine hK none c H ⟨hlen,hle,hone,.inl ⟨rfl,hc0⟩⟩ (fun b o hb _=>hb) (Nat.le_refl _)
  ·simp only[add_none,Nat.zero_add]
   have hcap:(l+n)*k≤c*k:=Nat.mul_le_mul_right k hle
   rw[Nat.add_mul] at hcap
   refine stAt_some h3 (by show l*k+gs.length≤cs.size;omega) (by simpa using hgo) fun c' hc' hg=>?_
   refine hK _ _ _ ⟨hlen,hle,hone,.inr ⟨blk,c',rfl,h2,get_set_self h3,by omega,fun i v hv=>?_⟩⟩ (fun b o hb hne=>get_set_ne (fun hh=>hne (by rw[hh])) hb) (by simp)
   rw[hg]
   by_cases hi:i<fs.length
   ·rw[if_neg (by omega)]
    rw[List.getElem?_append_left hi] at hv
    exact h5 i v hv
   ·rw[List.getElem?_append_right (by omega)] at hv
    have hlt:=(List.getElem?_eq_some_iff.1 hv).1
    rw[if_pos ⟨by omega,by show i<l*k+gs.length;omega⟩]
    rw[←hfl]
    simpa using hv
 ·have hrow: ∃ys,Go.Sh.rowOf H p (l*k) ys∧ys.toList=fs:=⟨fs.toArray,h.rs.rowOf,by simp⟩
  obtain⟨ys,hy,hvs⟩:=hrow
  refine⟨ys,hy,fun c' hc'=>?_⟩
  rw[zeroCells_eq _ _ (by omega)]
  have hcap:(l+n)*k≤c'*k:=Nat.mul_le_mul_right k hc'
  have hys:ys.size=l*k:=by rw[←Array.length_toList,hvs,hfl]
  refine hK _ _ _ ⟨hlen,hc',hone,.inr ⟨H.size,_,rfl,hn,get_push_self _ _,?_,fun i v hv=>?_⟩⟩ (fun b o hb _=>get_push hb) (by simp)
  ·simp only[Array.size_append,hys,List.size_toArray,reps_length,Array.length_toList,hz,hgl]
   rw[Nat.sub_mul]
   rw[Nat.add_mul] at hcap ⊢
   omega
  ·have hi:=(List.getElem?_eq_some_iff.1 hv).1
   rw[Array.getElem?_append_left (by simp[hys,hgl];rw[hlen,Nat.add_mul] at hi;omega)]
   have:(ys++gs.toArray).toList=fs++gs:=by simp[hvs]
   rw[←Array.getElem?_toList,this]
   exact hv
theorem FS.app{n0:Nat}{H:Heap}{p q:Option Addr}{l c n:Nat}{el:TypeId}{k bytes:Nat}{zero:Array Value}{fs gs:List Value}(h:FS n0 H p l c el k fs)(hs:RS H q n el k gs)(hk:0<k)(hn:n0≤H.size)(hz:zero.size=k)
 (hb:(l+n)*bytes≤70368744177664)(hm:l+n≤1000000000000){K:Option Addr→Nat→Nat→Heap→Prop}
 (hK: ∀p' c' H',FS n0 H' p' (l+n) c' el k (fs++gs)→(∀(b:Nat) (o:Obj),H[b]?=some o→p≠some ⟨b,0,none⟩→H'[b]?=some o)→H.size≤H'.size→K p' (l+n) c' H'):appQ k bytes zero H p l c q n el K:=
 h.app' hs.rowOf hs.len hs.one hk hn hz hb hm hK
theorem FS.set{n0:Nat}{H:Heap}{b l c:Nat}{el:TypeId}{k:Nat}{fs:List Value}{i:Nat}{v:Value}{f:Heap→Prop}(h:FS n0 H (some ⟨b,0,none⟩) l c el k fs)(hi:i<fs.length)(ho:v.oneCell'=true)
 (hf: ∀H',FS n0 H' (some ⟨b,0,none⟩) l c el k (fs.set i v)→(∀(b':Nat) (o:Obj),H[b']?=some o→b'≠b→H'[b']?=some o)→H'.size=H.size→f H'):stAt H ⟨b,i,none⟩ [v] f:=by
 have hlen:=h.len
 rcases h.at_ with ⟨h1,_⟩|⟨blk,cs,h1,h2,h3,h4,h5⟩
 ·cases h1
 ·cases h1
  have hics:i<cs.size:=by
   have:=h5 i fs[i] (List.getElem?_eq_getElem hi)
   exact(Array.getElem?_eq_some_iff.1 this).1
  refine stAt_one h3 hics ho ?_
  refine hf _ ⟨by simpa using hlen,h.le,fun u hu=>?_,.inr ⟨b,cs.setIfInBounds i v,rfl,h2,get_set_self h3,by simpa using h4,fun j u hu=>?_⟩⟩ (fun b' o hb' hne=>get_set_ne (Ne.symm hne) hb') (by simp)
  ·rcases List.mem_or_eq_of_mem_set hu with hu|rfl
   ·exact h.one u hu
   ·exact ho
  ·rw[List.getElem?_set] at hu
   rw[Array.getElem?_setIfInBounds]
   by_cases hij:i=j
   ·subst hij
    rw[if_pos rfl,if_pos hi] at hu
    rw[if_pos rfl,if_pos hics]
    exact hu
   ·rw[if_neg hij] at hu
    rw[if_neg hij]
    exact h5 j u hu
end Go.Sh
namespace Go.Sh
structure Rs where
 at_:Heap→List Nat→Prop
 loc: ∀{H H':Heap} {fp:List Nat},at_ H fp→(∀b∈fp,∀o,H[b]?=some o→H'[b]?=some o)→at_ H' fp
 has: ∀{H:Heap} {fp:List Nat},at_ H fp→ ∀b∈fp,b<H.size
def Rs.cell(b:Nat)(cs:Array Value)(ty:TypeId):Rs where
 at_ H fp:=fp=[b]∧H[b]?=some (.cells cs ty)
 loc h hk:=⟨h.1,hk _ (by rw[h.1];exact List.mem_singleton.2 rfl) _ h.2⟩
 has h b hb:=by rw[h.1,List.mem_singleton] at hb;subst hb;exact lt_of_get h.2
def Rs.sl(p:Option Addr)(l c:Nat)(el:TypeId)(k:Nat)(fs:List Value):Rs where
 at_ H fp:=FS 0 H p l c el k fs∧((p=none∧fp=[])∨ ∃blk,p=some ⟨blk,0,none⟩∧fp=[blk])
 loc h hk:=by
  refine⟨h.1.keep fun b cs hp hb=>hk b ?_ _ hb,h.2⟩
  rcases h.2 with ⟨h1,_⟩|⟨blk,h1,h2⟩
  ·rw[h1] at hp;cases hp
  ·rw[h1] at hp;cases hp;rw[h2];exact List.mem_singleton.2 rfl
 has h b hb:=by
  rcases h.2 with ⟨_,h2⟩|⟨blk,h1,h2⟩
  ·rw[h2] at hb;cases hb
  ·rw[h2,List.mem_singleton] at hb
   subst hb
   rcases h.1.at_ with ⟨h3,_⟩|⟨blk',cs,h3,_,h4,_⟩
   ·rw[h1] at h3;cases h3
   ·rw[h1] at h3;cases h3;exact lt_of_get h4
def Rs.star(r s:Rs):Rs where
 at_ H fp:= ∃a b,fp=a++b∧r.at_ H a∧s.at_ H b
 loc:=fun⟨a,b,e,h1,h2⟩ hk=>⟨a,b,e,r.loc h1 fun x hx=>hk x (by rw[e];exact List.mem_append_left _ hx),s.loc h2 fun x hx=>hk x (by rw[e];exact List.mem_append_right _ hx)⟩
 has:=fun⟨a,b,e,h1,h2⟩ x hx=>by
  rw[e] at hx
  rcases List.mem_append.1 hx with hx|hx
  ·exact r.has h1 x hx
  ·exact s.has h2 x hx
def Rs.ex{α:Type}(f:α→Rs):Rs where
 at_ H fp:= ∃a,(f a).at_ H fp
 loc:=fun⟨a,h⟩ hk=>⟨a,(f a).loc h hk⟩
 has:=fun⟨a,h⟩=>(f a).has h
def Rs.pu(q:Prop)(r:Rs):Rs where
 at_ H fp:=q∧r.at_ H fp
 loc:=fun⟨a,h⟩ hk=>⟨a,r.loc h hk⟩
 has:=fun⟨a,h⟩=>r.has h
def Rs.emp:Rs where
 at_ H fp:=fp=[]
 loc h _:=h
 has h b hb:=by rw[h] at hb;cases hb
def Lie(H:Heap):List Rs→List (List Nat)→Prop
 |[],[]=>True
 |r::σ,fp::fps=>r.at_ H fp∧Lie H σ fps
 |_,_=>False
theorem Lie.get{H:Heap}: ∀{σ:List Rs} {fps:List (List Nat)},Lie H σ fps→ ∀{i:Nat} {r:Rs},σ[i]?=some r→ ∃fp,fps[i]?=some fp∧r.at_ H fp
 |[],[],_,i,r,h=>by simp at h
 |r::σ,fp::fps,hl,0,s,h=>by simp at h;subst h;exact⟨fp,rfl,hl.1⟩
 |r::σ,fp::fps,hl,i+1,s,h=>by
  simp only[List.getElem?_cons_succ] at h ⊢
  exact Lie.get hl.2 h
theorem Lie.has{H:Heap}: ∀{σ:List Rs} {fps:List (List Nat)},Lie H σ fps→ ∀b∈fps.flatten,b<H.size
 |[],[],_,b,hb=>by simp at hb
 |r::σ,fp::fps,hl,b,hb=>by
  simp only[List.flatten_cons,List.mem_append] at hb
  rcases hb with hb|hb
  ·exact r.has hl.1 b hb
  ·exact Lie.has hl.2 b hb
theorem Lie.loc{H H':Heap}: ∀{σ:List Rs} {fps:List (List Nat)},Lie H σ fps→(∀b∈fps.flatten,∀o,H[b]?=some o→H'[b]?=some o)→Lie H' σ fps
 |[],[],_,_=>trivial
 |r::σ,fp::fps,hl,hk=>by
  simp only[List.flatten_cons,List.mem_append] at hk
  exact⟨r.loc hl.1 fun b hb=>hk b (.inl hb),Lie.loc hl.2 fun b hb=>hk b (.inr hb)⟩
theorem Lie.set {H H' : Heap} : ∀ {σ : List Rs} {fps : List (List Nat)} {i : Nat} {fp fp' : List Nat} {r' : Rs}, Lie H σ fps → fps.flatten.Nodup → fps[i]? = some fp → r'.at_ H' fp' → fp'.Nodup → (∀ b ∈ fp', b ∈ fp ∨ H.size ≤ b) →
    (∀ b o, H[b]? = some o → b ∉ fp → H'[b]? = some o) → Lie H' (σ.set i r') (fps.set i fp') ∧ (fps.set i fp').flatten.Nodup
  | [], [], i, fp, fp', r', hl, hn, hi, h, hn', hf, hk => by simp at hi
  | r :: σ, g :: fps, 0, fp, fp', r', hl, hn, hi, h, hn', hf, hk => by
    simp at hi; subst hi
    simp only [List.flatten_cons, List.nodup_append] at hn
    refine ⟨⟨h, hl.2.loc fun b hb o ho => hk b o ho fun hg => hn.2.2 b hg b hb rfl⟩, ?_⟩
    simp only [List.set_cons_zero, List.flatten_cons, List.nodup_append]
    refine ⟨hn', hn.2.1, fun a ha b hb hab => ?_⟩
    subst hab
    rcases hf a ha with h1 | h1
    · exact hn.2.2 a h1 a hb rfl
    · have := Lie.has hl.2 a hb; omega
  | r :: σ, g :: fps, i + 1, fp, fp', r', hl, hn, hi, h, hn', hf, hk => by
    simp only [List.getElem?_cons_succ] at hi
    simp only [List.flatten_cons, List.nodup_append] at hn
    obtain ⟨h1, h2⟩ := Lie.set hl.2 hn.2.1 hi h hn' hf hk
    have hmem : ∀ b ∈ fp, b ∈ fps.flatten := fun b hb => List.mem_flatten.2 ⟨fp, List.mem_of_getElem? hi, hb⟩
    refine ⟨⟨r.loc hl.1 fun b hb o ho => hk b o ho fun hg => hn.2.2 b hb b (hmem b hg) rfl, h1⟩, ?_⟩
    simp only [List.set_cons_succ, List.flatten_cons, List.nodup_append]
    refine ⟨hn.1, h2, fun a ha b hb hab => ?_⟩
    subst hab
    obtain ⟨f, hf1, hf2⟩ := List.mem_flatten.1 hb
    rcases List.mem_or_eq_of_mem_set hf1 with hf1 | rfl
    · exact hn.2.2 a ha a (List.mem_flatten.2 ⟨f, hf1, hf2⟩) rfl
    · rcases hf a hf2 with h3 | h3
      · exact hn.2.2 a ha a (hmem a h3) rfl
      · have := r.has hl.1 a ha; omega
structure St(H0 H:Heap)(σ:List Rs):Prop where
 ext:Ext H0 H
 own: ∃fps,Lie H σ fps∧fps.flatten.Nodup∧ ∀b∈fps.flatten,H0.size≤b
theorem St.nil(H:Heap):St H H []:=⟨Ext.refl H,[],trivial,by simp,by simp⟩
theorem St.of_ext{H0 H:Heap}(h:Ext H0 H):St H0 H []:=⟨h,[],trivial,by simp,by simp⟩
variable {H0 H H':Heap} {σ τ:List Rs}
theorem nodup_mem: ∀{fps:List (List Nat)},fps.flatten.Nodup→ ∀fp∈fps,fp.Nodup
 |[],_,fp,h=>by cases h
 |g::r,hn,fp,h=>by
  rw[List.flatten_cons,List.nodup_append] at hn
  rcases List.mem_cons.1 h with rfl|h
  ·exact hn.1
  ·exact nodup_mem hn.2.1 fp h
theorem St.upd(hs:St H0 H σ){i:Nat}{r r':Rs}(hi:σ[i]?=some r)
 (h: ∀fp,r.at_ H fp→fp.Nodup→(∀b∈fp,H0.size≤b)→ ∃fp',r'.at_ H' fp'∧fp'.Nodup∧(∀b∈fp',b∈fp∨H.size≤b)∧ ∀b o,H[b]?=some o→b∉fp→H'[b]?=some o):St H0 H' (σ.set i r'):=by
 obtain⟨he,fps,hl,hn,hb⟩:=hs
 obtain⟨fp,hfp,hat⟩:=hl.get hi
 have hmem: ∀b∈fp,b∈fps.flatten:=fun b hb=>List.mem_flatten.2 ⟨fp,List.mem_of_getElem? hfp,hb⟩
 have hfn:fp.Nodup:=nodup_mem hn _ (List.mem_of_getElem? hfp)
 obtain⟨fp',h1,h2,h3,h4⟩:=h fp hat hfn fun b hb'=>hb b (hmem b hb')
 obtain⟨h5,h6⟩:=hl.set hn hfp h1 h2 h3 h4
 refine⟨fun b o ho=>h4 b o (he b o ho) fun hf=>?_,_,h5,h6,fun b hb'=>?_⟩
 ·have:=hb b (hmem b hf);have:=lt_of_get ho;omega
 ·obtain⟨f,hf1,hf2⟩:=List.mem_flatten.1 hb'
  rcases List.mem_or_eq_of_mem_set hf1 with hf1|rfl
  ·exact hb b (List.mem_flatten.2 ⟨f,hf1,hf2⟩)
  ·rcases h3 b hf2 with h7|h7
   ·exact hb b (hmem b h7)
   ·have:=he.size;omega
theorem St.as(hs:St H0 H σ)(i:Nat){r r':Rs}(hi:σ[i]?=some r)(h: ∀fp,r.at_ H fp→r'.at_ H fp):St H0 H (σ.set i r'):=
 hs.upd hi fun fp h1 h2 _=>⟨fp,h fp h1,h2,fun b hb=> .inl hb,fun b o ho _=>ho⟩
theorem St.step(hs:St H0 H σ)(he:Ext H H'):St H0 H' σ:=by
 obtain⟨h1,fps,hl,hn,hb⟩:=hs
 exact⟨h1.trans he,fps,hl.loc fun b _ o ho=>he b o ho,hn,hb⟩
theorem Lie.append{H:Heap}: ∀{σ τ:List Rs} {f g:List (List Nat)},Lie H σ f→Lie H τ g→Lie H (σ++τ) (f++g)
 |[],_,[],_,_,h=>h
 |_::_,_,_::_,_,h,h'=>⟨h.1,Lie.append h.2 h'⟩
theorem Lie.split{H:Heap}: ∀{σ τ:List Rs} {f:List (List Nat)},Lie H (σ++τ) f→ ∃a b,f=a++b∧Lie H σ a∧Lie H τ b
 |[],_,f,h=>⟨[],f,rfl,trivial,h⟩
 |r::σ,τ,[],h=>h.elim
 |r::σ,τ,g::f,h=>let ⟨a,b,e,h1,h2⟩:=Lie.split h.2;⟨g::a,b,by rw[e];rfl,⟨h.1,h1⟩,h2⟩
theorem St.call(hs:St H0 H σ)(ht:St H H' τ):St H0 H' (τ++σ):=by
 obtain⟨h1,fps,hl,hn,hb⟩:=hs
 obtain⟨h2,gps,hl2,hn2,hb2⟩:=ht
 refine⟨h1.trans h2,gps++fps,hl2.append (hl.loc fun b _ o ho=>h2 b o ho),?_,fun b h=>?_⟩
 ·rw[List.flatten_append,List.nodup_append]
  refine⟨hn2,hn,fun a ha b hb' hab=>?_⟩
  subst hab
  have:=hb2 a ha;have:=hl.has a hb';omega
 ·rw[List.flatten_append,List.mem_append] at h
  rcases h with h|h
  ·have:=hb2 b h;have:=h1.size;omega
  ·exact hb b h
theorem St.perm(hs:St H0 H σ)(hp:σ.Perm τ):St H0 H τ:=by
 obtain⟨he,fps,hl,hn,hb⟩:=hs
 have: ∀{σ τ:List Rs},σ.Perm τ→ ∀fps,Lie H σ fps→ ∃gps,Lie H τ gps∧fps.Perm gps:=by
  intro σ τ hp
  induction hp with
  |nil=>intro fps h;exact⟨fps,h,List.Perm.refl _⟩
  |cons x _ ih=>
   intro fps h
   match fps,h with
   |f::fps,h=>obtain⟨g,h1,h2⟩:=ih fps h.2;exact⟨f::g,⟨h.1,h1⟩,h2.cons f⟩
  |swap x y l=>
   intro fps h
   match fps,h with
   |f::g::fps,h=>exact⟨g::f::fps,⟨h.2.1,h.1,h.2.2⟩,List.Perm.swap _ _ _⟩
  |trans _ _ ih1 ih2=>
   intro fps h
   obtain⟨g,h1,h2⟩:=ih1 fps h
   obtain⟨k,h3,h4⟩:=ih2 g h1
   exact⟨k,h3,h2.trans h4⟩
 obtain⟨gps,h1,h2⟩:=this hp fps hl
 exact⟨he,gps,h1,(h2.flatten.nodup_iff).1 hn,fun b h=>hb b ((h2.flatten.mem_iff).2 h)⟩
theorem St.app(hs:St H0 H (σ++τ)):St H0 H σ∧St H0 H τ:=by
 obtain⟨he,fps,hl,hn,hb⟩:=hs
 obtain⟨a,b,rfl,h1,h2⟩:=hl.split
 rw[List.flatten_append,List.nodup_append] at hn
 rw[List.flatten_append] at hb
 exact⟨⟨he,a,h1,hn.1,fun x hx=>hb x (List.mem_append_left _ hx)⟩,⟨he,b,h2,hn.2.1,fun x hx=>hb x (List.mem_append_right _ hx)⟩⟩
theorem St.tail{r:Rs}(hs:St H0 H (r::σ)):St H0 H σ:=(St.app (σ:=[r]) hs).2
theorem St.drop(hs:St H0 H σ)(n:Nat):St H0 H (σ.drop n):=by
 rw[←List.take_append_drop n σ] at hs
 exact hs.app.2
theorem St.take(hs:St H0 H σ)(n:Nat):St H0 H (σ.take n):=by
 rw[←List.take_append_drop n σ] at hs
 exact hs.app.1
theorem St.swap{r s:Rs}(hs:St H0 H (r::s::σ)):St H0 H (s::r::σ):=hs.perm (List.Perm.swap _ _ _)
theorem St.front(hs:St H0 H σ)(i:Nat){r:Rs}(hi:σ[i]?=some r):St H0 H (r::σ.eraseIdx i):=by
 refine hs.perm ?_
 have: ∀(l:List Rs) (i:Nat),l[i]?=some r→l.Perm (r::l.eraseIdx i):=by
  intro l
  induction l with
  |nil=>intro i h;simp at h
  |cons x l ih=>
   intro i h
   cases i with
   |zero=>simp at h;subst h;exact List.Perm.refl _
   |succ i=>exact((ih i (by simpa using h)).cons x).trans (List.Perm.swap _ _ _)
 exact this σ i hi
theorem St.back{r r':Rs}{i:Nat}(hi:σ[i]?=some r)(hs:St H0 H (r'::σ.eraseIdx i)):St H0 H (σ.set i r'):=by
 refine hs.perm ?_
 have: ∀(l:List Rs) (i:Nat),l[i]?=some r→(r'::l.eraseIdx i).Perm (l.set i r'):=by
  intro l
  induction l with
  |nil=>intro i h;simp at h
  |cons x l ih=>
   intro i h
   cases i with
   |zero=>exact List.Perm.refl _
   |succ i=>exact(List.Perm.swap _ _ _).trans ((ih i (by simpa using h)).cons x)
 exact this σ i hi
theorem St.del(hs:St H0 H σ)(i:Nat):St H0 H (σ.eraseIdx i):=by
 rcases Nat.lt_or_ge i σ.length with h|h
 ·exact(hs.front i (List.getElem?_eq_getElem h)).tail
 ·rw[List.eraseIdx_of_length_le h];exact hs
theorem St.cat{r s:Rs}(hs:St H0 H (r::s::σ)):St H0 H (.star r s::σ):=by
 obtain⟨he,fps,hl,hn,hb⟩:=hs
 match fps,hl with
 |f::g::fps,hl=>exact⟨he,(f++g)::fps,⟨⟨f,g,rfl,hl.1,hl.2.1⟩,hl.2.2⟩,by simpa using hn,fun b h=>hb b (by simpa using h)⟩
theorem St.cut{r s:Rs}(hs:St H0 H (.star r s::σ)):St H0 H (r::s::σ):=by
 obtain⟨he,fps,hl,hn,hb⟩:=hs
 match fps,hl with
 |_::fps,⟨⟨f,g,rfl,h1,h2⟩,h3⟩=>exact⟨he,f::g::fps,⟨h1,h2,h3⟩,by simpa using hn,fun b h=>hb b (by simpa using h)⟩
theorem St.unex{α:Type}{f:α→Rs}(hs:St H0 H (.ex f::σ)): ∃a,St H0 H (f a::σ):=by
 obtain⟨he,fps,hl,hn,hb⟩:=hs
 match fps,hl with
 |g::fps,⟨⟨a,h1⟩,h3⟩=>exact⟨a,he,g::fps,⟨h1,h3⟩,hn,hb⟩
theorem St.inex{α:Type}{f:α→Rs}(a:α)(hs:St H0 H (f a::σ)):St H0 H (.ex f::σ):=by
 obtain⟨he,fps,hl,hn,hb⟩:=hs
 match fps,hl with
 |g::fps,⟨h1,h3⟩=>exact⟨he,g::fps,⟨⟨a,h1⟩,h3⟩,hn,hb⟩
theorem St.fact{q:Prop}{r:Rs}(hs:St H0 H (.pu q r::σ)):q∧St H0 H (r::σ):=by
 obtain⟨he,fps,hl,hn,hb⟩:=hs
 match fps,hl with
 |g::fps,⟨⟨a,h1⟩,h3⟩=>exact⟨a,he,g::fps,⟨h1,h3⟩,hn,hb⟩
theorem St.with{q:Prop}{r:Rs}(hq:q)(hs:St H0 H (r::σ)):St H0 H (.pu q r::σ):=by
 obtain⟨he,fps,hl,hn,hb⟩:=hs
 match fps,hl with
 |g::fps,⟨h1,h3⟩=>exact⟨he,g::fps,⟨⟨hq,h1⟩,h3⟩,hn,hb⟩
theorem St.new(hs:St H0 H σ){r:Rs}{fp:List Nat}(he:Ext H H')(h:r.at_ H' fp)(hn:fp.Nodup)(hb: ∀b∈fp,H.size≤b):St H0 H' (r::σ):=
 St.call (τ:=[r]) hs ⟨he,[fp],⟨h,trivial⟩,by simpa using hn,by simpa using hb⟩
theorem St.block(hs:St H0 H σ)(i:Nat){b:Nat}{cs:Array Value}{ty:TypeId}(hi:σ[i]?=some (.cell b cs ty)):H[b]?=some (.cells cs ty):=by
 obtain⟨_,fps,hl,_⟩:=hs
 obtain⟨fp,_,h⟩:=hl.get hi
 exact h.2
theorem St.get(hs:St H0 H σ)(i:Nat){b j:Nat}{cs:Array Value}{ty:TypeId}{v:Value}(hi:σ[i]?=some (.cell b cs ty))(hj:cs[j]?=some v):Sh.cell H ⟨b,j,none⟩=some v:=
 cell_get (hs.block i hi) hj
theorem St.alc(hs:St H0 H σ){cs:Array Value}{ty:TypeId}{K:Nat→Heap→Prop}(hK: ∀b H',St H0 H' (.cell b cs ty::σ)→K b H'):Sh.alc H (.cells cs ty) K:=
 hK _ _ (hs.new (Ext.push _ _) (fp:=[H.size]) ⟨rfl,get_push_self _ _⟩ (by simp) (by simp))
theorem St.alcE(hs:St H0 H σ){cs:Array Value}{ty:TypeId}{K:Nat→Heap→Prop}(hK: ∀b H',Ext H H'→St H0 H' (.cell b cs ty::σ)→K b H'):Sh.alc H (.cells cs ty) K:=
 hK _ _ (Ext.push _ _) (hs.new (Ext.push _ _) (fp:=[H.size]) ⟨rfl,get_push_self _ _⟩ (by simp) (by simp))
theorem St.put(hs:St H0 H σ)(i:Nat){b j:Nat}{cs:Array Value}{ty:TypeId}{v:Value}{f:Heap→Prop}(hi:σ[i]?=some (.cell b cs ty))(hj:j<cs.size)(ho:v.oneCell'=true)
 (hK: ∀H',St H0 H' (σ.set i (.cell b (cs.setIfInBounds j v) ty))→f H'):stAt H ⟨b,j,none⟩ [v] f:=
 stAt_one (hs.block i hi) hj ho (hK _ (hs.upd hi fun fp h1 _ _=>⟨[b],⟨rfl,get_set_self h1.2⟩,by simp,fun x hx=> .inl (h1.1▸hx),fun x o ho hx=>get_set_ne (fun he=>hx (by rw[h1.1,he];exact List.mem_singleton.2 rfl)) ho⟩))
theorem St.putAll(hs:St H0 H σ)(i:Nat){b:Nat}{cs:Array Value}{ty:TypeId}{vs:List Value}{f:Heap→Prop}(hi:σ[i]?=some (.cell b cs ty))(hl:vs.length=cs.size)(ho: ∀v∈vs,v.oneCell'=true)
 (hK: ∀H',St H0 H' (σ.set i (.cell b vs.toArray ty))→f H'):stAt H ⟨b,0,none⟩ vs f:=
 stAt_whole (hs.block i hi) hl ho (hK _ (hs.upd hi fun fp h1 _ _=>⟨[b],⟨rfl,get_set_self h1.2⟩,by simp,fun x hx=> .inl (h1.1▸hx),fun x o ho hx=>get_set_ne (fun he=>hx (by rw[h1.1,he];exact List.mem_singleton.2 rfl)) ho⟩))
theorem St.putRow(hs:St H0 H σ)(i:Nat){b j:Nat}{cs:Array Value}{ty:TypeId}{vs:List Value}{f:Heap→Prop}(hi:σ[i]?=some (.cell b cs ty))(hl:j+vs.length≤cs.size)(ho: ∀v∈vs,v.oneCell'=true)
 (hK: ∀H',St H0 H' (σ.set i (.cell b (setL cs.toList j vs).toArray ty))→f H'):stAt H ⟨b,j,none⟩ vs f:=
 ⟨cs,ty,hs.block i hi,rfl,hl,ho,hK _ (hs.upd hi fun fp h1 _ _=>⟨[b],⟨rfl,get_set_self h1.2⟩,by simp,fun x hx=> .inl (h1.1▸hx),fun x o ho hx=>get_set_ne (fun he=>hx (by rw[h1.1];exact List.mem_singleton.2 he.symm)) ho⟩)⟩
theorem St.fs(hs:St H0 H σ)(i:Nat){p:Option Addr}{l c k:Nat}{el:TypeId}{fs:List Value}(hi:σ[i]?=some (.sl p l c el k fs)):FS 0 H p l c el k fs:=by
 obtain⟨_,fps,hl,_⟩:=hs
 obtain⟨fp,_,h⟩:=hl.get hi
 exact h.1
theorem St.rs(hs:St H0 H σ)(i:Nat){p:Option Addr}{l c k:Nat}{el:TypeId}{fs:List Value}(hi:σ[i]?=some (.sl p l c el k fs)):RS H p l el k fs:=(hs.fs i hi).rs
theorem St.is(hs:St H0 H σ)(i:Nat){p:Option Addr}{l c:Nat}{el:TypeId}{fs:List Value}(hi:σ[i]?=some (.sl p l c el 1 fs)):IS H p l fs:=(hs.rs i hi).is
theorem FS.resrc{n0:Nat}{H:Heap}{p:Option Addr}{l c k:Nat}{el:TypeId}{fs:List Value}(h:FS n0 H p l c el k fs): ∃fp,(Rs.sl p l c el k fs).at_ H fp∧fp.Nodup∧(∀b∈fp,n0≤b)∧ ∀b∈fp,p=some ⟨b,0,none⟩:=by
 rcases h.at_ with ⟨h1,h2⟩|⟨blk,cs,h1,h2,h3,h4,h5⟩
 ·exact⟨[],⟨h.lower (Nat.zero_le _),.inl ⟨h1,rfl⟩⟩,by simp,by simp,by simp⟩
 ·exact⟨[blk],⟨h.lower (Nat.zero_le _),.inr ⟨blk,h1,rfl⟩⟩,by simp,by simpa using h2,by simpa using h1⟩
theorem St.newSl(hs:St H0 H σ){p:Option Addr}{l c k:Nat}{el:TypeId}{fs:List Value}(he:Ext H H')(h:FS H.size H' p l c el k fs):St H0 H' (.sl p l c el k fs::σ):=by
 obtain⟨fp,h1,h2,h3,_⟩:=h.resrc
 exact hs.new he h1 h2 h3
theorem St.nilSl(hs:St H0 H σ)(el:TypeId)(k:Nat):St H0 H (.sl none 0 0 el k []::σ):=hs.newSl (Ext.refl _) (FS.nil _ _ _ _)
theorem St.toSl(hs:St H0 H σ)(i:Nat){b l k:Nat}{cs:Array Value}{ty:TypeId}{fs:List Value}(hi:σ[i]?=some (.cell b cs ty))(hl:cs.size=l*k)(hf:cs.toList=fs)(ho: ∀v∈fs,v.oneCell'=true):
 St H0 H (σ.set i (.sl (some ⟨b,0,none⟩) l l ty k fs)):=
 hs.as i hi fun fp h=>⟨⟨by rw[←hf];simpa using hl,Nat.le_refl _,ho,.inr ⟨b,cs,rfl,Nat.zero_le _,h.2,hl,fun j v hv=>by rw[←hf] at hv;simpa using hv⟩⟩,.inr ⟨b,rfl,h.1⟩⟩
theorem FS.app2{n0:Nat}{H:Heap}{p q:Option Addr}{l c n:Nat}{el:TypeId}{k bytes:Nat}{zero:Array Value}{fs gs:List Value}(h:FS n0 H p l c el k fs)(hrow:Go.Sh.rowOf H q (n*k) gs.toArray)(hgl:gs.length=n*k)(hgo: ∀v∈gs,v.oneCell'=true)(hk:0<k)(hn:n0≤H.size)(hz:zero.size=k)
 (hb:(l+n)*bytes≤70368744177664)(hm:l+n≤1000000000000){K:Option Addr→Nat→Nat→Heap→Prop}
 (hK: ∀p' c' H',FS n0 H' p' (l+n) c' el k (fs++gs)→(∀(b:Nat) (o:Obj),H[b]?=some o→p≠some ⟨b,0,none⟩→H'[b]?=some o)→(p'=p∨p'=some ⟨H.size,0,none⟩)→K p' (l+n) c' H'):appQ k bytes zero H p l c q n el K:=by
 by_cases hle:l+n≤c
 ·obtain⟨g1,g2,xs,g3,g4,_⟩:=h.app' (K:=fun p' l' c' H'=>p'=p→K p' l' c' H') hrow hgl hgo hk hn hz hb hm fun p' c' H' h1 h2 h3 hp=>hK p' c' H' h1 h2 (.inl hp)
  refine⟨g1,g2,xs,g3,fun hle=>?_,fun hlt=>by omega⟩
  have:=g4 hle
  cases p with
  |none=>exact this rfl
  |some a=>
   obtain⟨cs,T,a1,a2,a3,a4,a5⟩:=this
   exact⟨cs,T,a1,a2,a3,a4,a5 rfl⟩
 ·obtain⟨g1,g2,xs,g3,_,g4⟩:=h.app' (K:=fun p' l' c' H'=>p'=some ⟨H.size,0,none⟩→K p' l' c' H') hrow hgl hgo hk hn hz hb hm fun p' c' H' h1 h2 h3 hp=>hK p' c' H' h1 h2 (.inr hp)
  refine⟨g1,g2,xs,g3,fun hle'=>by omega,fun hlt=>?_⟩
  obtain⟨ys,b1,b2⟩:=g4 hlt
  exact⟨ys,b1,fun c' hc'=>b2 c' hc' rfl⟩
theorem Rs.sl_at{H:Heap}{p:Option Addr}{l c k:Nat}{el:TypeId}{fs:List Value}{fp:List Nat}(h:(Rs.sl p l c el k fs).at_ H fp){b:Nat}(hp:p=some ⟨b,0,none⟩):fp=[b]:=by
 rcases h.2 with ⟨h1,_⟩|⟨blk,h1,h2⟩
 ·rw[hp] at h1;cases h1
 ·rw[hp] at h1;cases h1;exact h2
theorem St.slSet(hs:St H0 H σ){i:Nat}{p p':Option Addr}{l c l' c' k:Nat}{el:TypeId}{fs fs':List Value}(hi:σ[i]?=some (.sl p l c el k fs))(h:FS 0 H' p' l' c' el k fs')
 (hk: ∀(b:Nat) (o:Obj),H[b]?=some o→p≠some ⟨b,0,none⟩→H'[b]?=some o)(hp:p'=p∨p'=some ⟨H.size,0,none⟩):St H0 H' (σ.set i (.sl p' l' c' el k fs')):=by
 refine hs.upd hi fun fp h1 h2 h3=>?_
 obtain⟨fp',g1,g2,_,g4⟩:=h.resrc
 refine⟨fp',g1,g2,fun b hb=>?_,fun b o ho hb=>hk b o ho fun he=>hb (by rw[Rs.sl_at h1 he];exact List.mem_singleton.2 rfl)⟩
 have:=g4 b hb
 rcases hp with rfl|hp
 ·left;rw[Rs.sl_at h1 this];exact List.mem_singleton.2 rfl
 ·rw[this] at hp;cases hp;exact .inr (Nat.le_refl _)
theorem St.appS(hs:St H0 H σ)(i:Nat){p q:Option Addr}{l c n k bytes:Nat}{el:TypeId}{zero:Array Value}{fs gs:List Value}(hi:σ[i]?=some (.sl p l c el k fs))(hrow:Go.Sh.rowOf H q (n*k) gs.toArray)(hgl:gs.length=n*k)
 (hgo: ∀v∈gs,v.oneCell'=true)(hk:0<k)(hz:zero.size=k)(hb:(l+n)*bytes≤70368744177664)(hm:l+n≤1000000000000){K:Option Addr→Nat→Nat→Heap→Prop}
 (hK: ∀p' c' H',St H0 H' (σ.set i (.sl p' (l+n) c' el k (fs++gs)))→K p' (l+n) c' H'):appQ k bytes zero H p l c q n el K:=
 (hs.fs i hi).app2 hrow hgl hgo hk (Nat.zero_le _) hz hb hm fun p' c' H' h1 h2 h3=>hK p' c' H' (hs.slSet hi h1 h2 h3)
theorem St.appC(hs:St H0 H σ)(i m:Nat){p:Option Addr}{b l c n k bytes:Nat}{el ty:TypeId}{zero cs:Array Value}{fs:List Value}(hi:σ[i]?=some (.sl p l c el k fs))(hm':σ[m]?=some (.cell b cs ty))(hgl:cs.size=n*k)
 (hgo: ∀v∈cs.toList,v.oneCell'=true)(hk:0<k)(hz:zero.size=k)(hb:(l+n)*bytes≤70368744177664)(hm:l+n≤1000000000000){K:Option Addr→Nat→Nat→Heap→Prop}
 (hK: ∀p' c' H',St H0 H' (σ.set i (.sl p' (l+n) c' el k (fs++cs.toList)))→K p' (l+n) c' H'):appQ k bytes zero H p l c (some ⟨b,0,none⟩) n el K:=
 hs.appS i hi (gs:=cs.toList) (show Go.Sh.rowOf H (Option.some ⟨b,0,none⟩) (n*k) cs.toList.toArray from⟨by simpa using hgl,by simpa using rowIn_whole (hs.block m hm')⟩) (by simpa using hgl) hgo hk hz hb hm hK
theorem St.appR(hs:St H0 H σ)(i:Nat){p q:Option Addr}{l c n k bytes:Nat}{el el':TypeId}{zero:Array Value}{fs gs:List Value}(hi:σ[i]?=some (.sl p l c el k fs))(hr:RS H q n el' k gs)(hk:0<k)(hz:zero.size=k)
 (hb:(l+n)*bytes≤70368744177664)(hm:l+n≤1000000000000){K:Option Addr→Nat→Nat→Heap→Prop}
 (hK: ∀p' c' H',St H0 H' (σ.set i (.sl p' (l+n) c' el k (fs++gs)))→K p' (l+n) c' H'):appQ k bytes zero H p l c q n el K:=
 hs.appS i hi hr.rowOf hr.len hr.one hk hz hb hm hK
theorem IS.rowOf{H:Heap}{p:Option Addr}{l:Nat}{fs:List Value}(h:IS H p l fs):Go.Sh.rowOf H p (l*1) fs.toArray:=by
 cases p with
 |none=>
  have:fs=[]:=List.eq_nil_iff_forall_not_mem.2 fun v hv=>by
   obtain⟨i,hi⟩:=List.getElem?_of_mem hv
   obtain⟨a,h1,_⟩:=h.get i v hi
   cases h1
  subst this;rfl
 |some a=>
  refine⟨by simp[h.len],fun j v hv=>?_⟩
  obtain⟨a',h1,h2⟩:=h.get j v (by simpa using hv)
  cases h1;exact h2
theorem St.appI(hs:St H0 H σ)(i:Nat){p q:Option Addr}{l c n bytes:Nat}{el:TypeId}{zero:Array Value}{fs gs:List Value}(hi:σ[i]?=some (.sl p l c el 1 fs))(hr:IS H q n gs)(ho: ∀v∈gs,v.oneCell'=true)(hz:zero.size=1)
 (hb:(l+n)*bytes≤70368744177664)(hm:l+n≤1000000000000){K:Option Addr→Nat→Nat→Heap→Prop}
 (hK: ∀p' c' H',St H0 H' (σ.set i (.sl p' (l+n) c' el 1 (fs++gs)))→K p' (l+n) c' H'):appQ 1 bytes zero H p l c q n el K:=
 hs.appS i hi hr.rowOf (by simp[hr.len]) ho (by decide) hz hb hm hK
theorem St.slPut(hs:St H0 H σ)(i:Nat){b l c k j:Nat}{el:TypeId}{fs:List Value}{v:Value}{f:Heap→Prop}(hi:σ[i]?=some (.sl (some ⟨b,0,none⟩) l c el k fs))(hj:j<fs.length)(ho:v.oneCell'=true)
 (hK: ∀H',St H0 H' (σ.set i (.sl (some ⟨b,0,none⟩) l c el k (fs.set j v)))→f H'):stAt H ⟨b,j,none⟩ [v] f:=
 (hs.fs i hi).set hj ho fun H' h1 h2 h3=>hK H' (hs.slSet hi h1 (fun b' o ho hne=>h2 b' o ho fun he=>hne (by rw[he])) (.inl rfl))
theorem St.slSome(hs:St H0 H σ)(i:Nat){p:Option Addr}{l c k j:Nat}{el:TypeId}{fs:List Value}(hi:σ[i]?=some (.sl p l c el k fs))(hj:j<fs.length): ∃b,p=some ⟨b,0,none⟩:=by
 obtain⟨b,h,_⟩:=(hs.rs i hi).cell (List.getElem?_eq_getElem hj)
 exact⟨b,h⟩
def kints(k:IntKind)(l:List Int):List Value:=l.map (Value.int k)
theorem kints_get{k:IntKind}{l:List Int}{i:Nat}{v:Int}(h:l[i]?=some v):(kints k l)[i]?=some (Value.int k v):=by simp[kints,h]
theorem kints_len(k:IntKind)(l:List Int):(kints k l).length=l.length:=by simp[kints]
theorem kints_append(k:IntKind)(a b:List Int):kints k (a++b)=kints k a++kints k b:=by simp[kints]
theorem kints_set(k:IntKind)(l:List Int)(i:Nat)(v:Int):(kints k l).set i (.int k v)=kints k (l.set i v):=by simp[kints]
theorem kints_one(k:IntKind)(l:List Int): ∀v∈kints k l,v.oneCell'=true:=fun v hv=>by
 obtain⟨x,_,rfl⟩:=List.mem_map.1 hv;rfl
theorem IS.rd{H:Heap}{p:Option Addr}{l:Nat}{k:IntKind}{ls:List Int}(h:IS H p l (kints k ls)){i x:Int}(h0:0≤i)(h1:i<l)(hx:ls[i.toNat]?=some x){K:Int→Prop}(hK:K x):
 ∃a:Addr,p=some a∧0≤i∧i<((l:Nat):Int)∧ ∃v:Int,Sh.cell H (Addr.add a (Int.toNat i*1))=some (.int k v)∧K v:=by
 obtain⟨a,hp,hc⟩:=h.get _ _ (kints_get hx)
 exact⟨a,hp,h0,h1,x,by simpa using hc,hK⟩
theorem IS.length{H:Heap}{p:Option Addr}{l:Nat}{k:IntKind}{ls:List Int}(h:IS H p l (kints k ls)):ls.length=l:=by have:=h.len;rwa [kints_len] at this
theorem add_add(a:Addr)(i j:Nat):(a.add i).add j=a.add (i+j):=by
 obtain⟨b,o,s⟩:=a
 unfold Addr.add
 cases s<;>simp<;>split<;>split<;>simp_all<;>omega
theorem IS.part{H:Heap}{a:Addr}{l:Nat}{fs:List Value}(h:IS H (some a) l fs){i n:Nat}(hi:i+n≤l):IS H (some (a.add i)) n ((fs.drop i).take n):=by
 refine⟨by have:=h.len;simp;omega,fun j v hv=>?_⟩
 rw[List.getElem?_take] at hv
 split at hv
 ·rw[List.getElem?_drop] at hv
  obtain⟨a',h1,h2⟩:=h.get _ _ hv
  cases h1
  refine⟨_,rfl,?_⟩
  rw[show(a.add i).add j=a.add (i+j) from add_add a i j]
  exact h2
 ·cases hv
theorem upto{n:Nat}{Q:Nat→Prop}(h: ∀i,i≤n→(i<n→Q (i+1))→Q i): ∀i,i≤n→Q i:=by
 have: ∀m i,n-i=m→i≤n→Q i:=by
  intro m
  induction m with
  |zero=>intro i hm hi;exact h i hi fun hlt=>by omega
  |succ m ih=>intro i hm hi;exact h i hi fun hlt=>ih (i+1) (by omega) (by omega)
 exact fun i hi=>this (n-i) i rfl hi
end Go.Sh
namespace Go.Sh
variable {H0 H:Heap} {σ:List Rs}
theorem zeroA(n:Nat):Array.replicate n (Value.int .i64 0)=(ints (List.replicate n 0)).toArray:=by simp[ints]
theorem intsA_size(l:List Int):(ints l).toArray.size=l.length:=by simp[ints]
theorem St.rdA(hs:St H0 H σ)(i:Nat){b j:Nat}{l:List Int}{ty:TypeId}{x:Int}(hi:σ[i]?=some (.cell b (ints l).toArray ty))(hx:l[j]?=some x):Sh.cell H ⟨b,j,none⟩=some (.int .i64 x):=
 hs.get i hi (by rw[List.getElem?_toArray];exact ints_get hx)
theorem St.putA(hs:St H0 H σ)(i:Nat){b j:Nat}{l:List Int}{ty:TypeId}{x:Int}{f:Heap→Prop}(hi:σ[i]?=some (.cell b (ints l).toArray ty))(hj:j<l.length)
 (hK: ∀H',St H0 H' (σ.set i (.cell b (ints (l.set j x)).toArray ty))→f H'):stAt H ⟨b,j,none⟩ [.int .i64 x] f:=
 hs.put i hi (by rw[intsA_size];exact hj) rfl fun H' hs'=>hK H' (by
  have e:(ints l).toArray.setIfInBounds j (Value.int .i64 x)=(ints (l.set j x)).toArray:=by rw[←ints_set];simp
  rw[←e];exact hs')
theorem St.putAllA(hs:St H0 H σ)(i:Nat){b:Nat}{cs:Array Value}{l:List Int}{ty:TypeId}{f:Heap→Prop}(hi:σ[i]?=some (.cell b cs ty))(hl:l.length=cs.size)
 (hK: ∀H',St H0 H' (σ.set i (.cell b (ints l).toArray ty))→f H'):stAt H ⟨b,0,none⟩ (Array.toList (ints l).toArray) f:=
 hs.putAll i hi (by simpa[ints] using hl) (fun v hv=>ints_one l v (by simpa using hv)) fun H' hs'=>hK H' (by simpa using hs')
theorem reps_rep(v:Value): ∀n,reps n [v]=List.replicate n v
 |0=>rfl
 |n+1=>by rw[reps,reps_rep v n,List.replicate_succ];rfl
theorem repsA(n:Nat):(reps n (Array.toList #[Value.int .i64 0])).toArray=(ints (List.replicate n 0)).toArray:=by
 show(reps n [Value.int .i64 0]).toArray=_
 rw[reps_rep];simp[ints]
theorem St.isA(hs:St H0 H σ)(i:Nat){b n:Nat}{l:List Int}{ty:TypeId}(hi:σ[i]?=some (.cell b (ints l).toArray ty))(hn:l.length=n):IS H (some ⟨b,0,none⟩) n (ints l):=
 ⟨by rw[ints_len];exact hn,fun j v hv=>⟨_,rfl,by rw[add_none,Nat.zero_add];exact hs.get i hi (by rw[List.getElem?_toArray];exact hv)⟩⟩
theorem getD_some{α:Type}(a:List α)(d:α){i:Nat}(h:i<a.length):a[i]?=some (a.getD i d):=by rw[List.getD_eq_getElem?_getD,List.getElem?_eq_getElem h];rfl
def fillA(L:List Int)(s:Nat):List Int:=L.take s++List.replicate (L.length-s) 0
theorem fillA_len{L:List Int}{s:Nat}(h:s≤L.length):(fillA L s).length=L.length:=by unfold fillA;simp;omega
theorem fillA_zero(L:List Int):fillA L 0=List.replicate L.length 0:=by simp[fillA]
theorem fillA_all(L:List Int):fillA L L.length=L:=by simp[fillA]
theorem fillA_set{L:List Int}{s:Nat}(h:s<L.length):(fillA L s).set s (L.getD s 0)=fillA L (s+1):=by
 unfold fillA
 have ht:L.take (s+1)=L.take s++[L.getD s 0]:=by rw[List.take_add_one,getD_some L 0 h];rfl
 rw[ht,List.set_append_right _ _ (by rw[List.length_take];omega),List.length_take,Nat.min_eq_left (by omega),Nat.sub_self,show L.length-s=(L.length-(s+1))+1 from by omega,List.replicate_succ,List.set_cons_zero,List.append_assoc]
 rfl
theorem fillA_at{L:List Int}{s:Nat}(h:s<L.length):(fillA L s)[s]?=some 0:=by
 unfold fillA
 rw[List.getElem?_append_right (by rw[List.length_take];omega),List.length_take,Nat.min_eq_left (by omega),Nat.sub_self,show L.length-s=(L.length-(s+1))+1 from by omega,List.replicate_succ]
 rfl
theorem fillA_set0{L:List Int}{s:Nat}(h:s<L.length):(fillA L s).set s 0=fillA L s:=by
 have h1:=fillA_at h
 obtain⟨h2,h3⟩:=List.getElem?_eq_some_iff.1 h1
 rw[←h3,List.set_getElem_self]
theorem tab_getD{n:Nat}{f:Nat→Int}{i:Nat}(h:i<n):((List.range n).map f).getD i 0=f i:=by simp[List.getD_eq_getElem?_getD,h]
theorem tab_get{n:Nat}{f:Nat→Int}{i:Nat}(h:i<n):((List.range n).map f)[i]?=some (f i):=by simp[h]
theorem mul_bd{x y A B:Int}(hx: -A≤x∧x≤A)(hy: -B≤y∧y≤B): -(A*B)≤x*y∧x*y≤A*B:=by
 have h1:x.natAbs≤A.toNat:=by omega
 have h2:y.natAbs≤B.toNat:=by omega
 have h3:=Nat.mul_le_mul h1 h2
 rw[←Int.natAbs_mul] at h3
 have h4:((A.toNat*B.toNat:Nat):Int)=A*B:=by
  rw[Int.natCast_mul,Int.toNat_of_nonneg (by omega),Int.toNat_of_nonneg (by omega)]
 omega
end Go.Sh
namespace Go.Proofs
open Go.Sh
structure M6 where
 a:Int
 b:Int
 c:Int
 d:Int
 e:Int
 f:Int
 deriving DecidableEq
def M6.l(m:M6):List Int:=[m.a,m.b,m.c,m.d,m.e,m.f]
structure LayF where
 id:Int
 kind:Int
 hidden:Bool
 opacity:Int
 mode:Int
 w:Int
 h:Int
 p:List Int
 mask:List Int
 map:M6
 smooth:Bool
 table:Int
 params:List Int
 deriving DecidableEq
inductive Lay where
 |mk (f:LayF) (kids:List Lay)
def Lay.f:Lay→LayF
 | .mk f _=>f
def Lay.kids:Lay→List Lay
 | .mk _ k=>k
structure Sl3 where
 p:Option Addr
 l:Nat
 c:Nat
def Sl3.v(s:Sl3):Value:= .slice s.p s.l s.c
def Sl3.nil:Sl3:=⟨none,0,0⟩
inductive T where
 |mk (f:LayF) (P M A K:Sl3) (kids:List T)
def T.f:T→LayF
 | .mk f _ _ _ _ _=>f
def T.K:T→Sl3
 | .mk _ _ _ _ K _=>K
def T.P':T→Sl3
 | .mk _ P _ _ _ _=>P
def T.M':T→Sl3
 | .mk _ _ M _ _ _=>M
def T.A':T→Sl3
 | .mk _ _ _ A _ _=>A
def T.kids:T→List T
 | .mk _ _ _ _ _ k=>k
def cellsL(f:LayF)(P M A K:Value):List Value:=
 [.int .i64 f.id,.int .i64 f.kind,.bool f.hidden,.int .i64 f.opacity,.int .i64 f.mode,.int .i64 f.w,.int .i64 f.h,P,M,
  .int .i64 f.map.a,.int .i64 f.map.b,.int .i64 f.map.c,.int .i64 f.map.d,.int .i64 f.map.e,.int .i64 f.map.f,.bool f.smooth,.int .i64 f.table,A,K]
def cellsT:T→List Value
 | .mk f P M A K _=>cellsL f P.v M.v A.v K.v
def cellsKs(ts:List T):List Value:=(ts.map cellsT).flatten
theorem cellsT_len(t:T):(cellsT t).length=19:=by cases t;rfl
theorem cellsKs_len(ts:List T):(cellsKs ts).length=ts.length*19:=by
 unfold cellsKs
 induction ts with
 |nil=>rfl
 |cons t ts ih=>rw[List.map_cons,List.flatten_cons,List.length_append,ih,cellsT_len,List.length_cons];omega
theorem cellsT_one(t:T): ∀v∈cellsT t,v.oneCell'=true:=by
 cases t with|mk f P M A K ks=>
 show ∀v∈cellsL f P.v M.v A.v K.v,v.oneCell'=true
 unfold cellsL
 simp only[List.forall_mem_cons]
 exact⟨rfl,rfl,rfl,rfl,rfl,rfl,rfl,rfl,rfl,rfl,rfl,rfl,rfl,rfl,rfl,rfl,rfl,rfl,rfl,fun _ h=>by cases h⟩
theorem cellsL_one(f:LayF)(P M A K:Sl3): ∀v∈cellsL f P.v M.v A.v K.v,v.oneCell'=true:=cellsT_one (.mk f P M A K [])
theorem cellsKs_app(a b:List T):cellsKs (a++b)=cellsKs a++cellsKs b:=by simp[cellsKs]
theorem cellsKs_one(t:T):cellsKs [t]=cellsT t:=by simp[cellsKs]
theorem cellsKs_cons(t:T)(ts:List T):cellsKs (t::ts)=cellsT t++cellsKs ts:=by simp[cellsKs]
theorem cellsKs_get{ts:List T}{i:Nat}{t:T}(h:ts[i]?=some t){j:Nat}{v:Value}(hv:(cellsT t)[j]?=some v):(cellsKs ts)[i*19+j]?=some v:=by
 have hj:j<19:=by have:=(List.getElem?_eq_some_iff.1 hv).1;rw[cellsT_len] at this;exact this
 induction ts generalizing i with
 |nil=>simp at h
 |cons x ts ih=>
  rw[cellsKs_cons]
  cases i with
  |zero=>
   simp at h;subst h
   rw[Nat.zero_mul,Nat.zero_add,List.getElem?_append_left (by rw[cellsT_len];exact hj)];exact hv
  |succ i=>
   rw[List.getElem?_append_right (by rw[cellsT_len];omega),cellsT_len,show(i+1)*19+j-19=i*19+j from by omega]
   exact ih (by simpa using h)
mutual
def layT:T→Lay
 | .mk f _ _ _ _ ks=> .mk f (layKs ks)
def layKs:List T→List Lay
 |[]=>[]
 |t::ts=>layT t::layKs ts
end
theorem layKs_map(ts:List T):layKs ts=ts.map layT:=by
 induction ts with
 |nil=>rfl
 |cons t ts ih=>rw[layKs,ih];rfl
theorem layKs_len(ts:List T):(layKs ts).length=ts.length:=by rw[layKs_map,List.length_map]
theorem layKs_app(a b:List T):layKs (a++b)=layKs a++layKs b:=by simp[layKs_map]
theorem layT_f(t:T):(layT t).f=t.f:=by cases t;rfl
theorem T.ind{Q:T→Prop}(h: ∀f P M A K ks,(∀t∈ks,Q t)→Q (.mk f P M A K ks)): ∀t,Q t:=
 fun t=>T.rec (motive_1:=Q) (motive_2:=fun ts=> ∀t∈ts,Q t) (fun f P M A K ks ih=>h f P M A K ks ih) (fun _ h=>by cases h)
  (fun t ts h1 h2 u hu=>by
   rcases List.mem_cons.1 hu with rfl|hu
   ·exact h1
   ·exact h2 u hu) t
theorem Lay.ind{Q:Lay→Prop}(h: ∀f ks,(∀t∈ks,Q t)→Q (.mk f ks)): ∀t,Q t:=
 fun t=>Lay.rec (motive_1:=Q) (motive_2:=fun ts=> ∀t∈ts,Q t) (fun f ks ih=>h f ks ih) (fun _ h=>by cases h)
  (fun t ts h1 h2 u hu=>by
   rcases List.mem_cons.1 hu with rfl|hu
   ·exact h1
   ·exact h2 u hu) t
def rowsK(H:Heap)(K:Sl3)(ks:List T):Prop:=K.l=ks.length∧ ∀(i:Nat) t,ks[i]?=some t→ ∃a,K.p=some a∧rowIn H (a.add (i*19)) (cellsT t).toArray
mutual
def rdT(H:Heap):T→Prop
 | .mk f P M A K ks=>IS H P.p P.l (ints f.p)∧IS H M.p M.l (kints .u8 f.mask)∧IS H A.p A.l (ints f.params)∧rowsK H K ks∧rdKs H ks
def rdKs(H:Heap):List T→Prop
 |[]=>True
 |t::ts=>rdT H t∧rdKs H ts
end
def grp(H:Heap)(K:Sl3)(ks:List T):Prop:=rowsK H K ks∧rdKs H ks
theorem rdKs_iff{H:Heap}: ∀{ts:List T},rdKs H ts↔ ∀t∈ts,rdT H t
 |[]=>⟨fun _ _ h=>(by cases h),fun _=>trivial⟩
 |t::ts=>by
  rw[rdKs,rdKs_iff]
  simp only[List.forall_mem_cons]
theorem rowsK.ext{H H':Heap}{K:Sl3}{ks:List T}(h:rowsK H K ks)(he:Ext H H'):rowsK H' K ks:=
 ⟨h.1,fun i t ht=>let ⟨a,h1,h2⟩:=h.2 i t ht;⟨a,h1,rowAt_ext he h2⟩⟩
theorem rdT.ext{H H':Heap}(he:Ext H H'): ∀t,rdT H t→rdT H' t:=by
 refine T.ind fun f P M A K ks ih h=>?_
 rw[rdT] at h ⊢
 exact⟨h.1.ext he,h.2.1.ext he,h.2.2.1.ext he,h.2.2.2.1.ext he,rdKs_iff.2 fun t ht=>ih t ht (rdKs_iff.1 h.2.2.2.2 t ht)⟩
theorem grp.ext{H H':Heap}{K:Sl3}{ks:List T}(h:grp H K ks)(he:Ext H H'):grp H' K ks:=
 ⟨h.1.ext he,rdKs_iff.2 fun t ht=>rdT.ext he t (rdKs_iff.1 h.2 t ht)⟩
theorem grp.get{H:Heap}{K:Sl3}{ks:List T}(h:grp H K ks){i:Nat}{t:T}(ht:ks[i]?=some t): ∃a,K.p=some a∧rowIn H (a.add (i*19)) (cellsT t).toArray∧rdT H t:=
 let ⟨a,h1,h2⟩:=h.1.2 i t ht
 ⟨a,h1,h2,rdKs_iff.1 h.2 t (List.mem_of_getElem? ht)⟩
theorem grp.nil(H:Heap):grp H .nil []:=⟨⟨rfl,fun i t h=>by simp at h⟩,trivial⟩
theorem rdT.grp{H:Heap}{t:T}(h:rdT H t):grp H t.K t.kids:=by
 cases t with|mk f P M A K ks=>
 rw[rdT] at h
 exact⟨h.2.2.2.1,h.2.2.2.2⟩
mutual
def resT:T→List Rs
 | .mk f P M A K ks=> .sl P.p P.l P.c 3 1 (ints f.p):: .sl M.p M.l M.c 5 1 (kints .u8 f.mask):: .sl A.p A.l A.c 3 1 (ints f.params):: .sl K.p K.l K.c 118 19 (cellsKs ks)::resKs ks
def resKs:List T→List Rs
 |[]=>[]
 |t::ts=>resT t++resKs ts
end
def resG(K:Sl3)(ks:List T):List Rs:= .sl K.p K.l K.c 118 19 (cellsKs ks)::resKs ks
theorem resKs_app(a b:List T):resKs (a++b)=resKs a++resKs b:=by
 induction a with
 |nil=>rfl
 |cons t a ih=>rw[List.cons_append,resKs,ih,resKs,List.append_assoc]
theorem resKs_one(t:T):resKs [t]=resT t:=by rw[resKs,resKs,List.append_nil]
theorem resKs_cons(t:T)(ts:List T):resKs (t::ts)=resT t++resKs ts:=by rw[resKs]
theorem resT_mk(f:LayF)(P M A K:Sl3)(ks:List T):resT (.mk f P M A K ks)= .sl P.p P.l P.c 3 1 (ints f.p):: .sl M.p M.l M.c 5 1 (kints .u8 f.mask):: .sl A.p A.l A.c 3 1 (ints f.params)::resG K ks:=by rw[resT];rfl
end Go.Proofs
namespace Go.Sh
open Go.Proofs
variable {H0 H H':Heap} {σ τ:List Rs}
theorem RS.rowsK{H:Heap}{K:Sl3}{ks:List T}{el:TypeId}(h:RS H K.p K.l el 19 (cellsKs ks)):Go.Proofs.rowsK H K ks:=by
 have hl:K.l=ks.length:=by have:=h.len;rw[cellsKs_len] at this;omega
 refine⟨hl,fun i t ht=>?_⟩
 have hi:i<ks.length:=(List.getElem?_eq_some_iff.1 ht).1
 obtain⟨blk,h1,h2⟩:=h.row (i:=i) (by omega) (by decide) (xs:=(cellsT t).toArray) fun j v hv=>cellsKs_get ht (by simpa using hv)
 exact⟨_,h1,by rw[add_none,Nat.zero_add];exact h2⟩
theorem St.rdKs_of: ∀{ks:List T},(∀t∈ks,∀{σ:List Rs},St H0 H (resT t++σ)→Go.Proofs.rdT H t)→St H0 H (resKs ks++σ)→Go.Proofs.rdKs H ks
 |[],_,_=>trivial
 |t::ts,h,hs=>by
  rw[resKs,List.append_assoc] at hs
  exact⟨h t List.mem_cons_self hs,St.rdKs_of (fun t ht=>h t (List.mem_cons_of_mem _ ht)) hs.app.2⟩
theorem St.rdT: ∀(t:T) {σ:List Rs},St H0 H (resT t++σ)→Go.Proofs.rdT H t:=by
 refine T.ind fun f P M A K ks ih σ hs=>?_
 rw[resT] at hs
 rw[Go.Proofs.rdT]
 refine⟨hs.is 0 rfl,hs.is 1 rfl,hs.is 2 rfl,RS.rowsK (hs.rs 3 rfl),St.rdKs_of (fun t ht _ hs=>ih t ht hs) (σ:=σ) ?_⟩
 exact hs.drop 4
theorem St.grp{K:Sl3}{ks:List T}(hs:St H0 H (resG K ks++σ)):Go.Proofs.grp H K ks:=
 ⟨RS.rowsK (hs.rs 0 rfl),St.rdKs_of (fun t ht _ hs=>St.rdT t hs) (σ:=σ) hs.tail⟩
theorem St.callR(hs:St H0 H σ)(ht:St H H' τ):St H0 H' (σ++τ):=(hs.call ht).perm List.perm_append_comm
end Go.Sh
namespace Go.Proofs
open Go.Sh
mutual
def okL:Lay→Prop
 | .mk f ks=>f.p.length≤1000000000∧f.mask.length≤1000000000∧f.params.length≤1000000000∧ks.length≤1000000000∧okKs ks
def okKs:List Lay→Prop
 |[]=>True
 |t::ts=>okL t∧okKs ts
end
mutual
def cntL:Lay→Nat
 | .mk _ ks=>1+cntKs ks
def cntKs:List Lay→Nat
 |[]=>0
 |t::ts=>cntL t+cntKs ts
end
mutual
def depL:Lay→Nat
 | .mk _ ks=>1+depKs ks
def depKs:List Lay→Nat
 |[]=>0
 |t::ts=>max (depL t) (depKs ts)
end
theorem okKs_iff: ∀{ts:List Lay},okKs ts↔ ∀t∈ts,okL t
 |[]=>⟨fun _ _ h=>(by cases h),fun _=>trivial⟩
 |t::ts=>by
  rw[okKs,okKs_iff]
  simp only[List.forall_mem_cons]
theorem okL.kids{t:Lay}(h:okL t):okKs t.kids∧t.kids.length≤1000000000:=by
 cases t;rw[okL] at h;exact⟨h.2.2.2.2,h.2.2.2.1⟩
theorem cntL_pos(t:Lay):1≤cntL t:=by cases t;rw[cntL];omega
theorem len_cnt: ∀ts:List Lay,ts.length≤cntKs ts
 |[]=>Nat.le_refl _
 |t::ts=>by have:=len_cnt ts;have:=cntL_pos t;rw[cntKs,List.length_cons];omega
theorem dep_cntKs: ∀{ts:List Lay},(∀t∈ts,depL t≤cntL t)→depKs ts≤cntKs ts
 |[],_=>Nat.le_refl _
 |t::ts,h=>by
  have h1:=h t List.mem_cons_self
  have h2:=dep_cntKs fun u hu=>h u (List.mem_cons_of_mem _ hu)
  rw[depKs,cntKs];omega
theorem dep_cntL: ∀t,depL t≤cntL t:=Lay.ind fun f ks ih=>by
 have:=dep_cntKs ih
 rw[depL,cntL];omega
theorem dep_cnt(ts:List Lay):depKs ts≤cntKs ts:=dep_cntKs fun t _=>dep_cntL t
theorem cnt_mem: ∀{ts:List Lay} {t:Lay},t∈ts→cntL t≤cntKs ts
 |u::ts,t,h=>by
  rw[cntKs]
  rcases List.mem_cons.1 h with rfl|h
  ·omega
  ·have:=cnt_mem h;omega
theorem cntKs_app(a b:List Lay):cntKs (a++b)=cntKs a+cntKs b:=by
 induction a with
 |nil=>simp[cntKs]
 |cons t a ih=>rw[List.cons_append,cntKs,ih,cntKs];omega
theorem depKs_app(a b:List Lay):depKs (a++b)=max (depKs a) (depKs b):=by
 induction a with
 |nil=>simp[depKs]
 |cons t a ih=>rw[List.cons_append,depKs,ih,depKs];omega
theorem setL_all{cs l:List Value}(h:l.length=cs.length):setL cs 0 l=l:=by simp[setL,h]
variable {H0 H:Heap} {R:Value→Heap→Prop}
theorem c128{p:Option Addr}{l c:Nat}{xs:List Int}(h:IS H p l (ints xs))(hl:xs.length≤1000000000)(hR: ∀(q:Sl3) H',St H H' [.sl q.p q.l q.c 3 1 (ints xs)]→R q.v H'):
 CallsH Tryz.prog 128 #[.slice p l c] H R:=by
 have hlen:=h.length
 refine Tryz.s128 (br_none (fun hp=>?_) fun a hp=>?_)
 ·subst hp
  have:xs=[]:=List.eq_nil_iff_forall_not_mem.2 fun v hv=>by
   obtain⟨i,hi⟩:=List.getElem?_of_mem hv
   obtain⟨a,h1,_⟩:=h.get i _ (ints_get hi)
   cases h1
  subst this
  exact hR .nil H ((St.nil H).nilSl _ _)
 ·refine(St.nil H).alcE fun b2 H3 he hs=>?_
  have hs:=hs.toSl 0 (l:=0) (k:=1) (fs:=[]) rfl rfl rfl (by simp)
  refine hs.appI 0 rfl (h.ext he) (ints_one xs) rfl (by omega) (by omega) fun p' c' H' hs'=>?_
  rw[Nat.zero_add] at hs' ⊢
  exact hR ⟨p',l,c'⟩ H' hs'
theorem c27{p:Option Addr}{l c:Nat}{xs:List Int}(h:IS H p l (kints .u8 xs))(hl:xs.length≤1000000000)(hR: ∀(q:Sl3) H',St H H' [.sl q.p q.l q.c 5 1 (kints .u8 xs)]→R q.v H'):
 CallsH Tryz.prog 27 #[.slice p l c] H R:=by
 have hlen:=h.length
 refine Tryz.s27 (br_none (fun hp=>?_) fun a hp=>?_)
 ·subst hp
  have:xs=[]:=List.eq_nil_iff_forall_not_mem.2 fun v hv=>by
   obtain⟨i,hi⟩:=List.getElem?_of_mem hv
   obtain⟨a,h1,_⟩:=h.get i _ (kints_get hi)
   cases h1
  subst this
  exact hR .nil H ((St.nil H).nilSl _ _)
 ·refine(St.nil H).alcE fun b2 H3 he hs=>?_
  have hs:=hs.toSl 0 (l:=0) (k:=1) (fs:=[]) rfl rfl rfl (by simp)
  refine hs.appI 0 rfl (h.ext he) (kints_one .u8 xs) rfl (by omega) (by omega) fun p' c' H' hs'=>?_
  rw[Nat.zero_add] at hs' ⊢
  exact hR ⟨p',l,c'⟩ H' hs'
def CopyOk(t:T):Prop:= ∀{H:Heap} {R:Value→Heap→Prop},rdT H t→okL (layT t)→(∀t' H',layT t'=layT t→St H H' (resT t')→R (.agg (cellsT t').toArray) H')→CallsH Tryz.prog 116 #[.agg (cellsT t).toArray] H R
theorem all_of{ks:List T}(ih: ∀t∈ks,CopyOk t){K:Sl3}(hg:grp H K ks)(ho:okKs (layKs ks))(hl:ks.length≤1000000000)(hR: ∀(K':Sl3) ks' H',layKs ks'=layKs ks→St H H' (resG K' ks')→R K'.v H'):
 CallsH Tryz.prog 66 #[K.v] H R:=by
 show CallsH Tryz.prog 66 #[.slice K.p K.l K.c] H R
 refine Tryz.s66 ?_
 unfold Tryz.S66
 intro X hX
 have hKl:=hg.1.1
 have go: ∀k,k≤ks.length→ ∀p c H1 (built:List T),layKs built=(layKs ks).take k→St H H1 (.sl p k c 118 19 (cellsKs built)::resKs built)→X [.slice p k c,.int .i64 k] H1:=by
  refine upto fun k hk ihk p c H1 built hb hs=>hX _ _ _ _ _ (br_dec (fun hlt=>?_) fun hge=>?_)
  ·have hk':k<ks.length:=by omega
   have ht:=List.getElem?_eq_getElem hk'
   obtain⟨a,h1,h2,h3⟩:=(hg.ext hs.ext).get ht
   refine⟨a,h1,by omega,hlt,(cellsT ks[k]).toArray,by simp[cellsT_len],h2,hs.alcE fun b8 H9 he9 hs9=>⟨by simp[cellsT_len],hs9.putAll 0 rfl (by simp[cellsT_len]) (by simpa using cellsT_one _) fun H10 hs10=>?_⟩⟩
   refine⟨_,?_,rowIn_whole (hs10.block 0 rfl),?_⟩
   ·simp[cellsT_len]
   refine ih ks[k] (List.getElem_mem hk') (rdT.ext (hs10.ext) _ (rdKs_iff.1 hg.2 _ (List.getElem_mem hk'))) (okKs_iff.1 ho _ (by rw[layKs_map];exact List.mem_map_of_mem (List.getElem_mem hk'))) fun t' H13 hlay hs13=>?_
   refine⟨_,rfl,by simp[cellsT_len],by decide,?_⟩
   rw[setL_all (by simp[cellsT_len])]
   refine(hs10.callR hs13).alc fun b15 H16 hs16=>?_
   refine hs16.appC 2 0 rfl rfl (by simp[cellsT_len]) (by simpa using cellsT_one _) (by decide) rfl (by omega) (by omega) fun p' c' H18 hs18=>?_
   rw[wrap_id (by omega) (by omega)]
   refine ihk hk' p' c' H18 (built++[t']) ?_ ?_
   ·rw[layKs_app,hb,layKs_map [t'],List.take_add_one]
    have:(layKs ks)[k]?=some (layT ks[k]):=by rw[layKs_map,List.getElem?_map,ht];rfl
    rw[this,←hlay];rfl
   ·rw[cellsKs_app,cellsKs_one,resKs_app,resKs_one]
    exact hs18.drop 2
  ·have:k=ks.length:=by omega
   subst this
   rw[List.take_of_length_le (by rw[layKs_len];exact Nat.le_refl _)] at hb
   exact hR ⟨p,ks.length,c⟩ built H1 hb hs
 exact go 0 (by omega) none 0 H [] rfl ((St.nil H).nilSl _ _)
theorem c116: ∀t,CopyOk t:=by
 refine T.ind fun f P M A K ks ih=>?_
 intro H R hr ho hR
 rw[rdT] at hr
 obtain⟨hP,hM,hA,hK,hks⟩:=hr
 have ho':=ho
 rw[layT,okL] at ho'
 obtain⟨o1,o2,o3,o4,o5⟩:=ho'
 refine Tryz.s116 ?_
 unfold Tryz.S116
 refine(St.nil H).alcE fun b2 H1 he1 hs1=>hs1.alcE fun b4 H2 he2 hs2=>?_
 refine⟨_,_,_,hs2.get 1 rfl rfl,_,_,_,hs2.get 1 rfl rfl,_,_,_,hs2.get 1 rfl rfl,?_⟩
 refine c128 (hP.ext hs2.ext) o1 fun P' H3 hp3=>⟨_,_,_,rfl,.inl hp3.ext,?_⟩
 have hs3:=hs2.callR hp3
 refine c27 (hM.ext hs3.ext) o2 fun M' H4 hp4=>⟨_,_,_,rfl,.inl hp4.ext,?_⟩
 have hs4:=hs3.callR hp4
 refine c128 (hA.ext hs4.ext) o3 fun A' H5 hp5=>⟨_,_,_,rfl,?_⟩
 have hs5:=hs4.callR hp5
 refine hs5.put 1 rfl (j:=7) (Nat.le_of_ble_eq_true rfl) rfl fun H6 hs6=>hs6.put 1 rfl (j:=8) (Nat.le_of_ble_eq_true rfl) rfl fun H7 hs7=>hs7.put 1 rfl (j:=17) (Nat.le_of_ble_eq_true rfl) rfl fun H8 hs8=>?_
 refine⟨_,_,_,hs8.get 1 rfl (j:=18) rfl,?_⟩
 refine all_of ih (K:=K) (grp.ext ⟨hK,hks⟩ hs8.ext) o5 (by rw[layKs_len] at o4;exact o4) fun K' ks' H9 hlay hp9=>⟨_,_,_,rfl,?_⟩
 have hs9:=hs8.callR hp9
 refine hs9.put 1 rfl (j:=18) (Nat.le_of_ble_eq_true rfl) rfl fun H10 hs10=>?_
 refine⟨_,?_,rowIn_whole (hs10.block 1 rfl),?_,?_⟩
 ·rfl
 ·rfl
 refine hs10.putAll 0 rfl rfl (cellsL_one f P' M' A' K') fun H11 hs11=>⟨_,rfl,rowIn_whole (hs11.block 0 rfl),?_⟩
 refine hR (.mk f P' M' A' K' ks') H11 (by rw[layT,layT,hlay]) ?_
 rw[resT_mk]
 exact hs11.drop 2
theorem c66{K:Sl3}{ks:List T}(hg:grp H K ks)(ho:okKs (layKs ks))(hl:ks.length≤1000000000)(hR: ∀(K':Sl3) ks' H',layKs ks'=layKs ks→St H H' (resG K' ks')→R K'.v H'):
 CallsH Tryz.prog 66 #[K.v] H R:=all_of (fun t _=>c116 t) hg ho hl hR
end Go.Proofs
namespace Go.Proofs
open Go.Sh
variable {H0 H:Heap} {R:Value→Heap→Prop}
theorem cellsT_0(t:T):(cellsT t).toArray[0]?=some (.int .i64 t.f.id):=by cases t;rfl
theorem cellsT_1(t:T):(cellsT t).toArray[1]?=some (.int .i64 t.f.kind):=by cases t;rfl
theorem cellsT_18(t:T):(cellsT t).toArray[18]?=some (.slice t.K.p t.K.l t.K.c):=by cases t;rfl
def CntOk(t:T):Prop:= ∀{H:Heap} {R:Value→Heap→Prop},rdT H t→cntKs (layKs t.kids)≤1000000000000→(∀H',Ext H H'→R (.int .i64 (cntKs (layKs t.kids))) H')→CallsH Tryz.prog 26 #[t.K.v] H R
theorem take_succ{α:Type}{l:List α}{k:Nat}{x:α}(h:l[k]?=some x):l.take (k+1)=l.take k++[x]:=by rw[List.take_add_one,h];rfl
theorem layKs_get{ks:List T}{k:Nat}{t:T}(h:ks[k]?=some t):(layKs ks)[k]?=some (layT t):=by rw[layKs_map,List.getElem?_map,h];rfl
theorem cntL_T(t:T):cntL (layT t)=1+cntKs (layKs t.kids):=by cases t;rfl
theorem depL_T(t:T):depL (layT t)=1+depKs (layKs t.kids):=by cases t;rfl
theorem cnt_take(ts:List Lay)(k:Nat):cntKs (ts.take k)≤cntKs ts:=by
 have:=cntKs_app (ts.take k) (ts.drop k)
 rw[List.take_append_drop] at this;omega
theorem cnt_of{ks:List T}(ih: ∀t∈ks,CntOk t){K:Sl3}(hg:grp H K ks)(ho:cntKs (layKs ks)≤1000000000000)(hR: ∀H',Ext H H'→R (.int .i64 (cntKs (layKs ks))) H'):
 CallsH Tryz.prog 26 #[K.v] H R:=by
 show CallsH Tryz.prog 26 #[.slice K.p K.l K.c] H R
 refine Tryz.s26 ?_
 unfold Tryz.S26
 intro X hX
 have hKl:=hg.1.1
 have hlc:=len_cnt (layKs ks)
 rw[layKs_len] at hlc
 have go: ∀k,k≤ks.length→ ∀(n:Int) H1,n+k=ks.length+cntKs ((layKs ks).take k)→Ext H H1→X [.int .i64 n,.int .i64 k] H1:=by
  refine upto fun k hk ihk n H1 hn he=>hX _ _ _ (br_dec (fun hlt=>?_) fun hge=>?_)
  ·have hk':k<ks.length:=by omega
   have ht:=List.getElem?_eq_getElem hk'
   have htm:=List.getElem_mem hk'
   generalize ks[k]=t at ht htm
   obtain⟨a,h1,h2,h3⟩:=(hg.ext he).get ht
   have hcm:=cnt_mem (List.mem_of_getElem? (layKs_get ht))
   rw[cntL_T] at hcm
   refine⟨a,h1,by omega,hlt,(cellsT t).toArray,by simp[cellsT_len],h2,(St.nil H1).alc fun b8 H9 hs9=>⟨by simp[cellsT_len],hs9.putAll 0 rfl (by simp[cellsT_len]) (by simpa using cellsT_one _) fun H10 hs10=>?_⟩⟩
   refine⟨_,_,_,hs10.get 0 rfl (j:=18) (cellsT_18 t),?_⟩
   refine ih t htm (rdT.ext (he.trans hs10.ext) _ (rdKs_iff.1 hg.2 _ htm)) (by omega) fun H13 he13=>⟨_,rfl,?_⟩
   have hts:=cntKs_app ((layKs ks).take k) [layT t]
   rw[←take_succ (layKs_get ht),cntKs,cntKs,Nat.add_zero,cntL_T] at hts
   have hle:=cnt_take (layKs ks) (k+1)
   rw[wrap_id (n:=n+_) (by omega) (by omega),wrap_id (n:=(k:Int)+1) (by omega) (by omega)]
   exact ihk hk' _ _ (by omega) (he.trans (hs10.ext.trans he13))
  ·have:k=ks.length:=by omega
   subst this
   rw[List.take_of_length_le (by rw[layKs_len];exact Nat.le_refl _)] at hn
   have:n=cntKs (layKs ks):=by omega
   subst this
   exact hR H1 he
 have h0:=go 0 (by omega) ks.length H (by simp[cntKs]) (Ext.refl H)
 rw[←hKl] at h0
 exact h0
theorem cnt_all: ∀t,CntOk t:=T.ind fun f P M A K ks ih=>fun{H R} hr ho hR=>cnt_of ih (rdT.grp hr) ho hR
theorem c26{K:Sl3}{ks:List T}(hg:grp H K ks)(ho:cntKs (layKs ks)≤1000000000000)(hR: ∀H',Ext H H'→R (.int .i64 (cntKs (layKs ks))) H'):
 CallsH Tryz.prog 26 #[K.v] H R:=cnt_of (fun t _=>cnt_all t) hg ho hR
def DepOk(t:T):Prop:= ∀{H:Heap} {R:Value→Heap→Prop},rdT H t→cntKs (layKs t.kids)≤1000000000000→(∀H',Ext H H'→R (.int .i64 (depKs (layKs t.kids))) H')→CallsH Tryz.prog 163 #[t.K.v] H R
theorem dep_of{ks:List T}(ih: ∀t∈ks,DepOk t){K:Sl3}(hg:grp H K ks)(ho:cntKs (layKs ks)≤1000000000000)(hR: ∀H',Ext H H'→R (.int .i64 (depKs (layKs ks))) H'):
 CallsH Tryz.prog 163 #[K.v] H R:=by
 show CallsH Tryz.prog 163 #[.slice K.p K.l K.c] H R
 refine Tryz.s163 ?_
 unfold Tryz.S163
 intro X hX
 have hKl:=hg.1.1
 have hlc:=len_cnt (layKs ks)
 rw[layKs_len] at hlc
 have go: ∀k,k≤ks.length→ ∀H1,Ext H H1→X [.int .i64 (depKs ((layKs ks).take k)),.int .i64 k] H1:=by
  refine upto fun k hk ihk H1 he=>hX _ _ _ (br_dec (fun hlt=>?_) fun hge=>?_)
  ·have hk':k<ks.length:=by omega
   have ht:=List.getElem?_eq_getElem hk'
   have htm:=List.getElem_mem hk'
   generalize ks[k]=t at ht htm
   obtain⟨a,h1,h2,h3⟩:=(hg.ext he).get ht
   have hcm:=cnt_mem (List.mem_of_getElem? (layKs_get ht))
   rw[cntL_T] at hcm
   refine⟨a,h1,by omega,hlt,(cellsT t).toArray,by simp[cellsT_len],h2,(St.nil H1).alc fun b8 H9 hs9=>⟨by simp[cellsT_len],hs9.putAll 0 rfl (by simp[cellsT_len]) (by simpa using cellsT_one _) fun H10 hs10=>?_⟩⟩
   refine⟨_,_,_,hs10.get 0 rfl (j:=18) (cellsT_18 t),?_⟩
   refine ih t htm (rdT.ext (he.trans hs10.ext) _ (rdKs_iff.1 hg.2 _ htm)) (by omega) fun H13 he13=>⟨_,rfl,?_⟩
   have hts:=depKs_app ((layKs ks).take k) [layT t]
   rw[←take_succ (layKs_get ht),depKs,depKs,depL_T] at hts
   have hd:=dep_cnt (layKs t.kids)
   rw[wrap_id (n:=1+_) (by omega) (by omega),wrap_id (n:=(k:Int)+1) (by omega) (by omega)]
   have:=ihk hk' _ (he.trans (hs10.ext.trans he13))
   rw[hts] at this
   have e:((max (depKs ((layKs ks).take k)) (max (1+depKs (layKs t.kids)) 0):Nat):Int)=max (depKs ((layKs ks).take k):Int) (1+(depKs (layKs t.kids):Int)):=by omega
   rw[e] at this
   exact this
  ·have:k=ks.length:=by omega
   subst this
   rw[List.take_of_length_le (by rw[layKs_len];exact Nat.le_refl _)]
   exact hR H1 he
 exact go 0 (by omega) H (Ext.refl H)
theorem dep_all: ∀t,DepOk t:=T.ind fun f P M A K ks ih=>fun{H R} hr ho hR=>dep_of ih (rdT.grp hr) ho hR
theorem c163{K:Sl3}{ks:List T}(hg:grp H K ks)(ho:cntKs (layKs ks)≤1000000000000)(hR: ∀H',Ext H H'→R (.int .i64 (depKs (layKs ks))) H'):
 CallsH Tryz.prog 163 #[K.v] H R:=dep_of (fun t _=>dep_all t) hg ho hR
def sizedB(w h:Int):Bool:=decide (1≤w∧1≤h∧w≤32768∧h≤32768∧w*h≤4194304)
def docA(w h next:Int)(K:Sl3):Array Value:=#[.int .i64 w,.int .i64 h,.int .i64 next,K.v]
theorem wrap_area{w h:Int}(h1:1≤w)(h2:1≤h)(h3:w≤32768)(h4:h≤32768):IntKind.wrap .i64 (w*h)=w*h:=by
 have:=mul_bd (x:=w) (y:=h) (A:=32768) (B:=32768) (by omega) (by omega)
 exact wrap_id (by omega) (by omega)
theorem c28{w h:Int}(hR1:sizedB w h=true→ ∀H',Ext H H'→R (.tuple #[.agg (docA w h 1 .nil),.int .i64 0]) H')(hR2:sizedB w h=false→ ∀H',Ext H H'→R (.tuple #[.agg (docA 0 0 0 .nil),.int .i64 31]) H'):
 CallsH Tryz.prog 28 #[.int .i64 w,.int .i64 h] H R:=by
 refine Tryz.s28 ?_
 unfold Tryz.S28
 refine(St.nil H).alc fun b3 H4 hs4=>?_
 intro J hJ
 have bad:sizedB w h=false→(#[Value.int .i64 0,Value.int .i64 0,Value.int .i64 0,Value.slice none 0 0].size=4∧stAt H4 ⟨b3,0,none⟩ (Array.toList #[Value.int .i64 0,Value.int .i64 0,Value.int .i64 0,Value.slice none 0 0]) fun H_9=> ∃res10:Array Value,res10.size=4∧rowIn H_9 ⟨b3,0,none⟩ res10∧R (Value.tuple #[Value.agg res10,Value.int .i64 (31:Int)]) H_9):=fun hb=>
  ⟨rfl,hs4.putAll 0 rfl rfl (by simp[Value.oneCell']) fun H5 hs5=>⟨_,rfl,rowIn_whole (hs5.block 0 rfl),hR2 hb H5 hs5.ext⟩⟩
 refine br_dec (fun c1=>bad ?_) fun c1=>br_dec (fun c2=>bad ?_) fun c2=>br_dec (fun c3=>bad ?_) fun c3=>br_dec (fun c4=>bad ?_) fun c4=>?_
 ·exact decide_eq_false (by omega)
 ·exact decide_eq_false (by omega)
 ·exact decide_eq_false (by omega)
 ·exact decide_eq_false (by omega)
 rw[wrap_area (by omega) (by omega) (by omega) (by omega)]
 refine br_dec (fun c5=>bad ?_) fun c5=>hJ _ ?_
 ·exact decide_eq_false (by omega)
 refine⟨rfl,hs4.putAll 0 rfl rfl (by simp[Value.oneCell']) fun H5 hs5=>⟨_,rfl,rowIn_whole (hs5.block 0 rfl),hR1 ?_ H5 hs5.ext⟩⟩
 exact decide_eq_true ⟨by omega,by omega,by omega,by omega,by omega⟩
structure Fr where
 hdr:Sl3
 pre:List T
 f:LayF
 P:Sl3
 M:Sl3
 A:Sl3
 post:List T
def Fr.ad(fr:Fr):Option Addr:=fr.hdr.p.map fun a=>a.add (fr.pre.length*19)
abbrev Z:=List Fr×Sl3×List T
mutual
def fzT(up:List Fr)(K:Sl3)(pre post:List T)(id:Int):T→Option Z
 | .mk f P M A K' ks=>if f.id=id then some (⟨K,pre,f,P,M,A,post⟩::up,K',ks) else fzK (⟨K,pre,f,P,M,A,post⟩::up) K' [] id ks
def fzK(up:List Fr)(K:Sl3)(pre:List T)(id:Int):List T→Option Z
 |[]=>none
 |t::ts=>match fzT up K pre ts id t with
  |some z=>some z
  |none=>fzK up K (pre++[t]) id ts
end
def resZ:Option Z→Option Addr×Option Addr×Int
 |some (fr1::fr2::_,_,_)=>(fr1.ad,fr2.ad,fr1.pre.length)
 |_=>(none,none,0)
def FindOk(id:Int)(t:T):Prop:= ∀{H:Heap} {R:Value→Heap→Prop} {fr:Fr} {up:List Fr} {a:Addr},fr.ad=some a→rowIn H a (cellsT t).toArray→rdT H t→cntKs (layKs t.kids)≤1000000000000→
 (∀H',Ext H H'→(∀z,fzK (fr::up) t.K [] id t.kids=some z→(resZ (some z)).1≠none)→
  R (.tuple #[.pointer (resZ (fzK (fr::up) t.K [] id t.kids)).1,.pointer (resZ (fzK (fr::up) t.K [] id t.kids)).2.1,.int .i64 (resZ (fzK (fr::up) t.K [] id t.kids)).2.2]) H')→CallsH Tryz.prog 119 #[.pointer (some a),.int .i64 id] H R
theorem c119{id:Int}: ∀t,FindOk id t:=by
 refine T.ind fun f P M A K ks ih=>?_
 intro H R fr up a hfa hrow hr ho hR
 have hg:=rdT.grp hr
 have hKl:=hg.1.1
 have hlc:=len_cnt (layKs ks)
 rw[layKs_len] at hlc
 simp only[T.K,T.kids] at hg hKl ho hR
 refine Tryz.s119 ?_
 unfold Tryz.S119
 have hcell: ∀{H1:Heap},Ext H H1→Sh.cell H1 (a.add 18)=some (.slice K.p K.l K.c):=fun he=>he.cell (hrow 18 _ rfl)
 refine⟨a,rfl,_,_,_,hcell (Ext.refl H),?_⟩
 intro X hX
 have go: ∀k,k≤ks.length→ ∀H1,Ext H H1→fzK (fr::up) K [] id ks=fzK (fr::up) K (ks.take k) id (ks.drop k)→X [.int .i64 k] H1:=by
  refine upto fun k hk ihk H1 he hz=>hX _ _ (br_dec (fun hlt=>?_) fun hge=>?_)
  ·have hk':k<ks.length:=by omega
   have ht:=List.getElem?_eq_getElem hk'
   have htm:=List.getElem_mem hk'
   rw[List.drop_eq_getElem_cons hk'] at hz
   generalize ks[k]=t at ht htm hz
   obtain⟨b,h1,h2,h3⟩:=(hg.ext he).get ht
   have hcm:=cnt_mem (List.mem_of_getElem? (layKs_get ht))
   rw[cntL_T] at hcm
   have hlen:(ks.take k).length=k:=by rw[List.length_take];omega
   refine⟨a,rfl,_,_,_,hcell he,b,h1,by omega,hlt,_,rfl,t.f.id,h2 0 _ (cellsT_0 t),br_eq (fun hid=>?_) fun hid=>?_⟩
   ·have e:fzK (fr::up) K [] id ks=some (⟨K,ks.take k,t.f,t.P',t.M',t.A',ks.drop (k+1)⟩::fr::up,t.K,t.kids):=by
     rw[hz,fzK]
     cases t with|mk f2 P2 M2 A2 K2 ks2=>
     rw[fzT,if_pos (show f2.id=id from hid)]
     rfl
    have:=hR H1 he fun z hz=>by rw[e] at hz;cases hz;simp[resZ,Fr.ad,h1]
    rw[e] at this
    simp only[resZ,Fr.ad,h1,hfa,Option.map_some,hlen] at this
    have hfa':=hfa
    unfold Fr.ad at hfa'
    rw[hfa'] at this
    exact this
   ·have e: ∀(o:Option Z),fzK (⟨K,ks.take k,t.f,t.P',t.M',t.A',ks.drop (k+1)⟩::fr::up) t.K [] id t.kids=o→fzK (fr::up) K [] id ks=(match o with|some z=>some z|none=>fzK (fr::up) K (ks.take (k+1)) id (ks.drop (k+1))):=fun o ho=>by
     rw[hz,fzK,take_succ ht,←ho]
     cases t with|mk f2 P2 M2 A2 K2 ks2=>
     rw[fzT,if_neg (show ¬f2.id=id from hid)]
     rfl
    refine ih t htm (fr:=⟨K,ks.take k,t.f,t.P',t.M',t.A',ks.drop (k+1)⟩) (up:=fr::up) (by unfold Fr.ad;rw[h1,hlen];rfl) h2 h3 (by omega) fun H2 he2 hne=>?_
    refine⟨_,_,_,rfl,?_⟩
    cases hq:fzK (⟨K,ks.take k,t.f,t.P',t.M',t.A',ks.drop (k+1)⟩::fr::up) t.K [] id t.kids with
    |none=>
     refine br_f rfl ?_
     rw[wrap_id (by omega) (by omega)]
     exact ihk hk' H2 (he.trans he2) (e _ hq)
    |some z=>
     have hs:fzK (fr::up) K [] id ks=some z:=e _ hq
     have hn:=hne z hq
     have:=hR H2 (he.trans he2) fun z' hz'=>by rw[hs] at hz';cases hz';exact hn
     rw[hs] at this
     refine br_t ?_ this
     cases h4:(resZ (some z)).1 with
     |none=>exact absurd h4 hn
     |some _=>rfl
  ·have:k=ks.length:=by omega
   subst this
   rw[List.drop_of_length_le (Nat.le_refl _),fzK] at hz
   have:=hR H1 he fun z hz'=>by rw[hz] at hz';cases hz'
   rw[hz] at this
   exact this
 exact go 0 (by omega) H (Ext.refl H) rfl
end Go.Proofs
namespace Go.Proofs
open Go.Sh
variable {H0 H:Heap} {σ:List Rs} {R:Value→Heap→Prop}
abbrev TS:=Go.Tile.St
abbrev Shf:=Nat×List (Int×Nat)
def senc(z:(Int×Nat)×Nat):MapEntry:={key:= .int .i64 z.1.1,val:= .pointer (some ⟨z.1.2,0,none⟩),born:=z.2}
def sE(es:List (Int×Nat)):List MapEntry:=es.zipIdx.map senc
def sO(es:List (Int×Nat)):Obj:= .map (sE es).toArray es.length
def plFp(s:TS):List Nat:=s.A::(s.pls.map (·.b)++(s.pls.map (·.m)++s.ts.map (·.1)))
theorem in_fp{H:Heap}{s:TS}(h:In H s): ∀b∈plFp s,∃o,H[b]?=some o:=fun b hb=>by
 rcases List.mem_cons.1 hb with rfl|hb
 ·exact⟨_,h.arena⟩
 rcases List.mem_append.1 hb with hb|hb
 ·obtain⟨p,hp,rfl⟩:=List.mem_map.1 hb;exact⟨_,h.plane p hp⟩
 rcases List.mem_append.1 hb with hb|hb
 ·obtain⟨p,hp,rfl⟩:=List.mem_map.1 hb;exact⟨_,h.map p hp⟩
 ·obtain⟨p,hp,rfl⟩:=List.mem_map.1 hb;exact⟨_,h.tile p hp⟩
theorem owned_fp{s:TS}{b:Nat}(h:owned s b):b∈plFp s:=by
 rcases h with rfl|⟨p,hp,rfl⟩|h
 ·exact List.mem_cons_self
 ·exact List.mem_cons_of_mem _ (List.mem_append_right _ (List.mem_append_left _ (List.mem_map.2 ⟨p,hp,rfl⟩)))
 ·exact List.mem_cons_of_mem _ (List.mem_append_right _ (List.mem_append_right _ h))
theorem fp_nodup{cap:Int}{H:Heap}{s:TS}(h:In H s)(ok:Go.Tile.Ok cap s):(plFp s).Nodup:=by
 have pm: ∀b∈s.pls.map (·.b),∃c,H[b]?=some (.cells c 203):=fun b hb=>by
  obtain⟨p,hp,rfl⟩:=List.mem_map.1 hb;exact⟨_,h.plane p hp⟩
 have mm: ∀b∈s.pls.map (·.m),∃c k,H[b]?=some (.map c k):=fun b hb=>by
  obtain⟨p,hp,rfl⟩:=List.mem_map.1 hb;exact⟨_,_,h.map p hp⟩
 have tm: ∀b∈s.ts.map (·.1),∃c,H[b]?=some (.cells c 208):=fun b hb=>by
  obtain⟨p,hp,rfl⟩:=List.mem_map.1 hb;exact⟨_,h.tile p hp⟩
 have d1: ∀a∈s.pls.map (·.m),∀b∈s.ts.map (·.1),a≠b:=fun a ha b hb=>by
  obtain⟨_,_,h1⟩:=mm a ha
  obtain⟨_,h2⟩:=tm b hb
  exact ne_of_map' h1 h2
 have d2: ∀a∈s.pls.map (·.b),∀b∈s.pls.map (·.m)++s.ts.map (·.1),a≠b:=fun a ha b hb=>by
  obtain⟨_,h1⟩:=pm a ha
  rcases List.mem_append.1 hb with hb|hb
  ·obtain⟨_,_,h2⟩:=mm b hb;exact ne_of_map h1 h2
  ·obtain⟨_,h2⟩:=tm b hb;exact ne_of_ty h1 h2 (by decide)
 refine List.nodup_cons.2 ⟨fun hA=>?_,List.nodup_append.2 ⟨ok.bs,List.nodup_append.2 ⟨ok.ms,ok.ts,d1⟩,d2⟩⟩
 rcases List.mem_append.1 hA with hb|hb
 ·obtain⟨_,h2⟩:=pm _ hb;exact ne_of_ty h.arena h2 (by decide) rfl
 rcases List.mem_append.1 hb with hb|hb
 ·obtain⟨_,_,h2⟩:=mm _ hb;exact ne_of_map h.arena h2 rfl
 ·obtain⟨_,h2⟩:=tm _ hb;exact ne_of_ty h.arena h2 (by decide) rfl
def arRs(cap:Int)(s:TS)(ms:List Shf):Rs where
 at_ H fp:=fp=plFp s++ms.map (·.1)∧In H s∧Go.Tile.Ok cap s∧ ∀x∈ms,H[x.1]?=some (sO x.2)
 loc:=fun⟨h1,h2,h3,h4⟩ hk=>by
  subst h1
  refine⟨rfl,⟨?_,fun p hp=>?_,fun p hp=>?_,fun x hx=>?_⟩,h3,fun x hx=>?_⟩
  ·exact hk _ (List.mem_append_left _ List.mem_cons_self) _ h2.arena
  ·exact hk _ (List.mem_append_left _ (List.mem_cons_of_mem _ (List.mem_append_left _ (List.mem_map.2 ⟨p,hp,rfl⟩)))) _ (h2.plane p hp)
  ·exact hk _ (List.mem_append_left _ (owned_fp (.inr (.inl ⟨p,hp,rfl⟩)))) _ (h2.map p hp)
  ·exact hk _ (List.mem_append_left _ (owned_fp (.inr (.inr (List.mem_map.2 ⟨x,hx,rfl⟩))))) _ (h2.tile x hx)
  ·exact hk _ (List.mem_append_right _ (List.mem_map.2 ⟨x,hx,rfl⟩)) _ (h4 x hx)
 has:=fun⟨h1,h2,h3,h4⟩ b hb=>by
  subst h1
  rcases List.mem_append.1 hb with hb|hb
  ·obtain⟨o,ho⟩:=in_fp h2 b hb;exact lt_of_get ho
  ·obtain⟨x,hx,rfl⟩:=List.mem_map.1 hb;exact lt_of_get (h4 x hx)
structure ArOk(cap:Int)(H:Heap)(s:TS)(ms:List Shf):Prop where
 inn:In H s
 ok:Go.Tile.Ok cap s
 sh: ∀x∈ms,H[x.1]?=some (sO x.2)
 nd:(plFp s++ms.map (·.1)).Nodup
theorem ar_ok{cap:Int}{s:TS}{ms:List Shf}(hs:St H0 H (arRs cap s ms::σ)):ArOk cap H s ms:=by
 obtain⟨_,fps,hl,hn,_⟩:=hs
 match fps,hl with
 |fp::fps,⟨⟨h1,h2,h3,h4⟩,_⟩=>
  subst h1
  exact⟨h2,h3,h4,nodup_mem hn _ List.mem_cons_self⟩
theorem ar_step{cap:Int}{H':Heap}{s s':TS}{ms:List Shf}(hs:St H0 H (arRs cap s ms::σ))(g:Goes cap H s H' s')(hb: ∀q∈s'.pls,q.b∈s.pls.map (·.b)∨H.size≤q.b):St H0 H' (arRs cap s' ms::σ):=by
 have a:=ar_ok hs
 have hnd:=List.nodup_append.1 a.nd
 have hno: ∀x∈ms,¬owned s x.1:=fun x hx ho=>hnd.2.2 _ (owned_fp ho) _ (List.mem_map.2 ⟨x,hx,rfl⟩) rfl
 have hsh: ∀x∈ms,H'[x.1]?=some (sO x.2):=fun x hx=>g.fr _ _ (a.sh x hx) (hno x hx)
 have hfp: ∀b∈plFp s',b∈plFp s∨H.size≤b:=fun b hb'=>by
  rcases List.mem_cons.1 hb' with rfl|hb'
  ·exact(g.own _ (.inl rfl)).imp_left owned_fp
  rcases List.mem_append.1 hb' with hb'|hb'
  ·obtain⟨q,hq,rfl⟩:=List.mem_map.1 hb'
   exact(hb q hq).imp_left fun h=>List.mem_cons_of_mem _ (List.mem_append_left _ h)
  rcases List.mem_append.1 hb' with hb'|hb'
  ·obtain⟨q,hq,rfl⟩:=List.mem_map.1 hb'
   exact(g.own _ (.inr (.inl ⟨q,hq,rfl⟩))).imp_left owned_fp
  ·exact(g.own _ (.inr (.inr hb'))).imp_left owned_fp
 refine hs.upd (i:=0) rfl fun fp h1 h2 h3=>?_
 obtain⟨rfl,_⟩:=h1
 refine⟨_,⟨rfl,g.inn,g.ok,hsh⟩,List.nodup_append.2 ⟨fp_nodup g.inn g.ok,hnd.2.1,fun b hb' c hc e=>?_⟩,fun b hb'=>?_,fun b o ho hn=>?_⟩
 ·subst e
  rcases hfp b hb' with h|h
  ·exact hnd.2.2 b h b hc rfl
  ·obtain⟨x,hx,rfl⟩:=List.mem_map.1 hc
   have:=lt_of_get (a.sh x hx);omega
 ·rcases List.mem_append.1 hb' with hb'|hb'
  ·exact(hfp b hb').imp_left fun h=>List.mem_append_left _ h
  ·exact .inl (List.mem_append_right _ hb')
 ·exact g.fr b o ho fun h=>hn (List.mem_append_left _ (owned_fp h))
theorem ar_put{cap:Int}{s:TS}{ms:List Shf}{i m:Nat}{es es':List (Int×Nat)}(hs:St H0 H (arRs cap s ms::σ))(hi:ms[i]?=some (m,es)):St H0 (H.setIfInBounds m (sO es')) (arRs cap s (ms.set i (m,es'))::σ):=by
 have a:=ar_ok hs
 have hnd:=List.nodup_append.1 a.nd
 have hm:(m,es)∈ms:=List.mem_of_getElem? hi
 have hmap:(ms.set i (m,es')).map (·.1)=ms.map (·.1):=map_set_same hi rfl
 have hne: ∀b∈plFp s,∀o,H[b]?=some o→(H.setIfInBounds m (sO es'))[b]?=some o:=fun b hb o ho=>get_set_ne (fun e=>hnd.2.2 b hb m (List.mem_map.2 ⟨_,hm,rfl⟩) e.symm) ho
 refine hs.upd (i:=0) rfl fun fp h1 h2 h3=>?_
 obtain⟨rfl,h4,h5,h6⟩:=h1
 refine⟨_,⟨rfl,⟨?_,fun p hp=>?_,fun p hp=>?_,fun x hx=>?_⟩,h5,fun x hx=>?_⟩,by rw[hmap];exact h2,fun b hb=>by rw[hmap] at hb;exact .inl hb,fun b o ho hn=>get_set_ne (fun e=>hn (List.mem_append_right _ (List.mem_map.2 ⟨_,hm,e⟩))) ho⟩
 ·exact hne _ List.mem_cons_self _ h4.arena
 ·exact hne _ (List.mem_cons_of_mem _ (List.mem_append_left _ (List.mem_map.2 ⟨p,hp,rfl⟩))) _ (h4.plane p hp)
 ·exact hne _ (owned_fp (.inr (.inl ⟨p,hp,rfl⟩))) _ (h4.map p hp)
 ·exact hne _ (owned_fp (.inr (.inr (List.mem_map.2 ⟨x,hx,rfl⟩)))) _ (h4.tile x hx)
 ·obtain⟨j,hj⟩:=List.getElem?_of_mem hx
  by_cases e:i=j
  ·subst e
   have hl:=(List.getElem?_eq_some_iff.1 hi).1
   rw[List.getElem?_set_self hl] at hj
   cases hj
   exact get_set_self (h6 _ hm)
  ·rw[List.getElem?_set_ne e] at hj
   refine get_set_ne (fun e2=>e ?_) (h6 x (List.mem_of_getElem? hj))
   have hl:=(List.getElem?_eq_some_iff.1 hi).1
   have hl2:=(List.getElem?_eq_some_iff.1 hj).1
   refine(List.getElem_inj (xs:=ms.map (·.1)) (h₀:=by simpa using hl) (h₁:=by simpa using hl2) hnd.2.1).1 ?_
   simp only[List.getElem_map]
   rw[(List.getElem?_eq_some_iff.1 hi).2,(List.getElem?_eq_some_iff.1 hj).2];exact e2
theorem ar_new{cap:Int}{s:TS}{ms:List Shf}(hs:St H0 H (arRs cap s ms::σ)){K:Nat→Heap→Prop}(hK: ∀b H',St H0 H' (arRs cap s (ms++[(b,[])])::σ)→K b H'):Sh.alc H (.map #[] 0) K:=by
 have e:Ext H (H.push (.map #[] 0)):=Ext.push _ _
 have a:=ar_ok hs
 refine hK _ _ (St.upd hs (i:=0) rfl fun fp h1 h2 h3=>?_)
 obtain⟨rfl,h4,h5,h6⟩:=h1
 have hlt: ∀b∈plFp s++ms.map (·.1),b<H.size:=fun b hb=>by
  rcases List.mem_append.1 hb with hb|hb
  ·obtain⟨o,ho⟩:=in_fp h4 b hb;exact lt_of_get ho
  ·obtain⟨x,hx,rfl⟩:=List.mem_map.1 hb;exact lt_of_get (h6 x hx)
 refine⟨_,⟨rfl,h4.ext e,h5,fun x hx=>?_⟩,?_,fun b hb=>?_,fun b o ho _=>e b o ho⟩
 ·rcases List.mem_append.1 hx with hx|hx
  ·exact e _ _ (h6 x hx)
  ·rw[List.mem_singleton] at hx;subst hx;exact get_push_self _ _
 ·rw[List.map_append,←List.append_assoc]
  refine List.nodup_append.2 ⟨h2,by simp,fun b hb c hc e=>?_⟩
  simp only[List.map_cons,List.map_nil,List.mem_singleton] at hc
  have:=hlt b hb;omega
 ·rw[List.map_append,←List.append_assoc] at hb
  rcases List.mem_append.1 hb with hb|hb
  ·exact .inl hb
  ·simp only[List.map_cons,List.map_nil,List.mem_singleton] at hb
   exact .inr (by omega)
end Go.Proofs
namespace Go.Proofs
open Go.Sh
variable {H0 H:Heap} {σ:List Rs} {R:Value→Heap→Prop} {cap:Int} {s:TS} {ms:List Shf}
theorem ar_new_arena{c:Int}(hs:St H0 H σ)(h0:0≤c)(h1:c≤1048576)(hR: ∀A H',St H0 H' (arRs c ⟨A,c,[],[]⟩ []::σ)→R (.pointer (some ⟨A,0,none⟩)) H'):CallsH Tryz.prog 60 #[.int .i64 c] H R:=
 c60 h0 h1 (hR _ _ (hs.new (fp:=[H.size]) (Ext.push _ _)
  ⟨rfl,⟨get_push_self _ _,fun p hp=>(by cases hp),fun p hp=>(by cases hp),fun p hp=>(by cases hp)⟩,⟨fun p hp=>(by cases hp),List.nodup_nil,List.nodup_nil,List.nodup_nil,fun z hz=>(by cases hz),fun t=>by simp[Go.Tile.refs],by simp,h0,fun p hp=>(by cases hp),by simp,h1⟩,fun x hx=>by cases hx⟩ (by simp) (by simp)))
theorem ar_free(hs:St H0 H (arRs cap s ms::σ))(hR:R (.int .i64 s.free) H):CallsH Tryz.prog 24 #[.pointer (some ⟨s.A,0,none⟩)] H R:=c24 (ar_ok hs).inn.arena hR
theorem ar_plane{w h:Int}(hs:St H0 H (arRs cap s ms::σ))(hl:s.pls.length<1000000)(w0:0≤w)(w1:w≤32768)(h0:0≤h)(h1:h≤32768)
 (hR: ∀b m H',St H0 H' (arRs cap (snapS s (newPl m b w h)) ms::σ)→R (.tuple #[.pointer (some ⟨b,0,none⟩),.int .i64 0]) H'):CallsH Tryz.prog 81 #[.pointer (some ⟨s.A,0,none⟩),.int .i64 w,.int .i64 h] H R:=by
 refine c81 w0 w1 h0 h1 (hR _ H.size _ (ar_step hs ⟨?_,?_,fun b o hb _=>((Ext.push _ _).trans (Ext.push _ _)) b o hb,fun b hb=>?_,by simp only[Array.size_push];omega⟩ fun q hq=>?_))
 ·have a:=(ar_ok hs).inn
  have e:Ext H ((H.push (.map #[] 0)).push (planeO s.A (newPl H.size (H.size+1) w h))):=(Ext.push _ _).trans (Ext.push _ _)
  refine⟨e _ _ a.arena,fun q hq=>?_,fun q hq=>?_,fun z hz=>?_⟩
  ·rcases List.mem_append.1 hq with hq|hq
   ·exact e _ _ (a.plane q hq)
   ·rw[List.mem_singleton] at hq;subst hq
    have:=get_push_self (H.push (.map #[] 0)) (planeO s.A (newPl H.size (H.size+1) w h))
    rw[Array.size_push] at this;exact this
  ·rcases List.mem_append.1 hq with hq|hq
   ·exact e _ _ (a.map q hq)
   ·rw[List.mem_singleton] at hq;subst hq;exact get_push (get_push_self _ _)
  ·show _=some (tileO z.2 (Go.Tile.refs (s.pls++[newPl H.size (H.size+1) w h]) z.1))
   rw[Go.Tile.refs_append,show Go.Tile.refs [newPl H.size (H.size+1) w h] z.1=0 from rfl,Nat.add_zero];exact e _ _ (a.tile z hz)
 ·have a:=ar_ok hs
  have ok:=a.ok
  have nb: ∀q∈s.pls,q.b<H.size∧q.m<H.size:=fun q hq=>⟨lt_of_get (a.inn.plane q hq),lt_of_get (a.inn.map q hq)⟩
  refine⟨fun q hq=>?_,?_,?_,ok.ts,ok.px,fun t=>?_,ok.count,ok.free,fun q hq t=>?_,?_,ok.capb⟩
  ·rcases List.mem_append.1 hq with hq|hq
   ·exact ok.pl q hq
   ·rw[List.mem_singleton] at hq;subst hq
    exact⟨List.nodup_nil,List.nodup_nil,fun e he=>(by cases he),w0,w1,h0,h1⟩
  ·show((s.pls++[_]).map _).Nodup
   rw[List.map_append]
   refine List.nodup_append.2 ⟨ok.bs,by simp,fun x hx y hy e=>?_⟩
   obtain⟨q,hq,rfl⟩:=List.mem_map.1 hx
   simp only[newPl,List.map_cons,List.map_nil,List.mem_singleton] at hy
   have:=(nb q hq).1;omega
  ·show((s.pls++[_]).map _).Nodup
   rw[List.map_append]
   refine List.nodup_append.2 ⟨ok.ms,by simp,fun x hx y hy e=>?_⟩
   obtain⟨q,hq,rfl⟩:=List.mem_map.1 hx
   simp only[newPl,List.map_cons,List.map_nil,List.mem_singleton] at hy
   have:=(nb q hq).2;omega
  ·show 0<Go.Tile.refs (s.pls++[_]) t↔_
   rw[Go.Tile.refs_append,show Go.Tile.refs [newPl H.size (H.size+1) w h] t=0 from rfl,Nat.add_zero];exact ok.live t
  ·rcases List.mem_append.1 hq with hq|hq
   ·exact ok.one q hq t
   ·rw[List.mem_singleton] at hq;subst hq;exact Nat.zero_le _
  ·show(s.pls++[_]).length≤_
   rw[List.length_append];exact hl
 ·rcases hb with hb|⟨q,hq,hb⟩|hb
  ·exact .inl (.inl hb)
  ·rcases List.mem_append.1 hq with hq|hq
   ·exact .inl (.inr (.inl ⟨q,hq,hb⟩))
   ·rw[List.mem_singleton] at hq;subst hq;exact .inr (by rw[hb];exact Nat.le_refl _)
  ·exact .inl (.inr (.inr hb))
 ·rcases List.mem_append.1 hq with hq|hq
  ·exact .inl (List.mem_map.2 ⟨q,hq,rfl⟩)
  ·rw[List.mem_singleton] at hq;subst hq;exact .inr (Nat.le_succ _)
theorem ar_snap{p:Go.Tile.Pl}(hs:St H0 H (arRs cap s ms::σ))(hl:s.pls.length<1000000)(hp:p∈s.pls)
 (hR: ∀b m done H',Same done p.en→St H0 H' (arRs cap (snapS s (snapPl p b m done)) ms::σ)→R (.pointer (some ⟨b,0,none⟩)) H'):CallsH Tryz.prog 80 #[.pointer (some ⟨p.b,0,none⟩)] H R:=by
 have a:=ar_ok hs
 refine c80 a.inn a.ok hp hl fun H' b m done hb hsm g=>hR b m done H' hsm (ar_step hs g fun q hq=>?_)
 rcases List.mem_append.1 hq with hq|hq
 ·exact .inl (List.mem_map.2 ⟨q,hq,rfl⟩)
 ·rw[List.mem_singleton] at hq;subst hq;exact .inr hb
theorem ar_drop{k:Nat}{p:Go.Tile.Pl}(hs:St H0 H (arRs cap s ms::σ))(hk:s.pls[k]?=some p)(hR: ∀H',St H0 H' (arRs cap (dropS s k p) ms::σ)→R (.tuple #[]) H'):CallsH Tryz.prog 77 #[.pointer (some ⟨p.b,0,none⟩)] H R:=by
 have a:=ar_ok hs
 refine c77 a.inn a.ok hk fun H' g=>hR H' (ar_step hs g fun q hq=> .inl ?_)
 have:(dropL s k p).map (·.b)=s.pls.map (·.b):=map_set_same (f:=fun q:Go.Tile.Pl=>q.b) (b:=bare p) hk rfl
 rw[←this];exact List.mem_map.2 ⟨q,hq,rfl⟩
theorem ar_set{k:Nat}{p:Go.Tile.Pl}{x y v:Int}(hs:St H0 H (arRs cap s ms::σ))(hk:s.pls[k]?=some p)(hh:p.has x y=true)(hv:0≤v∧v<4294967296)
 (hsame:Go.Tile.pxAt s p x y=v→ ∀H',St H0 H' (arRs cap s ms::σ)→R (.int .i64 0) H')
 (h30:Go.Tile.pxAt s p x y≠v→Go.Tile.needs s p (x/16) (y/16)=true→s.free=0→ ∀H',St H0 H' (arRs cap s ms::σ)→R (.int .i64 30) H')
 (h0:Go.Tile.pxAt s p x y≠v→ ∀H' s',Go.Tile.Ok cap s'→Go.Tile.Wrote s k p x y v s'→St H0 H' (arRs cap s' ms::σ)→R (.int .i64 0) H'):
 CallsH Tryz.prog 82 #[.pointer (some ⟨p.b,0,none⟩),.int .i64 x,.int .i64 y,.int .i64 v] H R:=by
 have a:=ar_ok hs
 refine c82 a.inn a.ok hk x y v (fun h=>by rw[hh] at h;cases h) (fun _ h=>absurd hv h) (fun _ _ h H' he=>hsame h H' (hs.step he)) (fun _ _ h1 h2 h3 H' he=>h30 h1 h2 h3 H' (hs.step he)) fun _ _ h1 H' s' g hw=>h0 h1 H' s' g.ok hw (ar_step hs g fun q hq=> .inl ?_)
 have vw:=Go.Tile.wrote_views a.ok hk hh hw
 obtain⟨j,hj⟩:=List.getElem?_of_mem hq
 have hj':j<s.pls.length:=by rw[←vw.len];exact(List.getElem?_eq_some_iff.1 hj).1
 obtain⟨q',h1,h2,_⟩:=vw.pl j _ (List.getElem?_eq_getElem hj')
 rw[hj] at h1;cases h1
 exact List.mem_map.2 ⟨_,List.getElem_mem hj',h2.b.symm⟩
def shLook(es:List (Int×Nat))(x:Int):Option Nat:=(es.find? (·.1==x)).map (·.2)
theorem sE_find (x : Int) : ∀ (es : List (Int × Nat)) (n i : Nat),
    (shLook es x = none → findE (.int .i64 x) ((es.zipIdx n).map senc) i = none) ∧ (∀ b, shLook es x = some b → ∃ j, findE (.int .i64 x) ((es.zipIdx n).map senc) i = some (j, .pointer (some ⟨b, 0, none⟩)))
  | [], n, i => ⟨fun _ => rfl, fun b h => by cases h⟩
  | c :: r, n, i => by
    have hk : kEq (.int .i64 x) (.int .i64 c.1) = (x == c.1) := by simp [kEq]
    obtain ⟨h1, h2⟩ := sE_find x r (n + 1) (i + 1)
    have hl : shLook (c :: r) x = if c.1 = x then some c.2 else shLook r x := by
      simp only [shLook, List.find?_cons]
      by_cases hc : c.1 = x
      · simp [hc]
      · have : (c.1 == x) = false := by simpa using hc
        simp [this, hc]
    simp only [List.zipIdx_cons, List.map_cons, findE, senc, hk]
    rw [hl]
    by_cases hc : x = c.1
    · rw [if_pos hc.symm, if_pos (by simpa using hc)]
      exact ⟨fun h => (by cases h), fun b h => (by cases h; exact ⟨_, rfl⟩)⟩
    · rw [if_neg (Ne.symm hc), if_neg (by simpa using hc)]
      exact ⟨h1, h2⟩
theorem sE_kf(es:List (Int×Nat)): ∀e∈(sE es).toArray.toList,kForm (.int .i64) .other e.key:=by
 intro e he
 simp only[sE,List.mem_map] at he
 obtain⟨z,_,rfl⟩:=he
 exact⟨_,rfl⟩
theorem sE_look(x:Int)(es:List (Int×Nat)):lookV (.int .i64 x) (sE es).toArray.toList (.pointer none)= .pointer ((shLook es x).map fun b=>⟨b,0,none⟩):=by
 obtain⟨h1,h2⟩:=sE_find x es 0 0
 unfold lookV
 show(match findE (.int .i64 x) (sE es) 0 with|some (_,v)=>v|none=>_)=_
 cases hm:shLook es x with
 |none=>rw[show findE (.int .i64 x) (sE es) 0=_ from h1 hm];rfl
 |some b=>
  obtain⟨j,hj⟩:=h2 b hm
  rw[show findE (.int .i64 x) (sE es) 0=_ from hj];rfl
theorem sE_upd{r b:Nat}{es:List (Int×Nat)}{x:Int}{f:Heap→Prop}(h:H[r]?=some (sO es))(hx:shLook es x=none)(hf:f (H.setIfInBounds r (sO (es++[(x,b)])))):updQ (.int .i64) .other (.map (some r)) (.int .i64 x) (.pointer (some ⟨b,0,none⟩)) H f:=by
 obtain⟨h1,h2⟩:=sE_find x es 0 0
 refine⟨r,rfl,_,_,h,⟨_,rfl⟩,sE_kf _,fun _=>?_,fun n u hs=>?_⟩
 ·have:((sE es).toArray.push {key:= .int .i64 x,val:= .pointer (some ⟨b,0,none⟩),born:=es.length})=(sE (es++[(x,b)])).toArray:=by
   simp[sE,List.zipIdx_append,senc]
  rw[this]
  simpa[sO] using hf
 ·rw[show findE (.int .i64 x) (sE es).toArray.toList 0=none from h1 hx] at hs
  cases hs
def dropsQ:List Nat→TS→(TS→Prop)→Prop
 |[],s,Q=>Q s
 |b::r,s,Q=>(∃(k:Nat) (p:Go.Tile.Pl),s.pls[k]?=some p∧p.b=b)∧ ∀(k:Nat) (p:Go.Tile.Pl),s.pls[k]?=some p→p.b=b→dropsQ r (dropS s k p) Q
def Rs.ob(b:Nat)(o:Obj):Rs where
 at_ H fp:=fp=[b]∧H[b]?=some o
 loc h hk:=⟨h.1,hk _ (by rw[h.1];exact List.mem_singleton.2 rfl) _ h.2⟩
 has h b hb:=by rw[h.1,List.mem_singleton] at hb;subst hb;exact lt_of_get h.2
theorem ob_get{b:Nat}{o:Obj}(hs:St H0 H (Rs.ob b o::σ)):H[b]?=some o:=by
 obtain⟨_,fps,hl,_⟩:=hs
 match fps,hl with
 |fp::fps,⟨⟨_,h⟩,_⟩=>exact h
theorem ob_put{b:Nat}{o o':Obj}(hs:St H0 H (Rs.ob b o::σ)):St H0 (H.setIfInBounds b o') (Rs.ob b o'::σ):=
 hs.upd (i:=0) rfl fun fp h1 _ _=>⟨[b],⟨rfl,get_set_self h1.2⟩,by simp,fun x hx=> .inl (h1.1▸hx),fun x o ho hx=>get_set_ne (fun he=>hx (by rw[h1.1,he];exact List.mem_singleton.2 rfl)) ho⟩
theorem ob_alc{o:Obj}(hs:St H0 H σ){K:Nat→Heap→Prop}(hK: ∀b H',St H0 H' (Rs.ob b o::σ)→K b H'):Sh.alc H o K:=
 hK _ _ (hs.new (Ext.push _ _) (fp:=[H.size]) ⟨rfl,get_push_self _ _⟩ (by simp) (by simp))
theorem born_zip(es:List (Int×Nat)):(es.zipIdx.map fun e=>(senc e).born).Nodup:=by
 show(es.zipIdx.map (·.2)).Nodup
 rw[List.zipIdx_map_snd];exact List.nodup_range'
theorem c38{m:Nat}{es:List (Int×Nat)}(hs:St H0 H (arRs cap s ms::σ))(hm:(m,es)∈ms)
 (hR: ∀bs:List Nat,bs.Perm (es.map (·.2))→dropsQ bs s fun s'=> ∀H',St H0 H' (arRs cap s' ms::σ)→R (.tuple #[]) H'):CallsH Tryz.prog 38 #[.map (some m)] H R:=by
 have a:=ar_ok hs
 refine Tryz.s38 ?_
 unfold Tryz.S38
 refine⟨es.length,⟨_,a.sh _ hm⟩,ob_alc hs fun b3 H4 h4=>?_⟩
 intro X hX
 have hblt: ∀e∈es.zipIdx,(senc e).born<es.length:=fun e he=>by
  have:=List.mem_zipIdx he;show e.2<_;omega
 have go: ∀(n:Nat) (done rest:List ((Int×Nat)×Nat)) (s1:TS) (H1:Heap),rest.length=n→(done++rest).Perm es.zipIdx→
  (∀bs:List Nat,bs.Perm (rest.map (·.1.2))→dropsQ bs s1 fun s'=> ∀H',St H0 H' (arRs cap s' ms::σ)→R (.tuple #[]) H')→
  St H0 H1 (Rs.ob b3 (.mapIter (some m) es.length (seenG senc done) es.length)::arRs cap s1 ms::σ)→X [] H1:=by
  intro n
  induction n with
  |zero=>
   intro done rest s1 H1 hn hp hq h1
   have hr:rest=[]:=List.length_eq_zero_iff.1 hn
   subst hr
   rw[List.append_nil] at hp
   refine hX H1 (nextStamp (g:=senc) (ob_get h1) ((ar_ok h1.tail).sh _ hm) hblt (fun _=>br_false ((show ∀H',St H0 H' (arRs cap s1 ms::σ)→R (.tuple #[]) H' from hq [] (List.Perm.refl _)) H1 h1.tail)) fun e he hne=>?_)
   exact absurd (List.mem_map.2 ⟨e,hp.mem_iff.2 he,rfl⟩) hne
  |succ n ih=>
   intro done rest s1 H1 hn hp hq h1
   have hm1:H1[m]?=some (sO es):=(ar_ok h1.tail).sh _ hm
   refine hX H1 (nextStamp (g:=senc) (ob_get h1) hm1 hblt (fun hall=>?_) fun e he hne=>?_)
   ·exfalso
    match rest,hn with
    |x::rest,_=>
     have hx:x∈es.zipIdx:=hp.mem_iff.1 (List.mem_append_right _ List.mem_cons_self)
     have hnd:=(hp.map fun e=>(senc e).born).nodup_iff.2 (born_zip es)
     rw[List.map_append,List.nodup_append] at hnd
     exact hnd.2.2 _ (hall x hx) _ (List.mem_map.2 ⟨x,List.mem_cons_self,rfl⟩) rfl
   ·have hre:e∈rest:=by
     rcases List.mem_append.1 (hp.mem_iff.2 he) with h|h
     ·exact absurd (List.mem_map.2 ⟨e,h,rfl⟩) hne
     ·exact h
    have hpe:=List.perm_cons_erase hre
    have h2:=ob_put (o':= .mapIter (some m) es.length (seenG senc (done++[e])) es.length) h1
    refine br_true ⟨m,_,_,_,(senc e).born,_,senc e,ob_get h2,by simp[seenG],(ar_ok h2.tail).sh _ hm,findStamp (born_zip es) he,_,rfl,_,rfl,?_⟩
    have hbs: ∀bs:List Nat,bs.Perm ((rest.erase e).map (·.1.2))→(e.1.2::bs).Perm (rest.map (·.1.2)):=fun bs hb=>(hb.cons _).trans (hpe.map fun z:(Int×Nat)×Nat=>z.1.2).symm
    obtain⟨⟨k,p,hk,hpb⟩,hnx⟩:=hq _ (hbs _ (List.Perm.refl _))
    rw[←hpb]
    refine ar_drop h2.swap hk fun H21 h21=>⟨rfl,?_⟩
    refine ih (done++[e]) (rest.erase e) _ H21 (by rw[List.length_erase_of_mem hre,hn];rfl) ?_ (fun bs hb=>(hq _ (hbs bs hb)).2 k p hk hpb) h21.swap
    rw[List.append_assoc]
    exact((hpe.symm).append_left done).trans hp
 refine go _ [] es.zipIdx s H4 rfl (by simp) (fun bs hb=>hR bs ?_) h4
 have:es.zipIdx.map (fun z=>z.1.2)=es.map (·.2):=by
  have:=congrArg (List.map (·.2)) (List.zipIdx_map_fst 0 es)
  rw[List.map_map] at this;exact this
 rw[this] at hb;exact hb
theorem drop_none(hR: ∀H',Ext H H'→R (.tuple #[]) H'):CallsH Tryz.prog 38 #[.map none] H R:=by
 refine Tryz.s38 ?_
 unfold Tryz.S38
 refine⟨0,rfl,?_⟩
 intro X hX
 exact hX _ (.inl ⟨_,_,_,get_push_self _ _,br_false (hR _ (Ext.push _ _))⟩)
end Go.Proofs
namespace Go.Sh
variable {H0 H H':Heap} {σ τ:List Rs}
theorem St.slRow(hs:St H0 H σ)(i:Nat){b l c k j l':Nat}{el:TypeId}{fs fs' vs:List Value}{f:Heap→Prop}(hi:σ[i]?=some (.sl (some ⟨b,0,none⟩) l c el k fs))(hj:j+vs.length≤c*k)(ho: ∀v∈vs,v.oneCell'=true)
 (hl':l'≤c)(hlen:fs'.length=l'*k)(hone: ∀v∈fs',v.oneCell'=true)(hget: ∀(x:Nat) v,fs'[x]?=some v→(if j≤x∧x<j+vs.length then vs[x-j]? else fs[x]?)=some v)
 (hK: ∀H',St H0 H' (σ.set i (.sl (some ⟨b,0,none⟩) l' c el k fs'))→f H'):stAt H ⟨b,j,none⟩ vs f:=by
 have hfs:=hs.fs i hi
 rcases hfs.at_ with ⟨h1,_⟩|⟨blk,cs,h1,h2,h3,h4,h5⟩
 ·cases h1
 ·cases h1
  refine stAt_some h3 (by omega) ho fun c' hc' hg=>hK _ ?_
  refine hs.slSet hi ⟨hlen,hl',hone,.inr ⟨b,c',rfl,Nat.zero_le _,get_set_self h3,by rw[hc',h4],fun x v hv=>?_⟩⟩ (fun b' o ho' hne=>get_set_ne (fun he=>hne (by rw[he])) ho') (.inl rfl)
  rw[hg]
  have:=hget x v hv
  split at this
  ·rename_i hc;rw[if_pos hc];exact this
  ·rename_i hc;rw[if_neg hc];exact h5 x v this
theorem RS.rowPart{H:Heap}{b l k:Nat}{el:TypeId}{fs:List Value}(h:RS H (some ⟨b,0,none⟩) l el k fs)(j n:Nat)(hj:j+n≤fs.length):Go.Sh.rowOf H (some ⟨b,j,none⟩) n ((fs.drop j).take n).toArray:=by
 refine⟨by simp;omega,fun x v hv=>?_⟩
 rw[add_none]
 rw[List.getElem?_toArray] at hv
 have hx:=(List.getElem?_eq_some_iff.1 hv).1
 rw[List.length_take,List.length_drop] at hx
 rw[List.getElem?_take_of_lt (by omega),List.getElem?_drop] at hv
 obtain⟨blk,h1,h2⟩:=h.cell hv
 cases h1;exact h2
theorem St.appZnew(hs:St H0 H σ){p:Option Addr}{l c k bytes:Nat}{n:Int}{el:TypeId}{zero:Array Value}{fs:List Value}(hrow:rowOf H p (l*k) fs.toArray)(hfl:fs.length=l*k)(hfo: ∀v∈fs,v.oneCell'=true)(hk:0<k)(hz:zero.size=k)(hzo: ∀v∈zero.toList,v.oneCell'=true)
 (hn:0≤n)(hb:(l+n.toNat)*bytes≤70368744177664)(hm:l+n.toNat≤1000000000000)(hc:c<l+n.toNat){K:Option Addr→Nat→Nat→Heap→Prop}
 (hK: ∀b c' H',St H0 H' (.sl (some ⟨b,0,none⟩) (l+n.toNat) c' el k (fs++reps n.toNat zero.toList)::σ)→K (some ⟨b,0,none⟩) (l+n.toNat) c' H'):appZ k bytes zero H p l c n el K:=by
 refine⟨hn,by omega,hb,by omega,fun h=>by omega,fun _=>⟨fs.toArray,hrow,fun c' hc'=>?_⟩⟩
 have hlen:(fs++reps n.toNat zero.toList).length=(l+n.toNat)*k:=by rw[List.length_append,hfl,reps_length,Array.length_toList,hz,Nat.add_mul]
 have hro: ∀m,∀v∈reps m zero.toList,v.oneCell'=true:=fun m=>by
  induction m with
  |zero=>intro v hv;cases hv
  |succ m ih=>intro v hv;rw[reps,List.mem_append] at hv;exact hv.elim (hzo v) (ih v)
 refine hK H.size c' _ (hs.newSl (Ext.push _ _) ⟨hlen,hc',fun v hv=>(List.mem_append.1 hv).elim (hfo v) (hro _ v),.inr ⟨H.size,_,rfl,Nat.le_refl _,get_push_self _ _,?_,fun i v hv=>?_⟩⟩)
 ·rw[zeroCells_eq _ _ (by omega)]
  simp only[Array.size_append,List.size_toArray,reps_length,Array.length_toList,hz,hfl]
  rw[←Nat.add_mul,←Nat.add_mul]
  congr 1;omega
 ·have hi:=(List.getElem?_eq_some_iff.1 hv).1
  rw[Array.getElem?_append_left (by simp[reps_length,hfl,hz];rw[hlen,Nat.add_mul] at hi;omega)]
  have:(fs.toArray++(reps n.toNat zero.toList).toArray).toList=fs++reps n.toNat zero.toList:=by simp
  rw[←Array.getElem?_toList,this]
  exact hv
end Go.Sh
namespace Go.Proofs
open Go.Sh
variable {H0 H:Heap} {σ:List Rs} {R:Value→Heap→Prop}
theorem c205{a b:Addr}{la ca lb cb:Nat}(hne:a.block≠b.block){x y:Array Value}{tx ty:TypeId}(hx:H[a.block]?=some (.cells x tx (0,0)))(hy:H[b.block]?=some (.cells y ty (0,0)))(hy0:y.size≠0)(hR:R (.bool false) H):
 CallsH Tryz.prog 205 #[.slice (some a) la ca,.slice (some b) lb cb] H R:=by
 refine .inr fun w hw=>⟨.bool false,w,?_,rfl,Out.refl w,by rw[hw];exact hR⟩
 have hsl:Tryz.prog.underlying 44=some (.slice 118):=by kernel_rfl
 have hsa:w.shape? a.block=some (tx,x.size):=by unfold World.shape?;rw[hw,hx]
 have hsb:w.shape? b.block=some (ty,y.size):=by unfold World.shape?;rw[hw,hy]
 have hfa: ∀o,w.frozen? {block:=a.block,off:=o}=false:=fun o=>by unfold World.frozen?;simp only[hw,hx];simp
 rw[run_callFunc_extern Tryz.func205 (by kernel_rfl) (by kernel_rfl) (by kernel_rfl) (e:=Extern.SlicesOverlaps.overlaps #[44,44] #[4]) (by kernel_rfl),
  Lib.run_overlaps_apart w 44 4 118 hsl 19 (fun w=>(Tryz.tok118).sizeOf w) a b la ca lb cb hne tx ty x.size y.size hsa hsb hy0 (hfa a.off) (hfa x.size)]
 rfl
end Go.Proofs
namespace Go.Proofs
open Go.Sh
variable {H0 H:Heap} {σ:List Rs} {R:Value→Heap→Prop}
theorem setL_app(A B v:List Value){n:Nat}(h:A.length=n):setL (A++B) n v=A++v++B.drop v.length:=by
 subst h
 simp[setL]
theorem offP{b n c k:Nat}(h:c≠n):(if c=n then some (⟨b,0,none⟩:Addr) else Option.map (fun x=>Addr.add x (n*k)) (some ⟨b,0,none⟩))=some ⟨b,n*k,none⟩:=by
 rw[if_neg h];simp
theorem offP0{b c:Nat}:(if c=0 then some (⟨b,0,none⟩:Addr) else Option.map (fun x=>Addr.add x 0) (some ⟨b,0,none⟩))=some ⟨b,0,none⟩:=by
 split
 ·rfl
 ·simp
theorem copS{H:Heap}{a:Addr}{xs:Array Value}{K:Heap→Prop}(h:stAt H a xs.toList K):copQ H (some a) xs K:=h
theorem _root_.Go.Sh.St.slIn(hs:St H0 H σ)(i:Nat){b l c k j:Nat}{el:TypeId}{fs vs:List Value}{f:Heap→Prop}(hi:σ[i]?=some (.sl (some ⟨b,0,none⟩) l c el k fs))(hj:j+vs.length≤fs.length)(ho: ∀v∈vs,v.oneCell'=true)
 (hK: ∀H',St H0 H' (σ.set i (.sl (some ⟨b,0,none⟩) l c el k (setL fs j vs)))→f H'):stAt H ⟨b,j,none⟩ vs f:=by
 have hf:=hs.fs i hi
 have hlc:=Nat.mul_le_mul_right k hf.le
 have hlen:=hf.len
 refine hs.slRow i hi (by omega) ho hf.le (by rw[setL_len hj];exact hlen) (fun v hv=>?_) (fun x v hv=>by rw[setL_get hj] at hv;exact hv) hK
 unfold setL at hv
 simp only[List.mem_append] at hv
 rcases hv with (hv|hv)|hv
 ·exact hf.one v (List.mem_of_mem_take hv)
 ·exact ho v hv
 ·exact hf.one v (List.mem_of_mem_drop hv)
theorem c162{K:Sl3}{i b:Nat}{cs:Array Value}{fs:List Value}(hs:St H0 H (.sl K.p K.l K.c 118 19 fs:: .cell b cs 118::σ))(hcs:cs.size=19)(hco: ∀v∈cs.toList,v.oneCell'=true)(hi:i≤K.l)(hl:K.l≤1000000000)
 (hR: ∀(K':Sl3) H',K'.l=K.l+1→St H0 H' (.sl K'.p K'.l K'.c 118 19 (fs.take (i*19)++cs.toList++fs.drop (i*19)):: .cell b cs 118::σ)→R K'.v H'):
 CallsH Tryz.prog 162 #[K.v,.int .i64 i,.slice (some ⟨b,0,none⟩) 1 1] H R:=by
 obtain⟨p,l,c⟩:=K
 simp only at hs hi hl hR
 show CallsH Tryz.prog 162 #[.slice p l c,.int .i64 i,.slice (some ⟨b,0,none⟩) 1 1] H R
 have hfl:=(hs.fs 0 rfl).len
 have hfo:=(hs.fs 0 rfl).one
 have hlc:=(hs.fs 0 rfl).le
 refine Tryz.s162 ?_
 unfold Tryz.S162
 refine⟨by omega,by omega,br_eq (fun h=>absurd h (by decide)) fun _=>br_eq (fun h=>?_) fun h=>?_⟩
 ·have:i=l:=by omega
  subst this
  refine hs.appC 0 1 rfl rfl (by rw[hcs]) hco (by decide) rfl (by omega) (by omega) fun p' c' H' hs'=>?_
  refine hR ⟨p',i+1,c'⟩ H' rfl ?_
  rw[List.take_of_length_le (by omega),List.drop_of_length_le (by omega),List.append_nil]
  exact hs'
 ·have hil:i<l:=by omega
  obtain⟨b0,rfl⟩:=hs.slSome 0 (j:=0) rfl (by omega)
  rw[wrap_id (n:=(l:Int)+((1:Nat):Int)) (by omega) (by omega),wrap_id (n:=(l:Int)+((1:Nat):Int)-(i:Int)) (by omega) (by omega),wrap_id (n:=(i:Int)+((1:Nat):Int)) (by omega) (by omega)]
  have t1:Int.toNat ((i:Int)+((1:Nat):Int))=i+1:=by omega
  have t2:Int.toNat (i:Int)=i:=rfl
  have t3:Int.toNat ((l:Int)+((1:Nat):Int))=l+1:=by omega
  have t4:Int.toNat (l:Int)=l:=rfl
  simp only[t1,t2,t3,t4,Nat.sub_zero,Nat.zero_mul,offP0]
  have hdl:(fs.drop (i*19)).length=(l-i)*19:=by rw[List.length_drop];omega
  have hdo: ∀v∈fs.drop (i*19),v.oneCell'=true:=fun v hv=>hfo v (List.mem_of_mem_drop hv)
  have htl:(fs.take (i*19)).length=i*19:=by rw[List.length_take];omega
  refine br_dec (fun hgrow=>?_) fun hfit=>?_
  ·refine⟨by omega,by omega,?_⟩
   have hr0:=(hs.rs 0 rfl).rowPart 0 (i*19) (by omega)
   rw[List.drop_zero] at hr0
   have hn:Int.toNat ((l:Int)+((1:Nat):Int)-(i:Int))=l+1-i:=by omega
   refine hs.appZnew (bytes:=216) hr0 htl (fun v hv=>hfo v (List.mem_of_mem_take hv)) (by decide) rfl (cellsL_one ⟨0,0,false,0,0,0,0,[],[],⟨0,0,0,0,0,0⟩,false,0,[]⟩ .nil .nil .nil .nil) (by omega) (by omega) (by omega) (by omega) fun b' c' H7 hs7=>?_
   rw[hn] at hs7 ⊢
   have hc7:=(hs7.fs 0 rfl).le
   rw[show i+(l+1-i)=l+1 from by omega] at hs7 hc7 ⊢
   refine⟨by omega,by omega,cs,?_,?_⟩
   ·rw[show min 1 (l+1-i)=1 from by omega]
    exact⟨by rw[hcs],rowIn_whole (hs7.block 2 rfl)⟩
   rw[offP (show c'≠i by omega)]
   have hzl:(reps (l+1-i) (cellsL ⟨0,0,false,0,0,0,0,[],[],⟨0,0,0,0,0,0⟩,false,0,[]⟩ Sl3.nil.v Sl3.nil.v Sl3.nil.v Sl3.nil.v)).length=(l+1-i)*19:=by rw[reps_length];rfl
   refine copS (hs7.slIn 0 rfl (by
    have h19:cs.toList.length=19:=by simpa using hcs
    have e:(fs.take (i*19)++reps (l+1-i) (cellsL ⟨0,0,false,0,0,0,0,[],[],⟨0,0,0,0,0,0⟩,false,0,[]⟩ Sl3.nil.v Sl3.nil.v Sl3.nil.v Sl3.nil.v)).length=i*19+(l+1-i)*19:=by rw[List.length_append,htl,hzl]
    rw[h19]
    refine Nat.le_trans ?_ (Nat.le_of_eq e.symm)
    omega) hco fun H9 hs9=>⟨by omega,by omega,by omega,by omega,(fs.drop (i*19)).toArray,?_,?_⟩)
   ·rw[show min (l-i) (l+1-(i+1))=l-i from by omega,offP (show c≠i by omega)]
    have h1:=(hs9.rs 1 rfl).rowPart (i*19) ((l-i)*19) (by omega)
    rw[List.take_of_length_le (by omega)] at h1
    exact h1
   rw[offP (show c'≠i+1 by omega)]
   have h19:cs.toList.length=19:=by simpa using hcs
   have e1:setL (fs.take (i*19)++reps (l+1-i) (cellsL ⟨0,0,false,0,0,0,0,[],[],⟨0,0,0,0,0,0⟩,false,0,[]⟩ Sl3.nil.v Sl3.nil.v Sl3.nil.v Sl3.nil.v)) (i*19) cs.toList=fs.take (i*19)++cs.toList++(reps (l+1-i) (cellsL ⟨0,0,false,0,0,0,0,[],[],⟨0,0,0,0,0,0⟩,false,0,[]⟩ Sl3.nil.v Sl3.nil.v Sl3.nil.v Sl3.nil.v)).drop 19:=by rw[setL_app _ _ _ htl,h19]
   have hs9:St H0 H9 (.sl (some ⟨b',0,none⟩) (l+1) c' 118 19 (fs.take (i*19)++cs.toList++(reps (l+1-i) (cellsL ⟨0,0,false,0,0,0,0,[],[],⟨0,0,0,0,0,0⟩,false,0,[]⟩ Sl3.nil.v Sl3.nil.v Sl3.nil.v Sl3.nil.v)).drop 19):: .sl (some ⟨b0,0,none⟩) l c 118 19 fs:: .cell b cs 118::σ):=by rw[←e1];exact hs9
   have e3:((reps (l+1-i) (cellsL ⟨0,0,false,0,0,0,0,[],[],⟨0,0,0,0,0,0⟩,false,0,[]⟩ Sl3.nil.v Sl3.nil.v Sl3.nil.v Sl3.nil.v)).drop 19).length=(l-i)*19:=by rw[List.length_drop,hzl];omega
   have hacl:(fs.take (i*19)++cs.toList).length=(i+1)*19:=by rw[List.length_append,htl,h19];omega
   refine copS (hs9.slIn 0 rfl (by
    rw[List.length_append,hacl,e3]
    show(i+1)*19+(fs.drop (i*19)).length≤_
    rw[hdl];exact Nat.le_refl _) (by simpa using hdo) fun H11 hs11=>?_)
   refine hR ⟨some ⟨b',0,none⟩,l+1,c'⟩ H11 rfl ?_
   have e2:setL (fs.take (i*19)++cs.toList++(reps (l+1-i) (cellsL ⟨0,0,false,0,0,0,0,[],[],⟨0,0,0,0,0,0⟩,false,0,[]⟩ Sl3.nil.v Sl3.nil.v Sl3.nil.v Sl3.nil.v)).drop 19) ((i+1)*19) (fs.drop (i*19))=fs.take (i*19)++cs.toList++fs.drop (i*19):=by
    rw[setL_app _ _ _ hacl,List.drop_of_length_le (l:=(reps (l+1-i) (cellsL ⟨0,0,false,0,0,0,0,[],[],⟨0,0,0,0,0,0⟩,false,0,[]⟩ Sl3.nil.v Sl3.nil.v Sl3.nil.v Sl3.nil.v)).drop 19) (by rw[e3,hdl];exact Nat.le_refl _),List.append_nil]
   rw[←e2]
   exact St.del hs11 1
  ·refine⟨by omega,by omega,by omega,by omega,?_⟩
   rw[offP (show c≠i+1 by omega)]
   have hb0:=(hs.fs 0 rfl).at_
   rcases hb0 with ⟨h1,_⟩|⟨blk,cs0,h1,_,h3,h4,h5⟩
   ·cases h1
   cases h1
   have hbb:=hs.block 1 rfl
   have hne:b≠b0:=by
    obtain⟨_,fps,hl,hn,_⟩:=hs
    match fps,hl with
    |f::g::fps,hl=>
     have hf:=Rs.sl_at hl.1 rfl
     have hg:=hl.2.1.1
     rw[hf,hg] at hn
     simp only[List.flatten_cons,List.cons_append,List.nil_append,List.nodup_cons,List.mem_cons] at hn
     exact fun h=>hn.1 (.inl h.symm)
   refine c205 (a:=⟨b,0,none⟩) (b:=⟨b0,(i+1)*19,none⟩) hne hbb h3 (by omega) ⟨false,rfl,br_t rfl ?_⟩
   refine⟨by omega,by omega,by omega,by omega,(fs.drop (i*19)).toArray,?_,?_⟩
   ·rw[show min (l+1-i) (l+1-(i+1))=l-i from by omega,offP (show c≠i by omega)]
    have h1:=(hs.rs 0 rfl).rowPart (i*19) ((l-i)*19) (by omega)
    rw[List.take_of_length_le (by omega)] at h1
    exact h1
   have htl2:(fs.take ((i+1)*19)).length=(i+1)*19:=by rw[List.length_take];omega
   refine copS (hs.slRow 0 rfl (l':=l+1) (fs':=fs.take ((i+1)*19)++fs.drop (i*19)) (by simp only[List.toList_toArray];omega) (by simpa using hdo) (by omega) (by rw[List.length_append,htl2,hdl];omega)
    (fun v hv=>(List.mem_append.1 hv).elim (fun h=>hfo v (List.mem_of_mem_take h)) (hdo v)) (fun x v hv=>?_) fun H16 hs16=>?_)
   ·simp only[List.toList_toArray]
    rw[List.getElem?_append] at hv
    split at hv
    ·rename_i hx
     rw[if_neg (by omega)]
     rw[List.getElem?_take_of_lt (by omega)] at hv
     exact hv
    ·rename_i hx
     have:=(List.getElem?_eq_some_iff.1 hv).1
     rw[if_pos (by omega)]
     rw[htl2] at hv
     exact hv
   have h19:cs.toList.length=19:=by simpa using hcs
   refine⟨by omega,by omega,cs,?_,?_⟩
   ·rw[show min 1 (l+1-i)=1 from by omega]
    exact⟨by rw[hcs],rowIn_whole (hs16.block 1 rfl)⟩
   rw[offP (show c≠i by omega)]
   refine copS (hs16.slIn 0 rfl (by rw[List.length_append,htl2,hdl,h19];omega) hco fun H18 hs18=>?_)
   refine hR ⟨some ⟨b0,0,none⟩,l+1,c⟩ H18 rfl ?_
   have e2:setL (fs.take ((i+1)*19)++fs.drop (i*19)) (i*19) cs.toList=fs.take (i*19)++cs.toList++fs.drop (i*19):=by
    have e3:fs.take ((i+1)*19)=fs.take (i*19)++(fs.drop (i*19)).take 19:=by rw[show(i+1)*19=i*19+19 from by omega,List.take_add]
    rw[e3,List.append_assoc,setL_app _ _ _ htl,h19,List.drop_append_of_le_length (by rw[List.length_take];omega),List.drop_of_length_le (by rw[List.length_take];omega),List.nil_append]
   rw[←e2]
   exact hs18
theorem c120{K:Sl3}{i:Nat}{fs:List Value}(hs:St H0 H (.sl K.p K.l K.c 118 19 fs::σ))(hi:i<K.l)(hl:K.l≤1000000000)
 (hR: ∀(K':Sl3) H',K'.l=K.l-1→St H0 H' (.sl K'.p K'.l K'.c 118 19 (fs.take (i*19)++fs.drop ((i+1)*19))::σ)→R K'.v H'):
 CallsH Tryz.prog 120 #[K.v,.int .i64 i,.int .i64 ((i:Int)+1)] H R:=by
 obtain⟨p,l,c⟩:=K
 simp only at hs hi hl hR
 show CallsH Tryz.prog 120 #[.slice p l c,.int .i64 i,.int .i64 ((i:Int)+1)] H R
 have hfl:=(hs.fs 0 rfl).len
 have hfo:=(hs.fs 0 rfl).one
 have hlc:=(hs.fs 0 rfl).le
 obtain⟨b0,rfl⟩:=hs.slSome 0 (j:=0) rfl (by omega)
 refine Tryz.s120 ?_
 unfold Tryz.S120
 have t1:Int.toNat ((i:Int)+1)=i+1:=by omega
 have t2:Int.toNat (i:Int)=i:=rfl
 have t4:Int.toNat (l:Int)=l:=rfl
 simp only[t1,t2,t4,Nat.sub_zero,Nat.zero_mul,offP0]
 refine⟨by omega,by omega,by omega,by omega,by omega,by omega,br_eq (fun h=>by omega) fun _=>⟨by omega,by omega,by omega,by omega,?_⟩⟩
 have hdl:(fs.drop ((i+1)*19)).length=(l-(i+1))*19:=by rw[List.length_drop];omega
 have hdo: ∀v∈fs.drop ((i+1)*19),v.oneCell'=true:=fun v hv=>hfo v (List.mem_of_mem_drop hv)
 have htl:(fs.take (i*19)).length=i*19:=by rw[List.length_take];omega
 refine⟨by omega,by omega,(fs.drop ((i+1)*19)).toArray,?_,fun _=>?_,fun h=>by omega⟩
 ·have h1:=(hs.rs 0 rfl).rowPart ((i+1)*19) ((l-(i+1))*19) (by omega)
  rw[List.take_of_length_le (by omega)] at h1
  by_cases hc:c=i+1
  ·have hn:fs.drop ((i+1)*19)=[]:=List.drop_of_length_le (by omega)
   have hz:l-(i+1)=0:=by omega
   rw[if_pos hc,hn,hz]
   exact⟨rfl,fun j v hv=>by simp at hv⟩
  ·rw[offP hc];exact h1
 show stAt H ((⟨b0,0,none⟩:Addr).add (i*19)) _ _
 rw[add_none,Nat.zero_add]
 -- the row moves down;what was last stays behind
 refine hs.slRow 0 rfl (l':=l) (fs':=fs.take (i*19)++fs.drop ((i+1)*19)++fs.drop ((l-1)*19)) (by simp only[List.toList_toArray];omega) (by simpa using hdo) (by omega) (by rw[List.length_append,List.length_append,htl,hdl,List.length_drop];omega)
  (fun v hv=>by
   simp only[List.mem_append] at hv
   rcases hv with (hv|hv)|hv
   ·exact hfo v (List.mem_of_mem_take hv)
   ·exact hdo v hv
   ·exact hfo v (List.mem_of_mem_drop hv)) (fun x v hv=>?_) fun H5 hs5=>?_
 ·simp only[List.toList_toArray]
  rw[List.getElem?_append] at hv
  have hab:(fs.take (i*19)++fs.drop ((i+1)*19)).length=(l-1)*19:=by rw[List.length_append,htl,hdl];omega
  rw[hab] at hv
  split at hv
  ·rename_i hx
   rw[List.getElem?_append] at hv
   split at hv
   ·rename_i hx2
    rw[if_neg (by omega)]
    rw[List.getElem?_take_of_lt (by omega)] at hv
    exact hv
   ·rename_i hx2
    rw[if_pos (by omega)]
    rw[htl] at hv
    exact hv
  ·rename_i hx
   rw[if_neg (by omega)]
   rw[List.getElem?_drop] at hv
   rw[show x=(l-1)*19+(x-(l-1)*19) from by omega]
   exact hv
 have t7:Int.toNat ((l-1:Nat):Int)=l-1:=rfl
 have t6:i+(l-(i+1))=l-1:=by omega
 simp only[t6,t7]
 refine⟨by omega,by omega,by omega,by omega,fun h=>by omega,fun _=>?_⟩
 rw[offP (show c≠l-1 by omega),show l-(l-1)=1 from by omega]
 have hab:(fs.take (i*19)++fs.drop ((i+1)*19)).length=(l-1)*19:=by rw[List.length_append,htl,hdl];omega
 have hone:=cellsL_one ⟨0,0,false,0,0,0,0,[],[],⟨0,0,0,0,0,0⟩,false,0,[]⟩ .nil .nil .nil .nil
 refine hs5.slRow 0 rfl (l':=l-1) (fs':=fs.take (i*19)++fs.drop ((i+1)*19)) ?_ ?_ (by omega) hab
  (fun v hv=>by
   simp only[List.mem_append] at hv
   rcases hv with hv|hv
   ·exact hfo v (List.mem_of_mem_take hv)
   ·exact hdo v hv) (fun x v hv=>?_) fun H6 hs6=>?_
 ·show(l-1)*19+19≤c*19;omega
 ·exact hone
 ·have hx:=(List.getElem?_eq_some_iff.1 hv).1
  rw[hab] at hx
  rw[if_neg (by omega),List.getElem?_append_left (by rw[hab];exact hx)]
  exact hv
 exact hR ⟨some ⟨b0,0,none⟩,l-1,c⟩ H6 rfl hs6
end Go.Proofs
