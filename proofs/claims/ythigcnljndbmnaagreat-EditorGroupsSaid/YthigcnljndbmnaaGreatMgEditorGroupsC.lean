/-
  OWN WORK. Several texts in one: GFunI, GFunJ, GFun, TileM, TileC, TileN, TileO, TileD, TileE, TileP, TileF, TileQ, TileT, TileU.
-/
import Derived.Test.YthigcnljndbmnaaGreatMgEditorGroupsB

set_option linter.unusedVariables false
set_option maxRecDepth 100000
set_option linter.unusedSimpArgs false
namespace Go.Proofs
open Go.Sh Go.Sh.Plan
open Go.IntKind (wrap)
open Int (toNat)
end Go.Proofs
namespace Go.Proofs
open Go.Sh Go.Sh.Plan
open Go.IntKind (wrap)
open Int (toNat)
end Go.Proofs
namespace Go.Tile
structure En where
 x:Int
 y:Int
 t:Nat
 born:Nat
structure Pl where
 b:Nat
 m:Nat
 w:Int
 h:Int
 en:List En
 clk:Nat
structure St where
 A:Nat
 free:Int
 pls:List Pl
 ts:List (Nat×List Int)
def En.at(e:En)(x y:Int):Bool:=x==e.x&&y==e.y
def tileOf(en:List En)(x y:Int):Option Nat:=(en.find? (·.at x y)).map (·.t)
def refs:List Pl→Nat→Nat
 |[],_=>0
 |p::r,t=>p.en.countP (·.t==t)+refs r t
def pxOf(ts:List (Nat×List Int))(t:Nat):Option (List Int):=(ts.find? (·.1==t)).map (·.2)
def setEn(x y:Int)(n clk:Nat):List En→List En
 |[]=>[⟨x,y,n,clk⟩]
 |e::r=>if e.at x y then{e with t:=n}::r else e::setEn x y n clk r
def setClk(en:List En)(x y:Int)(clk:Nat):Nat:=match tileOf en x y with
 |some _=>clk
 |none=>clk+1
structure PlOk(p:Pl):Prop where
 keys:(p.en.map fun e=>(e.x,e.y)).Nodup
 born:(p.en.map (·.born)).Nodup
 clk: ∀e∈p.en,e.born<p.clk
 w0:0≤p.w
 w1:p.w≤32768
 h0:0≤p.h
 h1:p.h≤32768
structure Ok(cap:Int)(s:St):Prop where
 pl: ∀p∈s.pls,PlOk p
 bs:(s.pls.map (·.b)).Nodup
 ms:(s.pls.map (·.m)).Nodup
 ts:(s.ts.map (·.1)).Nodup
 px: ∀x∈s.ts,x.2.length=256∧ ∀v∈x.2,0≤v∧v<4294967296
 live: ∀t,0<refs s.pls t↔t∈s.ts.map (·.1)
 count:s.free+s.ts.length=cap
 free:0≤s.free
 one: ∀p∈s.pls,∀t,p.en.countP (·.t==t)≤1
 len:s.pls.length≤1000000
 capb:cap≤1048576
def Pl.has(p:Pl)(x y:Int):Bool:=decide (0≤x∧x<p.w∧0≤y∧y<p.h)
def idx(x y:Int):Nat:=(y%16*16+x%16).toNat
def pxAt(s:St)(p:Pl)(x y:Int):Int:=
 match p.has x y with
 |true=>match tileOf p.en (x/16) (y/16) with
  |some t=>match pxOf s.ts t with
   |some l=>l.getD (idx x y) 0
   |none=>0
  |none=>0
 |false=>0
theorem tileOf_mem{en:List En}{x y:Int}{t:Nat}(h:tileOf en x y=some t): ∃e∈en,e.at x y=true∧e.t=t:=by
 unfold tileOf at h
 cases hf:en.find? (·.at x y) with
 |none=>rw[hf] at h;cases h
 |some e=>
  rw[hf] at h
  cases h
  exact⟨e,List.mem_of_find?_eq_some hf,by simpa using List.find?_some hf,rfl⟩
theorem refs_ge{pls:List Pl}{p:Pl}(hp:p∈pls)(t:Nat):p.en.countP (·.t==t)≤refs pls t:=by
 induction pls with
 |nil=>cases hp
 |cons q r ih=>
  unfold refs
  rcases List.mem_cons.1 hp with rfl|hp
  ·omega
  ·have:=ih hp;omega
theorem refs_pos{pls:List Pl}{p:Pl}(hp:p∈pls){e:En}(he:e∈p.en):0<refs pls e.t:=by
 have h1:0<p.en.countP (·.t==e.t):=List.countP_pos_iff.2 ⟨e,he,by simp⟩
 have h2:=refs_ge hp e.t
 omega
theorem refs_set{pls:List Pl}{k:Nat}{p p':Pl}(hk:pls[k]?=some p)(t:Nat):refs (pls.set k p') t+p.en.countP (·.t==t)=refs pls t+p'.en.countP (·.t==t):=by
 induction pls generalizing k with
 |nil=>cases hk
 |cons q r ih=>
  cases k with
  |zero=>simp at hk;subst hk;simp only[List.set_cons_zero,refs];omega
  |succ k=>simp only[List.getElem?_cons_succ] at hk;simp only[List.set_cons_succ,refs];have:=ih hk;omega
theorem Ok.px_of{cap:Int}{s:St}(h:Ok cap s){p:Pl}(hp:p∈s.pls){x y:Int}{t:Nat}(ht:tileOf p.en x y=some t):
 ∃l,pxOf s.ts t=some l∧(t,l)∈s.ts∧l.length=256∧ ∀v∈l,0≤v∧v<4294967296:=by
 obtain⟨e,he,_,rfl⟩:=tileOf_mem ht
 have hl:=(h.live e.t).1 (refs_pos hp he)
 obtain⟨z,hz,hzt⟩:=List.mem_map.1 hl
 have: ∃z',s.ts.find? (·.1==e.t)=some z':=by
  cases hf:s.ts.find? (·.1==e.t) with
  |some z'=>exact⟨z',rfl⟩
  |none=>
   have:=List.find?_eq_none.1 hf z hz
   simp[hzt] at this
 obtain⟨z',hz'⟩:=this
 have hm:=List.mem_of_find?_eq_some hz'
 have hk:z'.1=e.t:=by simpa using List.find?_some hz'
 have:=h.px z' hm
 refine⟨z'.2,by simp[pxOf,hz'],?_,this.1,this.2⟩
 rw[←hk];exact hm
theorem idx_lt(x y:Int):idx x y<256:=by unfold idx;omega
theorem at_iff{e:En}{x y:Int}:e.at x y=true↔x=e.x∧y=e.y:=by simp[En.at]
theorem tileOf_cons(e:En)(r:List En)(x y:Int):tileOf (e::r) x y=if e.at x y then some e.t else tileOf r x y:=by
 unfold tileOf
 rw[List.find?_cons]
 cases e.at x y<;>rfl
theorem tileOf_set(x y:Int)(n clk:Nat)(en:List En)(x' y':Int):tileOf (setEn x y n clk en) x' y'=if x'=x∧y'=y then some n else tileOf en x' y':=by
 induction en with
 |nil=>simp only[setEn,tileOf_cons,at_iff]
 |cons e r ih=>
  unfold setEn
  by_cases he:e.at x y=true
  ·rw[if_pos he,tileOf_cons,tileOf_cons]
   have h1:=at_iff.1 he
   simp only[at_iff]
   by_cases h:x'=x∧y'=y
   ·rw[if_pos (by rw[←h1.1,←h1.2];exact h),if_pos h]
   ·rw[if_neg (by rw[←h1.1,←h1.2];exact h),if_neg h,if_neg (by rw[←h1.1,←h1.2];exact h)]
  ·rw[if_neg he,tileOf_cons,tileOf_cons,ih]
   simp only[at_iff] at he ⊢
   by_cases h:x'=x∧y'=y
   ·rw[if_neg (by rw[h.1,h.2];exact he),if_pos h,if_pos h]
   ·rw[if_neg h,if_neg h]
theorem count_set_new{x y:Int}{n clk:Nat}: ∀{en:List En},(∀e∈en,e.t≠n)→(setEn x y n clk en).countP (·.t==n)=1
 |[],_=>by simp[setEn]
 |e::r,h=>by
  have hr:r.countP (·.t==n)=0:=List.countP_eq_zero.2 fun e' he'=>by simpa using h e' (List.mem_cons_of_mem _ he')
  have he:(e.t==n)=false:=by simpa using h e List.mem_cons_self
  unfold setEn
  split
  ·simp[List.countP_cons,hr]
  ·simp only[List.countP_cons,he,count_set_new fun e' he'=>h e' (List.mem_cons_of_mem _ he')]
   rfl
theorem count_set_old{x y:Int}{n clk t:Nat}(ht:t≠n): ∀{en:List En},(setEn x y n clk en).countP (·.t==t)+(if tileOf en x y=some t then 1 else 0)=en.countP (·.t==t)
 |[]=>by
  have:(n==t)=false:=by simpa using fun h=>ht h.symm
  simp[setEn,List.countP_cons,this,tileOf]
 |e::r=>by
  have hnt:(n==t)=false:=by simpa using fun h=>ht h.symm
  unfold setEn
  rw[tileOf_cons]
  by_cases he:e.at x y=true
  ·rw[if_pos he,if_pos he]
   simp only[List.countP_cons,hnt,Option.some.injEq]
   by_cases h:e.t=t<;>simp[h]
  ·rw[if_neg he,if_neg he]
   simp only[List.countP_cons]
   have:=count_set_old ht (en:=r) (x:=x) (y:=y) (clk:=clk)
   omega
def En.sig(e:En):Int×Int×Nat:=(e.x,e.y,e.born)
theorem set_none{x y:Int}(n clk:Nat){en:List En}(h:tileOf en x y=none):setEn x y n clk en=en++[⟨x,y,n,clk⟩]:=by
 induction en with
 |nil=>rfl
 |cons e r ih=>
  rw[tileOf_cons] at h
  unfold setEn
  split at h
  ·cases h
  ·rename_i he;rw[if_neg he,ih h];rfl
theorem set_some{x y:Int}(n clk:Nat){en:List En}{t:Nat}(h:tileOf en x y=some t):(setEn x y n clk en).map En.sig=en.map En.sig:=by
 induction en with
 |nil=>cases h
 |cons e r ih=>
  rw[tileOf_cons] at h
  unfold setEn
  split at h
  ·rename_i he;rw[if_pos he];rfl
  ·rename_i he;rw[if_neg he,List.map_cons,List.map_cons,ih h]
theorem PlOk.set{p:Pl}(h:PlOk p)(x y:Int)(n:Nat):PlOk {p with en:=setEn x y n p.clk p.en,clk:=setClk p.en x y p.clk}:=by
 have e1: ∀l:List En,(l.map fun e=>(e.x,e.y))=(l.map En.sig).map fun z=>(z.1,z.2.1):=fun l=>by rw[List.map_map];rfl
 have e2: ∀l:List En,(l.map (·.born))=(l.map En.sig).map fun z=>z.2.2:=fun l=>by rw[List.map_map];rfl
 cases ht:tileOf p.en x y with
 |some t=>
  have hs:=set_some n p.clk ht
  refine⟨?_,?_,?_,h.w0,h.w1,h.h0,h.h1⟩
  ·show((setEn x y n p.clk p.en).map fun e=>(e.x,e.y)).Nodup
   rw[e1,hs,←e1];exact h.keys
  ·show((setEn x y n p.clk p.en).map (·.born)).Nodup
   rw[e2,hs,←e2];exact h.born
  ·intro e he
   have h1:e.born∈(setEn x y n p.clk p.en).map (·.born):=List.mem_map.2 ⟨e,he,rfl⟩
   rw[e2,hs,←e2] at h1
   obtain⟨f,hf,hb⟩:=List.mem_map.1 h1
   have:=h.clk f hf
   show e.born<setClk p.en x y p.clk
   simp only[setClk,ht]
   omega
 |none=>
  have hs:=set_none n p.clk ht
  have hne: ∀e∈p.en,e.at x y=false:=fun e he=>by
   unfold tileOf at ht
   simp only[Option.map_eq_none_iff] at ht
   simpa using List.find?_eq_none.1 ht e he
  refine⟨?_,?_,?_,h.w0,h.w1,h.h0,h.h1⟩
  ·show((setEn x y n p.clk p.en).map fun e=>(e.x,e.y)).Nodup
   rw[hs,List.map_append,List.nodup_append]
   refine⟨h.keys,by simp,?_⟩
   intro a ha b hb hab
   simp at hb
   subst hab
   obtain⟨e,he,heq⟩:=List.mem_map.1 ha
   have:=hne e he
   rw[hb] at heq
   simp only[Prod.mk.injEq] at heq
   simp[En.at,heq.1,heq.2] at this
  ·show((setEn x y n p.clk p.en).map (·.born)).Nodup
   rw[hs,List.map_append,List.nodup_append]
   refine⟨h.born,by simp,?_⟩
   intro a ha b hb hab
   simp at hb
   obtain⟨e,he,heq⟩:=List.mem_map.1 ha
   have:=h.clk e he
   omega
  ·intro e he
   show e.born<setClk p.en x y p.clk
   simp only[setClk,ht]
   have he':e∈setEn x y n p.clk p.en:=he
   rw[hs] at he'
   rcases List.mem_append.1 he' with he'|he'
   ·have:=h.clk e he';omega
   ·simp at he';subst he';exact Nat.lt_succ_self _
end Go.Tile
namespace Go.Proofs
open Go.Sh Go.Tile
def tenc(e:En):MapEntry:={key:= .agg #[.int .i64 e.x,.int .i64 e.y],val:= .pointer (some ⟨e.t,0,none⟩),born:=e.born}
def tileO(px:List Int)(u:Int):Obj:= .cells (px.map (Value.int .u32)++[Value.int .i64 u]).toArray 208
def arenaO(f:Int):Obj:= .cells #[.int .i64 f] 110
def planeO(A:Nat)(p:Pl):Obj:= .cells #[.pointer (some ⟨A,0,none⟩),.int .i64 p.w,.int .i64 p.h,.map (some p.m)] 203
def tmapO(p:Pl):Obj:= .map (p.en.map tenc).toArray p.clk
structure In(H:Heap)(s:St):Prop where
 arena:H[s.A]?=some (arenaO s.free)
 plane: ∀p∈s.pls,H[p.b]?=some (planeO s.A p)
 map: ∀p∈s.pls,H[p.m]?=some (tmapO p)
 tile: ∀x∈s.ts,H[x.1]?=some (tileO x.2 (refs s.pls x.1))
theorem In.ext{H H':Heap}{s:St}(h:In H s)(he:Ext H H'):In H' s:=
 ⟨he _ _ h.arena,fun p hp=>he _ _ (h.plane p hp),fun p hp=>he _ _ (h.map p hp),fun x hx=>he _ _ (h.tile x hx)⟩
end Go.Proofs
namespace Go.Tile
def zeros:List Int:=List.replicate 256 0
def needs(s:St)(p:Pl)(x y:Int):Bool:=
 match tileOf p.en x y with
 |some t=> !(refs s.pls t==1)
 |none=>true
def oldPx(s:St)(p:Pl)(x y:Int):List Int:=
 match tileOf p.en x y with
 |some t=>(pxOf s.ts t).getD zeros
 |none=>zeros
def Pl.own(p:Pl)(x y:Int)(n:Nat):Pl:={p with en:=setEn x y n p.clk p.en,clk:=setClk p.en x y p.clk}
def ownS(s:St)(k:Nat)(p:Pl)(x y:Int)(n:Nat):St:=
 {s with free:=s.free-1,pls:=s.pls.set k (p.own x y n),ts:=(n,oldPx s p x y)::s.ts}
def wrTs(ts:List (Nat×List Int))(t i:Nat)(v:Int):List (Nat×List Int):=ts.map fun z=>if z.1=t then(z.1,z.2.set i v) else z
def wrS(s:St)(t i:Nat)(v:Int):St:={s with ts:=wrTs s.ts t i v}
theorem pxOf_cons(z:Nat×List Int)(r:List (Nat×List Int))(t:Nat):pxOf (z::r) t=if z.1=t then some z.2 else pxOf r t:=by
 unfold pxOf
 rw[List.find?_cons]
 by_cases h:z.1=t
 ·simp[h]
 ·have:(z.1==t)=false:=by simpa using h
  rw[this,if_neg h]
theorem pxOf_wr(ts:List (Nat×List Int))(t i:Nat)(v:Int)(u:Nat):pxOf (wrTs ts t i v) u=if u=t then(pxOf ts t).map (·.set i v) else pxOf ts u:=by
 induction ts with
 |nil=>simp[wrTs,pxOf]
 |cons z r ih=>
  have:wrTs (z::r) t i v=(if z.1=t then(z.1,z.2.set i v) else z)::wrTs r t i v:=rfl
  rw[this,pxOf_cons,pxOf_cons,pxOf_cons,ih]
  by_cases h1:z.1=t<;>by_cases h2:u=t
  ·subst h2;simp[h1]
  ·have h3: ¬t=u:=fun h=>h2 h.symm
   simp[h1,h2,h3]
  ·subst h2;simp[h1]
  ·simp[h1,h2]
theorem wrTs_keys(ts:List (Nat×List Int))(t i:Nat)(v:Int):(wrTs ts t i v).map (·.1)=ts.map (·.1):=by
 unfold wrTs
 rw[List.map_map]
 apply List.map_congr_left
 intro z _
 simp only[Function.comp]
 split<;>rfl
theorem oldPx_ok{cap:Int}{s:St}(h:Ok cap s){p:Pl}(hp:p∈s.pls)(x y:Int):(oldPx s p x y).length=256∧ ∀v∈oldPx s p x y,0≤v∧v<4294967296:=by
 have hz:zeros.length=256∧ ∀v∈zeros,0≤v∧v<4294967296:=by
  refine⟨List.length_replicate,fun v hv=>?_⟩
  have:=List.eq_of_mem_replicate hv
  omega
 unfold oldPx
 split
 ·rename_i t ht
  obtain⟨l,hl,_,h1,h2⟩:=h.px_of hp ht
  rw[hl]
  exact⟨h1,h2⟩
 ·exact hz
theorem refs_own{s:St}{k:Nat}{p:Pl}(hk:s.pls[k]?=some p){x y:Int}{n:Nat}(hn: ∀q∈s.pls,∀e∈q.en,e.t≠n):
 refs (ownS s k p x y n).pls n=1∧ ∀t,t≠n→refs (ownS s k p x y n).pls t+(if tileOf p.en x y=some t then 1 else 0)=refs s.pls t:=by
 have hp:p∈s.pls:=List.mem_of_getElem? hk
 have hz: ∀q∈s.pls,q.en.countP (·.t==n)=0:=fun q hq=>List.countP_eq_zero.2 fun e he=>by simpa using hn q hq e he
 have hr:refs s.pls n=0:=by
  have: ∀l:List Pl,(∀q∈l,q.en.countP (·.t==n)=0)→refs l n=0:=by
   intro l
   induction l with
   |nil=>intro _;rfl
   |cons q r ih=>intro h;unfold refs;rw[h q List.mem_cons_self,ih fun q' hq'=>h q' (List.mem_cons_of_mem _ hq')]
  exact this _ hz
 refine⟨?_,fun t ht=>?_⟩
 ·have h1:=refs_set (p':=p.own x y n) hk n
  have h2:(p.own x y n).en.countP (·.t==n)=1:=count_set_new fun e he=>hn p hp e he
  rw[hz p hp,h2,hr] at h1
  simpa[ownS] using h1
 ·have h1:=refs_set (p':=p.own x y n) hk t
  have h2:(p.own x y n).en.countP (·.t==t)+(if tileOf p.en x y=some t then 1 else 0)=p.en.countP (·.t==t):=count_set_old ht
  show refs (s.pls.set k (p.own x y n)) t+_=_
  omega
theorem refs_of_tile{cap:Int}{s:St}(h:Ok cap s){p:Pl}(hp:p∈s.pls){x y:Int}{t:Nat}(ht:tileOf p.en x y=some t):0<refs s.pls t∧t∈s.ts.map (·.1):=by
 obtain⟨e,he,_,rfl⟩:=tileOf_mem ht
 have:=refs_pos hp he
 exact⟨this,(h.live _).1 this⟩
theorem ownS_ok{cap:Int}{s:St}(h:Ok cap s){k:Nat}{p:Pl}(hk:s.pls[k]?=some p){x y:Int}(hneed:needs s p x y=true)(hfree:s.free≠0){n:Nat}(hn:n∉s.ts.map (·.1)):
 Ok cap (ownS s k p x y n):=by
 have hp:p∈s.pls:=List.mem_of_getElem? hk
 have hnt: ∀q∈s.pls,∀e∈q.en,e.t≠n:=fun q hq e he heq=>by
  have:=(h.live e.t).1 (refs_pos hq he)
  rw[heq] at this
  exact hn this
 obtain⟨r1,r2⟩:=refs_own hk (x:=x) (y:=y) hnt
 obtain⟨hlen,hpk⟩:=List.getElem?_eq_some_iff.1 hk
 refine⟨?_,?_,?_,?_,?_,?_,?_,?_,?_,?_,h.capb⟩
 ·intro q hq
  rcases List.mem_or_eq_of_mem_set hq with hq|rfl
  ·exact h.pl q hq
  ·exact(h.pl p hp).set x y n
 ·have:(s.pls.set k (p.own x y n)).map (·.b)=s.pls.map (·.b):=by
   rw[List.map_set]
   apply List.ext_getElem?
   intro i
   rw[List.getElem?_set]
   split
   ·rename_i hki;subst hki;simp[hpk,Pl.own,hlen]
   ·rfl
  show((s.pls.set k (p.own x y n)).map (·.b)).Nodup
  rw[this];exact h.bs
 ·have:(s.pls.set k (p.own x y n)).map (·.m)=s.pls.map (·.m):=by
   rw[List.map_set]
   apply List.ext_getElem?
   intro i
   rw[List.getElem?_set]
   split
   ·rename_i hki;subst hki;simp[hpk,Pl.own,hlen]
   ·rfl
  show((s.pls.set k (p.own x y n)).map (·.m)).Nodup
  rw[this];exact h.ms
 ·exact List.nodup_cons.2 ⟨hn,h.ts⟩
 ·intro z hz
  rcases List.mem_cons.1 hz with rfl|hz
  ·exact oldPx_ok h hp x y
  ·exact h.px z hz
 ·intro t
  show 0<refs (ownS s k p x y n).pls t↔t∈n::s.ts.map (·.1)
  by_cases htn:t=n
  ·subst htn;rw[r1];simp
  ·have h2:=r2 t htn
   rw[List.mem_cons]
   by_cases ht:tileOf p.en x y=some t
   ·obtain⟨h3,h4⟩:=refs_of_tile h hp ht
    have h5:refs s.pls t≠1:=by
     unfold needs at hneed
     rw[ht] at hneed
     simpa using hneed
    rw[if_pos ht] at h2
    exact⟨fun _=> .inr h4,fun _=>by omega⟩
   ·rw[if_neg ht] at h2
    rw[show refs (ownS s k p x y n).pls t=refs s.pls t by omega]
    exact⟨fun hh=> .inr ((h.live t).1 hh),fun hh=>(h.live t).2 (hh.resolve_left htn)⟩
 ·have:=h.count
  show s.free-1+((s.ts.length+1:Nat):Int)=cap
  omega
 ·have:=h.free
  show 0≤s.free-1
  omega
 ·intro q hq t
  rcases List.mem_or_eq_of_mem_set hq with hq|rfl
  ·exact h.one q hq t
  ·by_cases htn:t=n
   ·subst htn
    have:(p.own x y t).en.countP (·.t==t)=1:=count_set_new fun e he=>hnt p hp e he
    omega
   ·have h2:(p.own x y n).en.countP (·.t==t)+(if tileOf p.en x y=some t then 1 else 0)=p.en.countP (·.t==t):=count_set_old htn
    have:=h.one p hp t
    omega
 ·show(s.pls.set k (p.own x y n)).length≤1000000
  rw[List.length_set];exact h.len
theorem wrS_ok{cap:Int}{s:St}(h:Ok cap s)(t i:Nat){v:Int}(h0:0≤v)(h1:v<4294967296):Ok cap (wrS s t i v):=by
 refine⟨h.pl,h.bs,h.ms,?_,?_,?_,?_,h.free,h.one,h.len,h.capb⟩
 ·show((wrTs s.ts t i v).map (·.1)).Nodup
  rw[wrTs_keys];exact h.ts
 ·intro z hz
  obtain⟨z',hz',rfl⟩:=List.mem_map.1 hz
  have:=h.px z' hz'
  split
  ·refine⟨by simpa using this.1,fun u hu=>?_⟩
   rcases List.mem_or_eq_of_mem_set hu with hu|rfl
   ·exact this.2 u hu
   ·exact⟨h0,h1⟩
  ·exact this
 ·intro u
  show 0<refs s.pls u↔u∈(wrTs s.ts t i v).map (·.1)
  rw[wrTs_keys];exact h.live u
 ·have:(wrTs s.ts t i v).length=s.ts.length:=by simp[wrTs]
  show s.free+((wrTs s.ts t i v).length:Int)=cap
  rw[this];exact h.count
end Go.Tile
namespace Go.Tile
theorem countP_two{α:Type}{f:α→Bool}{l:List α}{a b:α}(ha:a∈l)(hb:b∈l)(hab:a≠b)(fa:f a=true)(fb:f b=true):2≤l.countP f:=by
 induction l with
 |nil=>cases ha
 |cons c r ih=>
  rw[List.countP_cons]
  rcases List.mem_cons.1 ha with rfl|ha'
  ·rcases List.mem_cons.1 hb with rfl|hb'
   ·exact absurd rfl hab
   ·have:0<r.countP f:=List.countP_pos_iff.2 ⟨b,hb',fb⟩
    rw[if_pos fa];omega
  ·rcases List.mem_cons.1 hb with rfl|hb'
   ·have:0<r.countP f:=List.countP_pos_iff.2 ⟨a,ha',fa⟩
    rw[if_pos fb];omega
   ·have:=ih ha' hb';omega
theorem refs_two{pls:List Pl}{j k:Nat}(hjk:j≠k){p q:Pl}(hp:pls[k]?=some p)(hq:pls[j]?=some q)(t:Nat):p.en.countP (·.t==t)+q.en.countP (·.t==t)≤refs pls t:=by
 induction pls generalizing j k with
 |nil=>cases hp
 |cons r l ih=>
  unfold refs
  cases k with
  |zero=>
   cases j with
   |zero=>exact absurd rfl hjk
   |succ j=>
    simp at hp hq;subst hp
    have:=refs_ge (List.mem_of_getElem? hq) t
    omega
  |succ k=>
   cases j with
   |zero=>
    simp at hp hq;subst hq
    have:=refs_ge (List.mem_of_getElem? hp) t
    omega
   |succ j=>
    simp at hp hq
    have:=ih (fun h=>hjk (by rw[h])) hp hq
    omega
theorem only_user{s:St}{t:Nat}(h1:refs s.pls t=1){j k:Nat}{p q:Pl}(hp:s.pls[k]?=some p)(hq:s.pls[j]?=some q){e f:En}(he:e∈p.en)(het:e.t=t)(hf:f∈q.en)(hft:f.t=t):
 j=k∧e=f:=by
 have fe:(e.t==t)=true:=by simp[het]
 have ff:(f.t==t)=true:=by simp[hft]
 by_cases hjk:j=k
 ·subst hjk
  rw[hp] at hq;cases hq
  refine⟨rfl,?_⟩
  by_cases hef:e=f
  ·exact hef
  ·have:=countP_two (f:=fun e:En=>e.t==t) he hf hef fe ff
   have:=refs_ge (List.mem_of_getElem? hp) t
   omega
 ·have h2:=refs_two hjk hp hq t
  have h3:0<p.en.countP (·.t==t):=List.countP_pos_iff.2 ⟨e,he,fe⟩
  have h4:0<q.en.countP (·.t==t):=List.countP_pos_iff.2 ⟨f,hf,ff⟩
  omega
theorem own_pls{s:St}{k:Nat}{p:Pl}(x y:Int)(n:Nat)(hk:s.pls[k]?=some p)(j:Nat):(ownS s k p x y n).pls[j]?=if j=k then some (p.own x y n) else s.pls[j]?:=by
 obtain⟨hlen,_⟩:=List.getElem?_eq_some_iff.1 hk
 show(s.pls.set k _)[j]?=_
 rw[List.getElem?_set]
 by_cases h:j=k
 ·subst h;simp[hlen]
 ·have: ¬k=j:=fun h'=>h h'.symm
  rw[if_neg this,if_neg h]
theorem px_own{cap:Int}{s:St}(h:Ok cap s){k:Nat}{p:Pl}(hk:s.pls[k]?=some p)(x y:Int){n:Nat}(hn:n∉s.ts.map (·.1)){q:Pl}(hq:q∈s.pls)(X Y:Int):
 pxAt (ownS s k p x y n) q X Y=pxAt s q X Y∧pxAt (ownS s k p x y n) (p.own x y n) X Y=pxAt s p X Y:=by
 have hother: ∀(q:Pl),q∈s.pls→ ∀a b t,tileOf q.en a b=some t→pxOf ((n,oldPx s p x y)::s.ts) t=pxOf s.ts t:=fun q hq a b t ht=>by
  have:=(refs_of_tile h hq ht).2
  rw[pxOf_cons,if_neg (fun heq=>hn (by rw[show n=t from heq];exact this))]
 have hp:p∈s.pls:=List.mem_of_getElem? hk
 constructor
 ·unfold pxAt
  cases q.has X Y with
  |false=>rfl
  |true=>
   cases ht:tileOf q.en (X/16) (Y/16) with
   |none=>rfl
   |some t=>
    show(match pxOf ((n,oldPx s p x y)::s.ts) t with|some l=>l.getD (idx X Y) 0|none=>0)=_
    rw[hother q hq _ _ t ht]
    rfl
 ·unfold pxAt
  have hh:(p.own x y n).has X Y=p.has X Y:=rfl
  rw[hh]
  cases p.has X Y with
  |false=>rfl
  |true=>
   have h1:tileOf (p.own x y n).en (X/16) (Y/16)=if X/16=x∧Y/16=y then some n else tileOf p.en (X/16) (Y/16):=tileOf_set _ _ _ _ _ _ _
   rw[h1]
   by_cases hxy:X/16=x∧Y/16=y
   ·rw[if_pos hxy]
    show(match pxOf ((n,oldPx s p x y)::s.ts) n with|some l=>l.getD (idx X Y) 0|none=>0)=_
    rw[pxOf_cons,if_pos rfl,hxy.1,hxy.2]
    show(oldPx s p x y).getD (idx X Y) 0=_
    unfold oldPx
    cases ht:tileOf p.en x y with
    |none=>
     show zeros.getD (idx X Y) 0=0
     rw[List.getD_eq_getElem?_getD]
     unfold zeros
     rw[List.getElem?_replicate,if_pos (idx_lt X Y)]
     rfl
    |some t=>
     obtain⟨l,hl,_⟩:=h.px_of hp ht
     simp only[hl,Option.getD_some]
   ·rw[if_neg hxy]
    cases ht:tileOf p.en (X/16) (Y/16) with
    |none=>rfl
    |some t=>
     show(match pxOf ((n,oldPx s p x y)::s.ts) t with|some l=>l.getD (idx X Y) 0|none=>0)=_
     rw[hother p hp _ _ t ht]
     rfl
theorem idx_inj{x y X Y:Int}(hx:X/16=x/16)(hy:Y/16=y/16)(hi:idx X Y=idx x y):X=x∧Y=y:=by
 unfold idx at hi
 omega
theorem px_wr{cap:Int}{s:St}(h:Ok cap s){k:Nat}{p:Pl}(hk:s.pls[k]?=some p){x y:Int}(hin:p.has x y=true){t:Nat}(ht:tileOf p.en (x/16) (y/16)=some t)(h1:refs s.pls t=1)
 (v:Int){j:Nat}{q:Pl}(hq:s.pls[j]?=some q)(X Y:Int):
 pxAt (wrS s t (idx x y) v) q X Y=if j=k∧X=x∧Y=y then v else pxAt s q X Y:=by
 obtain⟨e,he,heat,het⟩:=tileOf_mem ht
 have hp:p∈s.pls:=List.mem_of_getElem? hk
 have hqm:q∈s.pls:=List.mem_of_getElem? hq
 obtain⟨l,hl,_,hlen,_⟩:=h.px_of hp ht
 have hwr: ∀u,pxOf (wrS s t (idx x y) v).ts u=if u=t then some (l.set (idx x y) v) else pxOf s.ts u:=fun u=>by
  show pxOf (wrTs s.ts t (idx x y) v) u=_
  rw[pxOf_wr,hl];rfl
 by_cases hc:j=k∧X=x∧Y=y
 ·rw[if_pos hc]
  obtain⟨rfl,rfl,rfl⟩:=hc
  rw[hk] at hq;cases hq
  unfold pxAt
  rw[hin]
  simp only[ht,hwr,if_true]
  rw[List.getD_eq_getElem?_getD,List.getElem?_set,if_pos rfl,if_pos (by rw[hlen];exact idx_lt X Y)]
  rfl
 ·rw[if_neg hc]
  unfold pxAt
  cases hqh:q.has X Y with
  |false=>rfl
  |true=>
   simp only[]
   cases hu:tileOf q.en (X/16) (Y/16) with
   |none=>rfl
   |some u=>
    simp only[hwr]
    by_cases hut:u=t
    ·subst hut
     obtain⟨f,hf,hfat,hft⟩:=tileOf_mem hu
     obtain⟨hjk,hef⟩:=only_user h1 hk hq he het hf hft
     subst hef
     have a1:=at_iff.1 heat
     have a2:=at_iff.1 hfat
     rw[if_pos rfl,hl]
     simp only[]
     have hne:idx x y≠idx X Y:=fun hi=>hc ⟨hjk,idx_inj (by omega) (by omega) hi.symm⟩
     rw[List.getD_eq_getElem?_getD,List.getElem?_set,if_neg hne,←List.getD_eq_getElem?_getD]
    ·rw[if_neg hut]
end Go.Tile
namespace Go.Proofs
open Go.Sh Go.Tile
def owned(s:St)(b:Nat):Prop:=b=s.A∨(∃p∈s.pls,b=p.m)∨b∈s.ts.map (·.1)
structure Goes(cap:Int)(H:Heap)(s:St)(H':Heap)(s':St):Prop where
 inn:In H' s'
 ok:Ok cap s'
 fr: ∀b o,H[b]?=some o→ ¬owned s b→H'[b]?=some o
 own: ∀b,owned s' b→owned s b∨H.size≤b
 sz:H.size≤H'.size
theorem Goes.trans{cap:Int}{H H' H'':Heap}{s s' s'':St}(h:Goes cap H s H' s')(h':Goes cap H' s' H'' s''):Goes cap H s H'' s'':=by
 refine⟨h'.inn,h'.ok,fun b o hb hn=>h'.fr b o (h.fr b o hb hn) fun ho=>?_,fun b hb=>?_,Nat.le_trans h.sz h'.sz⟩
 ·rcases h.own b ho with ho|ho
  ·exact hn ho
  ·exact absurd (lt_of_get hb) (Nat.not_lt.2 ho)
 ·rcases h'.own b hb with hb|hb
  ·exact h.own b hb
  ·exact .inr (Nat.le_trans h.sz hb)
end Go.Proofs
namespace Go.Proofs
open Go.Sh Go.Tile
end Go.Proofs
namespace Go.Tile
def Wrote(s:St)(k:Nat)(p:Pl)(x y v:Int)(s':St):Prop:=
 (needs s p (x/16) (y/16)=false∧ ∃t,tileOf p.en (x/16) (y/16)=some t∧refs s.pls t=1∧s'=wrS s t (idx x y) v)∨
 (needs s p (x/16) (y/16)=true∧s.free≠0∧ ∃n,n∉s.ts.map (·.1)∧s'=wrS (ownS s k p (x/16) (y/16) n) n (idx x y) v)
structure Like(q q':Pl):Prop where
 b:q'.b=q.b
 m:q'.m=q.m
 w:q'.w=q.w
 h:q'.h=q.h
theorem Like.refl(q:Pl):Like q q:=⟨rfl,rfl,rfl,rfl⟩
theorem Like.trans{a b c:Pl}(h:Like a b)(h':Like b c):Like a c:=⟨h'.b.trans h.b,h'.m.trans h.m,h'.w.trans h.w,h'.h.trans h.h⟩
theorem Like.has{q q':Pl}(h:Like q q')(x y:Int):q'.has x y=q.has x y:=by unfold Pl.has;rw[h.w,h.h]
structure Views(s s':St)(f:Nat→Int→Int→Int→Int):Prop where
 A:s'.A=s.A
 len:s'.pls.length=s.pls.length
 pl: ∀(j:Nat) (q:Pl),s.pls[j]?=some q→ ∃q',s'.pls[j]?=some q'∧Like q q'∧ ∀X Y,pxAt s' q' X Y=f j X Y (pxAt s q X Y)
theorem Views.refl(s:St):Views s s fun _ _ _ v=>v:=⟨rfl,rfl,fun j q hq=>⟨q,hq,Like.refl q,fun _ _=>rfl⟩⟩
theorem Views.trans{a b c:St}{f g:Nat→Int→Int→Int→Int}(h:Views a b f)(h':Views b c g):Views a c fun j X Y v=>g j X Y (f j X Y v):=by
 refine⟨h'.A.trans h.A,h'.len.trans h.len,fun j q hq=>?_⟩
 obtain⟨q1,h1,l1,v1⟩:=h.pl j q hq
 obtain⟨q2,h2,l2,v2⟩:=h'.pl j q1 h1
 exact⟨q2,h2,l1.trans l2,fun X Y=>by rw[v2,v1]⟩
theorem Views.eq{s s':St}{f g:Nat→Int→Int→Int→Int}(h:Views s s' f)(hfg: ∀j X Y v,f j X Y v=g j X Y v):Views s s' g:=
 ⟨h.A,h.len,fun j q hq=>let ⟨q',h1,h2,h3⟩:=h.pl j q hq;⟨q',h1,h2,fun X Y=>by rw[h3,hfg]⟩⟩
def put1(k:Nat)(x y v:Int)(j:Nat)(X Y w:Int):Int:=if j=k∧X=x∧Y=y then v else w
theorem wrote_views{cap:Int}{s:St}(h:Ok cap s){k:Nat}{p:Pl}(hk:s.pls[k]?=some p){x y v:Int}(hin:p.has x y=true){s':St}(hw:Wrote s k p x y v s'):Views s s' (put1 k x y v):=by
 rcases hw with ⟨_,t,ht,h1,rfl⟩|⟨hneed,hfree,n,hn,rfl⟩
 ·exact⟨rfl,rfl,fun j q hq=>⟨q,hq,Like.refl q,fun X Y=>px_wr h hk hin ht h1 v hq X Y⟩⟩
 ·have hok:=ownS_ok h hk hneed hfree hn
  have hk':(ownS s k p (x/16) (y/16) n).pls[k]?=some (p.own (x/16) (y/16) n):=by rw[own_pls _ _ _ hk,if_pos rfl]
  have ht:tileOf (p.own (x/16) (y/16) n).en (x/16) (y/16)=some n:=by
   show tileOf (setEn _ _ _ _ _) _ _=_
   rw[tileOf_set,if_pos ⟨rfl,rfl⟩]
  have hnt: ∀q∈s.pls,∀e∈q.en,e.t≠n:=fun q hq e he heq=>by
   have:=(h.live e.t).1 (refs_pos hq he)
   rw[heq] at this
   exact hn this
  have hr:=(refs_own hk (x:=x/16) (y:=y/16) hnt).1
  refine⟨rfl,?_,fun j q hq=>?_⟩
  ·show(s.pls.set k _).length=_
   rw[List.length_set]
  ·by_cases hjk:j=k
   ·subst hjk
    rw[hk] at hq;cases hq
    refine⟨p.own (x/16) (y/16) n,hk',⟨rfl,rfl,rfl,rfl⟩,fun X Y=>?_⟩
    rw[px_wr hok hk' (x:=x) (y:=y) hin ht hr v hk' X Y,(px_own h hk (x/16) (y/16) hn (List.mem_of_getElem? hk) X Y).2]
    rfl
   ·have hj':(ownS s k p (x/16) (y/16) n).pls[j]?=some q:=by rw[own_pls _ _ _ hk,if_neg hjk];exact hq
    refine⟨q,hj',Like.refl q,fun X Y=>?_⟩
    rw[px_wr hok hk' (x:=x) (y:=y) hin ht hr v hj' X Y,(px_own h hk (x/16) (y/16) hn (List.mem_of_getElem? hq) X Y).1]
    rfl
def needKeys(s:St)(p:Pl)(v:Int):List (Int×Int)→List (Int×Int)→List (Int×Int)
 |[],ks=>ks
 |c::r,ks=>needKeys s p v r (if pxAt s p c.1 c.2≠v∧needs s p (c.1/16) (c.2/16)=true then(if (c.1/16,c.2/16)∈ks then ks else ks++[(c.1/16,c.2/16)]) else ks)
inductive Paints(k:Nat)(v:Int):St→List (Int×Int)→St→Prop where
 |nil (s:St):Paints k v s [] s
 |same {s s':St} {p:Pl} {x y:Int} {r:List (Int×Int)}:s.pls[k]?=some p→p.has x y=true→pxAt s p x y=v→Paints k v s r s'→Paints k v s ((x,y)::r) s'
 |wrote {s s1 s':St} {p:Pl} {x y:Int} {r:List (Int×Int)}:s.pls[k]?=some p→p.has x y=true→pxAt s p x y≠v→Wrote s k p x y v s1→Paints k v s1 r s'→Paints k v s ((x,y)::r) s'
end Go.Tile
namespace Go.Proofs
open Go.Sh Go.Tile
end Go.Proofs
namespace Go.Tile
theorem tile_inj{cap:Int}{s:St}(h:Ok cap s){p:Pl}(hp:p∈s.pls){x y x' y':Int}{t:Nat}(h1:tileOf p.en x y=some t)(h2:tileOf p.en x' y'=some t):x=x'∧y=y':=by
 obtain⟨e,he,hat,het⟩:=tileOf_mem h1
 obtain⟨f,hf,hft,hftt⟩:=tileOf_mem h2
 have a1:=at_iff.1 hat
 have a2:=at_iff.1 hft
 by_cases hef:e=f
 ·subst hef;exact⟨a1.1.trans a2.1.symm,a1.2.trans a2.2.symm⟩
 ·have:=countP_two (f:=fun e:En=>e.t==t) he hf hef (by simp[het]) (by simp[hftt])
  have:=h.one p hp t
  omega
structure Step(s:St)(k:Nat)(p:Pl)(x y v:Int)(s':St)(p':Pl):Prop where
 pk:s'.pls[k]?=some p'
 oth: ∀j,j≠k→s'.pls[j]?=s.pls[j]?
 like:Like p p'
 free:s'.free=s.free-if needs s p (x/16) (y/16)=true then 1 else 0
 need: ∀K L,needs s' p' K L=(needs s p K L&& !(K==x/16&&L==y/16))
 tile: ∃n,(needs s p (x/16) (y/16)=true→n∉s.ts.map (·.1))∧ ∀K L,tileOf p'.en K L=if needs s p (x/16) (y/16)=true∧K=x/16∧L=y/16 then some n else tileOf p.en K L
 keys: ∀t,t∈s.ts.map (·.1)→t∈s'.ts.map (·.1)
theorem wrote_step{cap:Int}{s:St}(h:Ok cap s){k:Nat}{p:Pl}(hk:s.pls[k]?=some p){x y v:Int}{s':St}(hw:Wrote s k p x y v s'): ∃p',Step s k p x y v s' p':=by
 have hp:p∈s.pls:=List.mem_of_getElem? hk
 rcases hw with ⟨hnd,t,ht,h1,rfl⟩|⟨hneed,hfree,n,hn,rfl⟩
 ·refine⟨p,hk,fun j _=>rfl,Like.refl p,by simp[hnd,wrS],fun K L=>?_,⟨0,by simp[hnd],fun K L=>by simp[hnd]⟩,fun t ht=>by show t∈(wrTs s.ts _ _ _).map (·.1);rwa [wrTs_keys]⟩
  have e1:needs (wrS s t (idx x y) v) p K L=needs s p K L:=rfl
  rw[e1]
  by_cases hKL:K=x/16∧L=y/16
  ·rw[hKL.1,hKL.2,hnd];rfl
  ·have:(K==x/16&&L==y/16)=false:=by
    rw[←Bool.not_eq_true,Bool.and_eq_true,beq_iff_eq,beq_iff_eq];exact hKL
   rw[this];simp
 ·have hnt: ∀q∈s.pls,∀e∈q.en,e.t≠n:=fun q hq e he heq=>by
   have:=(h.live e.t).1 (refs_pos hq he)
   rw[heq] at this
   exact hn this
  obtain⟨r1,r2⟩:=refs_own hk (x:=x/16) (y:=y/16) hnt
  have htl: ∀K L,tileOf (p.own (x/16) (y/16) n).en K L=if K=x/16∧L=y/16 then some n else tileOf p.en K L:=fun K L=>tileOf_set _ _ _ _ _ _ _
  refine⟨p.own (x/16) (y/16) n,?_,fun j hj=>?_,⟨rfl,rfl,rfl,rfl⟩,?_,fun K L=>?_,⟨n,fun _=>hn,fun K L=>?_⟩,fun t ht=>?_⟩
  ·show(ownS s k p (x/16) (y/16) n).pls[k]?=_
   rw[own_pls _ _ _ hk,if_pos rfl]
  ·show(ownS s k p (x/16) (y/16) n).pls[j]?=_
   rw[own_pls _ _ _ hk,if_neg hj]
  ·rw[if_pos hneed];rfl
  ·have e1:needs (wrS (ownS s k p (x/16) (y/16) n) n (idx x y) v) (p.own (x/16) (y/16) n) K L=needs (ownS s k p (x/16) (y/16) n) (p.own (x/16) (y/16) n) K L:=rfl
   rw[e1]
   unfold needs
   rw[htl]
   by_cases hKL:K=x/16∧L=y/16
   ·rw[if_pos hKL,hKL.1,hKL.2]
    simp[r1]
   ·have hb:(K==x/16&&L==y/16)=false:=by
     rw[←Bool.not_eq_true,Bool.and_eq_true,beq_iff_eq,beq_iff_eq];exact hKL
    rw[if_neg hKL,hb]
    cases ht:tileOf p.en K L with
    |none=>rfl
    |some t=>
     have htn:t≠n:=fun h'=>hn (h'▸(refs_of_tile h hp ht).2)
     have:=r2 t htn
     have hne: ¬tileOf p.en (x/16) (y/16)=some t:=fun h'=>hKL (tile_inj h hp ht h')
     rw[if_neg hne] at this
     simp only[Nat.add_zero] at this
     simp only[]
     rw[this];simp
  ·show tileOf (p.own (x/16) (y/16) n).en K L=_
   rw[htl,hneed];simp
  ·show t∈(wrTs _ _ _ _).map (·.1)
   rw[wrTs_keys]
   exact List.mem_cons_of_mem _ ht
theorem wrote_ok{cap:Int}{s:St}(h:Ok cap s){k:Nat}{p:Pl}(hk:s.pls[k]?=some p){x y v:Int}(hv:0≤v∧v<4294967296){s':St}(hw:Wrote s k p x y v s'):Ok cap s':=by
 rcases hw with ⟨_,t,_,_,rfl⟩|⟨hneed,hfree,n,hn,rfl⟩
 ·exact wrS_ok h _ _ hv.1 hv.2
 ·exact wrS_ok (ownS_ok h hk hneed hfree hn) _ _ hv.1 hv.2
def hit(s:St)(p:Pl)(v:Int)(c:Int×Int):Prop:=pxAt s p c.1 c.2≠v∧needs s p (c.1/16) (c.2/16)=true
theorem mem_needKeys(s:St)(p:Pl)(v:Int): ∀(cs ks:List (Int×Int)) (K:Int×Int),K∈needKeys s p v cs ks↔K∈ks∨ ∃c∈cs,hit s p v c∧K=(c.1/16,c.2/16)
 |[],ks,K=>by simp[needKeys]
 |c::r,ks,K=>by
  unfold needKeys
  rw[mem_needKeys s p v r]
  by_cases hc:pxAt s p c.1 c.2≠v∧needs s p (c.1/16) (c.2/16)=true
  ·rw[if_pos hc]
   by_cases hm:(c.1/16,c.2/16)∈ks
   ·rw[if_pos hm]
    constructor
    ·rintro(h|⟨c',h1,h2,h3⟩)
     ·exact .inl h
     ·exact .inr ⟨c',List.mem_cons_of_mem _ h1,h2,h3⟩
    ·rintro(h|⟨c',h1,h2,h3⟩)
     ·exact .inl h
     ·rcases List.mem_cons.1 h1 with rfl|h1
      ·exact .inl (h3▸hm)
      ·exact .inr ⟨c',h1,h2,h3⟩
   ·rw[if_neg hm]
    constructor
    ·rintro(h|⟨c',h1,h2,h3⟩)
     ·rcases List.mem_append.1 h with h|h
      ·exact .inl h
      ·exact .inr ⟨c,List.mem_cons_self,hc,by simpa using h⟩
     ·exact .inr ⟨c',List.mem_cons_of_mem _ h1,h2,h3⟩
    ·rintro(h|⟨c',h1,h2,h3⟩)
     ·exact .inl (List.mem_append_left _ h)
     ·rcases List.mem_cons.1 h1 with rfl|h1
      ·exact .inl (List.mem_append_right _ (by simp[h3]))
      ·exact .inr ⟨c',h1,h2,h3⟩
  ·rw[if_neg hc]
   constructor
   ·rintro(h|⟨c',h1,h2,h3⟩)
    ·exact .inl h
    ·exact .inr ⟨c',List.mem_cons_of_mem _ h1,h2,h3⟩
   ·rintro(h|⟨c',h1,h2,h3⟩)
    ·exact .inl h
    ·rcases List.mem_cons.1 h1 with rfl|h1
     ·exact absurd h2 hc
     ·exact .inr ⟨c',h1,h2,h3⟩
theorem nodup_needKeys(s:St)(p:Pl)(v:Int): ∀(cs ks:List (Int×Int)),ks.Nodup→(needKeys s p v cs ks).Nodup
 |[],ks,h=>h
 |c::r,ks,h=>by
  unfold needKeys
  refine nodup_needKeys s p v r _ ?_
  split
  ·split
   ·exact h
   ·rename_i hm
    rw[List.nodup_append]
    exact⟨h,by simp,fun a ha b hb=>by simp at hb;subst hb;intro heq;exact hm (heq▸ha)⟩
  ·exact h
theorem nodup_length_le{α:Type}[DecidableEq α]: ∀{l m:List α},l.Nodup→(∀a∈l,a∈m)→l.length≤m.length
 |[],_,_,_=>by simp
 |a::r,m,h,hs=>by
  have ha:=hs a List.mem_cons_self
  have h1:=List.nodup_cons.1 h
  have:=nodup_length_le (m:=m.erase a) h1.2 fun b hb=>by
   have hne:b≠a:=fun he=>h1.1 (he▸hb)
   exact(List.mem_erase_of_ne hne).2 (hs b (List.mem_cons_of_mem _ hb))
  rw[List.length_erase_of_mem ha] at this
  have hpos:0<m.length:=List.length_pos_of_mem ha
  simp only[List.length_cons]
  omega
theorem needKeys_step{cap:Int}{s:St}(h:Ok cap s){k:Nat}{p:Pl}(hk:s.pls[k]?=some p){x y v:Int}(hin:p.has x y=true)(hne:pxAt s p x y≠v){s':St}(hw:Wrote s k p x y v s'){p':Pl}
 (hp':s'.pls[k]?=some p')(r:List (Int×Int)):
 (needKeys s' p' v r []).length+(if needs s p (x/16) (y/16)=true then 1 else 0)=(needKeys s p v ((x,y)::r) []).length:=by
 obtain⟨p1,st⟩:=wrote_step h hk hw
 have:p1=p':=by have:=st.pk;rw[hp'] at this;exact(Option.some.inj this).symm
 subst this
 have hv:=wrote_views h hk hin hw
 obtain⟨q',hq',_,hpx⟩:=hv.pl k p hk
 rw[hp'] at hq';cases hq'
 have hhit: ∀c,hit s' p1 v c↔(hit s p v c∧ ¬((c.1/16,c.2/16)=(x/16,y/16))):=by
  intro c
  unfold hit
  rw[hpx,st.need]
  simp only[put1,Bool.and_eq_true,Bool.not_eq_true',Prod.mk.injEq]
  have hb:(c.1/16==x/16&&c.2/16==y/16)=false↔ ¬(c.1/16=x/16∧c.2/16=y/16):=by
   rw[←Bool.not_eq_true,Bool.and_eq_true,beq_iff_eq,beq_iff_eq]
  rw[hb]
  by_cases hc:c.1=x∧c.2=y
  ·rw[if_pos ⟨trivial,hc.1,hc.2⟩,hc.1,hc.2]
   simp
  ·rw[if_neg (fun h=>hc ⟨h.2.1,h.2.2⟩)]
   constructor
   ·rintro⟨a,b,c⟩;exact⟨⟨a,b⟩,c⟩
   ·rintro⟨⟨a,b⟩,c⟩;exact⟨a,b,c⟩
 have n1:=nodup_needKeys s' p1 v r [] List.nodup_nil
 have n2:=nodup_needKeys s p v ((x,y)::r) [] List.nodup_nil
 have m1:=mem_needKeys s' p1 v r []
 have m2:=mem_needKeys s p v ((x,y)::r) []
 have hsub: ∀K∈needKeys s' p1 v r [],K∈needKeys s p v ((x,y)::r) []∧K≠(x/16,y/16):=by
  intro K hK
  rcases (m1 K).1 hK with h'|⟨c,hc,hh,rfl⟩
  ·cases h'
  ·have:=(hhit c).1 hh
   exact⟨(m2 _).2 (.inr ⟨c,List.mem_cons_of_mem _ hc,this.1,rfl⟩),this.2⟩
 have hsup: ∀K∈needKeys s p v ((x,y)::r) [],K≠(x/16,y/16)→K∈needKeys s' p1 v r []:=by
  intro K hK hne'
  rcases (m2 K).1 hK with h'|⟨c,hc,hh,rfl⟩
  ·cases h'
  ·rcases List.mem_cons.1 hc with rfl|hc
   ·exact absurd rfl hne'
   ·exact(m1 _).2 (.inr ⟨c,hc,(hhit c).2 ⟨hh,hne'⟩,rfl⟩)
 by_cases hnd:needs s p (x/16) (y/16)=true
 ·rw[if_pos hnd]
  have hmem:(x/16,y/16)∈needKeys s p v ((x,y)::r) []:=(m2 _).2 (.inr ⟨(x,y),List.mem_cons_self,⟨hne,hnd⟩,rfl⟩)
  have l1:=nodup_length_le (l:=(x/16,y/16)::needKeys s' p1 v r []) (m:=needKeys s p v ((x,y)::r) []) (List.nodup_cons.2 ⟨fun hh=>(hsub _ hh).2 rfl,n1⟩) (fun K hK=>by
   rcases List.mem_cons.1 hK with rfl|hK
   ·exact hmem
   ·exact(hsub K hK).1)
  have l2:=nodup_length_le (l:=needKeys s p v ((x,y)::r) []) (m:=(x/16,y/16)::needKeys s' p1 v r []) n2 (fun K hK=>by
   by_cases hKe:K=(x/16,y/16)
   ·exact hKe▸List.mem_cons_self
   ·exact List.mem_cons_of_mem _ (hsup K hK hKe))
  simp only[List.length_cons] at l1 l2
  omega
 ·rw[if_neg hnd]
  have hno:(x/16,y/16)∉needKeys s p v ((x,y)::r) []:=fun hh=>by
   rcases (m2 _).1 hh with h'|⟨c,hc,hh,heq⟩
   ·cases h'
   ·simp only[Prod.mk.injEq] at heq
    have:=hh.2
    rw[←heq.1,←heq.2] at this
    exact hnd this
  have l1:=nodup_length_le n1 fun K hK=>(hsub K hK).1
  have l2:=nodup_length_le n2 fun K hK=>hsup K hK (fun he=>hno (he▸hK))
  omega
end Go.Tile
namespace Go.Proofs
open Go.Sh Go.Tile
structure Same(done en:List En):Prop where
 sub: ∀e∈done,e∈en
 all: ∀e∈en,e∈done
 nd:done.Nodup
theorem Same.perm{done en:List En}(h:Same done en)(hn:en.Nodup):done.Perm en:=by
 refine(List.perm_ext_iff_of_nodup h.nd hn).2 fun a=>⟨h.sub a,h.all a⟩
end Go.Proofs
namespace Go.Proofs
open Go.Sh Go.Tile
end Go.Proofs
