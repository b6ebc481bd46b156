/-
  OWN WORK. Several texts in one: FlN, FlJ, FlCoP, FlK, ShU, LzB, FlM, FlO, ShV, FlQ, FlR, FlMt, FlS, FlT.
-/
import Derived.Test.YtdnfhenncjhenaaMgPngCutsD
import Derived.Test.YtdnfhenncjhenaaMgPngCutsC

set_option linter.unusedVariables false
set_option linter.unusedSimpArgs false
namespace Go.Proofs
open Go.Sh
def fndM(base:Nat→Nat×Nat)(v:Nat):Nat→Nat
 |0=>0
 |s+1=>if (base (s+1)).1≤v then s+1 else fndM base v s
theorem fndM_ok{base:Nat→Nat×Nat}{v from_:Nat}(hv:(base from_).1≤v): ∀s,from_≤s→from_≤fndM base v s∧fndM base v s≤s∧(base (fndM base v s)).1≤v∧ ∀t,fndM base v s<t→t≤s→v<(base t).1
 |0,h=>by
  have:from_=0:=by omega
  subst this
  rw[fndM]
  exact⟨Nat.le_refl _,Nat.le_refl _,hv,fun t h1 h2=>by omega⟩
 |s+1,h=>by
  rw[fndM]
  split
  ·rename_i hle
   exact⟨h,Nat.le_refl _,hle,fun t h1 h2=>by omega⟩
  ·rename_i hle
   have hne:from_≠s+1:=fun he=>hle (by rw[←he];exact hv)
   obtain⟨h1,h2,h3,h4⟩:=fndM_ok (base:=base) hv s (by omega)
   refine⟨h1,by omega,h3,fun t h5 h6=>?_⟩
   by_cases ht:t=s+1
   ·rw[ht];omega
   ·exact h4 t h5 (by omega)
def lenS(n:Nat):Nat:=if n=258 then 285 else fndM lenB n 284
def dstS(d:Nat):Nat:=fndM dstB d 29
theorem lenS_tab: ∀n:Fin 259,3≤n.val→257≤lenS n.val∧lenS n.val≤285∧(lenB (lenS n.val)).1≤n.val∧n.val-(lenB (lenS n.val)).1<2^(lenB (lenS n.val)).2:=by decide+kernel
theorem lenS_ok{n:Nat}(h:3≤n∧n≤258):257≤lenS n∧lenS n≤285∧(lenB (lenS n)).1≤n∧n-(lenB (lenS n)).1<2^(lenB (lenS n)).2:=lenS_tab ⟨n,by omega⟩ h.1
theorem dst_next: ∀s:Fin 29,(dstB (s.val+1)).1=(dstB s.val).1+2^(dstB s.val).2:=by decide+kernel
theorem dstS_ok{d:Nat}(h:1≤d∧d≤32768):dstS d≤29∧(dstB (dstS d)).1≤d∧d-(dstB (dstS d)).1<2^(dstB (dstS d)).2:=by
 obtain⟨h1,h2,h3,h4⟩:=fndM_ok (base:=dstB) (v:=d) (from_:=0) (by show 1≤d;exact h.1) 29 (by omega)
 refine⟨h2,h3,?_⟩
 unfold dstS
 by_cases h29:fndM dstB d 29=29
 ·rw[h29]
  have e1:(dstB 29).1=24577:=by decide
  have e2:(2:Nat)^(dstB 29).2=8192:=by decide
  omega
 ·have:=h4 (fndM dstB d 29+1) (by omega) (by omega)
  have e:=dst_next ⟨fndM dstB d 29,by omega⟩
  simp only at e
  omega
def tokB(ll dl:List Int)(t:Tok):List Int:=
 if t.n=0 then symBits ll t.c.toNat
 else symBits ll (lenS t.n)++bitsOf false ((t.n-(lenB (lenS t.n)).1:Nat):Int) (lenB (lenS t.n)).2++symBits dl (dstS t.d)++bitsOf false ((t.d-(dstB (dstS t.d)).1:Nat):Int) (dstB (dstS t.d)).2
def toksB(ll dl:List Int)(ts:List Tok):List Int:=ts.flatMap (tokB ll dl)++symBits ll 256
def lsym(t:Tok):Int:=if t.n=0 then t.c else(lenS t.n:Nat)
def dsyms(ts:List Tok):List Int:=(ts.filter fun t=>decide (t.n≠0)).map fun t=>((dstS t.d:Nat):Int)
def cntL(ts:List Tok):List Int:=(ts.map lsym).foldl bump ((List.replicate 286 0).set 256 1)
def cntD(ts:List Tok):List Int:=(dsyms ts).foldl bump (List.replicate 30 0)
def cntH(l:List Int):List Int:=l.foldl bump (List.replicate 19 0)
def posC(l:List Int):Nat:=l.countP fun x=>decide (x>0)
def padG:Nat→Nat→Nat→List Int→List Int
 |0,_,_,cs=>cs
 |f+1,s,n,cs=>if n<2 then(if cs.getD s 0=0 then padG f (s+1) (n+1) (cs.set s 1) else padG f (s+1) n cs) else cs
def padM(cs:List Int):List Int:=padG cs.length 0 (posC cs) cs
def litL(ts:List Tok):List Int:=lenM (padM (cntL ts)) 15
def dstL(ts:List Tok):List Int:=lenM (padM (cntD ts)) 15
def hdrL(ts:List Tok):List Int:=lenM (padM (cntH (litL ts++dstL ts))) 7
def dynB(ts:List Tok)(last:Int):List Int:=
 bitsOf false last 1++bitsOf false 2 2++bitsOf false 29 5++bitsOf false 29 5++bitsOf false 15 4++ordL.flatMap (fun s=>bitsOf false ((hdrL ts).getD s 0) 3)++
  (litL ts++dstL ts).flatMap (fun n=>symBits (hdrL ts) n.toNat)++toksB (litL ts) (dstL ts) ts
def fixB(ts:List Tok):List Int:=bitsOf false 3 3++toksB fixL fixD ts
def storW:Nat→List Int→List Int→List Int
 |0,ws,_=>ws
 |f+1,ws,b=>if b.length≤65535 then partW ws 1 0 b else storW f (partW ws 0 0 (b.take 65535)) (b.drop 65535)
def storB(b:List Int):List Int:=storW (b.length+1) [] b
def nby(ws:List Int):Nat:=(ws.length+7)/8
def bestB(ts:List Tok):List Int:=if 20<ts.length∧nby (dynB ts 1)<nby (fixB ts) then dynB ts 1 else fixB ts
def defB(b:List Int)(eff:Int):List Int:=if nby (storB b)<nby (bestB (lzM b eff)) then storB b else bestB (lzM b eff)
theorem posC_set{cs:List Int}{s:Nat}(hs:s<cs.length)(h0:cs.getD s 0=0):posC (cs.set s 1)=posC cs+1:=by
 have e:cs.set s 1=cs.take s++1::cs.drop (s+1):=List.set_eq_take_append_cons_drop▸by rw[if_pos hs]
 have e2:cs=cs.take s++0::cs.drop (s+1):=by
  have h3:cs[s]=0:=by rw[List.getD_eq_getElem?_getD,List.getElem?_eq_getElem hs] at h0;exact h0
  rw[←h3]
  simp
 unfold posC
 rw[e]
 conv=>rhs;rw[e2]
 rw[List.countP_append,List.countP_append,List.countP_cons,List.countP_cons]
 simp
 omega
theorem posC_take(cs:List Int)(s:Nat):posC (cs.take s)≤posC cs:=by
 unfold posC
 conv=>rhs;rw[←List.take_append_drop s cs,List.countP_append]
 omega
theorem posC_step{cs:List Int}{s:Nat}(hs:s<cs.length):posC (cs.take (s+1))=posC (cs.take s)+if cs.getD s 0>0 then 1 else 0:=by
 unfold posC
 rw[List.take_add_one,get_gD cs 0 hs,Option.toList_some,List.countP_append,List.countP_singleton];simp
theorem padG_ok {M : Int} (hM : 1 ≤ M) : ∀ (f s n : Nat) (cs : List Int), (∀ x ∈ cs, 0 ≤ x ∧ x ≤ M) → n = posC cs → s + f = cs.length → s ≤ posC (cs.take s) → 2 ≤ cs.length →
    (padG f s n cs).length = cs.length ∧ (∀ x ∈ padG f s n cs, 0 ≤ x ∧ x ≤ M) ∧ 2 ≤ posC (padG f s n cs) ∧ ∀ (i : Nat) (a : Int), cs[i]? = some a → a > 0 → (padG f s n cs)[i]? = some a
  | 0, s, n, cs, hr, hn, hs, hp, h2 => by
    rw [padG]
    have := posC_take cs s
    exact ⟨rfl, hr, by omega, fun i a h _ => h⟩
  | f + 1, s, n, cs, hr, hn, hs, hp, h2 => by
    rw [padG]
    have hst := posC_step (cs := cs) (s := s) (by omega)
    have hmem : cs.getD s 0 ∈ cs := List.mem_of_getElem? (get_gD cs 0 (by omega))
    have hge := hr _ hmem
    split
    · split
      · rename_i h0
        have hset := posC_set (cs := cs) (s := s) (by omega) h0
        have ht : (cs.set s 1).take (s + 1) = cs.take s ++ [1] := by
          rw [List.take_add_one, List.take_set_of_le (Nat.le_refl s), List.getElem?_set_self (by omega)]; rfl
        have hp2 : s + 1 ≤ posC ((cs.set s 1).take (s + 1)) := by
          rw [ht]; unfold posC at hp ⊢; rw [List.countP_append]; simp; exact hp
        obtain ⟨h3, h4, h5, h6⟩ := padG_ok hM f (s + 1) (n + 1) (cs.set s 1) (fun x hx => by
          rcases List.mem_or_eq_of_mem_set hx with hx | rfl
          · exact hr x hx
          · omega) (by rw [hset, hn]) (by rw [List.length_set]; omega) hp2 (by rw [List.length_set]; exact h2)
        rw [List.length_set] at h3
        refine ⟨h3, h4, h5, fun i a hi ha => h6 i a ?_ ha⟩
        rw [List.getElem?_set_ne (fun he => by subst he; rw [gD_get hi] at h0; omega)]
        exact hi
      · rename_i h0
        rw [if_pos (by omega)] at hst
        exact padG_ok hM f (s + 1) n cs hr hn (by omega) (by omega) h2
    · exact ⟨rfl, hr, by omega, fun i a h _ => h⟩
theorem padM_ok{cs:List Int}{M:Int}(hM:1≤M)(hr: ∀x∈cs,0≤x∧x≤M)(h2:2≤cs.length):
 (padM cs).length=cs.length∧(∀x∈padM cs,0≤x∧x≤M)∧2≤posC (padM cs)∧ ∀(i:Nat) (a:Int),cs[i]?=some a→a>0→(padM cs)[i]?=some a:=
 padG_ok hM cs.length 0 _ cs hr rfl (by omega) (by omega) h2
theorem leaves_count(cs:List Int): ∀i,(leavesFrom i cs).length=posC cs:=by
 induction cs with
 |nil=>intro i;rfl
 |cons n r ih=>
  intro i
  rw[leavesFrom,List.length_append,ih]
  unfold posC
  rw[List.countP_cons]
  by_cases h:n>0
  ·simp[h];omega
  ·simp[h]
structure Whole(ls cs:List Int)(m:Nat):Prop where
 ok:OkC ls
 len:ls.length=cs.length
 wt:wtM ls=65536
 rng: ∀x∈ls,0≤x∧x≤m
 pos: ∀(i:Nat) (a:Int),cs[i]?=some a→a>0→0<ls.getD i 0
theorem whole_of{cs:List Int}{m:Nat}(ok:OkL cs m)(h2:2≤posC cs):Whole (lenM cs m) cs m:=by
 have hl2:2≤(leavesM cs).length:=by unfold leavesM;rw[leaves_count];exact h2
 obtain⟨X,t⟩:=two_of ok hl2
 have hok:=lenM_ok ok
 have hm:=ok.m2
 rw[Int.toNat_natCast] at t hok
 refine⟨hok.1,hok.2,t.whole (by omega),fun v hv=>?_,fun i a hi ha=>?_⟩
 ·obtain⟨i,hi⟩:=List.getElem?_of_mem hv
  have hil:=(List.getElem?_eq_some_iff.1 hi).1
  rw[t.len] at hil
  by_cases hx: ∃x∈ssort (leavesM cs),sy x=(i:Int)
  ·obtain⟨x,hx,hs⟩:=hx
   obtain⟨r,hr⟩:=List.getElem?_of_mem hx
   obtain⟨_,h⟩:=t.leaf r x i hr hs
   rw[hi] at h;cases h
   have:=t.pos r (List.getElem?_eq_some_iff.1 hr).1
   omega
  ·have:=t.none i hil fun x hx' hs=>hx ⟨x,hx',hs⟩
   rw[hi] at this;cases this;omega
 ·obtain⟨r,hr⟩:=t.lv.has i a hi ha
  obtain⟨_,h⟩:=t.leaf r _ i hr rfl
  have:=t.pos r (List.getElem?_eq_some_iff.1 hr).1
  rw[gD_get h];omega
theorem posC_le(l:List Int):posC l≤l.length:=List.countP_le_length
theorem whole_pad{cs:List Int}{m:Nat}(hm:1≤m∧m≤16)(hr: ∀x∈cs,0≤x∧x≤1099511627776)(h2:2≤cs.length)(hl:cs.length≤300)(hp:cs.length≤2^m):Whole (lenM (padM cs) m) cs m∧OkL (padM cs) m:=by
 obtain⟨h3,h4,h5,h6⟩:=padM_ok (M:=1099511627776) (by omega) hr h2
 have hok:OkL (padM cs) m:=⟨by omega,by omega,by omega,h4,by
  unfold leavesM
  rw[leaves_count,Int.toNat_natCast]
  have:=posC_le (padM cs)
  omega⟩
 have w:=whole_of hok h5
 exact⟨⟨w.ok,by rw[w.len,h3],w.wt,w.rng,fun i a hi ha=>w.pos i a (h6 i a hi ha) ha⟩,hok⟩
theorem bumps_ok{l o:List Int}(hs: ∀s∈l,0≤s∧s<o.length)(ho: ∀x∈o,0≤x∧x≤1):(l.foldl bump o).length=o.length∧(∀x∈l.foldl bump o,0≤x∧x≤1+l.length)∧
 (∀(i:Nat) (a:Int),o[i]?=some a→a>0→ ∃b,(l.foldl bump o)[i]?=some b∧b>0)∧ ∀s∈l,∃b,(l.foldl bump o)[s.toNat]?=some b∧b>0:=by
 have hg:=foldl_bump_get l o
 have hlen:=foldl_bump_len l o
 have hs0: ∀s∈l,0≤s:=fun s h=>(hs s h).1
 have ho': ∀i,i<o.length→0≤o.getD i 0∧o.getD i 0≤1:=fun i hi=>ho _ (List.mem_of_getElem? (get_gD o 0 hi))
 refine⟨hlen,fun x hx=>?_,fun i a hi ha=>?_,fun s hsl=>?_⟩
 ·obtain⟨i,hi⟩:=List.getElem?_of_mem hx
  have hil:=(List.getElem?_eq_some_iff.1 hi).1
  rw[hlen] at hil
  rw[hg i hil hs0] at hi
  cases hi
  have:=ho' i hil
  have:l.count (i:Int)≤l.length:=List.count_le_length
  omega
 ·have hil:=(List.getElem?_eq_some_iff.1 hi).1
  refine⟨_,hg i hil hs0,?_⟩
  rw[gD_get hi];omega
 ·have h:=hs s hsl
  refine⟨_,hg s.toNat (by omega) hs0,?_⟩
  have:=ho' s.toNat (by omega)
  have hc:0<l.count ((s.toNat:Nat):Int):=by rw[Int.toNat_of_nonneg h.1];exact List.count_pos_iff.2 hsl
  omega
def TokR(t:Tok):Prop:=(t.n=0∧t.d=0∧0≤t.c∧t.c<256)∨(3≤t.n∧t.n≤258∧1≤t.d∧t.d≤32768∧t.c=0)
theorem TokOk.r{out:List Int}{t:Tok}(h:TokOk out t):TokR t:=by
 rcases h with h|⟨h1,h2,h3,h4,_,h6⟩
 ·exact .inl h
 ·exact .inr ⟨h1,h2,h3,h4,h6⟩
theorem Runs.r: ∀{ts:List Tok} {out b:List Int},Runs out ts b→ ∀t∈ts,TokR t
 |[],_,_,_,t,ht=>by cases ht
 |u::ts,out,b,h,t,ht=>by
  rcases List.mem_cons.1 ht with rfl|ht
  ·exact h.1.r
  ·exact h.2.r t ht
theorem lsym_rng{t:Tok}(h:TokR t):0≤lsym t∧lsym t<286:=by
 unfold lsym
 rcases h with ⟨h,_,h1,h2⟩|⟨h1,h2,_⟩
 ·rw[if_pos h];omega
 ·rw[if_neg (by omega)]
  have:=lenS_ok ⟨h1,h2⟩
  omega
structure Codes(ll dl:List Int)(ts:List Tok):Prop where
 l:OkC ll
 d:OkC dl
 end_:0<ll.getD 256 0
 lit: ∀t∈ts,0<ll.getD (lsym t).toNat 0
 dst: ∀t∈ts,t.n≠0→0<dl.getD (dstS t.d) 0
theorem cntL_ok{ts:List Tok}(h: ∀t∈ts,TokR t):(cntL ts).length=286∧(∀x∈cntL ts,0≤x∧x≤1+ts.length)∧(∃b,(cntL ts)[256]?=some b∧b>0)∧ ∀t∈ts,∃b,(cntL ts)[(lsym t).toNat]?=some b∧b>0:=by
 obtain⟨h1,h2,h3,h4⟩:=bumps_ok (l:=ts.map lsym) (o:=(List.replicate 286 0).set 256 1) (fun s hs=>by
  obtain⟨t,ht,rfl⟩:=List.mem_map.1 hs
  have:=lsym_rng (h t ht)
  rw[List.length_set,List.length_replicate];omega) (fun x hx=>by
  rcases List.mem_or_eq_of_mem_set hx with hx|rfl
  ·rw[(List.mem_replicate.1 hx).2];omega
  ·omega)
 refine⟨by unfold cntL;rw[h1,List.length_set,List.length_replicate],by unfold cntL;rw[List.length_map] at h2;exact h2,h3 256 1 (by rw[List.getElem?_set_self (by rw[List.length_replicate];decide)]) (by omega),fun t ht=>h4 _ (List.mem_map.2 ⟨t,ht,rfl⟩)⟩
theorem cntD_ok{ts:List Tok}(h: ∀t∈ts,TokR t):(cntD ts).length=30∧(∀x∈cntD ts,0≤x∧x≤1+ts.length)∧ ∀t∈ts,t.n≠0→ ∃b,(cntD ts)[dstS t.d]?=some b∧b>0:=by
 have hl:(dsyms ts).length≤ts.length:=by unfold dsyms;rw[List.length_map];exact List.length_filter_le _ _
 obtain⟨h1,h2,h3,h4⟩:=bumps_ok (l:=dsyms ts) (o:=List.replicate 30 0) (fun s hs=>by
  obtain⟨t,ht,rfl⟩:=List.mem_map.1 hs
  rw[List.mem_filter] at ht
  rcases h t ht.1 with h0|h0
  ·have:=ht.2;simp[h0.1] at this
  ·have:=dstS_ok ⟨h0.2.2.1,h0.2.2.2.1⟩
   simp;omega) (fun x hx=>by rw[(List.mem_replicate.1 hx).2];omega)
 refine⟨by unfold cntD;rw[h1,List.length_replicate],fun x hx=>by have:=h2 x hx;omega,fun t ht hn=>?_⟩
 have:=h4 ((dstS t.d:Nat):Int) (List.mem_map.2 ⟨t,List.mem_filter.2 ⟨ht,by simpa using hn⟩,rfl⟩)
 rw[Int.toNat_natCast] at this
 exact this
structure Dyn(ts:List Tok):Prop where
 l:Whole (litL ts) (cntL ts) 15
 lo:OkL (padM (cntL ts)) 15
 d:Whole (dstL ts) (cntD ts) 15
 do_:OkL (padM (cntD ts)) 15
 h:Whole (hdrL ts) (cntH (litL ts++dstL ts)) 7
 ho:OkL (padM (cntH (litL ts++dstL ts))) 7
 all: ∀n∈litL ts++dstL ts,0≤n∧n≤15∧0<(hdrL ts).getD n.toNat 0
 c:Codes (litL ts) (dstL ts) ts
 ll:(litL ts).length=286
 dl:(dstL ts).length=30
 hl:(hdrL ts).length=19
theorem dyn_of{ts:List Tok}(h: ∀t∈ts,TokR t)(hl:ts.length≤1000000000):Dyn ts:=by
 obtain⟨l1,l2,⟨b,l3,l3'⟩,l4⟩:=cntL_ok h
 obtain⟨d1,d2,d3⟩:=cntD_ok h
 have e15:(2:Nat)^15=32768:=by decide
 have e7:(2:Nat)^7=128:=by decide
 obtain⟨wl,ol⟩:=whole_pad (cs:=cntL ts) (m:=15) (by omega) (fun x hx=>by have:=l2 x hx;omega) (by omega) (by omega) (by omega)
 obtain⟨wd,od⟩:=whole_pad (cs:=cntD ts) (m:=15) (by omega) (fun x hx=>by have:=d2 x hx;omega) (by omega) (by omega) (by omega)
 have hll:(litL ts).length=286:=by have:=wl.len;rw[l1] at this;exact this
 have hdl:(dstL ts).length=30:=by have:=wd.len;rw[d1] at this;exact this
 have hall: ∀n∈litL ts++dstL ts,0≤n∧n≤15:=fun n hn=>by
  rcases List.mem_append.1 hn with hn|hn
  ·exact wl.rng n hn
  ·exact wd.rng n hn
 obtain⟨h1,h2,_,h4⟩:=bumps_ok (l:=litL ts++dstL ts) (o:=List.replicate 19 0) (fun s hs=>by have:=hall s hs;rw[List.length_replicate];omega) (fun x hx=>by rw[(List.mem_replicate.1 hx).2];omega)
 rw[List.length_replicate] at h1
 rw[List.length_append,hll,hdl] at h2
 obtain⟨wh,oh⟩:=whole_pad (cs:=cntH (litL ts++dstL ts)) (m:=7) (by omega) (fun x hx=>by have:=h2 x hx;omega) (by unfold cntH;omega) (by unfold cntH;omega) (by unfold cntH;omega)
 refine⟨wl,ol,wd,od,wh,oh,fun n hn=>?_,⟨wl.ok,wd.ok,wl.pos _ _ l3 l3',fun t ht=>?_,fun t ht hn=>?_⟩,hll,hdl,by have:=wh.len;unfold cntH at this;rw[h1] at this;exact this⟩
 ·obtain⟨b,hb,hb'⟩:=h4 n hn
  have:=hall n hn
  exact⟨this.1,this.2,wh.pos _ _ hb hb'⟩
 ·obtain⟨b,hb,hb'⟩:=l4 t ht
  exact wl.pos _ _ hb hb'
 ·obtain⟨b,hb,hb'⟩:=d3 t ht hn
  exact wd.pos _ _ hb hb'
end Go.Proofs
namespace Go.Proofs
open Go.Sh
variable {H0 H:Heap} {σ:List Rs} {R:Value→Heap→Prop}
section
variable {f a most:Nat} {B out:List Int}
theorem getM_adv{n a':Nat}{v:Int}(h:getM B n a= .ok (v,a')):a≤a':=by
 unfold getM at h
 split at h
 ·cases h;omega
 ·cases h
theorem copiesM_adv{mst:Int}{dl:List Int}{s a':Nat}{out':List Int}(h:copiesM B mst dl s a out= .ok (a',out')):a≤a':=by
 unfold copiesM at h
 split at h
 ·cases h
 ·split at h
  ·cases h
  ·rename_i x a1 h1
   split at h
   ·cases h
   ·rename_i t a2 h2
    split at h
    ·cases h
    ·split at h
     ·cases h
     ·rename_i y a3 h3
      split at h
      ·cases h
      ·split at h
       ·cases h
       ·cases h
        have:=getM_adv h1;have:=symM_adv h2;have:=getM_adv h3
        omega
theorem symbols_e{e:Int}(hs:St H0 H (flR f B a most out e::σ))(he:e≠0){d1 d2:Option Addr}(hR:R (.tuple #[]) H):
 CallsH Try.prog 58 #[.pointer (some ⟨f,0,none⟩),.pointer d1,.pointer d2] H R:=by
 refine Try.s58 ?_
 unfold Try.S58
 intro X hX
 exact hX H ⟨_,rfl,_,flR_e hs,br_ne (fun _=>hR) (fun h=>absurd h he)⟩
theorem c58(hs:St H0 H (flR f B a most out 0::σ)){j1 j2 d1 d2:Nat}{ll dl F1 F2:List Int}{P1 P2:List (Nat×Int)}(hj1:σ[j1]?=some (decR d1 ll P1 F1))(hj2:σ[j2]?=some (decR d2 dl P2 F2))
 (hbad: ∀k,k≠0→symbolsM B most ll dl a out= .error k→ ∀H' a' out',St H0 H' (flR f B a' most out' k::σ)→R (.tuple #[]) H')
 (hR: ∀a' out',symbolsM B most ll dl a out= .ok (a',out')→ ∀H',St H0 H' (flR f B a' most out' 0::σ)→R (.tuple #[]) H'):
 CallsH Try.prog 58 #[.pointer (some ⟨f,0,none⟩),.pointer (some ⟨d1,0,none⟩),.pointer (some ⟨d2,0,none⟩)] H R:=by
 refine Try.s58 ?_
 unfold Try.S58
 intro X hX
 have bad: ∀k,k≠0→symbolsM B most ll dl a out= .error k→ ∀H' a' out',St H0 H' (flR f B a' most out' k::σ)→X [] H':=fun k hk he H' a' out' hs=>
  hX H' ⟨_,rfl,_,flR_e hs,br_ne (fun _=>hbad k hk he H' a' out' hs) (fun h=>absurd h hk)⟩
 obtain⟨_,_,okl,_,_,_,_⟩:=decR_use hs (j:=j1+1) (by simpa using hj1)
 have l300:=okl.w.len
 unfold symbolsM at bad hbad hR
 generalize hT:symsM B most ll dl (8*B.length+1) a out=T at bad hbad hR
 have loop: ∀(g a1:Nat) (out1:List Int) (H1:Heap),8*B.length<a1+g→symsM B most ll dl g a1 out1=T→St H0 H1 (flR f B a1 most out1 0::σ)→X [] H1:=by
  intro g
  induction g with
  |zero=>
   intro a1 out1 H1 hg he hs1
   have:=flR_rd hs1;omega
  |succ g ih=>
   intro a1 out1 H1 hg he hs1
   rw[symsM] at he
   refine hX H1 ⟨_,rfl,_,flR_e hs1,br_f rfl (c79 hs1 hj1 (fun k hk hsy H2 a2 hs2=>?_) (fun s a2 hsy H2 hs2=>?_))⟩
   ·rw[hsy] at he
    exact⟨_,rfl,_,rfl,_,flR_e hs2,br_ne (fun _=>hbad k hk he.symm H2 a2 out1 hs2) (fun h=>absurd h hk)⟩
   ·obtain⟨ha1,ha2,hsl⟩:=symM_adv hsy
    rw[hsy] at he
    simp only at he
    refine⟨_,rfl,_,rfl,_,flR_e hs2,br_f rfl (br_eq (fun h256=>?_) (fun h256=>br_dec (fun hgt=>?_) (fun hle=>?_)))⟩
    ·rw[if_pos (by omega)] at he
     exact hR _ _ he.symm H2 hs2
    ·rw[if_neg (by omega),if_pos (by omega)] at he
     refine c80 hs2 hj2 (by omega) (fun k hk hc H3 a3 hs3=>⟨rfl,?_⟩) (fun a3 out3 hc H3 hs3=>⟨rfl,?_⟩)
     ·rw[hc] at he
      exact bad k hk he.symm H3 a3 out1 hs3
     ·rw[hc] at he
      have:=copiesM_adv hc
      exact ih a3 out3 H3 (by omega) he hs3
    ·rw[if_neg (by omega),if_neg (by omega)] at he
     obtain⟨rb,p,c,h1,h2,h3,hs'⟩:=flR_op hs2
     refine⟨_,rfl,_,_,_,hs'.get 2 (j:=1) rfl rfl,_,rfl,_,hs'.get 2 (j:=2) rfl rfl,br_dec (fun hge=>c60 hs2 fun H3 hs3=>⟨rfl,?_⟩) (fun hlt=>⟨_,rfl,_,_,_,hs'.get 2 (j:=1) rfl rfl,?_⟩)⟩
     ·rw[if_pos (by omega)] at he
      rw[if_pos rfl] at hs3
      exact bad 24 (by decide) he.symm H3 _ _ hs3
     ·rw[if_neg (by omega)] at he
      rw[wrap_u8 (by omega) (by omega)]
      refine hs'.alc fun b H5 hs5=>?_
      refine hs5.appC 2 0 (el:=5) (k:=1) rfl rfl rfl (one1 rfl) (by decide) rfl (by omega) (by omega) fun p' c' H6 hs6=>⟨_,rfl,?_⟩
      refine hs6.put 3 (j:=1) rfl (by simp) rfl fun H7 hs7=>?_
      refine ih a2 (out1++[(s:Int)]) H7 (by omega) he ?_
      refine flR_mk (rb:=rb) (p:=p') (c:=c') (by simp;omega) h2 (fun z hz=>?_) ?_
      ·rcases List.mem_append.1 hz with hz|hz
       ·exact h3 z hz
       ·rw[List.mem_singleton.1 hz];omega
      ·rw[kints_append,List.length_append,List.length_singleton]
       exact hs7.tail
 exact loop _ a out H (by omega) hT hs
theorem xor_all(n:Fin 65536):n.val ^^^ 65535=65535-n.val:=by
 have h1:(BitVec.ofNat 16 n.val ^^^ BitVec.allOnes 16).toNat=(~~~ BitVec.ofNat 16 n.val).toNat:=by rw[BitVec.xor_allOnes]
 have hn:=n.isLt
 rw[BitVec.toNat_xor,BitVec.toNat_not,BitVec.toNat_ofNat,BitVec.toNat_allOnes,Nat.mod_eq_of_lt hn] at h1
 exact h1
theorem xor_ffff{n m:Int}(hn:0≤n∧n<65536)(hm:0≤m∧m<65536):xorI .i64 n m=65535↔m=65535-n:=by
 obtain⟨x,rfl⟩:=Int.eq_ofNat_of_zero_le hn.1
 obtain⟨y,rfl⟩:=Int.eq_ofNat_of_zero_le hm.1
 have e64:(2:Int)^64=18446744073709551616:=by decide
 have hlt:x ^^^ y<65536:=Nat.xor_lt_two_pow (n:=16) (by omega) (by omega)
 unfold xorI
 rw[show IntKind.bits .i64=64 from rfl,BitVec.toNat_xor,ofInt_nat (by omega) (by omega),ofInt_nat (by omega) (by omega),Int.toNat_natCast,Int.toNat_natCast,wrap_id (by omega) (by omega)]
 have hx:=xor_all ⟨x,by omega⟩
 simp only at hx
 constructor
 ·intro h
  have h':x ^^^ y=65535:=by omega
  have:y=x ^^^ 65535:=by rw[←h',←Nat.xor_assoc,Nat.xor_self,Nat.zero_xor]
  omega
 ·intro h
  have h':y=x ^^^ 65535:=by omega
  rw[h',←Nat.xor_assoc,Nat.xor_self,Nat.zero_xor]
  rfl
theorem getM_num{n:Nat}(h:a+n≤8*B.length):getM B n a= .ok (numB false B a n,a+n):=by unfold getM;rw[if_pos h]
theorem getM_bad{n:Nat}(h:8*B.length<a+n):getM B n a= .error 20:=by unfold getM;rw[if_neg (by omega)]
theorem c56(hs:St H0 H (flR f B a most out 0::σ))
 (hbad: ∀k,k≠0→storedM B most a out= .error k→ ∀H' a' out',St H0 H' (flR f B a' most out' k::σ)→R (.tuple #[]) H')
 (hR: ∀a' out',storedM B most a out= .ok (a',out')→ ∀H',St H0 H' (flR f B a' most out' 0::σ)→R (.tuple #[]) H'):
 CallsH Try.prog 56 #[.pointer (some ⟨f,0,none⟩)] H R:=by
 have key:storedM B most a out=storedM B most a out:=rfl
 conv at key=>lhs;unfold storedM
 obtain⟨rb,p,c,h1,h2,h3,hs'⟩:=flR_op hs
 have e16:(2:Int)^16=65536:=by decide
 refine Try.s56 ⟨_,rfl,_,hs'.get 2 (j:=0) rfl rfl,c78 hs' (i:=0) rfl fun H1 hs1=>⟨rfl,?_⟩⟩
 have hs1:St H0 H1 (flR f B ((a+7)/8*8) most out 0::σ):=flR_mk h1 h2 h3 hs1
 clear hs'
 generalize (a+7)/8*8=a1 at*
 have bad0: ∀{H2 a2 out2},storedM B most a out= .error 20→St H0 H2 (flR f B a2 most out2 20::σ)→R (.tuple #[]) H2:=fun h hs=>hbad 20 (by decide) h _ _ _ hs
 -- behind the two numbers
 refine c55 hs1 (by omega) (fun hlt H2 hs2=>⟨_,rfl,?_⟩) (fun hle H2 hs2=>⟨_,rfl,?_⟩)
 ·rw[getM_bad (n:=16) hlt] at key
  rw[if_pos rfl] at hs2
  refine c55 hs2 (by omega) (fun hlt H3 hs3=>⟨_,rfl,?_⟩) (fun hle H3 hs3=>⟨_,rfl,?_⟩)
  ·rw[if_neg (by decide)] at hs3
   intro J hJ
   exact⟨_,rfl,_,flR_e hs3,br_t rfl (bad0 key.symm hs3)⟩
  ·intro J hJ
   exact⟨_,rfl,_,flR_e hs3,br_t rfl (bad0 key.symm hs3)⟩
 rw[getM_num (n:=16) hle] at key
 simp only[show Int.toNat 16=16 from rfl] at hs2 key hle ⊢
 have hn:=numB_rng false B a1 16
 refine c55 hs2 (by omega) (fun hlt H3 hs3=>⟨_,rfl,?_⟩) (fun hle2 H3 hs3=>⟨_,rfl,?_⟩)
 ·rw[getM_bad (n:=16) hlt] at key
  rw[if_pos rfl] at hs3
  intro J hJ
  exact⟨_,rfl,_,flR_e hs3,br_t rfl (bad0 key.symm hs3)⟩
 rw[getM_num (n:=16) hle2] at key
 simp only[show Int.toNat 16=16 from rfl] at hs3 key hle2 ⊢
 have hm:=numB_rng false B (a1+16) 16
 generalize numB false B a1 16=n at*
 generalize numB false B (a1+16) 16=m at*
 intro J hJ
 obtain⟨rb,p,c,h1,h2,h3,hs3'⟩:=flR_op hs3
 -- the loop comes to nothing with an error
 have stop: ∀k,k≠0→storedM B most a out= .error k→ ∀H' a' out',St H0 H' (flR f B a' most out' k::σ)→J [] H':=fun k hk he H' a' out' hs=>by
  refine hJ H' ?_
  intro X hX
  refine hX _ H' ?_
  intro J2 hJ2
  exact br_dec (fun _=>⟨_,rfl,_,flR_e hs,br_eq (fun h=>absurd h hk) (fun _=>hbad k hk he _ _ _ hs)⟩) (fun _=>hbad k hk he _ _ _ hs)
 have w1:IntKind.wrap .i64 ((most:Int)-((out.length:Nat):Int))=(most:Int)-out.length:=wrap_id (by omega) (by omega)
 refine⟨_,rfl,_,flR_e hs3,br_f rfl (br_ne (fun hne=>c60 hs3 fun H4 hs4=>⟨rfl,?_⟩) (fun heq=>⟨_,rfl,_,hs3'.get 2 (j:=2) rfl rfl,_,rfl,_,_,_,hs3'.get 2 (j:=1) rfl rfl,?_⟩))⟩
 ·rw[if_pos (fun h=>hne ((xor_ffff (by omega) (by omega)).2 h))] at key
  exact stop 25 (by decide) key.symm H4 _ _ hs4
 rw[if_neg (fun h=>h ((xor_ffff (by omega) (by omega)).1 heq))] at key
 rw[w1]
 refine br_dec (fun hgt=>c60 hs3 fun H4 hs4=>⟨rfl,?_⟩) (fun hle3=>hJ H3 ?_)
 ·rw[if_pos hgt] at key
  exact stop 24 (by decide) key.symm H4 _ _ hs4
 rw[if_neg hle3] at key
 obtain⟨N,rfl⟩:=Int.eq_ofNat_of_zero_le hn.1
 rw[Int.toNat_natCast] at key
 clear stop bad0 hJ w1 hs3'
 intro X hX
 have loop: ∀(r k a2:Nat) (out2:List Int) (H4:Heap),k+r=N→out2.length=out.length+k→bytesM B r a2 out2=storedM B most a out→St H0 H4 (flR f B a2 most out2 0::σ)→X [.int .i64 k] H4:=by
  intro r
  induction r with
  |zero=>
   intro k a2 out2 H4 hk hl hb hs4
   refine hX _ H4 ?_
   intro J2 hJ2
   rw[bytesM] at hb
   exact br_n (by omega) (hR _ _ hb.symm H4 hs4)
  |succ r ih=>
   intro k a2 out2 H4 hk hl hb hs4
   have wk:IntKind.wrap .i64 ((k:Int)+1)=((k+1:Nat):Int):=by rw[wrap_id (by omega) (by omega)];omega
   refine hX _ H4 ?_
   rw[wk]
   intro J2 hJ2
   refine br_y (by omega) ⟨_,rfl,_,flR_e hs4,br_t rfl (hJ2 H4 ?_)⟩
   obtain⟨rb,p,c,h1,h2,h3,hs4'⟩:=flR_op hs4
   have e8:(2:Int)^8=256:=by decide
   refine⟨_,rfl,_,_,_,hs4'.get 2 (j:=1) rfl rfl,getO hs4' (by omega) (fun hlt H5 hs5=>⟨_,rfl,.inr ⟨_,_,_,hs5.get 2 (j:=1) rfl rfl,rfl⟩,?_⟩) (fun hle H5 hs5=>⟨_,rfl,.inr ⟨_,_,_,hs5.get 2 (j:=1) rfl rfl,rfl⟩,?_⟩)⟩
   ·rw[bytesM,getM_bad (n:=8) hlt] at hb
    rw[if_pos rfl] at hs5
    refine hs5.alcE fun b H6 he hs6=>⟨.inl he,?_⟩
    refine hs6.appC 2 0 (el:=5) (k:=1) rfl rfl rfl (one1 rfl) (by decide) rfl (by omega) (by omega) fun p' c' H7 hs7=>⟨_,rfl,?_⟩
    refine hs7.put 3 (j:=1) rfl (by simp) rfl fun H8 hs8=>?_
    have hs9:St H0 H8 (flR f B a2 most (out2++[0]) 20::σ):=by
     refine flR_mk (rb:=rb) (p:=p') (c:=c') (by simp;omega) h2 (fun z hz=>?_) ?_
     ·rcases List.mem_append.1 hz with hz|hz
      ·exact h3 z hz
      ·rw[List.mem_singleton.1 hz];omega
     ·rw[kints_append,List.length_append,List.length_singleton]
      exact hs8.tail
    refine hX _ H8 ?_
    intro J3 hJ3
    exact br_dec (fun _=>⟨_,rfl,_,flR_e hs9,br_f rfl (hbad 20 (by decide) hb.symm _ _ _ hs9)⟩) (fun _=>hbad 20 (by decide) hb.symm _ _ _ hs9)
   ·rw[bytesM,getM_num (n:=8) hle] at hb
    simp only[show Int.toNat 8=8 from rfl] at hs5 hb ⊢
    have hv:=numB_rng false B a2 8
    generalize numB false B a2 8=v at*
    rw[wrap_u8 (by omega) (by omega)]
    refine hs5.alcE fun b H6 he hs6=>⟨.inl he,?_⟩
    refine hs6.appC 2 0 (el:=5) (k:=1) rfl rfl rfl (one1 rfl) (by decide) rfl (by omega) (by omega) fun p' c' H7 hs7=>⟨_,rfl,?_⟩
    refine hs7.put 3 (j:=1) rfl (by simp) rfl fun H8 hs8=>?_
    refine ih (k+1) (a2+8) (out2++[v]) H8 (by omega) (by simp;omega) hb ?_
    refine flR_mk (rb:=rb) (p:=p') (c:=c') (by simp;omega) h2 (fun z hz=>?_) ?_
    ·rcases List.mem_append.1 hz with hz|hz
     ·exact h3 z hz
     ·rw[List.mem_singleton.1 hz];omega
    ·rw[kints_append,List.length_append,List.length_singleton]
     exact hs8.tail
 exact loop N 0 _ out H3 (by omega) (by omega) key hs3
end
theorem fixK: ∀k:Fin 288,(k.val≥144∧k.val<256→fixL.getD k.val 0=9)∧(k.val≥256∧k.val<280→fixL.getD k.val 0=7)∧(¬(k.val≥144∧k.val<256)→ ¬(k.val≥256∧k.val<280)→fixL.getD k.val 0=8):=by decide+kernel
theorem fixL_len:fixL.length=288:=by decide+kernel
theorem fixD_len:fixD.length=32:=by decide+kernel
theorem fixD_get: ∀k:Fin 32,fixD.getD k.val 0=5:=by decide+kernel
theorem take_get{l:List Int}{k:Nat}(h:k<l.length):l.take (k+1)=l.take k++[l.getD k 0]:=by
 rw[List.take_add_one,get_gD l 0 h];rfl
theorem c49(hR: ∀p c q c' H',St H H' [.sl q 32 c' 3 1 (ints fixD),.sl p 288 c 3 1 (ints fixL)]→R (.tuple #[.slice p 288 c,.slice q 32 c']) H'):CallsH Try.prog 49 #[] H R:=by
 refine Try.s49 (_u:=()) ?_
 unfold Try.S49
 intro X hX
 have two: ∀p c H1,St H H1 [.sl p 288 c 3 1 (ints fixL)]→X [.slice p 288 c,.int .i64 ((288:Nat):Int)] H1:=fun p c H1 hs1=>by
  refine hX _ _ _ _ H1 (br_n (by omega) ?_)
  intro Y hY
  have go: ∀k,k≤32→ ∀q c' H2,St H H2 [.sl q k c' 3 1 (ints (fixD.take k)),.sl p 288 c 3 1 (ints fixL)]→Y [.slice q k c',.int .i64 (k:Nat)] H2:=upto fun k hk ih q c' H2 hs2=>by
   refine hY _ _ _ _ H2 (br_dec (fun hlt=>?_) (fun hge=>?_))
   ·have hlt:k<32:=by omega
    rw[wrap_id (by omega) (by omega)]
    refine hs2.alc fun b H3 hs3=>?_
    refine hs3.appC 1 0 (el:=3) (k:=1) rfl rfl rfl (one1 rfl) (by decide) rfl (by omega) (by omega) fun p' c2 H4 hs4=>?_
    refine ih hlt p' c2 H4 ?_
    have e:fixD.take (k+1)=fixD.take k++[5]:=by rw[take_get (by rw[fixD_len];exact hlt),fixD_get ⟨k,hlt⟩]
    rw[e,ints_append]
    exact hs4.tail
   ·have:k=32:=by omega
    subst this
    refine hR p c q c' H2 ?_
    rw[List.take_of_length_le (by rw[fixD_len];exact Nat.le_refl _)] at hs2
    exact hs2
  exact go 0 (by omega) none 0 H1 (hs1.nilSl 3 1)
 have go: ∀k,k≤288→ ∀p c H1,St H H1 [.sl p k c 3 1 (ints (fixL.take k))]→X [.slice p k c,.int .i64 (k:Nat)] H1:=upto fun k hk ih p c H1 hs1=>by
  by_cases hlt:k<288
  ·refine hX _ _ _ _ H1 (br_y (by omega) ?_)
   intro J hJ
   have nx: ∀n,fixL.getD k 0=n→J [.int .i64 n] H1:=fun n hn=>by
    refine hJ _ H1 ?_
    rw[wrap_id (by omega) (by omega)]
    refine hs1.alc fun b H3 hs3=>?_
    refine hs3.appC 1 0 (el:=3) (k:=1) rfl rfl rfl (one1 rfl) (by decide) rfl (by omega) (by omega) fun p' c2 H4 hs4=>?_
    refine ih hlt p' c2 H4 ?_
    rw[take_get (by rw[fixL_len];exact hlt),hn,ints_append]
    exact hs4.tail
   obtain⟨k1,k2,k3⟩:=fixK ⟨k,hlt⟩
   simp only at k1 k2 k3
   refine br_dec (fun h1=>br_dec (fun h2=>nx 9 (k1 (by omega))) (fun h2=>br_dec (fun h3=>br_dec (fun h4=>nx 7 (k2 (by omega))) (fun h4=>nx 8 (k3 (by omega) (by omega)))) (fun h3=>nx 8 (k3 (by omega) (by omega))))) (fun h1=>br_dec (fun h3=>br_dec (fun h4=>nx 7 (k2 (by omega))) (fun h4=>nx 8 (k3 (by omega) (by omega)))) (fun h3=>nx 8 (k3 (by omega) (by omega))))
  ·have:k=288:=by omega
   subst this
   rw[List.take_of_length_le (by rw[fixL_len];exact Nat.le_refl _)] at hs1
   exact two p c H1 hs1
 exact go 0 (by omega) none 0 H ((St.nil H).nilSl 3 1)
end Go.Proofs
namespace Go.Proofs
open Go.Sh
theorem fixL_ok:OkC fixL:=⟨⟨by decide+kernel,by decide+kernel⟩,by decide+kernel⟩
theorem fixD_ok:OkC fixD:=⟨⟨by decide+kernel,by decide+kernel⟩,by decide+kernel⟩
theorem fixL_pos{s:Nat}(h:s<288):0<fixL.getD s 0:=by
 have: ∀s:Fin 288,0<fixL.getD s.val 0:=by decide+kernel
 exact this ⟨s,h⟩
end Go.Proofs
namespace Go.Proofs
open Go.Sh
def TabC(T:TabT):Prop:= ∀{H0 H:Heap} {σ:List Rs} {R:Value→Heap→Prop} {f a most:Nat} {B out:List Int},St H0 H (flR f B a most out 0::σ)→
 (∀k,k≠0→T B a= .error k→ ∀H' a' d1 d2 τ,St H0 H' (flR f B a' most out k::τ++σ)→R (.tuple #[.pointer d1,.pointer d2]) H')→
 (∀a' ll dl,T B a= .ok (a',ll,dl)→a≤a'→ ∀H' b1 b2 P1 F1 P2 F2 τ,St H0 H' (flR f B a' most out 0::decR b1 ll P1 F1::decR b2 dl P2 F2::τ++σ)→R (.tuple #[.pointer (some ⟨b1,0,none⟩),.pointer (some ⟨b2,0,none⟩)]) H')→
 CallsH Try.prog 59 #[.pointer (some ⟨f,0,none⟩)] H R
theorem symsM_adv{B:List Int}{mst:Int}{ll dl:List Int}: ∀(g a:Nat) (out:List Int) {a':Nat} {out':List Int},symsM B mst ll dl g a out= .ok (a',out')→a≤a'
 |0,_,_,_,_,h=>by cases h
 |g+1,a,out,a',out',h=>by
  rw[symsM] at h
  split at h
  ·cases h
  ·rename_i s a1 h1
   have:=symM_adv h1
   split at h
   ·cases h;omega
   ·split at h
    ·split at h
     ·cases h
     ·rename_i a2 out2 h2
      have:=copiesM_adv h2
      have:=symsM_adv g _ _ h
      omega
    ·split at h
     ·cases h
     ·have:=symsM_adv g _ _ h
      omega
theorem bytesM_adv{B:List Int}: ∀(n a:Nat) (out:List Int) {a':Nat} {out':List Int},bytesM B n a out= .ok (a',out')→a≤a'
 |0,a,out,a',out',h=>by cases h;exact Nat.le_refl _
 |n+1,a,out,a',out',h=>by
  rw[bytesM] at h
  split at h
  ·cases h
  ·rename_i c a1 h1
   have:=getM_adv h1
   have:=bytesM_adv n _ _ h
   omega
theorem storedM_adv{B:List Int}{mst:Int}{a a':Nat}{out out':List Int}(h:storedM B mst a out= .ok (a',out')):a≤a':=by
 unfold storedM at h
 split at h
 ·cases h
 ·rename_i n a1 h1
  split at h
  ·cases h
  ·rename_i m a2 h2
   split at h
   ·cases h
   ·split at h
    ·cases h
    ·have:=getM_adv h1;have:=getM_adv h2;have:=bytesM_adv _ _ _ h
     omega
theorem inflate_of{T:TabT}{H:Heap}{R:Value→Heap→Prop}{p:Option Addr}{l c:Nat}{B:List Int}(h:IS H p l (kints .u8 B))(hl:l≤1000000000)(hB: ∀x∈B,0≤x∧x<256){most:Int}(hm:most≤1000000000)
 (hT:TabC T∨T=noT∧inflM T B most≠ .error 99)
 (hbad: ∀k,k≠0→inflM T B most= .error k→ ∀H',Ext H H'→R (.tuple #[.slice none 0 0,.int .i64 0,.int .i64 k]) H')
 (hR: ∀out n,inflM T B most= .ok (out,n)→ ∀H' q m,(∀y∈out,0≤y∧y<256)→St H H' [.sl q out.length m 5 1 (kints .u8 out)]→R (.tuple #[.slice q out.length m,.int .i64 (n:Nat),.int .i64 0]) H'):
 CallsH Try.prog 41 #[.slice p l c,.int .i64 most] H R:=by
 refine Try.s41 ?_
 unfold Try.S41
 refine c54 h hl hB fun rb H1 hs1=>⟨_,rfl,hs1.alc fun fb H2 hs2=>?_⟩
 obtain⟨M,hM⟩:=Int.eq_ofNat_of_zero_le (show 0≤max most 0 by omega)
 unfold inflM at hT hbad hR
 rw[hM] at hT hbad hR hs2
 have hs:St H H2 [flR fb B 0 M [] 0]:=flR_mk (p:=none) (c:=0) (by simp) (by omega) (by simp) ((hs2.nilSl 5 1).front 2 rfl)
 clear hs1 hs2
 generalize hX0:blocksM T B M (8*B.length+1) 0 []=W at hT hbad hR
 intro J hJ
 have fin: ∀H3 a out e τ,St H H3 (flR fb B a M out e::τ)→(e=0→W= .ok (a,out))→(e≠0→W= .error e)→J [] H3:=fun H3 a out e τ hs h0 h1=>by
  have hs:=hs.take 1
  refine hJ H3 ⟨_,rfl,_,flR_e hs,br_ne (fun hne=>⟨_,rfl,_,flR_e hs,hbad e hne (by rw[h1 hne]) H3 hs.ext⟩) (fun he=>?_)⟩
  obtain⟨rb,p,c,h1,h2,h3,hs'⟩:=flR_op hs
  have hrd:=flR_rd hs
  refine⟨_,rfl,_,_,_,hs'.get 2 (j:=1) rfl rfl,_,rfl,_,hs'.get 2 (j:=0) rfl rfl,c61 hs' (i:=0) rfl ⟨_,rfl,.inl (Ext.refl _),by decide,?_⟩⟩
  rw[wrap_id (n:=(a:Int)+7) (by omega) (by omega),show(a:Int)+7=((a+7:Nat):Int) from rfl,wdiv8 _ (by omega)]
  exact hR out ((a+7)/8) (by rw[h0 he]) H3 p c h3 (hs'.tail.take 1)
 intro X hX
 have bad: ∀k b,k≠0→W= .error k→ ∀H3 a out τ,St H H3 (flR fb B a M out k::τ)→X [.bool b] H3:=fun k b hk hW H3 a out τ hs=>by
  refine hX b H3 ?_
  intro J2 hJ2
  have:=fin H3 a out k τ hs (fun h=>absurd h hk) (fun _=>hW)
  exact br_not (fun _=>⟨_,rfl,_,flR_e hs,br_eq (fun h=>absurd h hk) (fun _=>this)⟩) (fun _=>this)
 have loop: ∀(g a:Nat) (out:List Int) (H3:Heap),8*B.length<a+g→blocksM T B M g a out=W→St H H3 [flR fb B a M out 0]→X [.bool false] H3:=by
  intro g
  induction g with
  |zero=>
   intro a out H3 hg he hs
   have:=flR_rd hs;omega
  |succ g ih=>
   intro a out H3 hg he hs
   rw[blocksM] at he
   refine hX false H3 ?_
   intro J2 hJ2
   refine br_t rfl ⟨_,rfl,_,flR_e hs,br_t rfl (hJ2 H3 ?_)⟩
   refine c55 hs (by omega) (fun hlt H4 hs4=>⟨_,rfl,?_⟩) (fun hle H4 hs4=>⟨_,rfl,?_⟩)
   ·rw[getM_bad (n:=1) hlt] at he
    rw[if_pos rfl] at hs4
    refine c55 hs4 (by omega) (fun hlt H5 hs5=>⟨_,rfl,?_⟩) (fun hle H5 hs5=>⟨_,rfl,?_⟩)
    ·rw[if_neg (by decide)] at hs5
     exact⟨_,rfl,_,flR_e hs5,br_t rfl (bad 20 _ (by decide) he.symm H5 _ _ _ hs5)⟩
    ·exact⟨_,rfl,_,flR_e hs5,br_t rfl (bad 20 _ (by decide) he.symm H5 _ _ _ hs5)⟩
   rw[getM_num (n:=1) hle] at he
   simp only[show Int.toNat 1=1 from rfl] at hs4 he hle ⊢
   have hl01:=numB_rng false B a 1
   generalize numB false B a 1=last at*
   refine c55 hs4 (by omega) (fun hlt H5 hs5=>⟨_,rfl,?_⟩) (fun hle2 H5 hs5=>⟨_,rfl,?_⟩)
   ·rw[getM_bad (n:=2) hlt] at he
    rw[if_pos rfl] at hs5
    exact⟨_,rfl,_,flR_e hs5,br_t rfl (bad 20 _ (by decide) he.symm H5 _ _ _ hs5)⟩
   rw[getM_num (n:=2) hle2] at he
   simp only[show Int.toNat 2=2 from rfl] at hs5 he hle2 ⊢
   have hk:=numB_rng false B (a+1) 2
   generalize numB false B (a+1) 2=kind at*
   have e1:(2:Int)^1=2:=by decide
   have e2:(2:Int)^2=4:=by decide
   -- behind a block
   have nx: ∀a3 out3 H6 τ,a+3≤a3→(if last=1 then(.ok (a3,out3):Except Int (Nat×List Int)) else blocksM T B M g a3 out3)=W→St H H6 (flR fb B a3 M out3 0::τ)→X [.bool (last==1)] H6:=fun a3 out3 H6 τ ha hW hs6=>by
    by_cases hla:last=1
    ·rw[if_pos hla] at hW
     subst hla
     refine hX _ H6 ?_
     intro J3 hJ3
     exact br_f rfl (fin H6 a3 out3 0 τ hs6 (fun _=>hW.symm) (fun h=>absurd rfl h))
    ·rw[if_neg hla] at hW
     have:(last==1)=false:=by simpa using hla
     rw[this]
     exact ih a3 out3 H6 (by omega) hW (hs6.take 1)
   refine⟨_,rfl,_,flR_e hs5,br_f rfl (br_eq (fun h0=>?_) (fun h0=>br_eq (fun h1=>?_) (fun h1=>br_eq (fun h2=>?_) (fun h2=>?_))))⟩
   ·rw[if_pos h0] at he
    refine c56 hs5 (fun k hk0 hk2 H6 a6 out6 hs6=>⟨rfl,?_⟩) (fun a6 out6 hk2 H6 hs6=>⟨rfl,?_⟩)
    ·rw[hk2] at he
     exact bad k _ hk0 he.symm H6 a6 out6 _ hs6
    ·rw[hk2] at he
     exact nx a6 out6 H6 _ (storedM_adv hk2) he hs6
   ·rw[if_neg h0,if_pos h1] at he
    refine c49 fun p1 c1 q1 c2 H6 hs6=>⟨_,_,_,_,_,_,rfl,?_⟩
    have hs6:=hs5.call hs6
    refine newDecR (hs6.is 1 rfl) (fun hn=>absurd fixL_ok hn) fun _ H7 d1 P1 F1 hs7=>⟨_,_,rfl,?_⟩
    have hs7:=hs6.call hs7
    refine newDecR (hs7.is 1 rfl) (fun hn=>absurd fixD_ok hn) fun _ H8 d2 P2 F2 hs8=>⟨_,_,rfl,?_⟩
    have hs8:=(hs7.call hs8).front 4 rfl
    refine c58 hs8 (j1:=1) (j2:=0) rfl rfl (fun k hk0 hk2 H9 a9 out9 hs9=>⟨rfl,?_⟩) (fun a9 out9 hk2 H9 hs9=>⟨rfl,?_⟩)
    ·rw[hk2] at he
     exact bad k _ hk0 he.symm H9 a9 out9 _ hs9
    ·rw[hk2] at he
     exact nx a9 out9 H9 _ (symsM_adv _ _ _ hk2) he hs9
   ·rw[if_neg h0,if_neg h1,if_pos h2] at he
    rcases hT with hT|⟨rfl,hne⟩
    ·refine hT hs5 (fun k hk0 hk2 H6 a6 d1 d2 τ hs6=>⟨_,_,rfl,?_⟩) (fun a6 ll dl hk2 ha6 H6 b1 b2 P1 F1 P2 F2 τ hs6=>⟨_,_,rfl,?_⟩)
     ·rw[hk2] at he
      exact symbols_e hs6 hk0 ⟨rfl,bad k _ hk0 he.symm H6 a6 out _ hs6⟩
     ·rw[hk2] at he
      refine c58 hs6 (j1:=0) (j2:=1) rfl rfl (fun k hk0 hk2 H9 a9 out9 hs9=>⟨rfl,?_⟩) (fun a9 out9 hk2 H9 hs9=>⟨rfl,?_⟩)
      ·simp only at he
       rw[hk2] at he
       exact bad k _ hk0 he.symm H9 a9 out9 _ hs9
      ·simp only at he
       rw[hk2] at he
       have:=symsM_adv _ _ _ hk2
       exact nx a9 out9 H9 _ (by omega) he hs9
    ·exact absurd (by rw[←he];rfl) hne
   ·rw[if_neg h0,if_neg h1,if_neg h2] at he
    refine c60 hs5 fun H6 hs6=>⟨rfl,?_⟩
    rw[if_pos rfl] at hs6
    exact bad 25 _ (by decide) he.symm H6 _ _ _ hs6
 exact loop _ 0 [] H2 (by omega) hX0 hs
theorem c9{H:Heap}{R:Value→Heap→Prop}{p q:Option Addr}{l c l2 c2:Nat}{xs ys:List Int}(h1:IS H p l (kints .u8 xs))(h2:IS H q l2 (kints .u8 ys))(hl:l≤1000000000000)(hR:R (.bool (decide (xs=ys))) H):
 CallsH Try.prog 9 #[.slice p l c,.slice q l2 c2] H R:=by
 have e1:=h1.length
 have e2:=h2.length
 refine Try.s9 (br_ne (fun hne=>?_) (fun he=>?_))
 ·rw[show decide (xs=ys)=false from decide_eq_false fun h=>hne (by subst h;omega)] at hR
  exact hR
 intro X hX
 have go: ∀k,k≤l→xs.take k=ys.take k→X [.int .i64 (k:Nat)] H:=upto fun k hk ih heq=>by
  refine hX _ H (br_dec (fun hlt=>?_) (fun hge=>?_))
  ·have hlt:k<l:=by omega
   obtain⟨x,hx⟩:=h1.get' hlt
   obtain⟨y,hy⟩:=h2.get' (i:=k) (by omega)
   refine h1.rd (by omega) (by omega) (by rw[Int.toNat_natCast];exact hx) (h2.rd (by omega) (by omega) (by rw[Int.toNat_natCast];exact hy) (br_ne (fun hne=>?_) (fun he=>?_)))
   ·rw[show decide (xs=ys)=false from decide_eq_false fun h=>hne (by subst h;rw[hx] at hy;exact Option.some.inj hy)] at hR
    exact hR
   ·rw[wrap_id (by omega) (by omega)]
    refine ih hlt ?_
    rw[List.take_add_one,List.take_add_one,heq,hx,hy,he]
  ·have:k=l:=by omega
   subst this
   rw[List.take_of_length_le (by omega),List.take_of_length_le (by omega)] at heq
   rw[show decide (xs=ys)=true from decide_eq_true heq] at hR
   exact hR
 exact go 0 (by omega) rfl
end Go.Proofs
namespace Go.Sh
variable {H0 H:Heap} {σ:List Rs}
theorem intsA_size(l:List Int):(ints l).toArray.size=l.length:=by simp[ints]
theorem St.putA(hs:St H0 H σ)(i:Nat){b j:Nat}{l:List Int}{ty:TypeId}{x:Int}{f:Heap→Prop}(hi:σ[i]?=some (.cell b (ints l).toArray ty))(hj:j<l.length)
 (hK: ∀H',St H0 H' (σ.set i (.cell b (ints (l.set j x)).toArray ty))→f H'):stAt H ⟨b,j,none⟩ [.int .i64 x] f:=
 hs.put i hi (by rw[intsA_size];exact hj) rfl fun H' hs'=>hK H' (by
  have e:(ints l).toArray.setIfInBounds j (Value.int .i64 x)=(ints (l.set j x)).toArray:=by rw[←ints_set];simp
  rw[←e];exact hs')
theorem reps_rep(v:Value): ∀n,reps n [v]=List.replicate n v
 |0=>rfl
 |n+1=>by rw[reps,reps_rep v n,List.replicate_succ];rfl
theorem repsA(n:Nat):(reps n (Array.toList #[Value.int .i64 0])).toArray=(ints (List.replicate n 0)).toArray:=by
 show(reps n [Value.int .i64 0]).toArray=_
 rw[reps_rep];simp[ints]
theorem St.isA(hs:St H0 H σ)(i:Nat){b n:Nat}{l:List Int}{ty:TypeId}(hi:σ[i]?=some (.cell b (ints l).toArray ty))(hn:l.length=n):IS H (some ⟨b,0,none⟩) n (ints l):=
 ⟨by rw[ints_len];exact hn,fun j v hv=>⟨_,rfl,by rw[add_none,Nat.zero_add];exact hs.get i hi (by rw[List.getElem?_toArray];exact hv)⟩⟩
theorem gDl{α:Type}(a b:List α)(d:α)(i:Nat)(h:i<a.length):(a++b).getD i d=a.getD i d:=by simp[List.getD_eq_getElem?_getD,List.getElem?_append_left h]
theorem getD_some{α:Type}(a:List α)(d:α){i:Nat}(h:i<a.length):a[i]?=some (a.getD i d):=by rw[List.getD_eq_getElem?_getD,List.getElem?_eq_getElem h];rfl
theorem tab_getD{n:Nat}{f:Nat→Int}{i:Nat}(h:i<n):((List.range n).map f).getD i 0=f i:=by simp[List.getD_eq_getElem?_getD,h]
end Go.Sh
namespace Go.Proofs
open Go.Sh
variable {H0 H:Heap} {σ:List Rs} {R:Value→Heap→Prop}
theorem andI_4095(a:Int):andI .i64 a (4095:Int)=a%4096:=by
 unfold andI
 rw[show IntKind.bits .i64=64 from rfl,BitVec.toNat_and,BitVec.toNat_ofInt,BitVec.toNat_ofInt]
 rw[show((4095:Int)%((2^64:Nat):Int)).toNat=2^12-1 from by decide,Nat.and_two_pow_sub_one_eq_mod]
 have h2:(((a%((2^64:Nat):Int)).toNat%2^12:Nat):Int)=a%4096:=by
  rw[show((2^64:Nat):Int)=18446744073709551616 from by decide];omega
 rw[h2]
 exact wrap_id (by omega) (by omega)
theorem is_from{p:Option Addr}{l c a:Nat}{fs:List Value}(h:IS H p l fs)(hlc:l≤c)(ha:a≤l):IS H (if c=a then p else Option.map (fun x=>Addr.add x (a*1)) p) (l-a) (fs.drop a):=by
 refine⟨by rw[List.length_drop,h.len],fun i v hv=>?_⟩
 have hi:=(List.getElem?_eq_some_iff.1 hv).1
 rw[List.length_drop,h.len] at hi
 rw[List.getElem?_drop] at hv
 obtain⟨x,h1,h2⟩:=h.get _ _ hv
 rw[if_neg (by omega),h1]
 exact⟨_,rfl,by rw[add_add,Nat.mul_one];exact h2⟩
theorem kints_drop(k:IntKind)(l:List Int)(i:Nat):(kints k l).drop i=kints k (l.drop i):=by simp[kints]
theorem kints_take(k:IntKind)(l:List Int)(i:Nat):(kints k l).take i=kints k (l.take i):=by simp[kints]
theorem drop_gD{b:List Int}{a i:Nat}(h:a+i<b.length):(b.drop a)[i]?=some (b.getD (a+i) 0):=by rw[List.getElem?_drop];exact get_gD b 0 h
theorem c82{p:Option Addr}{l c a:Nat}{b:List Int}(h:IS H p l (kints .u8 (b.drop a)))(hb: ∀x∈b,0≤x∧x<256)(hl:3≤l)(hR:R (.int .i64 (hashM b a)) H):
 CallsH Try.prog 82 #[.slice p l c] H R:=by
 have e:=h.length
 rw[List.length_drop] at e
 have r0:=getD_rng hb a
 have r1:=getD_rng hb (a+1)
 have r2:=getD_rng hb (a+2)
 refine Try.s82 (h.rd (x:=b.getD a 0) (by omega) (by omega) (by simpa using drop_gD (b:=b) (a:=a) (i:=0) (by omega)) ⟨by decide,h.rd (by omega) (by omega) (drop_gD (i:=1) (by omega)) ⟨by decide,h.rd (by omega) (by omega) (drop_gD (i:=2) (by omega)) ?_⟩⟩)
 rw[wrap_id (by omega) (by omega),wrap_id (by omega) (by omega),wrap_id (by omega) (by omega),andI_4095]
 exact hR
abbrev fiO(f:Nat)(p:Option Addr)(l c bf ba:Nat)(F A:List Int):List Rs:=
 [.cell f #[.slice p l c,.slice (some ⟨bf,0,none⟩) 4096 4096,.slice (some ⟨ba,0,none⟩) l l] 100,.sl (some ⟨bf,0,none⟩) 4096 4096 3 1 (ints F),.sl (some ⟨ba,0,none⟩) l l 3 1 (ints A)]
section
variable {f l c bf ba a:Nat} {p:Option Addr} {b F A:List Int}
theorem c63(hs:St H0 H (fiO f p l c bf ba F A++σ))(hb:IS H0 p l (kints .u8 b))(hr: ∀x∈b,0≤x∧x<256)(hlc:l≤c)(ha:a≤1000000000)(hch:Chains b F A a)
 (hR: ∀H',St H0 H' (fiO f p l c bf ba (addF b F a) (addA b F A a)++σ)→R (.tuple #[]) H'):CallsH Try.prog 63 #[.pointer (some ⟨f,0,none⟩),.int .i64 (a:Nat)] H R:=by
 have hbl:=hb.length
 refine Try.s63 ⟨_,rfl,_,_,_,hs.get 0 (j:=0) rfl rfl,?_⟩
 rw[wrap_id (by omega) (by omega)]
 refine br_dec (fun hle=>⟨_,rfl,_,_,_,hs.get 0 (j:=0) rfl rfl,by omega,by omega,?_⟩) (fun hgt=>?_)
 ·rw[Int.toNat_natCast]
  have hi:=is_from (hb.ext hs.ext) hlc (a:=a) (by omega)
  rw[kints_drop] at hi
  have hh:=hashM_rng b a
  refine c82 hi hr (by omega) ⟨_,rfl,_,rfl,_,_,_,hs.get 0 (j:=2) rfl rfl,_,rfl,_,_,_,hs.get 0 (j:=1) rfl rfl,_,rfl,_,_,_,hs.get 0 (j:=1) rfl rfl,?_⟩
  have hF:IS H (some ⟨bf,0,none⟩) 4096 (kints .i64 F):=hs.is 1 rfl
  refine hF.rd hh.1 (by omega) (get_gD F 0 (by rw[hch.fl];omega)) ⟨_,rfl,by omega,by omega,?_⟩
  rw[add_none,Nat.zero_add,Nat.mul_one]
  refine hs.slPut 2 rfl (by rw[ints_len,hch.al];omega) rfl fun H2 hs2=>⟨_,rfl,by omega,by omega,?_⟩
  rw[add_none,Nat.zero_add,Nat.mul_one,wrap_id (by omega) (by omega)]
  refine hs2.slPut 1 rfl (by rw[ints_len,hch.fl];omega) rfl fun H3 hs3=>hR H3 ?_
  unfold addF addA
  rw[if_pos (by omega),if_pos (by omega)]
  unfold fiO
  rw[←ints_set,←ints_set]
  exact hs3
 ·refine hR H ?_
  unfold addF addA
  rw[if_neg (by omega),if_neg (by omega)]
  exact hs
theorem c62(hs:St H0 H (fiO f p l c bf ba F A++σ))(hb:IS H0 p l (kints .u8 b))(hr: ∀x∈b,0≤x∧x<256)(hlc:l≤c)(hl:l≤1000000000)(ha:a≤l)(hch:Chains b F A a){eff:Int}(he:0<eff∧eff≤64)
 (hR:R (.tuple #[.int .i64 ((bestM b F A a eff).1:Nat),.int .i64 ((bestM b F A a eff).2:Nat)]) H):CallsH Try.prog 62 #[.pointer (some ⟨f,0,none⟩),.int .i64 (a:Nat),.int .i64 eff] H R:=by
 have hbl:=hb.length
 refine Try.s62 ?_
 unfold Try.S62
 refine⟨_,rfl,_,_,_,hs.get 0 (j:=0) rfl rfl,?_⟩
 rw[wrap_id (by omega) (by omega)]
 unfold bestM at hR
 refine br_dec (fun hgt=>?_) (fun hle=>?_)
 ·rw[if_pos (by omega)] at hR;exact hR
 rw[if_neg (by omega)] at hR
 intro J6 hJ6
 have hR:=hJ6 _ _ H hR
 refine⟨_,rfl,_,_,_,hs.get 0 (j:=1) rfl rfl,_,rfl,_,_,_,hs.get 0 (j:=0) rfl rfl,by omega,by omega,?_⟩
 rw[Int.toNat_natCast]
 have hi:=is_from (hb.ext hs.ext) hlc (a:=a) (by omega)
 rw[kints_drop] at hi
 have hh:=hashM_rng b a
 refine c82 hi hr (by omega) ⟨_,rfl,.inl (Ext.refl _),?_⟩
 have hF:IS H (some ⟨bf,0,none⟩) 4096 (kints .i64 F):=hs.is 1 rfl
 have hA:IS H (some ⟨ba,0,none⟩) l (kints .i64 A):=hs.is 2 rfl
 have hB:=hb.ext hs.ext
 refine hF.rd hh.1 (by omega) (get_gD F 0 (by rw[hch.fl];omega)) ?_
 have hf0:=hch.fget (hashM b a).toNat
 generalize F.getD (hashM b a).toNat 0=p0 at hR hf0 ⊢
 intro X19 hX
 have loop: ∀(g:Nat) (q t:Int) (L D:Nat),q<g→0≤q→0≤t→t+q≤a→L≤258→D≤1000000000→J6 [.int .i64 ((chainM b A a eff g q t L D).1:Nat),.int .i64 ((chainM b A a eff g q t L D).2:Nat)] H→X19 [.int .i64 (L:Nat),.int .i64 (D:Nat),.int .i64 t,.int .i64 q] H:=by
  intro g
  induction g with
  |zero=>intro q t L D h1 h2;omega
  |succ g ih=>
   intro q t L D hqg hq ht htq hL hD hfin
   rw[chainM] at hfin
   refine hX _ _ _ _ H ?_
   rw[wrap_id (n:=q-1) (by omega) (by omega),wrap_id (n:=(a:Int)-(q-1)) (by omega) (by omega),wrap_id (n:=t+1) (by omega) (by omega),wrap_id (n:=8*eff) (by omega) (by omega)]
   intro J25 hJ25
   refine br_dec (fun hq0=>br_dec (fun hw=>hJ25 H ?_) (fun hw=>?_)) (fun hq0=>?_)
   ·rw[if_pos ⟨hq0,hw⟩] at hfin
    obtain⟨k,hk⟩:=Int.eq_ofNat_of_zero_le (show 0≤q-1 by omega)
    rw[hk] at hfin ⊢
    rw[Int.toNat_natCast] at hfin
    have hx:=hch.aget k
    have hxg:A[k]?=some (A.getD k 0):=get_gD A 0 (by rw[hch.al];omega)
    generalize A.getD k 0=x at hx hxg hfin
    -- on along the chain
    intro J27 hJ27
    have on: ∀L' D':Nat,L'≤258→D'≤1000000000→J6 [.int .i64 ((chainM b A a eff g x (t+1) L' D').1:Nat),.int .i64 ((chainM b A a eff g x (t+1) L' D').2:Nat)] H→J27 [.int .i64 (L':Nat),.int .i64 (D':Nat),.int .i64 (t+1)] H:=fun L' D' h1 h2 h3=>by
     refine hJ27 _ _ _ H ⟨_,rfl,_,_,_,hs.get 0 (j:=2) rfl rfl,?_⟩
     refine hA.rd (by omega) (by omega) (by rw[Int.toNat_natCast];exact hxg) ?_
     exact ih x (t+1) L' D' (by omega) hx.1 (by omega) (by omega) h1 h2 h3
    intro J36 hJ36
    obtain⟨m1,m2,m3⟩:=preM_ok b k a 258 0 (by omega) (.inl rfl)
    have goal36:J36 [.int .i64 (preM b k a 258 0:Nat)] H:=by
     generalize preM b k a 258 0=n at*
     refine hJ36 _ H ?_
     intro J39 hJ39
     have keep: ¬(n≥3∧n>L)→J39 [.int .i64 (L:Nat),.int .i64 (D:Nat)] H:=fun hn=>by
      rw[if_neg hn] at hfin
      refine hJ39 _ _ H (br_eq (fun h258=>?_) (fun h258=>br_dec (fun hL0=>br_dec (fun ht8=>?_) (fun ht8=>?_)) (fun hL0=>?_)))
      ·rw[if_pos (.inl (by omega))] at hfin;exact hfin
      ·rw[if_pos (.inr (by omega))] at hfin;exact hfin
      ·rw[if_neg (by omega)] at hfin;exact on L D hL hD hfin
      ·rw[if_neg (by omega)] at hfin;exact on L D hL hD hfin
     refine br_dec (fun h3=>br_dec (fun hgt=>?_) (fun hgt=>keep (by omega))) (fun h3=>keep (by omega))
     rw[if_pos (show n≥3∧n>L from⟨by omega,by omega⟩)] at hfin
     obtain⟨D',hD'⟩:=Int.eq_ofNat_of_zero_le (show 0≤(a:Int)-k by omega)
     rw[hD'] at hfin ⊢
     rw[Int.toNat_natCast] at hfin
     refine hJ39 _ _ H (br_eq (fun h258=>?_) (fun h258=>br_dec (fun hL0=>br_dec (fun ht8=>?_) (fun ht8=>?_)) (fun hL0=>by omega)))
     ·rw[if_pos (.inl (by omega))] at hfin;exact hfin
     ·rw[if_pos (.inr ht8)] at hfin;exact hfin
     ·rw[if_neg (by omega)] at hfin;exact on n D' (by omega) (by omega) hfin
    intro X43 hX43
    have inner: ∀(g n:Nat),n+g=258→preM b k a g n=preM b k a 258 0→X43 [.int .i64 (n:Nat)] H:=by
     intro g
     induction g with
     |zero=>
      intro n hn he
      rw[preM] at he
      refine hX43 _ H (br_n (by omega) ?_)
      rw[he];exact goal36
     |succ g ih2=>
      intro n hn he
      rw[preM] at he
      refine hX43 _ H (br_y (by omega) ⟨_,rfl,_,_,_,hs.get 0 (j:=0) rfl rfl,?_⟩)
      rw[wrap_id (n:=(a:Int)+n) (by omega) (by omega),wrap_id (n:=(k:Int)+n) (by omega) (by omega),wrap_id (n:=(n:Int)+1) (by omega) (by omega)]
      refine br_dec (fun hlt=>⟨_,rfl,_,_,_,hs.get 0 (j:=0) rfl rfl,?_⟩) (fun hge=>?_)
      ·refine hB.rd (by omega) (by omega) (by rw[show((k:Int)+n).toNat=k+n from by omega];exact get_gD b 0 (by omega)) ⟨_,rfl,_,_,_,hs.get 0 (j:=0) rfl rfl,?_⟩
       refine hB.rd (by omega) (by omega) (by rw[show((a:Int)+n).toNat=a+n from by omega];exact get_gD b 0 (by omega)) (br_eq (fun heq=>?_) (fun hne=>?_))
       ·rw[if_pos ⟨by omega,heq⟩] at he
        exact ih2 (n+1) (by omega) he
       ·rw[if_neg (fun h=>hne h.2)] at he
        rw[he];exact goal36
      ·rw[if_neg (fun h=>by omega)] at he
       rw[he];exact goal36
    exact inner 258 0 (by omega) rfl
   ·rw[if_neg (fun h=>hw h.2)] at hfin;exact hfin
   ·rw[if_neg (fun h=>hq0 h.1)] at hfin;exact hfin
 exact loop (a+1) p0 0 0 0 (by omega) hf0.1 (by omega) (by omega) (by omega) (by omega) hR
end
def tokC(t:Tok):List Value:=[.int .i64 (t.n:Nat),.int .i64 (t.d:Nat),.int .u8 t.c]
def tokL(l:List Tok):List Value:=l.flatMap tokC
theorem tokL_snoc(l:List Tok)(t:Tok):tokL (l++[t])=tokL l++tokC t:=by simp[tokL]
theorem tokC_one(t:Tok): ∀v∈tokC t,v.oneCell'=true:=fun v hv=>by
 simp only[tokC,List.mem_cons,List.mem_singleton,List.not_mem_nil,or_false] at hv
 rcases hv with rfl|rfl|rfl<;>rfl
theorem tokL_len(l:List Tok):(tokL l).length=l.length*3:=by
 induction l with
 |nil=>rfl
 |cons t r ih=>simp only[tokL,List.flatMap_cons,List.length_append,List.length_cons] at ih ⊢;rw[ih];simp[tokC];omega
theorem lits_tok(l:List Int)(k:Nat)(h:k<l.length):(l.map fun c=>(⟨0,0,c⟩:Tok)).take (k+1)=(l.map fun c=>(⟨0,0,c⟩:Tok)).take k++[⟨0,0,l.getD k 0⟩]:=by
 rw[List.take_add_one,List.getElem?_map,get_gD l 0 h];rfl
theorem tok_app{q:Option Addr}{n m i:Nat}{ts:List Tok}(hs:St H0 H σ)(hi:σ[i]?=some (.sl q n m 97 3 (tokL ts)))(hn:n≤1000000000)(t:Tok){K:Option Addr→Nat→Nat→Heap→Prop}
 (hK: ∀q' m' H',St H0 H' (σ.set i (.sl q' (n+1) m' 97 3 (tokL (ts++[t]))))→K q' (n+1) m' H'):
 alc H (.cells (List.toArray (tokC t)) 97) fun b9 H10=>appQ 3 24 #[.int .i64 0,.int .i64 0,.int .u8 0] H10 q n m (some ⟨b9,0,none⟩) 1 97 K:=by
 refine hs.alc fun b9 H10 hs10=>?_
 refine hs10.appC (i+1) 0 (k:=3) (by simpa using hi) rfl (by rfl) (by simpa using tokC_one t) (by decide) rfl (by omega) (by omega) fun q' m' H' hs'=>hK q' m' H' ?_
 rw[tokL_snoc]
 simp only[List.set_cons_succ] at hs'
 exact hs'.tail
theorem c44{p:Option Addr}{l c:Nat}{b:List Int}{eff:Int}(hb:IS H p l (kints .u8 b))(hr: ∀x∈b,0≤x∧x<256)(hlc:l≤c)(hl:l≤100000000)
 (hR: ∀q m H',St H H' [.sl q (lzM b eff).length m 97 3 (tokL (lzM b eff))]→R (.slice q (lzM b eff).length m) H'):CallsH Try.prog 44 #[.slice p l c,.int .i64 eff] H R:=by
 have hbl:=hb.length
 refine Try.s44 ?_
 unfold Try.S44
 have hlen:=(lz_ok hr eff).len
 unfold lzM at hR
 refine br_dec (fun h0=>?_) (fun h0=>?_)
 ·rw[if_pos h0] at hR
  intro X3 hX
  have go: ∀k,k≤l→ ∀q m H',St H H' [.sl q k m 97 3 (tokL ((b.map fun c=>(⟨0,0,c⟩:Tok)).take k))]→X3 [.slice q k m,.int .i64 (k:Nat)] H':=upto fun k hk ih q m H' hs=>by
   refine hX _ _ _ _ H' (br_dec (fun hlt=>?_) (fun hge=>?_))
   ·refine(hb.ext hs.ext).rd (by omega) (by omega) (by rw[Int.toNat_natCast];exact get_gD b 0 (by omega)) ⟨rfl,by decide,?_⟩
    refine tok_app hs (i:=0) rfl (by omega) ⟨0,0,b.getD k 0⟩ fun q' m' H2 hs2=>?_
    rw[wrap_id (by omega) (by omega)]
    refine ih (by omega) q' m' H2 ?_
    rw[lits_tok b k (by omega)]
    exact hs2
   ·have:k=l:=by omega
    subst this
    rw[List.take_of_length_le (by rw[List.length_map];omega)] at hs
    have:=hR q m H' (by rw[List.length_map,hbl];exact hs)
    rw[List.length_map,hbl] at this
    exact this
  exact go 0 (by omega) none 0 H ((St.nil H).nilSl _ 3)
 rw[if_neg h0] at hR
 intro J13 hJ13
 have main: ∀(f bf ba:Nat) (H1:Heap),St H H1 (fiO f p l c bf ba (List.replicate 4096 0) (List.replicate l 0))→J13 [.pointer (some ⟨f,0,none⟩)] H1:=fun f bf ba H1 hs1=>by
  refine hJ13 _ H1 ?_
  intro X16 hX
  unfold lzM at hlen
  rw[if_neg h0] at hlen
  generalize hall:findG b (min eff 64) (b.length+1) 0 (List.replicate 4096 0) (List.replicate b.length 0)=all at hR hlen
  have loop: ∀(g a:Nat) (F A:List Int) (ts:List Tok) (q:Option Addr) (m:Nat) (H2:Heap),l<a+g→a≤l→Chains b F A a→ts++findG b (min eff 64) g a F A=all→St H H2 (.sl q ts.length m 97 3 (tokL ts)::fiO f p l c bf ba F A)→X16 [.slice q ts.length m,.int .i64 (a:Nat)] H2:=by
   intro g
   induction g with
   |zero=>intro a F A ts q m H2 h1 h2;omega
   |succ g ih=>
    intro a F A ts q m H2 hg ha hch he hs2
    rw[findG] at he
    have htl:ts.length≤all.length:=by rw[←he,List.length_append];omega
    refine hX _ _ _ _ H2 (br_dec (fun hlt=>?_) (fun hge=>?_))
    ·rw[if_pos (by omega)] at he
     have hbest:=best_ok hch (min eff 64)
     refine c62 (σ:=[.sl q ts.length m 97 3 (tokL ts)]) (hs2.perm (by
      rw[show(Rs.sl q ts.length m 97 3 (tokL ts)::fiO f p l c bf ba F A)=[Rs.sl q ts.length m 97 3 (tokL ts)]++fiO f p l c bf ba F A from rfl]
      exact List.perm_append_comm)) hb hr hlc (by omega) ha hch (by omega) ⟨_,_,rfl,?_⟩
     generalize bestM b F A a (min eff 64)=N at*
     refine br_eq (fun hn0=>?_) (fun hn0=>?_)
     ·rw[if_pos (by omega)] at he
      refine(hb.ext hs2.ext).rd (by omega) (by omega) (by rw[Int.toNat_natCast];exact get_gD b 0 (by omega)) ⟨rfl,by decide,?_⟩
      refine tok_app hs2 (i:=0) rfl (by omega) ⟨0,0,b.getD a 0⟩ fun q' m' H3 hs3=>?_
      refine c63 (σ:=[.sl q' (ts.length+1) m' 97 3 (tokL (ts++[⟨0,0,b.getD a 0⟩]))]) (hs3.perm (by
       rw[List.set_cons_zero,show ∀r:Rs,(r::fiO f p l c bf ba F A)=[r]++fiO f p l c bf ba F A from fun _=>rfl]
       exact List.perm_append_comm)) hb hr hlc (by omega) hch fun H4 hs4=>⟨rfl,?_⟩
      rw[wrap_id (by omega) (by omega)]
      have:=ih (a+1) _ _ (ts++[⟨0,0,b.getD a 0⟩]) q' m' H4 (by omega) (by omega) hch.add (by rw[List.append_assoc];exact he) (by
       rw[List.length_append,List.length_singleton]
       exact hs4.perm List.perm_append_comm)
      rw[List.length_append,List.length_singleton] at this
      exact this
     ·rw[if_neg (by omega)] at he
      have hc:3≤N.1∧N.1≤258∧N.2≤32768∧a+N.1≤l:=by
       rcases hbest with h|h
       ·omega
       ·exact⟨h.1,h.2.1,h.2.2.2.1,by have:=h.2.2.2.2.2.1;omega⟩
      refine⟨rfl,by decide,?_⟩
      refine tok_app hs2 (i:=0) rfl (by omega) ⟨N.1,N.2,0⟩ fun q' m' H3 hs3=>?_
      intro X36 hX36
      have adds: ∀(r a':Nat) (F' A':List Int) (H4:Heap),a'+r=a+N.1→a≤a'→Chains b F' A' a'→addsM b r a' F' A'=addsM b N.1 a F A→St H H4 (fiO f p l c bf ba F' A'++[.sl q' (ts.length+1) m' 97 3 (tokL (ts++[⟨N.1,N.2,0⟩]))])→X36 [.int .i64 (a':Nat),.int .i64 ((N.1-r:Nat):Int)] H4:=by
       intro r
       induction r with
       |zero=>
        intro a' F' A' H4 hr' haa hch' had hs4
        refine hX36 _ _ H4 (br_n (by omega) ?_)
        rw[addsM] at had
        rw[←had] at he
        have:=ih a' F' A' (ts++[⟨N.1,N.2,0⟩]) q' m' H4 (by omega) (by omega) hch' (by rw[List.append_assoc,show a'=a+N.1 from by omega];exact he) (by
         rw[List.length_append,List.length_singleton]
         exact hs4.perm List.perm_append_comm)
        rw[List.length_append,List.length_singleton] at this
        exact this
       |succ r ih2=>
        intro a' F' A' H4 hr' haa hch' had hs4
        refine hX36 _ _ H4 (br_y (by omega) ?_)
        refine c63 hs4 hb hr hlc (by omega) hch' fun H5 hs5=>⟨rfl,?_⟩
        rw[wrap_id (by omega) (by omega),wrap_id (by omega) (by omega)]
        have:=ih2 (a'+1) _ _ H5 (by omega) (by omega) hch'.add had hs5
        rw[show((N.1-r:Nat):Int)=((N.1-(r+1):Nat):Int)+1 from by omega] at this
        exact this
      have:=adds N.1 a F A H3 rfl (Nat.le_refl _) hch rfl (hs3.perm (by
       rw[List.set_cons_zero,show ∀r:Rs,(r::fiO f p l c bf ba F A)=[r]++fiO f p l c bf ba F A from fun _=>rfl]
       exact List.perm_append_comm))
      rw[Nat.sub_self] at this
      exact this
    ·rw[if_neg (by omega),List.append_nil] at he
     subst he
     exact hR q m H2 (hs2.take 1)
  have:=loop (b.length+1) 0 _ _ [] none 0 H1 (by omega) (by omega) (chains_zero b) (by rw[List.nil_append];exact hall) (by rw[hbl];exact hs1.nilSl _ 3)
  exact this
 have mk: ∀(H1:Heap) (bf ba:Nat),St H H1 [.cell bf (List.toArray (reps 4096 [.int .i64 0])) 3,.cell ba (List.toArray (reps l [.int .i64 0])) 3]→alc H1 (.cells #[.slice p l c,.slice (some ⟨bf,0,none⟩) 4096 4096,.slice (some ⟨ba,0,none⟩) l l] 100) fun f H2=>J13 [.pointer (some ⟨f,0,none⟩)] H2:=fun H1 bf ba hs=>by
  rw[reps_rep,reps_rep] at hs
  have hs:=(hs.toSl 0 (l:=4096) (k:=1) rfl (by rw[List.size_toArray,List.length_replicate]) rfl (fun v hv=>by rw[(List.mem_replicate.1 hv).2];rfl)).toSl 1 (l:=l) (k:=1) rfl (by rw[List.size_toArray,List.length_replicate,Nat.mul_one]) rfl (fun v hv=>by rw[(List.mem_replicate.1 hv).2];rfl)
  refine hs.alc fun f H2 hs2=>main f bf ba H2 ?_
  simp only[List.set_cons_zero,List.set_cons_succ] at hs2
  unfold fiO
  rw[show ints (List.replicate 4096 0)=List.replicate 4096 (Value.int .i64 0) from List.map_replicate,show ints (List.replicate l 0)=List.replicate l (Value.int .i64 0) from List.map_replicate]
  exact hs2
 have i8:((8:Nat):Int)=8:=rfl
 rw[i8]
 refine⟨⟨by decide,by decide,by decide,by decide,?_⟩,⟨by omega,by omega,by omega,by omega,?_⟩⟩
 ·refine(St.nil H).alcE fun b1 H1 e1 hs1=>⟨.inl e1,by omega,by omega,by omega,by omega,hs1.alc fun b2 H2 hs2=>?_⟩
  rw[Int.toNat_natCast] at*
  exact mk H2 b1 b2 hs2.swap
 ·refine(St.nil H).alcE fun b1 H1 e1 hs1=>⟨by decide,by decide,by decide,by decide,hs1.alc fun b2 H2 hs2=>?_⟩
  rw[Int.toNat_natCast] at*
  exact mk H2 b2 b1 hs2
end Go.Proofs
namespace Go.Proofs
open Go.Sh
variable {H0 H:Heap} {σ:List Rs} {R:Value→Heap→Prop}
theorem is_till{p:Option Addr}{l c n:Nat}{fs:List Value}(h:IS H p l fs)(hn:n≤l):IS H (if c=0 then p else Option.map (fun x=>Addr.add x (0*1)) p) (n-0) (fs.take n):=by
 refine⟨by rw[List.length_take,h.len];omega,fun i v hv=>?_⟩
 rw[List.getElem?_take] at hv
 split at hv
 ·obtain⟨x,h1,h2⟩:=h.get _ _ hv
  subst h1
  split
  ·exact⟨x,rfl,h2⟩
  ·exact⟨_,rfl,by rw[add_add];simpa using h2⟩
 ·cases hv
theorem ints_drop(l:List Int)(i:Nat):(ints l).drop i=ints (l.drop i):=by simp[ints]
theorem ints_take(l:List Int)(i:Nat):(ints l).take i=ints (l.take i):=by simp[ints]
theorem c75(hR: ∀b H',St H H' [.sl (some ⟨b,0,none⟩) 19 19 3 1 (ints (ordL.map Int.ofNat))]→R (.slice (some ⟨b,0,none⟩) 19 19) H'):CallsH Try.prog 75 #[] H R:=by
 refine Try.s75 (_u:=()) ((St.nil H).alc fun b H1 hs=>hR b H1 ?_)
 exact hs.toSl 0 (l:=19) (k:=1) rfl rfl rfl (by intro v hv;revert v;decide)
theorem countP_take{l:List Int}{k:Nat}(h:k<l.length):(l.take (k+1)).countP (fun x=>decide (x>0))=(l.take k).countP (fun x=>decide (x>0))+if l.getD k 0>0 then 1 else 0:=by
 rw[take_get h,List.countP_append,List.countP_singleton];simp
theorem c94{p:Option Addr}{l c:Nat}{ls:List Int}(h:IS H p l (ints ls))(hl:l≤1000000)(hR:R (.bool (ls.countP (fun x=>decide (x>0))==1)) H):CallsH Try.prog 94 #[.slice p l c] H R:=by
 have h':IS H p l (kints .i64 ls):=h
 have e:=h'.length
 refine Try.s94 ?_
 intro X hX
 have go: ∀k,k≤l→X [.int .i64 ((ls.take k).countP (fun x=>decide (x>0)):Nat),.int .i64 (k:Nat)] H:=upto fun k hk ih=>by
  have hc:(ls.take k).countP (fun x=>decide (x>0))≤(ls.take k).length:=List.countP_le_length
  rw[List.length_take] at hc
  refine hX _ _ H (br_dec (fun hlt=>?_) (fun hge=>?_))
  ·have ih:=ih (by omega)
   rw[countP_take (by omega)] at ih
   refine h'.rd (by omega) (by omega) (by rw[Int.toNat_natCast];exact get_gD ls 0 (by omega)) ?_
   rw[wrap_id (by omega) (by omega),wrap_id (by omega) (by omega)]
   refine br_dec (fun hp=>?_) (fun hp=>?_)
   ·rw[if_pos hp] at ih;exact ih
   ·rw[if_neg hp] at ih;exact ih
  ·have:k=l:=by omega
   subst this
   rw[List.take_of_length_le (by omega)]
   have e2:(((ls.countP (fun x=>decide (x>0)):Nat):Int)==1)=(ls.countP (fun x=>decide (x>0))==1):=by
    rw[Bool.eq_iff_iff];simp;omega
   rw[e2];exact hR
 exact go 0 (by omega)
theorem rightM_ok{ls:List Int}{s n:Bool}(h:rightM ls s n=true):OkC ls:=by
 unfold rightM at h
 simp only[Bool.and_eq_true,Bool.or_eq_true,decide_eq_true_eq,List.all_eq_true,beq_iff_eq] at h
 refine⟨⟨h.1.1,h.1.2⟩,?_⟩
 rcases h.2 with (h|h)|h<;>omega
theorem rightM_of{ls:List Int}(ok:OkC ls)(s n:Bool):rightM ls s n=(wtM ls==65536||(s&&wtM ls==32768&&ls.countP (fun x=>decide (x>0))==1)||(n&&wtM ls==0)):=by
 unfold rightM
 have h1:decide (ls.length≤300)=true:=by simpa using ok.w.len
 have h2:(ls.all fun n=>decide (0≤n∧n≤16))=true:=by
  rw[List.all_eq_true];intro x hx;simpa using ok.w.rng x hx
 rw[h1,h2];simp
section
variable {f a most:Nat} {B out:List Int} {e:Int}
theorem c81(hs:St H0 H (flR f B a most out e::σ)){p:Option Addr}{l c:Nat}{ls:List Int}(h:IS H p l (ints ls))(hl:l≤1000000){s n:Bool}
 (hbad:rightM ls s n=false→ ∀H' d τ,St H0 H' (flR f B a most out (if e=0 then 21 else e)::(τ++σ))→R (.pointer d) H')
 (hgood:rightM ls s n=true→ ∀H' b P F,St H0 H' (flR f B a most out e::decR b ls P F::σ)→R (.pointer (some ⟨b,0,none⟩)) H'):
 CallsH Try.prog 81 #[.pointer (some ⟨f,0,none⟩),.slice p l c,.bool s,.bool n] H R:=by
 refine Try.s81 ?_
 unfold Try.S81
 refine newDecR h (fun hn=>⟨_,_,rfl,?_⟩) (fun ok H1 b P F hs1=>⟨_,_,rfl,?_⟩)
 ·have hf:rightM ls s n=false:=by
   cases hr:rightM ls s n with
   |false=>rfl
   |true=>exact absurd (rightM_ok hr) hn
  have fin: ∀x y,(∃r11 r12,Value.tuple #[.int .i64 x,.bool y]= .tuple #[.int .i64 r11,.bool r12]∧True):=fun x y=>⟨_,_,rfl,trivial⟩
  refine c85 h (fun _=>⟨_,_,rfl,?_⟩) (fun _=>⟨_,_,rfl,?_⟩)
  all_goals
   intro J hJ
   exact br_t rfl (c60 hs fun H2 hs2=>⟨rfl,hJ H2 (hbad hf H2 _ [] hs2)⟩)
 ·have hs1:=(hs.call hs1).swap
  have h1:=h.ext (show Ext H H1 from by
   rename_i hs0
   exact hs0.ext)
  refine c85 h1 (fun hn=>absurd ok.w hn) (fun _=>⟨_,_,rfl,?_⟩)
  intro J hJ
  have hrm:=rightM_of ok s n
  have good:rightM ls s n=true→J [] H1:=fun hr=>hJ H1 (hgood hr H1 b P F hs1)
  have bad:rightM ls s n=false→CallsH Try.prog 60 #[.pointer (some ⟨f,0,none⟩),.int .i64 21] H1 (fun r H'=>r= .tuple #[]∧J [] H'):=fun hr=>
   c60 hs1 fun H2 hs2=>⟨rfl,hJ H2 (hbad hr H2 _ [decR b ls P F] hs2)⟩
  have last:(wtM ls==65536||(s&&wtM ls==32768&&ls.countP (fun x=>decide (x>0))==1))=false→br n (br (!(wtM ls==0)) (CallsH Try.prog 60 #[.pointer (some ⟨f,0,none⟩),.int .i64 21] H1 (fun r H'=>r= .tuple #[]∧J [] H')) (J [] H1)) (CallsH Try.prog 60 #[.pointer (some ⟨f,0,none⟩),.int .i64 21] H1 (fun r H'=>r= .tuple #[]∧J [] H')):=fun hz=>by
   rw[hz,Bool.false_or] at hrm
   refine br_i (fun hn=>br_not (fun h0=>bad ?_) (fun h0=>good ?_)) (fun hn=>bad ?_)
   ·rw[hrm,hn,h0];rfl
   ·rw[hrm,hn,h0];rfl
   ·rw[hrm,hn];rfl
  refine br_f rfl (br_ne (fun hw=>?_) (fun hw=>good ?_))
  ·have e1:(wtM ls==65536)=false:=by simpa using hw
   refine br_i (fun hsg=>br_i (fun h3=>c94 h1 hl ⟨_,rfl,br_not (fun hc=>last ?_) (fun hc=>good ?_)⟩) (fun h3=>last ?_)) (fun hsg=>last ?_)
   ·rw[e1,hsg,h3,hc];rfl
   ·rw[hrm,e1,hsg,h3,hc];rfl
   ·rw[e1,hsg,h3];rfl
   ·rw[e1,hsg];rfl
  ·rw[hrm,show(wtM ls==65536)=true from by simpa using hw];rfl
end
end Go.Proofs
namespace Go.Proofs
open Go.Sh
theorem symBits_pos{ls:List Int}{s:Nat}(h:0<ls.getD s 0):1≤(symBits ls s).length:=by rw[symBits_len];omega
theorem Codes.tail{ll dl:List Int}{t:Tok}{ts:List Tok}(c:Codes ll dl (t::ts)):Codes ll dl ts:=⟨c.l,c.d,c.end_,fun u hu=>c.lit u (List.mem_cons_of_mem _ hu),fun u hu=>c.dst u (List.mem_cons_of_mem _ hu)⟩
theorem toksB_cons(ll dl:List Int)(t:Tok)(ts:List Tok):toksB ll dl (t::ts)=tokB ll dl t++toksB ll dl ts:=by simp[toksB]
theorem toksB_len{ll dl:List Int}: ∀{ts:List Tok},Codes ll dl ts→(∀t∈ts,TokR t)→ts.length+1≤(toksB ll dl ts).length
 |[],c,_=>by have:=symBits_pos c.end_;simp only[toksB,List.flatMap_nil,List.nil_append,List.length_nil];omega
 |t::ts,c,hr=>by
  have:=toksB_len c.tail fun u hu=>hr u (List.mem_cons_of_mem _ hu)
  rw[toksB_cons,List.length_append,List.length_cons]
  have h1:=c.lit t List.mem_cons_self
  have h2:1≤(tokB ll dl t).length:=by
   unfold tokB
   unfold lsym at h1
   split
   ·rename_i h0
    rw[if_pos h0] at h1
    exact symBits_pos h1
   ·rename_i h0
    rw[if_neg h0,Int.toNat_natCast] at h1
    have:=symBits_pos h1
    simp only[List.length_append];omega
  omega
theorem natpow{m n:Nat}(h:m<2^n):((m:Nat):Int)<2^n:=by rw[←pow_cast];exact Int.ofNat_lt.2 h
theorem toks_has {B : List Int} {most : Nat} {ll dl : List Int} : ∀ (ts : List Tok) (out b : List Int) (f a : Nat), Runs out ts b → Codes ll dl ts → Has B a (toksB ll dl ts) → out.length ≤ most → ts.length < f →
    symsM B most ll dl f a out = if b.length ≤ most then .ok (a + (toksB ll dl ts).length, b) else .error 24
  | [], out, b, f, a, hr, c, h, ho, hf => by
    obtain ⟨f, rfl⟩ : ∃ g, f = g + 1 := ⟨f - 1, by omega⟩
    cases hr
    rw [if_pos ho, symsM]
    have h' : Has B a (symBits ll 256) := h
    rw [symM_has c.l c.end_ h']
    simp [toksB, symBits_len]
  | t :: ts, out, b, f, a, hr, c, h, ho, hf => by
    obtain ⟨f, rfl⟩ : ∃ g, f = g + 1 := ⟨f - 1, by simp at hf; omega⟩
    have hlen := hr.2.len
    rw [expT_len] at hlen
    rw [toksB_cons] at h ⊢
    obtain ⟨h1, h2⟩ := h.app
    have hlit := c.lit t List.mem_cons_self
    have ih := toks_has (B := B) (most := most) ts (expT out t) b f (a + (tokB ll dl t).length) hr.2 c.tail h2
    rw [expT_len] at ih
    rw [symsM, List.length_append, ← Nat.add_assoc]
    rcases hr.1 with ⟨n0, d0, c0, c1⟩ | ⟨n3, n258, d1, d2, d3, hc0⟩
    · have etok : tokB ll dl t = symBits ll t.c.toNat := by unfold tokB; rw [if_pos n0]
      have eexp : expT out t = out ++ [((t.c.toNat : Nat) : Int)] := by unfold expT; rw [if_pos n0, Int.toNat_of_nonneg c0]
      unfold lsym at hlit
      rw [if_pos n0] at hlit
      rw [etok] at h1 ih ⊢
      rw [eexp] at ih
      rw [symM_has c.l hlit h1]
      simp only
      rw [if_neg (by omega), if_neg (by omega)]
      rw [symBits_len] at ih ⊢
      by_cases hm : (out.length : Int) ≥ most
      · rw [if_pos hm, if_neg (by omega)]
      · rw [if_neg hm]
        exact ih (by omega) (by simp at hf; omega)
    · have hn0 : t.n ≠ 0 := by omega
      obtain ⟨s1, s2, s3, s4⟩ := lenS_ok ⟨n3, n258⟩
      obtain ⟨q1, q2, q3⟩ := dstS_ok ⟨d1, d2⟩
      have hdst := c.dst t List.mem_cons_self hn0
      have etok : tokB ll dl t = symBits ll (lenS t.n) ++ bitsOf false ((t.n - (lenB (lenS t.n)).1 : Nat) : Int) (lenB (lenS t.n)).2 ++ symBits dl (dstS t.d) ++ bitsOf false ((t.d - (dstB (dstS t.d)).1 : Nat) : Int) (dstB (dstS t.d)).2 := by unfold tokB; rw [if_neg hn0]
      have eexp : expT out t = copyM t.d t.n out := by unfold expT; rw [if_neg hn0]
      unfold lsym at hlit
      rw [if_neg hn0, Int.toNat_natCast] at hlit
      rw [eexp] at ih
      have hlt : (tokB ll dl t).length = (ll.getD (lenS t.n) 0).toNat + (lenB (lenS t.n)).2 + (dl.getD (dstS t.d) 0).toNat + (dstB (dstS t.d)).2 := by
        rw [etok]; simp only [List.length_append, symBits_len, bitsOf_len]
      rw [etok] at h1
      obtain ⟨h1, g4⟩ := h1.app
      obtain ⟨h1, g3⟩ := h1.app
      obtain ⟨g1, g2⟩ := h1.app
      simp only [List.length_append, symBits_len, bitsOf_len] at g2 g3 g4
      rw [symM_has c.l hlit g1]
      simp only
      rw [if_neg (by omega), if_pos (by omega)]
      unfold copiesM
      rw [if_neg (by omega), getM_has g2 (by omega) (natpow s4)]
      simp only
      rw [show a + (ll.getD (lenS t.n) 0).toNat + (lenB (lenS t.n)).2 = a + ((ll.getD (lenS t.n) 0).toNat + (lenB (lenS t.n)).2) from by omega, symM_has c.d hdst g3]
      simp only
      rw [if_neg (by omega)]
      rw [show a + ((ll.getD (lenS t.n) 0).toNat + (lenB (lenS t.n)).2) + (dl.getD (dstS t.d) 0).toNat = a + ((ll.getD (lenS t.n) 0).toNat + (lenB (lenS t.n)).2 + (dl.getD (dstS t.d) 0).toNat) from by omega, getM_has g4 (by omega) (natpow q3)]
      simp only
      rw [if_neg (by omega), Int.toNat_natCast, Int.toNat_natCast]
      rw [show (dstB (dstS t.d)).1 + (t.d - (dstB (dstS t.d)).1) = t.d from by omega, show (lenB (lenS t.n)).1 + (t.n - (lenB (lenS t.n)).1) = t.n from by omega]
      by_cases hm : ((lenB (lenS t.n)).1 : Int) + ((t.n - (lenB (lenS t.n)).1 : Nat) : Int) > (most : Int) - out.length
      · rw [if_pos hm, if_neg (by omega)]
      · rw [if_neg hm]
        simp only
        have := ih (by omega) (by simp at hf; omega)
        rw [hlt] at this ⊢
        rw [show a + ((ll.getD (lenS t.n) 0).toNat + (lenB (lenS t.n)).2 + (dl.getD (dstS t.d) 0).toNat) + (dstB (dstS t.d)).2 = a + ((ll.getD (lenS t.n) 0).toNat + (lenB (lenS t.n)).2 + (dl.getD (dstS t.d) 0).toNat + (dstB (dstS t.d)).2) from by omega]
        exact this
theorem first_has{B first:List Int}(hr: ∀x∈first,0≤x∧x<8): ∀(l:List Nat) (a:Nat) (fs:List Int),Has B a (l.flatMap fun s=>bitsOf false (first.getD s 0) 3)→firstM B l a fs= .ok (a+3*l.length,l.foldl (fun fs s=>fs.set s (first.getD s 0)) fs)
 |[],a,fs,h=>rfl
 |s::l,a,fs,h=>by
  rw[List.flatMap_cons] at h
  obtain⟨h1,h2⟩:=h.app
  rw[bitsOf_len] at h2
  have hv:0≤first.getD s 0∧first.getD s 0<8:=by
   rcases getD_mem_or (l:=first) s with h|h
   ·exact hr _ h
   ·omega
  rw[firstM,getM_has h1 hv.1 (by
   have:(2:Int)^3=8:=by decide
   omega)]
  simp only
  rw[first_has hr l _ _ h2,List.length_cons,List.foldl_cons]
  congr 2;omega
theorem ord_fill{first:List Int}(h:first.length=19):ordL.foldl (fun fs s=>fs.set s (first.getD s 0)) (List.replicate 19 0)=first:=by
 match first,h with
 |[x0,x1,x2,x3,x4,x5,x6,x7,x8,x9,x10,x11,x12,x13,x14,x15,x16,x17,x18],_=>simp[ordL,List.replicate]
theorem list_has {B first : List Int} (ok : OkC first) : ∀ (rest ls : List Int) (a f total : Nat), Has B a (rest.flatMap fun n => symBits first n.toNat) → (∀ n ∈ rest, 0 ≤ n ∧ n ≤ 15 ∧ 0 < first.getD n.toNat 0) → ls.length + rest.length = total → rest.length < f →
    listM B first total f a ls = .ok (a + (rest.flatMap fun n => symBits first n.toNat).length, ls ++ rest)
  | [], ls, a, f, total, h, hr, ht, hf => by
    obtain ⟨f, rfl⟩ : ∃ g, f = g + 1 := ⟨f - 1, by simp at hf; omega⟩
    rw [listM, if_pos (by simp at ht; omega)]
    simp
  | n :: rest, ls, a, f, total, h, hr, ht, hf => by
    obtain ⟨f, rfl⟩ : ∃ g, f = g + 1 := ⟨f - 1, by simp at hf; omega⟩
    rw [List.flatMap_cons] at h
    obtain ⟨h1, h2⟩ := h.app
    have hn := hr n List.mem_cons_self
    rw [List.length_cons] at ht hf
    rw [listM, if_neg (by omega), symM_has ok hn.2.2 h1]
    simp only
    rw [if_neg (by omega), if_neg (by omega), if_neg (by omega), Int.toNat_of_nonneg hn.1]
    rw [symBits_len] at h2
    rw [list_has ok rest (ls ++ [n]) _ f total h2 (fun m hm => hr m (List.mem_cons_of_mem _ hm)) (by rw [List.length_append, List.length_singleton]; omega) (by omega)]
    rw [List.flatMap_cons, List.length_append, symBits_len, List.append_assoc]
    congr 2; omega
theorem rightM_whole{ls:List Int}{cs:List Int}{m:Nat}(w:Whole ls cs m)(s n:Bool):rightM ls s n=true:=by
 rw[rightM_of w.ok,w.wt];rfl
theorem flat_len_ge{first:List Int}: ∀{l:List Int},(∀n∈l,0<first.getD n.toNat 0)→l.length≤(l.flatMap fun n=>symBits first n.toNat).length
 |[],_=>by simp
 |n::l,h=>by
  rw[List.flatMap_cons,List.length_append,List.length_cons]
  have h1:=symBits_pos (h n List.mem_cons_self)
  have:=flat_len_ge (l:=l) fun m hm=>h m (List.mem_cons_of_mem _ hm)
  omega
theorem tables_has{B:List Int}{ts:List Tok}(dy:Dyn ts){a:Nat}(h:Has B a (bitsOf false 29 5++bitsOf false 29 5++bitsOf false 15 4++ordL.flatMap (fun s=>bitsOf false ((hdrL ts).getD s 0) 3)++(litL ts++dstL ts).flatMap (fun n=>symBits (hdrL ts) n.toNat))):
 tablesM B a= .ok (a+71+((litL ts++dstL ts).flatMap (fun n=>symBits (hdrL ts) n.toNat)).length,litL ts,dstL ts):=by
 have hB:=h.1
 obtain⟨h,h5⟩:=h.app
 obtain⟨h,h4⟩:=h.app
 obtain⟨h,h3⟩:=h.app
 obtain⟨h1,h2⟩:=h.app
 have eo:(ordL.flatMap (fun s=>bitsOf false ((hdrL ts).getD s 0) 3)).length=57:=by simp[ordL,bitsOf_len]
 simp only[List.length_append,bitsOf_len,eo] at h2 h3 h4 h5 hB
 have hr8: ∀x∈hdrL ts,0≤x∧x<8:=fun x hx=>by have:=dy.h.rng x hx;omega
 have hge:=flat_len_ge (l:=litL ts++dstL ts) (first:=hdrL ts) fun n hn=>(dy.all n hn).2.2
 rw[List.length_append,dy.ll,dy.dl] at hge
 unfold tablesM
 rw[getM_has h1 (by omega) (by decide)]
 simp only
 rw[getM_has h2 (by omega) (by decide)]
 simp only
 rw[show a+5+5=a+(5+5) from by omega,getM_has h3 (by omega) (by decide)]
 simp only
 rw[if_neg (by omega),show ordL.take (Int.toNat 15+4)=ordL from rfl,show a+(5+5)+4=a+(5+5+4) from by omega,first_has hr8 _ _ _ h4]
 simp only
 rw[ord_fill dy.hl,rightM_whole dy.h]
 simp only[Bool.true_eq_false,if_false]
 rw[show a+(5+5+4)+3*ordL.length=a+(5+5+4+57) from rfl,list_has dy.h.ok (litL ts++dstL ts) [] _ _ (Int.toNat 29+Int.toNat 29+258) h5 dy.all (by rw[List.length_append,dy.ll,dy.dl];rfl) (by rw[List.length_append,dy.ll,dy.dl];omega)]
 simp only[List.nil_append]
 rw[show Int.toNat 29+257=(litL ts).length from by rw[dy.ll];rfl,List.take_left,List.drop_left,rightM_whole dy.l,rightM_whole dy.d]
 simp only[Bool.true_eq_false,or_self,if_false]
theorem stored_big{B ws p out:List Int}{last v:Int}{most:Nat}(h:Has B 0 (partW ws last v p))(hp: ∀x∈p,0≤x∧x<256)(hl:p.length≤65535)(hl01:last=0∨last=1):
 getM B 1 ws.length= .ok (last,ws.length+1)∧getM B 2 (ws.length+1)= .ok (0,ws.length+3)∧storedM B most (ws.length+3) out=if out.length+p.length≤most then .ok ((partW ws last v p).length,out++p) else .error 24:=by
 by_cases hm:out.length+p.length≤most
 ·rw[if_pos hm];exact stored_has h hp hl hl01 hm
 obtain⟨g1,g2,_⟩:=stored_has h hp hl hl01 (out:=out) (most:=out.length+p.length) (Nat.le_refl _)
 refine⟨g1,g2,?_⟩
 rw[if_neg hm]
 unfold partW fillM at h
 simp only[List.append_assoc] at h
 obtain⟨_,h⟩:=h.app
 obtain⟨h1,h⟩:=h.app
 obtain⟨h2,h⟩:=h.app
 obtain⟨_,h⟩:=h.app
 obtain⟨h3,h⟩:=h.app
 obtain⟨h4,h5⟩:=h.app
 simp only[bitsOf_len,List.length_append,List.length_replicate,Nat.zero_add] at h1 h2 h3 h4 h5
 have e16:(2:Int)^16=65536:=by decide
 have ea:(ws.length+3+7)/8*8=(ws.length+10)/8*8:=by omega
 have eb:ws.length+1+2+(8-(ws.length+(1+2))%8)%8=(ws.length+10)/8*8:=by omega
 rw[eb] at h3 h4 h5
 unfold storedM
 rw[ea,getM_has h3 (by omega) (by omega)]
 simp only
 rw[getM_has h4 (by omega) (by omega)]
 simp only
 rw[if_neg (by simp),if_pos (by omega)]
theorem storW_pre: ∀(f:Nat) (ws b:List Int),∃t,storW f ws b=ws++t
 |0,ws,b=>⟨[],by simp[storW]⟩
 |f+1,ws,b=>by
  rw[storW]
  split
  ·exact⟨_,by simp only[partW,fillM,List.append_assoc];rfl⟩
  ·obtain⟨t,h⟩:=storW_pre f (partW ws 0 0 (b.take 65535)) (b.drop 65535)
   exact⟨_,by rw[h];simp only[partW,fillM,List.append_assoc];rfl⟩
theorem storW_len: ∀(f:Nat) (ws b:List Int),b.length<f→ws.length%8=0→(storW f ws b).length%8=0∧(storW f ws b).length≤ws.length+8*b.length+40*(b.length/65535+1)∧ws.length+8*b.length+40≤(storW f ws b).length
 |0,ws,b,h,_=>by omega
 |f+1,ws,b,h,h8=>by
  rw[storW]
  split
  ·rw[partW_len];omega
  ·have hd:(b.drop 65535).length=b.length-65535:=List.length_drop
   have ht:(b.take 65535).length=65535:=by rw[List.length_take];omega
   have hp:=partW_len ws 0 0 (b.take 65535)
   rw[ht] at hp
   obtain⟨h1,h2,h3⟩:=storW_len f (partW ws 0 0 (b.take 65535)) (b.drop 65535) (by omega) (by omega)
   rw[hd] at h2 h3
   have:b.length/65535=(b.length-65535)/65535+1:=by omega
   omega
theorem blocks_stor {T : TabT} {B : List Int} {most : Nat} : ∀ (f : Nat) (ws out b : List Int) (g : Nat), b.length < f → b.length < g → Has B 0 (storW f ws b) → (∀ x ∈ b, 0 ≤ x ∧ x < 256) → out.length ≤ most →
    blocksM T B most g ws.length out = if out.length + b.length ≤ most then .ok ((storW f ws b).length, out ++ b) else .error 24
  | 0, ws, out, b, g, hf, _, _, _, _ => by omega
  | f + 1, ws, out, b, g, hf, hg, h, hr, hm => by
    obtain ⟨g, rfl⟩ : ∃ k, g = k + 1 := ⟨g - 1, by omega⟩
    rw [storW] at h ⊢
    by_cases h65 : b.length ≤ 65535
    · rw [if_pos h65] at h ⊢
      obtain ⟨h1, h2, h3⟩ := stored_big h hr h65 (.inr rfl) (out := out) (most := most)
      rw [blocksM, h1]; simp only
      rw [h2]; simp only
      simp only [if_true]
      rw [h3]
      by_cases hm2 : out.length + b.length ≤ most
      · rw [if_pos hm2]
      · rw [if_neg hm2]
    · rw [if_neg h65] at h ⊢
      have hd : (b.drop 65535).length = b.length - 65535 := List.length_drop
      have ht : (b.take 65535).length = 65535 := by rw [List.length_take]; omega
      obtain ⟨t, hpre⟩ := storW_pre f (partW ws 0 0 (b.take 65535)) (b.drop 65535)
      have h' : Has B 0 (partW ws 0 0 (b.take 65535)) := by rw [hpre] at h; exact h.app.1
      obtain ⟨h1, h2, h3⟩ := stored_big h' (fun x hx => hr x (List.mem_of_mem_take hx)) (by omega) (.inl rfl) (out := out) (most := most)
      rw [blocksM, h1]; simp only
      rw [h2]; simp only
      simp only [if_true]
      rw [h3, ht]
      by_cases hle : out.length + 65535 ≤ most
      · rw [if_pos hle]
        simp only
        rw [if_neg (by decide)]
        have ih := blocks_stor (T := T) (B := B) (most := most) f (partW ws 0 0 (b.take 65535)) (out ++ b.take 65535) (b.drop 65535) g (by omega) (by omega) h (fun x hx => hr x (List.mem_of_mem_drop hx)) (by rw [List.length_append, ht]; exact hle)
        rw [ih, List.length_append, ht, hd, List.append_assoc, List.take_append_drop]
        by_cases hm2 : out.length + b.length ≤ most
        · rw [if_pos hm2, if_pos (by omega)]
        · rw [if_neg hm2, if_neg (by omega)]
      · rw [if_neg hle, if_neg (by omega)]
theorem fix_codes{ts:List Tok}(h: ∀t∈ts,TokR t):Codes fixL fixD ts:=
 ⟨fixL_ok,fixD_ok,by decide+kernel,fun t ht=>by
  have:=lsym_rng (h t ht)
  exact fixL_pos (by omega),fun t ht hn=>by
  rcases h t ht with h|h
  ·exact absurd h.1 hn
  ·have:=dstS_ok ⟨h.2.2.1,h.2.2.2.1⟩
   rw[fixD_get ⟨dstS t.d,by omega⟩];decide⟩
theorem max_nat(n:Nat):max ((n:Nat):Int) 0=(n:Int):=by omega
theorem infl_best{B b:List Int}{ts:List Tok}(hr:Runs [] ts b)(hl:ts.length≤1000000000){most:Nat}(h:Has B 0 (bestB ts)):inflM tablesM B most=if b.length≤most then .ok (b,nby (bestB ts)) else .error 24:=by
 have hB:=h.1
 unfold inflM
 rw[max_nat]
 unfold bestB at h hB ⊢
 by_cases hc:20<ts.length∧nby (dynB ts 1)<nby (fixB ts)
 ·rw[if_pos hc] at h hB
  rw[if_pos hc]
  have dy:=dyn_of hr.r hl
  unfold dynB at h hB ⊢
  have hlen:=toksB_len dy.c hr.r
  rw[show ∀x1 x2 x3 x4 x5 x6 x7 x8:List Int,x1++x2++x3++x4++x5++x6++x7++x8=x1++(x2++((x3++x4++x5++x6++x7)++x8)) from fun _ _ _ _ _ _ _ _=>by simp only[List.append_assoc]] at h
  obtain⟨h1,h⟩:=h.app
  obtain⟨h2,h⟩:=h.app
  obtain⟨h3,h4⟩:=h.app
  have eo:(ordL.flatMap (fun s=>bitsOf false ((hdrL ts).getD s 0) 3)).length=57:=by simp[ordL,bitsOf_len]
  simp only[List.length_append,bitsOf_len,eo,Nat.zero_add] at h2 h3 h4 hB
  rw[blocksM,getM_has h1 (by omega) (by decide)]
  simp only
  rw[Nat.zero_add,getM_has h2 (by omega) (by decide)]
  simp only
  rw[if_neg (by decide),if_neg (by decide),if_pos (by decide),tables_has dy h3]
  simp only
  unfold symbolsM
  rw[show 1+2+71=1+2+(5+5+4+57) from rfl,Nat.add_assoc (1+2)]
  rw[toks_has ts [] b _ _ hr dy.c h4 (Nat.zero_le _) (by omega)]
  by_cases hm2:b.length≤most
  ·rw[if_pos hm2,if_pos hm2]
   simp only[if_true]
   unfold nby
   simp only[List.length_append,bitsOf_len,eo]
   congr 2;omega
  ·rw[if_neg hm2,if_neg hm2]
 ·rw[if_neg hc] at h hB
  rw[if_neg hc]
  have fc:=fix_codes hr.r
  unfold fixB at h hB ⊢
  have hlen:=toksB_len fc hr.r
  rw[show bitsOf false 3 3=bitsOf false 1 1++bitsOf false 1 2 from by decide+kernel,List.append_assoc] at h
  obtain⟨h1,h⟩:=h.app
  obtain⟨h2,h4⟩:=h.app
  simp only[bitsOf_len,Nat.zero_add] at h2 h4
  simp only[List.length_append,bitsOf_len,Nat.zero_add] at hB
  rw[blocksM,getM_has h1 (by omega) (by decide)]
  simp only
  rw[Nat.zero_add,getM_has h2 (by omega) (by decide)]
  simp only
  rw[if_neg (by decide),if_pos (by decide)]
  unfold symbolsM
  rw[toks_has ts [] b _ _ hr fc h4 (Nat.zero_le _) (by omega)]
  by_cases hm2:b.length≤most
  ·rw[if_pos hm2,if_pos hm2]
   simp only[if_true]
   unfold nby
   simp only[List.length_append,bitsOf_len]
  ·rw[if_neg hm2,if_neg hm2]
theorem infl_def{B b:List Int}{eff:Int}(hb: ∀x∈b,0≤x∧x<256)(hl:b.length≤1000000000){most:Nat}(h:Has B 0 (defB b eff)):inflM tablesM B most=if b.length≤most then .ok (b,nby (defB b eff)) else .error 24:=by
 have hr:=lz_ok hb eff
 have hlen:=hr.len
 rw[List.length_nil] at hlen
 unfold defB at h ⊢
 by_cases hc:nby (storB b)<nby (bestB (lzM b eff))
 ·rw[if_pos hc] at h
  rw[if_pos hc]
  have h0:=storW_len (b.length+1) [] b (by omega) rfl
  have hB:=h.1
  unfold storB at hB
  rw[List.length_nil] at h0
  unfold inflM
  rw[max_nat]
  have:=blocks_stor (T:=tablesM) (B:=B) (most:=most) (b.length+1) [] [] b (8*B.length+1) (by omega) (by omega) h hb (Nat.zero_le _)
  rw[List.length_nil,Nat.zero_add,List.nil_append] at this
  rw[this]
  by_cases hm2:b.length≤most
  ·rw[if_pos hm2,if_pos hm2];rfl
  ·rw[if_neg hm2,if_neg hm2]
 ·rw[if_neg hc] at h
  rw[if_neg hc]
  exact infl_best hr (by omega) h
theorem nby_def(b:List Int)(eff:Int):nby (defB b eff)≤b.length+5*(b.length/65535+1)∧0<nby (defB b eff):=by
 have h0:=storW_len (b.length+1) [] b (by omega) rfl
 rw[List.length_nil] at h0
 have h1:nby (storB b)≤b.length+5*(b.length/65535+1):=by unfold nby storB;omega
 have h2:0<nby (storB b):=by unfold nby storB;omega
 unfold defB
 by_cases hc:nby (storB b)<nby (bestB (lzM b eff))
 ·rw[if_pos hc];exact⟨h1,h2⟩
 ·rw[if_neg hc]
  refine⟨by omega,?_⟩
  unfold bestB
  by_cases hc2:20<(lzM b eff).length∧nby (dynB (lzM b eff) 1)<nby (fixB (lzM b eff))
  all_goals first|rw[if_pos hc2]|rw[if_neg hc2]
  ·unfold nby dynB;simp only[List.length_append,bitsOf_len];omega
  ·unfold nby fixB;simp only[List.length_append,bitsOf_len];omega
end Go.Proofs
namespace Go.Sh
variable {H0 H H':Heap} {σ τ:List Rs}
def Rs.pers(Q:Heap→Prop):Rs where
 at_ H fp:=(∀b∈fp,b<H.size)∧ ∀H',(∀b∈fp,∀o,H[b]?=some o→H'[b]?=some o)→Q H'
 loc:=fun{H H' fp} h hk=>⟨fun b hb=>by
  have hlt:=h.1 b hb
  exact lt_of_get (hk b hb _ (Array.getElem?_eq_getElem hlt)),fun H'' hk2=>h.2 H'' fun b hb o ho=>hk2 b hb o (hk b hb o ho)⟩
 has h:=h.1
theorem St.persGet(hs:St H0 H σ)(i:Nat){Q:Heap→Prop}(hi:σ[i]?=some (.pers Q)):Q H:=by
 obtain⟨_,fps,hl,_⟩:=hs
 obtain⟨fp,_,h⟩:=hl.get hi
 exact h.2 H fun b _ o ho=>ho
theorem Ext.empty(H:Heap):Ext #[] H:=fun b o h=>by simp at h
theorem St.persOf{Q:Heap→Prop}(hs:St H0 H (τ++σ))(hq: ∀H',St #[] H' τ→Q H'):St H0 H (.pers Q::σ):=by
 obtain⟨he,fps,hl,hn,hb⟩:=hs
 obtain⟨a,b,rfl,h1,h2⟩:=hl.split
 have hna:a.flatten.Nodup:=by rw[List.flatten_append,List.nodup_append] at hn;exact hn.1
 refine⟨he,a.flatten::b,⟨⟨h1.has,fun H' hk=>hq H' ⟨Ext.empty H',a,h1.loc hk,hna,fun x _=>Nat.zero_le x⟩⟩,h2⟩,by simpa using hn,fun x hx=>hb x (by simpa using hx)⟩
end Go.Sh
namespace Go.Proofs
open Go.Sh
variable {H0 H:Heap} {σ:List Rs} {R:Value→Heap→Prop}
theorem put_ok(hs:St H0 H σ){i b:Nat}{hi:Bool}{ws:List Int}(hi':σ[i]?=some (wrR b hi ws)){v:Int}{n:Nat}(hn:n≤24)(v0:0≤v)(v1:v<2^n)(hl:ws.length+n≤1000000000)
 (hR: ∀H',St H0 H' (σ.set i (wrR b hi (ws++bitsOf hi v n)))→R (.bool true) H'):CallsH Try.prog 46 #[.pointer (some ⟨b,0,none⟩),.int .i64 v,.int .i64 (n:Nat)] H R:=
 c46 hs hi' (by rw[Int.toNat_natCast];exact hl) (fun h=>absurd ⟨Int.natCast_nonneg n,by omega,v0,by rw[Int.toNat_natCast];exact v1⟩ h) (fun _ H' hs'=>hR H' (by rw[Int.toNat_natCast] at hs';exact hs'))
theorem setget_ne{i j:Nat}(h:i≠j)(r:Rs){x:Rs}(hj:σ[j]?=some x):(σ.set i r)[j]?=some x:=by rw[List.getElem?_set_ne h];exact hj
theorem c65(hs:St H0 H σ){i b:Nat}{ws:List Int}(hi:σ[i]?=some (wrR b false ws)){code n:Int}(hn:0≤n∧n≤16)(hl:ws.length+16≤1000000000)
 (hR: ∀H',St H0 H' (σ.set i (wrR b false (ws++bitsOf true code n.toNat)))→R (.tuple #[]) H'):CallsH Try.prog 65 #[.agg #[.pointer (some ⟨b,0,none⟩)],.int .i64 code,.int .i64 n] H R:=by
 obtain⟨m,rfl⟩:=Int.eq_ofNat_of_zero_le hn.1
 rw[Int.toNat_natCast] at hR
 refine Try.s65 ?_
 unfold Try.S65
 refine hs.alc fun b4 H5 hs5=>?_
 intro X6 hX
 have go: ∀k,k≤m→ ∀H1,St H0 H1 (.cell b4 #[.pointer (some ⟨b,0,none⟩)] 72::σ.set i (wrR b false (ws++(bitsOf true code m).take k)))→X6 [.int .i64 ((m:Int)-1-k)] H1:=upto fun k hk ih H1 hs1=>by
  refine hX _ H1 (br_dec (fun hge=>?_) (fun hlt=>?_))
  ·have hk':k<m:=by omega
   refine⟨_,hs1.get 0 (j:=0) rfl rfl,by omega,?_⟩
   rw[show(m:Int)-1-k=((m-1-k:Nat):Int) from by omega,shr_of _ (by omega),andI_1]
   refine put_ok hs1 (i:=i+1) (n:=1) (by rw[List.getElem?_cons_succ];exact setget hi _) (by omega) (by omega) (by omega) (by rw[List.length_append,List.length_take,bitsOf_len];omega) fun H2 hs2=>⟨_,rfl,?_⟩
   rw[wrap_id (by omega) (by omega),show((m-1-k:Nat):Int)-1=(m:Int)-1-((k+1:Nat):Int) from by omega]
   refine ih hk' H2 ?_
   rw[List.set_cons_succ,setset] at hs2
   have e:(bitsOf true code m).take (k+1)=(bitsOf true code m).take k++bitsOf false (code/2^(m-1-k)%2) 1:=by
    rw[List.take_add_one]
    congr 1
    simp[bitsOf,hk']
   rw[e,←List.append_assoc];exact hs2
  ·have:k=m:=by omega
   subst this
   rw[List.take_of_length_le (by rw[bitsOf_len];omega)] at hs1
   exact hR H1 hs1.tail
 have h0:=go 0 (by omega) H5 (by
  rw[List.take_zero,List.append_nil]
  obtain⟨h1,h2⟩:=List.getElem?_eq_some_iff.1 hi
  rw[←h2,List.set_getElem_self];exact hs5)
 rw[wrap_id (by omega) (by omega)]
 rw[show(m:Int)-1-((0:Nat):Int)=(m:Int)-1 from by omega] at h0
 exact h0
theorem fndM_hit{base:Nat→Nat×Nat}{v s:Nat}(h:(base s).1≤v):fndM base v s=s:=by
 cases s with
 |zero=>rfl
 |succ s=>rw[fndM,if_pos h]
theorem c67{g:Nat}{base:Nat→Nat×Nat}{v fr to_:Nat}(hg: ∀(s:Nat) (H:Heap) (R:Value→Heap→Prop),fr≤s→s≤to_→R (.tuple #[.int .i64 ((base s).1:Nat),.int .i64 ((base s).2:Nat)]) H→CallsH Try.prog g #[.int .i64 (s:Nat)] H R)
 (hv:(base fr).1≤v)(hft:fr≤to_)(hto:to_≤1000)(hvb:v≤100000000)(hR:R (.tuple #[.int .i64 (fndM base v to_:Nat),.int .i64 ((v-(base (fndM base v to_)).1:Nat):Int),.int .i64 ((base (fndM base v to_)).2:Nat)]) H):
 CallsH Try.prog 67 #[.int .i64 (v:Nat),.int .i64 (fr:Nat),.int .i64 (to_:Nat),.func (.func g) #[] #[]] H R:=by
 refine Try.s67 ?_
 unfold Try.S67
 intro X hX
 have go: ∀d s,s=fr+d→s≤to_→fndM base v s=fndM base v to_→X [.int .i64 (s:Nat)] H:=by
  intro d
  induction d with
  |zero=>
   intro s hs hst he
   refine hX _ H (hg s H _ (by omega) hst ⟨_,_,rfl,?_⟩)
   have hb:(base s).1≤v:=by rw[hs];exact hv
   rw[fndM_hit hb] at he
   rw[←he] at hR
   refine br_y (by omega) (br_y (by omega) ?_)
   rw[wrap_id (by omega) (by omega),show(v:Int)-((base s).1:Nat)=((v-(base s).1:Nat):Int) from by omega]
   exact hR
  |succ d ih=>
   intro s hs hst he
   refine hX _ H (hg s H _ (by omega) hst ⟨_,_,rfl,?_⟩)
   refine br_dec (fun hb=>br_y (by omega) ?_) (fun hb=>?_)
   ·rw[fndM_hit (by omega)] at he
    rw[←he] at hR
    rw[wrap_id (by omega) (by omega),show(v:Int)-((base s).1:Nat)=((v-(base s).1:Nat):Int) from by omega]
    exact hR
   ·rw[wrap_id (by omega) (by omega),show(s:Int)-1=((fr+d:Nat):Int) from by omega]
    refine ih (fr+d) rfl (by omega) ?_
    rw[←he,hs,show fr+(d+1)=(fr+d)+1 from rfl,fndM,if_neg (by rw[show fr+d+1=s from by omega];omega)]
 exact go (to_-fr) to_ (by omega) (Nat.le_refl _) rfl
theorem c66{n:Nat}(h:3≤n∧n≤258)(hR:R (.tuple #[.int .i64 (lenS n:Nat),.int .i64 ((n-(lenB (lenS n)).1:Nat):Int),.int .i64 ((lenB (lenS n)).2:Nat)]) H):CallsH Try.prog 66 #[.int .i64 (n:Nat)] H R:=by
 refine Try.s66 (br_eq (fun h8=>?_) (fun h8=>?_))
 ·have:n=258:=by omega
  subst this
  exact hR
 ·unfold lenS at hR
  rw[if_neg (by omega)] at hR
  exact c67 (g:=84) (base:=lenB) (fr:=257) (to_:=284) (fun s H R h1 h2 hr=>c84 ⟨h1,by omega⟩ hr) (by show 3≤n;omega) (by omega) (by omega) (by omega) ⟨_,_,_,rfl,hR⟩
theorem find_dst{d:Nat}(h:1≤d∧d≤32768)(hR:R (.tuple #[.int .i64 (dstS d:Nat),.int .i64 ((d-(dstB (dstS d)).1:Nat):Int),.int .i64 ((dstB (dstS d)).2:Nat)]) H):
 CallsH Try.prog 67 #[.int .i64 (d:Nat),.int .i64 (0:Int),.int .i64 (29:Int),.func (.func 68) #[] #[]] H R:=
 c67 (g:=68) (base:=dstB) (fr:=0) (to_:=29) (fun s H R h1 h2 hr=>c68 h2 hr) (by show 1≤d;exact h.1) (by omega) (by omega) (by omega) hR
structure SetI(p1 p2 p3 p4:Option Addr)(ll dl:List Int)(H:Heap):Prop where
 l1:IS H p1 ll.length (kints .i64 ll)
 l2:IS H p2 dl.length (kints .i64 dl)
 l3:IS H p3 ll.length (kints .i64 (codesM ll))
 l4:IS H p4 dl.length (kints .i64 (codesM dl))
theorem c48{p1 p2:Option Addr}{c1 c2:Nat}{ll dl:List Int}(h1:IS H p1 ll.length (ints ll))(h2:IS H p2 dl.length (ints dl))(okl:OkC ll)(okd:OkC dl)
 (hR: ∀q3 q4 H',St H H' [.sl q4 dl.length dl.length 3 1 (ints (codesM dl)),.sl q3 ll.length ll.length 3 1 (ints (codesM ll))]→R (.agg #[.slice p1 ll.length c1,.slice p2 dl.length c2,.slice q3 ll.length ll.length,.slice q4 dl.length dl.length]) H'):
 CallsH Try.prog 48 #[.slice p1 ll.length c1,.slice p2 dl.length c2] H R:=by
 refine Try.s48 ?_
 unfold Try.S48
 refine(St.nil H).alc fun b3 H4 hs4=>?_
 refine c69 (h1.ext hs4.ext) (fun hn=>absurd okl hn) fun _ H6 b5 f5 e5=>⟨_,_,_,_,rfl,?_⟩
 have hs6:=hs4.newSl e5 f5
 refine c69 (h2.ext hs6.ext) (fun hn=>absurd okd hn) fun _ H10 b9 f9 e9=>⟨_,_,_,_,rfl,rfl,?_⟩
 have hs10:=hs6.newSl e9 f9
 refine hs10.putAll 2 rfl (by simp) (by simp[Value.oneCell']) fun H13 hs13=>⟨_,rfl,rowIn_whole (hs13.block 2 rfl),?_⟩
 exact hR _ _ H13 (hs13.take 2)
theorem tokL_get: ∀{ts:List Tok} {i:Nat} {t:Tok},ts[i]?=some t→ ∀(j:Nat) (v:Value),(tokC t).toArray[j]?=some v→(tokL ts)[i*3+j]?=some v
 |[],i,t,h,_,_,_=>by simp at h
 |u::ts,0,t,h,j,v,hv=>by
  simp at h;subst h
  have hj:j<3:=by have:=(Array.getElem?_eq_some_iff.1 hv).1;simpa[tokC] using this
  rw[List.getElem?_toArray] at hv
  rw[Nat.zero_mul,Nat.zero_add,show tokL (u::ts)=tokC u++tokL ts from rfl,List.getElem?_append_left (by show j<3;exact hj)]
  exact hv
 |u::ts,i+1,t,h,j,v,hv=>by
  rw[show tokL (u::ts)=tokC u++tokL ts from rfl,List.getElem?_append_right (by show 3≤_;omega),show(i+1)*3+j-(tokC u).length=i*3+j from by show(i+1)*3+j-3=_;omega]
  exact tokL_get (by simpa using h) j v hv
theorem toksP_step{ll dl:List Int}{ts:List Tok}{k:Nat}{t:Tok}(h:ts[k]?=some t):(ts.take (k+1)).flatMap (tokB ll dl)=(ts.take k).flatMap (tokB ll dl)++tokB ll dl t:=by
 rw[List.take_add_one,h,Option.toList_some,List.flatMap_append];simp
theorem tokB_le{ll dl:List Int}(okl:OkC ll)(okd:OkC dl){t:Tok}(h:TokR t):(tokB ll dl t).length≤50:=by
 have hl: ∀(ls:List Int) (ok:OkC ls) s,(ls.getD s 0).toNat≤16:=fun ls ok s=>by
  rcases getD_mem_or (l:=ls) s with h|h
  ·have:=ok.w.rng _ h;omega
  ·rw[h];decide
 unfold tokB
 split
 ·rw[symBits_len];have:=hl ll okl t.c.toNat;omega
 ·rename_i hn
  rcases h with h|h
  ·exact absurd h.1 hn
  ·have h1:=lenS_ok ⟨h.1,h.2.1⟩
   have h2:=lenB_le ⟨h1.1,h1.2.1⟩
   have h3:=dstS_ok ⟨h.2.2.1,h.2.2.2.1⟩
   have h4:=dstB_le h3.1
   simp only[List.length_append,symBits_len,bitsOf_len]
   have:=hl ll okl (lenS t.n);have:=hl dl okd (dstS t.d);omega
theorem toksP_le{ll dl:List Int}(okl:OkC ll)(okd:OkC dl): ∀{ts:List Tok},(∀t∈ts,TokR t)→(ts.flatMap (tokB ll dl)).length≤50*ts.length
 |[],_=>by simp
 |t::ts,h=>by
  have:=tokB_le okl okd (h t List.mem_cons_self)
  have:=toksP_le okl okd fun u hu=>h u (List.mem_cons_of_mem _ hu)
  rw[List.flatMap_cons,List.length_append,List.length_cons];omega
theorem c47(hs:St H0 H σ){i j k b n m c1 c2 c3 c4:Nat}{ws:List Int}{ll dl:List Int}{ts:List Tok}{p1 p2 p3 p4 q:Option Addr}(hi:σ[i]?=some (wrR b false ws))(hj:σ[j]?=some (.pers (SetI p1 p2 p3 p4 ll dl)))(hk:σ[k]?=some (.sl q n m 97 3 (tokL ts)))
 (hij:i≠j)(hik:i≠k)(cd:Codes ll dl ts)(hr: ∀t∈ts,TokR t)(hl:ws.length+50*ts.length+20≤1000000000)
 (hR: ∀H',St H0 H' (σ.set i (wrR b false (ws++toksB ll dl ts)))→R (.tuple #[]) H'):
 CallsH Try.prog 47 #[.agg #[.pointer (some ⟨b,0,none⟩)],.slice q n m,.agg #[.slice p1 ll.length c1,.slice p2 dl.length c2,.slice p3 ll.length c3,.slice p4 dl.length c4]] H R:=by
 have hn:n=ts.length:=by
  have:=(hs.fs k hk).len
  rw[tokL_len] at this;omega
 subst hn
 refine Try.s47 ?_
 unfold Try.S47
 refine hs.alc fun b4 H5 hs5=>hs5.alc fun b6 H7 hs7=>?_
 intro X8 hX
 have h17: ∀(ls:List Int) (ok:OkC ls) (s:Nat),s<ls.length→0≤ls.getD s 0∧ls.getD s 0≤16:=fun ls ok s h=>ok.w.rng _ (List.mem_of_getElem? (get_gD ls 0 h))
 have inl: ∀s,0<ll.getD s 0→s<ll.length:=fun s h=>by
  rcases Nat.lt_or_ge s ll.length with h'|h'
  ·exact h'
  ·rw[gD_none _ _ h'] at h;omega
 have ind: ∀s,0<dl.getD s 0→s<dl.length:=fun s h=>by
  rcases Nat.lt_or_ge s dl.length with h'|h'
  ·exact h'
  ·rw[gD_none _ _ h'] at h;omega
 have go: ∀t,t≤ts.length→ ∀H1,St H0 H1 (.cell b6 #[.slice p1 ll.length c1,.slice p2 dl.length c2,.slice p3 ll.length c3,.slice p4 dl.length c4] 76:: .cell b4 #[.pointer (some ⟨b,0,none⟩)] 72::σ.set i (wrR b false (ws++(ts.take t).flatMap (tokB ll dl))))→X8 [.int .i64 (t:Nat)] H1:=upto fun t ht ih H1 hs1=>by
  have hwl:=toksP_le cd.l cd.d (ts:=ts.take t) fun u hu=>hr u (List.mem_of_mem_take hu)
  rw[List.length_take] at hwl
  have S1:=hs1.persGet (j+2) (by rw[List.getElem?_cons_succ,List.getElem?_cons_succ];exact setget_ne hij _ hj)
  refine hX _ H1 (br_dec (fun hlt=>?_) (fun hge=>?_))
  ·have hlt:t<ts.length:=by omega
   obtain⟨tk,htk⟩: ∃x,ts[t]?=some x:=⟨_,List.getElem?_eq_getElem hlt⟩
   have hmem:=List.mem_of_getElem? htk
   have hih:=ih hlt
   rw[toksP_step htk,←List.append_assoc] at hih
   have hrs:=hs1.rs (k+2) (by rw[List.getElem?_cons_succ,List.getElem?_cons_succ];exact setget_ne hik _ hk)
   obtain⟨blk,hq,hrow⟩:=hrs.row hlt (by decide) (tokL_get htk)
   have hbl:=tokB_le cd.l cd.d (hr tk hmem)
   refine⟨_,hq,by omega,by omega,(tokC tk).toArray,rfl,?_⟩
   rw[Int.toNat_natCast,add_none,Nat.zero_add]
   refine⟨hrow,hs1.alc fun b13 H14 hs14=>⟨rfl,hs14.putAll 0 rfl rfl (by simpa using tokC_one tk) fun H15 hs15=>?_⟩⟩
   rw[List.set_cons_zero] at hs15
   have S15:=hs15.persGet (j+3) (by rw[List.getElem?_cons_succ,List.getElem?_cons_succ,List.getElem?_cons_succ];exact setget_ne hij _ hj)
   have hW: ∀x:List Int,(Rs.cell b13 (tokC tk).toArray.toList.toArray 97::Rs.cell b6 #[.slice p1 ll.length c1,.slice p2 dl.length c2,.slice p3 ll.length c3,.slice p4 dl.length c4] 76::Rs.cell b4 #[.pointer (some ⟨b,0,none⟩)] 72::σ.set i (wrR b false x))[i+3]?=some (wrR b false x):=fun x=>by
    rw[List.getElem?_cons_succ,List.getElem?_cons_succ,List.getElem?_cons_succ];exact setget hi _
   have hlit:=cd.lit tk hmem
   unfold lsym at hlit
   unfold tokB at hbl
   have etok:tokB ll dl tk=tokB ll dl tk:=rfl
   conv at etok=>rhs;unfold tokB
   refine⟨_,hs15.get 1 (j:=0) rfl rfl|>fun _=>hs15.get 0 (j:=0) rfl rfl,br_eq (fun h0=>?_) (fun h0=>?_)⟩
   ·have h0:tk.n=0:=by omega
    rw[if_pos h0] at hlit hbl etok
    have hc:=hr tk hmem
    have hcr:0≤tk.c:=by rcases hc with h|h<;>omega
    have hcl:=inl _ hlit
    refine⟨_,rfl,rowIn_whole (hs15.block 2 rfl),_,_,_,hs15.get 1 (j:=2) rfl rfl,_,hs15.get 0 (j:=2) rfl rfl,S15.l3.rd hcr (by omega) (codesM_get hcl) ?_⟩
    refine⟨_,_,_,hs15.get 1 (j:=0) rfl rfl,_,hs15.get 0 (j:=2) rfl rfl,S15.l1.rd hcr (by omega) (get_gD ll 0 hcl) ?_⟩
    refine c65 hs15 (hW _) (h17 ll cd.l _ hcl) (by rw[List.length_append];omega) fun H27 hs27=>⟨rfl,?_⟩
    rw[wrap_id (by omega) (by omega)]
    refine hih H27 ?_
    rw[etok]
    have:=hs27.tail
    simp only[List.set_cons_succ] at this
    rw[setset] at this
    exact this
   ·have h0:tk.n≠0:=by omega
    rw[if_neg h0] at hlit hbl etok
    rw[Int.toNat_natCast] at hlit
    have hcl:=inl _ hlit
    obtain⟨n3,n258,d1,d2,_⟩:3≤tk.n∧tk.n≤258∧1≤tk.d∧tk.d≤32768∧tk.c=0:=by
     rcases hr tk hmem with h|h
     ·exact absurd h.1 h0
     ·exact h
    have hdst:=cd.dst tk hmem h0
    have hdl:=ind _ hdst
    obtain⟨s1,s2,s3,s4⟩:=lenS_ok ⟨n3,n258⟩
    have s5:=lenB_le ⟨s1,s2⟩
    obtain⟨q1,q2,q3⟩:=dstS_ok ⟨d1,d2⟩
    have q5:=dstB_le q1
    simp only[List.length_append,symBits_len,bitsOf_len] at hbl
    refine⟨_,hs15.get 0 (j:=0) rfl rfl,c66 ⟨n3,n258⟩ ⟨_,_,_,rfl,?_⟩⟩
    refine⟨_,rfl,rowIn_whole (hs15.block 2 rfl),_,_,_,hs15.get 1 (j:=2) rfl rfl,S15.l3.rd (by omega) (by omega) (by rw[Int.toNat_natCast];exact codesM_get hcl) ?_⟩
    refine⟨_,_,_,hs15.get 1 (j:=0) rfl rfl,S15.l1.rd (by omega) (by omega) (by rw[Int.toNat_natCast];exact get_gD ll 0 hcl) ?_⟩
    refine c65 hs15 (hW _) (h17 ll cd.l _ hcl) (by rw[List.length_append];omega) fun H27 hs27=>⟨rfl,?_⟩
    simp only[List.set_cons_succ] at hs27
    rw[setset] at hs27
    refine⟨_,hs27.get 2 (j:=0) rfl rfl,put_ok hs27 (hW _) (by omega) (by omega) (natpow s4) (by simp only[List.length_append,bitsOf_len];omega) fun H30 hs30=>⟨_,rfl,?_⟩⟩
    simp only[List.set_cons_succ] at hs30
    rw[setset] at hs30
    have S30:=hs30.persGet (j+3) (by rw[List.getElem?_cons_succ,List.getElem?_cons_succ,List.getElem?_cons_succ];exact setget_ne hij _ hj)
    refine⟨_,hs30.get 0 (j:=1) rfl rfl,find_dst ⟨d1,d2⟩ ⟨_,_,_,rfl,?_⟩⟩
    refine⟨_,rfl,rowIn_whole (hs30.block 2 rfl),_,_,_,hs30.get 1 (j:=3) rfl rfl,S30.l4.rd (by omega) (by omega) (by rw[Int.toNat_natCast];exact codesM_get hdl) ?_⟩
    refine⟨_,_,_,hs30.get 1 (j:=1) rfl rfl,S30.l2.rd (by omega) (by omega) (by rw[Int.toNat_natCast];exact get_gD dl 0 hdl) ?_⟩
    refine c65 hs30 (hW _) (h17 dl cd.d _ hdl) (by simp only[List.length_append,bitsOf_len];omega) fun H31 hs31=>⟨rfl,?_⟩
    simp only[List.set_cons_succ] at hs31
    rw[setset] at hs31
    refine⟨_,hs31.get 2 (j:=0) rfl rfl,put_ok hs31 (hW _) (by omega) (by omega) (natpow q3) (by simp only[List.length_append,bitsOf_len];omega) fun H32 hs32=>⟨_,rfl,?_⟩⟩
    simp only[List.set_cons_succ] at hs32
    rw[setset] at hs32
    rw[wrap_id (by omega) (by omega)]
    refine hih H32 ?_
    rw[etok]
    have:=hs32.tail
    simp only[List.append_assoc] at this ⊢
    exact this
  ·have:t=ts.length:=by omega
   subst this
   rw[List.take_of_length_le (Nat.le_refl _)] at hs1 hwl
   have hcl:=inl _ cd.end_
   refine⟨_,rfl,rowIn_whole (hs1.block 1 rfl),_,_,_,hs1.get 0 (j:=2) rfl rfl,S1.l3.rd (i:=(256:Int)) (by omega) (by omega) (show(codesM ll)[256]?=some _ from codesM_get hcl) ?_⟩
   refine⟨_,_,_,hs1.get 0 (j:=0) rfl rfl,S1.l1.rd (i:=(256:Int)) (by omega) (by omega) (show ll[256]?=some _ from get_gD ll 0 hcl) ?_⟩
   refine c65 hs1 (i:=i+2) (by rw[List.getElem?_cons_succ,List.getElem?_cons_succ];exact setget hi _) (h17 ll cd.l _ hcl) (by rw[List.length_append];omega) fun H27 hs27=>⟨rfl,hR H27 ?_⟩
   simp only[List.set_cons_succ] at hs27
   rw[setset] at hs27
   have:=hs27.tail.tail
   rw[List.append_assoc] at this
   exact this
 refine go 0 (by omega) H7 ?_
 rw[List.take_zero,List.flatMap_nil,List.append_nil]
 obtain⟨h1,h2⟩:=List.getElem?_eq_some_iff.1 hi
 rw[←h2,List.set_getElem_self];exact hs7
end Go.Proofs
namespace Go.Proofs
open Go.Sh
variable {H0 H:Heap} {σ:List Rs} {R:Value→Heap→Prop}
theorem bump_get{o:List Int}{s:Nat}(h:s<o.length):o[s]?=some (o.getD s 0):=get_gD o 0 h
theorem reps19(n:Nat):reps n (Array.toList #[Value.int .i64 0])=ints (List.replicate n 0):=by
 show reps n [Value.int .i64 0]=_
 rw[reps_rep];simp[ints]
theorem st_zeros(hs:St H0 H σ)(i:Nat){b n:Nat}(hi:σ[i]?=some (.cell b (List.toArray (reps n (Array.toList #[Value.int .i64 0]))) 3)):St H0 H (σ.set i (.sl (some ⟨b,0,none⟩) n n 3 1 (ints (List.replicate n 0)))):=by
 rw[reps19] at hi
 exact hs.toSl i hi (by rw[List.size_toArray,ints_len,List.length_replicate,Nat.mul_one]) rfl (ints_one _)
theorem cnt_rng{l o:List Int}(hs: ∀s∈l,0≤s∧s<o.length)(ho: ∀x∈o,0≤x∧x≤1){s:Nat}:0≤(l.foldl bump o).getD s 0∧(l.foldl bump o).getD s 0≤1+l.length:=by
 rcases getD_mem_or (l:=l.foldl bump o) s with h|h
 ·exact(bumps_ok hs ho).2.1 _ h
 ·rw[h];omega
theorem st_bump(hs:St H0 H σ)(i:Nat){b l m s:Nat}{o:List Int}{f:Heap→Prop}(hi:σ[i]?=some (.sl (some ⟨b,0,none⟩) l m 3 1 (ints o)))(h:s<o.length)(hr:0≤o.getD s 0∧o.getD s 0≤100000000000)
 (hK: ∀H',St H0 H' (σ.set i (.sl (some ⟨b,0,none⟩) l m 3 1 (ints (bump o (s:Int)))))→f H'):
 stAt H ⟨b,s,none⟩ [.int .i64 (IntKind.wrap .i64 (o.getD s 0+1))] f:=by
 refine hs.slPut i hi (by rw[ints_len];exact h) rfl fun H' hs'=>hK H' ?_
 rw[wrap_id (by omega) (by omega),ints_set] at hs'
 unfold Go.Proofs.bump
 rw[Int.toNat_natCast]
 exact hs'
theorem c70{q:Option Addr}{m:Nat}{ts:List Tok}(h:RS H q ts.length 97 3 (tokL ts))(hr: ∀t∈ts,TokR t)(hl:ts.length≤1000000000)
 (hR: ∀b1 b2 H',St H H' [.sl (some ⟨b1,0,none⟩) (cntL ts).length 286 3 1 (ints (cntL ts)),.sl (some ⟨b2,0,none⟩) (cntD ts).length 30 3 1 (ints (cntD ts))]→R (.tuple #[.slice (some ⟨b1,0,none⟩) (cntL ts).length 286,.slice (some ⟨b2,0,none⟩) (cntD ts).length 30]) H'):
 CallsH Try.prog 70 #[.slice q ts.length m] H R:=by
 refine Try.s70 ?_
 unfold Try.S70
 intro J2 hJ2
 have lr: ∀t,∀s∈(ts.take t).map lsym,0≤s∧s<((List.replicate 286 (0:Int)).set 256 1).length:=fun t s hs=>by
  obtain⟨u,hu,rfl⟩:=List.mem_map.1 hs
  have:=lsym_rng (hr u (List.mem_of_mem_take hu))
  rw[List.length_set,List.length_replicate];omega
 have lo: ∀x∈(List.replicate 286 (0:Int)).set 256 1,0≤x∧x≤1:=fun x hx=>by
  rcases List.mem_or_eq_of_mem_set hx with hx|rfl
  ·rw[(List.mem_replicate.1 hx).2];omega
  ·omega
 have dr: ∀t,∀s∈dsyms (ts.take t),0≤s∧s<(List.replicate 30 (0:Int)).length:=fun t s hs=>by
  obtain⟨u,hu,rfl⟩:=List.mem_map.1 hs
  rw[List.mem_filter] at hu
  rcases hr u (List.mem_of_mem_take hu.1) with h0|h0
  ·have:=hu.2;simp[h0.1] at this
  ·have:=dstS_ok ⟨h0.2.2.1,h0.2.2.2.1⟩
   rw[List.length_replicate];omega
 have do_: ∀x∈List.replicate 30 (0:Int),0≤x∧x≤1:=fun x hx=>by rw[(List.mem_replicate.1 hx).2];omega
 have ll: ∀t,(cntL (ts.take t)).length=286:=fun t=>by unfold cntL;rw[foldl_bump_len,List.length_set,List.length_replicate]
 have dl: ∀t,(cntD (ts.take t)).length=30:=fun t=>by unfold cntD;rw[foldl_bump_len,List.length_replicate]
 have dlen: ∀t,(dsyms (ts.take t)).length≤ts.length:=fun t=>by
  unfold dsyms;rw[List.length_map]
  exact Nat.le_trans (List.length_filter_le _ _) (by rw[List.length_take];omega)
 have main: ∀b1 b2 H1,St H H1 [.sl (some ⟨b1,0,none⟩) 286 286 3 1 (ints (List.replicate 286 0)),.sl (some ⟨b2,0,none⟩) 30 30 3 1 (ints (List.replicate 30 0))]→J2 [.slice (some ⟨b1,0,none⟩) 286 286,.slice (some ⟨b2,0,none⟩) 30 30] H1:=fun b1 b2 H1 hs1=>by
  refine hJ2 _ _ _ _ _ _ H1 ⟨_,rfl,by omega,by omega,?_⟩
  rw[add_none,Nat.zero_add,Nat.mul_one]
  refine hs1.slPut 0 rfl (by rw[ints_len,List.length_replicate];decide) rfl fun H7 hs7=>?_
  rw[show(Int.toNat 256)=256 from rfl,ints_set] at hs7
  intro X8 hX
  have go: ∀t,t≤ts.length→ ∀H2,St H H2 [.sl (some ⟨b1,0,none⟩) 286 286 3 1 (ints (cntL (ts.take t))),.sl (some ⟨b2,0,none⟩) 30 30 3 1 (ints (cntD (ts.take t)))]→X8 [.int .i64 (t:Nat)] H2:=upto fun t ht ih H2 hs2=>by
   refine hX _ H2 (br_dec (fun hlt=>?_) (fun hge=>?_))
   ·have hlt:t<ts.length:=by omega
    obtain⟨tk,htk⟩: ∃x,ts[t]?=some x:=⟨_,List.getElem?_eq_getElem hlt⟩
    have hmem:=List.mem_of_getElem? htk
    have ih:=ih hlt
    have eL:cntL (ts.take (t+1))=bump (cntL (ts.take t)) (lsym tk):=by
     unfold cntL
     rw[List.take_add_one,htk,Option.toList_some,List.map_append,List.foldl_append];rfl
    have eD:cntD (ts.take (t+1))=if tk.n=0 then cntD (ts.take t) else bump (cntD (ts.take t)) (dstS tk.d:Nat):=by
     unfold cntD dsyms
     rw[List.take_add_one,htk,Option.toList_some,List.filter_append,List.map_append,List.foldl_append]
     split
     ·rename_i h0;simp[h0]
     ·rename_i h0;simp[h0]
    rw[eL,eD] at ih
    have bL: ∀s,0≤(cntL (ts.take t)).getD s 0∧(cntL (ts.take t)).getD s 0≤100000000000:=fun s=>by
     have:=cnt_rng (lr t) lo (s:=s)
     rw[List.length_map,List.length_take] at this
     unfold cntL;omega
    have bD: ∀s,0≤(cntD (ts.take t)).getD s 0∧(cntD (ts.take t)).getD s 0≤100000000000:=fun s=>by
     have:=cnt_rng (dr t) do_ (s:=s)
     have:=dlen t
     unfold cntD;omega
    have lt1:=ll t
    have dt1:=dl t
    have hsy:=lsym_rng (hr tk hmem)
    generalize cntL (ts.take t)=LC at*
    generalize cntD (ts.take t)=DC at*
    obtain⟨blk,hq,hrow⟩:=(h.ext hs2.ext).row hlt (by decide) (tokL_get htk)
    refine⟨_,hq,by omega,by omega,(tokC tk).toArray,rfl,?_⟩
    rw[Int.toNat_natCast,add_none,Nat.zero_add]
    refine⟨hrow,hs2.alc fun b13 H14 hs14=>⟨rfl,hs14.putAll 0 rfl rfl (by simpa using tokC_one tk) fun H15 hs15=>?_⟩⟩
    rw[List.set_cons_zero] at hs15
    refine⟨_,hs15.get 0 (j:=0) rfl rfl,br_eq (fun h0=>?_) (fun h0=>?_)⟩
    ·have h0:tk.n=0:=by omega
     rw[if_pos h0] at ih
     have el:lsym tk=tk.c:=by unfold lsym;rw[if_pos h0]
     rw[el] at ih hsy
     obtain⟨s,hs⟩:=Int.eq_ofNat_of_zero_le hsy.1
     rw[hs] at ih hsy
     refine⟨_,hs15.get 0 (j:=2) rfl rfl,?_⟩
     rw[hs]
     have hL:IS H15 (some ⟨b1,0,none⟩) 286 (kints .i64 LC):=hs15.is 1 rfl
     refine hL.rd (by omega) (by omega) (by rw[Int.toNat_natCast];exact bump_get (by omega)) ⟨_,rfl,by omega,by omega,?_⟩
     rw[Int.toNat_natCast,add_none,Nat.zero_add,Nat.mul_one]
     refine st_bump hs15 1 rfl (by omega) (bL s) fun H21 hs21=>?_
     rw[wrap_id (by omega) (by omega)]
     exact ih H21 hs21.tail
    ·have h0:tk.n≠0:=by omega
     rw[if_neg h0] at ih
     have el:lsym tk=(lenS tk.n:Nat):=by unfold lsym;rw[if_neg h0]
     rw[el] at ih hsy
     obtain⟨n3,n258,d1,d2,_⟩:3≤tk.n∧tk.n≤258∧1≤tk.d∧tk.d≤32768∧tk.c=0:=by
      rcases hr tk hmem with h|h
      ·exact absurd h.1 h0
      ·exact h
     have hds:=dstS_ok ⟨d1,d2⟩
     refine⟨_,hs15.get 0 (j:=0) rfl rfl,c66 ⟨n3,n258⟩ ⟨_,_,_,rfl,?_⟩⟩
     have hL:IS H15 (some ⟨b1,0,none⟩) 286 (kints .i64 LC):=hs15.is 1 rfl
     refine hL.rd (by omega) (by omega) (by rw[Int.toNat_natCast];exact bump_get (by omega)) ⟨_,rfl,by omega,by omega,?_⟩
     rw[Int.toNat_natCast,add_none,Nat.zero_add,Nat.mul_one]
     refine st_bump hs15 1 rfl (by omega) (bL _) fun H21 hs21=>?_
     refine⟨_,hs21.get 0 (j:=1) rfl rfl,find_dst ⟨d1,d2⟩ ⟨_,_,_,rfl,?_⟩⟩
     have hD:IS H21 (some ⟨b2,0,none⟩) 30 (kints .i64 DC):=hs21.is 2 rfl
     refine hD.rd (by omega) (by omega) (by rw[Int.toNat_natCast];exact bump_get (by omega)) ⟨_,rfl,by omega,by omega,?_⟩
     rw[Int.toNat_natCast,add_none,Nat.zero_add,Nat.mul_one]
     refine st_bump hs21 2 rfl (by omega) (bD _) fun H31 hs31=>?_
     rw[wrap_id (by omega) (by omega)]
     exact ih H31 hs31.tail
   ·have:t=ts.length:=by omega
    subst this
    have e1:=ll ts.length
    have e2:=dl ts.length
    rw[List.take_of_length_le (Nat.le_refl _)] at hs2 e1 e2
    have:=hR b1 b2 H2
    rw[e1,e2] at this
    exact this hs2
  exact go 0 (by omega) H7 hs7
 refine⟨⟨by decide,by decide,by decide,by decide,?_⟩,⟨by decide,by decide,by decide,by decide,?_⟩⟩
 ·exact(St.nil H).alc fun b1 H1 hs1=>⟨by decide,by decide,by decide,by decide,hs1.alc fun b2 H2 hs2=>main b1 b2 H2 ((st_zeros (st_zeros hs2 0 rfl) 1 rfl).swap)⟩
 ·exact(St.nil H).alc fun b1 H1 hs1=>⟨by decide,by decide,by decide,by decide,hs1.alc fun b2 H2 hs2=>main b2 b1 H2 (st_zeros (st_zeros hs2 0 rfl) 1 rfl)⟩
structure PadI(cs:List Int)(s n:Nat):Prop where
 nn: ∀x∈cs,0≤x
 n_:n=posC cs
 s_:s≤posC (cs.take s)
theorem PadI.set{cs:List Int}{s n:Nat}(p:PadI cs s n)(hs:s<cs.length)(h0:cs.getD s 0=0):PadI (cs.set s 1) (s+1) (n+1):=by
 refine⟨fun x hx=>?_,by rw[posC_set hs h0,p.n_],?_⟩
 ·rcases List.mem_or_eq_of_mem_set hx with hx|rfl
  ·exact p.nn x hx
  ·omega
 ·have ht:(cs.set s 1).take (s+1)=cs.take s++[1]:=by
   rw[List.take_add_one,List.take_set_of_le (Nat.le_refl s),List.getElem?_set_self (by omega)];rfl
  have:=p.s_
  rw[ht];unfold posC at this ⊢;rw[List.countP_append];simp;exact this
theorem PadI.skip{cs:List Int}{s n:Nat}(p:PadI cs s n)(hs:s<cs.length)(h0:cs.getD s 0≠0):PadI cs (s+1) n:=by
 refine⟨p.nn,p.n_,?_⟩
 have:=posC_step hs
 have:=p.nn _ (List.mem_of_getElem? (get_gD cs 0 hs))
 have:=p.s_
 rw[if_pos (by omega)] at*
 omega
theorem PadI.end_{cs:List Int}{s n:Nat}(p:PadI cs s n):s≤n:=by have:=p.s_;have:=p.n_;have:=posC_take cs s;omega
theorem posC_rng(cs:List Int)(k:Nat):posC (cs.take k)≤k:=by
 have:=posC_le (cs.take k)
 rw[List.length_take] at this;omega
theorem c71{p:Option Addr}{c:Nat}{cs:List Int}(h:IS H p cs.length (ints cs))(h2:2≤cs.length)(hl:cs.length≤300)(hr: ∀x∈cs,0≤x)(ok:OkL (padM cs) 15)(hlen:(lenM (padM cs) 15).length=cs.length)
 (hR: ∀b H',St H H' [.sl (some ⟨b,0,none⟩) (lenM (padM cs) 15).length (lenM (padM cs) 15).length 3 1 (ints (lenM (padM cs) 15))]→R (.slice (some ⟨b,0,none⟩) (lenM (padM cs) 15).length (lenM (padM cs) 15).length) H'):
 CallsH Try.prog 71 #[.slice p cs.length c] H R:=by
 refine Try.s71 ?_
 unfold Try.S71
 have h':IS H p cs.length (kints .i64 cs):=h
 refine c86 h' (by omega) fun q m H3 hs3=>⟨_,_,_,rfl,?_⟩
 intro X5 hX5
 have hI:IS H3 q cs.length (kints .i64 cs):=hs3.is 0 rfl
 have two:X5 [.int .i64 (posC cs:Nat),.int .i64 (cs.length:Nat)] H3:=by
  refine hX5 _ _ H3 (br_n (by omega) ?_)
  intro X11 hX
  have loop: ∀(f s n:Nat) (ds:List Int) (H4:Heap),s+f=cs.length→ds.length=cs.length→PadI ds s n→padG f s n ds=padM cs→St H H4 [.sl q cs.length m 3 1 (ints ds)]→X11 [.int .i64 (n:Nat),.int .i64 (s:Nat)] H4:=by
   intro f
   induction f with
   |zero=>
    intro s n ds H4 hs hd pi he hs4
    rw[padG] at he
    subst he
    have hn:=pi.n_
    have:=pi.end_
    refine hX _ _ H4 (br_n (by omega) ?_)
    refine c73 (hs4.is 0 rfl) (by omega) (fun _ _ hn=>absurd ok hn) fun _ H20 b fs e=>⟨_,_,_,_,rfl,?_⟩
    rw[show Int.toNat 15=15 from rfl,←hlen] at fs
    rw[←hlen]
    exact hR b H20 ((hs4.newSl e fs).take 1)
   |succ f ih=>
    intro s n ds H4 hs hd pi he hs4
    rw[padG] at he
    refine hX _ _ H4 (br_dec (fun hlt=>?_) (fun hge=>?_))
    ·rw[if_pos (by omega)] at he
     have hI4:IS H4 q cs.length (kints .i64 ds):=hs4.is 0 rfl
     refine hI4.rd (by omega) (by omega) (by rw[Int.toNat_natCast];exact get_gD ds 0 (by omega)) (br_eq (fun h0=>?_) (fun h0=>?_))
     ·rw[if_pos h0] at he
      obtain⟨blk,hq⟩:=hs4.slSome 0 rfl (j:=s) (by rw[ints_len];omega)
      subst hq
      refine⟨_,rfl,by omega,by omega,?_⟩
      rw[Int.toNat_natCast,add_none,Nat.zero_add,Nat.mul_one]
      refine hs4.slPut 0 rfl (by rw[ints_len];omega) rfl fun H18 hs18=>?_
      rw[ints_set] at hs18
      rw[wrap_id (by omega) (by omega),wrap_id (by omega) (by omega)]
      exact ih (s+1) (n+1) _ H18 (by omega) (by rw[List.length_set];exact hd) (pi.set (by omega) h0) he hs18
     ·rw[if_neg h0] at he
      rw[wrap_id (by omega) (by omega)]
      exact ih (s+1) n _ H4 (by omega) hd (pi.skip (by omega) h0) he hs4
    ·rw[if_neg (by omega)] at he
     subst he
     refine c73 (hs4.is 0 rfl) (by omega) (fun _ _ hn=>absurd ok hn) fun _ H20 b fs e=>⟨_,_,_,_,rfl,?_⟩
     rw[show Int.toNat 15=15 from rfl,←hlen] at fs
     rw[←hlen]
     exact hR b H20 ((hs4.newSl e fs).take 1)
  exact loop cs.length 0 (posC cs) cs H3 (by omega) rfl ⟨hr,rfl,by omega⟩ rfl hs3
 have go: ∀k,k≤cs.length→X5 [.int .i64 (posC (cs.take k):Nat),.int .i64 (k:Nat)] H3:=upto fun k hk ih=>by
  by_cases hlt:k<cs.length
  ·refine hX5 _ _ H3 (br_y (by omega) ?_)
   have ih:=ih hlt
   rw[posC_step hlt] at ih
   have:=posC_rng cs k
   refine hI.rd (by omega) (by omega) (by rw[Int.toNat_natCast];exact get_gD cs 0 hlt) ?_
   rw[wrap_id (by omega) (by omega),wrap_id (by omega) (by omega)]
   refine br_dec (fun hp=>?_) (fun hp=>?_)
   ·rw[if_pos hp] at ih;exact ih
   ·rw[if_neg hp] at ih;exact ih
  ·have:k=cs.length:=by omega
   subst this
   rw[List.take_of_length_le (Nat.le_refl _)]
   exact two
 exact go 0 (by omega)
theorem c74(hs:St H0 H σ){i b l m:Nat}{cs:List Int}(hi:σ[i]?=some (.sl (some ⟨b,0,none⟩) l m 3 1 (ints cs)))(hlen:cs.length=l)(h2:2≤cs.length)(hl:cs.length≤300)(hr: ∀x∈cs,0≤x∧x≤1000000000)
 (hR: ∀H',St H0 H' (σ.set i (.sl (some ⟨b,0,none⟩) l m 3 1 (ints (padM cs))))→R (.slice (some ⟨b,0,none⟩) l m) H'):
 CallsH Try.prog 74 #[.slice (some ⟨b,0,none⟩) l m] H R:=by
 subst hlen
 refine Try.s74 ?_
 unfold Try.S74
 intro X2 hX2
 have hI:IS H (some ⟨b,0,none⟩) cs.length (kints .i64 cs):=hs.is i hi
 have two:X2 [.int .i64 (posC cs:Nat),.int .i64 (cs.length:Nat)] H:=by
  refine hX2 _ _ H (br_n (by omega) ?_)
  intro X8 hX
  have loop: ∀(f s n:Nat) (ds:List Int) (H4:Heap),s+f=cs.length→ds.length=cs.length→PadI ds s n→padG f s n ds=padM cs→St H0 H4 (σ.set i (.sl (some ⟨b,0,none⟩) cs.length m 3 1 (ints ds)))→X8 [.int .i64 (n:Nat),.int .i64 (s:Nat)] H4:=by
   intro f
   induction f with
   |zero=>
    intro s n ds H4 hs hd pi he hs4
    rw[padG] at he
    subst he
    have:=pi.end_
    exact hX _ _ H4 (br_n (by omega) (hR H4 hs4))
   |succ f ih=>
    intro s n ds H4 hs hd pi he hs4
    rw[padG] at he
    refine hX _ _ H4 (br_dec (fun hlt=>?_) (fun hge=>?_))
    ·rw[if_pos (by omega)] at he
     have hI4:IS H4 (some ⟨b,0,none⟩) cs.length (kints .i64 ds):=hs4.is i (setget hi _)
     refine hI4.rd (by omega) (by omega) (by rw[Int.toNat_natCast];exact get_gD ds 0 (by omega)) (br_eq (fun h0=>?_) (fun h0=>?_))
     ·rw[if_pos h0] at he
      refine hI4.rd (by omega) (by omega) (by rw[Int.toNat_natCast];exact get_gD ds 0 (by omega)) ⟨_,rfl,by omega,by omega,?_⟩
      rw[Int.toNat_natCast,add_none,Nat.zero_add,Nat.mul_one]
      refine hs4.slPut i (setget hi _) (by rw[ints_len];omega) rfl fun H18 hs18=>?_
      rw[h0,show IntKind.wrap .i64 ((0:Int)+1)=1 from by decide,ints_set,setset] at hs18
      rw[wrap_id (by omega) (by omega),wrap_id (by omega) (by omega)]
      exact ih (s+1) (n+1) _ H18 (by omega) (by rw[List.length_set];exact hd) (pi.set (by omega) h0) he hs18
     ·rw[if_neg h0] at he
      rw[wrap_id (by omega) (by omega)]
      exact ih (s+1) n _ H4 (by omega) hd (pi.skip (by omega) h0) he hs4
    ·rw[if_neg (by omega)] at he
     subst he
     exact hR H4 hs4
  refine loop cs.length 0 (posC cs) cs H (by omega) rfl ⟨fun x hx=>(hr x hx).1,rfl,by omega⟩ rfl ?_
  obtain⟨h1,h2⟩:=List.getElem?_eq_some_iff.1 hi
  rw[←h2,List.set_getElem_self];exact hs
 have go: ∀k,k≤cs.length→X2 [.int .i64 (posC (cs.take k):Nat),.int .i64 (k:Nat)] H:=upto fun k hk ih=>by
  by_cases hlt:k<cs.length
  ·refine hX2 _ _ H (br_y (by omega) ?_)
   have ih:=ih hlt
   rw[posC_step hlt] at ih
   have:=posC_rng cs k
   have hc:=hr _ (List.mem_of_getElem? (get_gD cs 0 hlt))
   refine hI.rd (by omega) (by omega) (by rw[Int.toNat_natCast];exact get_gD cs 0 hlt) ?_
   have e:IntKind.wrap .i64 ((posC (cs.take k):Nat)+min (cs.getD k 0) 1)=((posC (cs.take k)+(if cs.getD k 0>0 then 1 else 0):Nat):Int):=by
    rw[wrap_id (by omega) (by omega)]
    split<;>omega
   rw[e,wrap_id (by omega) (by omega)]
   exact ih
  ·have:k=cs.length:=by omega
   subst this
   rw[List.take_of_length_le (Nat.le_refl _)]
   exact two
 exact go 0 (by omega)
end Go.Proofs
namespace Go.Proofs
open Go.Sh
variable {H0 H:Heap} {σ:List Rs} {R:Value→Heap→Prop}
theorem firstM_snoc {B : List Int} : ∀ (l : List Nat) (s at_ : Nat) (fs : List Int), firstM B (l ++ [s]) at_ fs = match firstM B l at_ fs with
    | .error e => .error e
    | .ok (a, gs) => match getM B 3 a with
      | .error e => .error e
      | .ok (v, a1) => .ok (a1, gs.set s v)
  | [], s, at_, fs => by
    rw [List.nil_append, firstM]
    simp only [firstM]
    cases getM B 3 at_ with
    | error e => rfl
    | ok x => rfl
  | t :: l, s, at_, fs => by
    rw [List.cons_append, firstM, firstM]
    cases h : getM B 3 at_ with
    | error e => rfl
    | ok x => exact firstM_snoc l s _ _
theorem ordL_lt: ∀k:Fin 19,ordL.getD k.val 0<19:=by decide+kernel
theorem ordI_get{k:Nat}(h:k<19):(ordL.map Int.ofNat)[k]?=some ((ordL.getD k 0:Nat):Int):=by
 rw[List.getElem?_map,get_gD ordL 0 (by show k<19;exact h)];rfl
theorem ordL_take{n k:Nat}(h:k<n)(hn:n≤19):(ordL.take n).take (k+1)=(ordL.take n).take k++[ordL.getD k 0]:=by
 rw[List.take_take,List.take_take,Nat.min_eq_left (by omega),Nat.min_eq_left (by omega),List.take_add_one,get_gD ordL 0 (by show k<19;omega)];rfl
theorem pow_e{n:Nat}{d:Int}(h:(2:Int)^n=d){B:List Int}{a:Nat}:0≤numB false B a n∧numB false B a n<d:=by rw[←h];exact numB_rng false B a n
theorem firstM_len{B:List Int}: ∀(l:List Nat) {a a':Nat} {fs gs:List Int},firstM B l a fs= .ok (a',gs)→gs.length=fs.length∧a≤a'
 |[],a,a',fs,gs,h=>by cases h;exact⟨rfl,Nat.le_refl _⟩
 |s::l,a,a',fs,gs,h=>by
  rw[firstM] at h
  cases hg:getM B 3 a with
  |error e=>rw[hg] at h;cases h
  |ok x=>
   obtain⟨v,a1⟩:=x
   rw[hg] at h
   obtain⟨h1,h2⟩:=firstM_len l h
   rw[List.length_set] at h1
   exact⟨h1,Nat.le_trans (getM_adv hg) h2⟩
theorem listM_adv{B first:List Int}{total:Nat}: ∀(g a:Nat) (ls:List Int) {a':Nat} {ls':List Int},listM B first total g a ls= .ok (a',ls')→a≤a'∧total≤ls'.length
 |0,a,ls,a',ls',h=>by cases h
 |g+1,a,ls,a',ls',h=>by
  rw[listM] at h
  split at h
  ·cases h;exact⟨Nat.le_refl _,by assumption⟩
  ·cases hs:symM first B a with
   |error e=>rw[hs] at h;cases h
   |ok x=>
    obtain⟨s,a1⟩:=x
    rw[hs] at h
    have h1:=symM_adv hs
    simp only at h
    split at h
    ·cases hg:getM B 2 a1 with
     |error e=>rw[hg] at h;cases h
     |ok x=>
      rw[hg] at h
      have h2:=getM_adv (v:=x.1) (a':=x.2) hg
      simp only at h
      split at h
      ·cases h
      ·split at h
       ·cases h
       ·obtain⟨h3,h4⟩:=listM_adv g _ _ h;exact⟨by omega,h4⟩
    ·split at h
     ·cases hg:getM B 3 a1 with
      |error e=>rw[hg] at h;cases h
      |ok x=>
       rw[hg] at h
       have h2:=getM_adv (v:=x.1) (a':=x.2) hg
       simp only at h
       split at h
       ·cases h
       ·obtain⟨h3,h4⟩:=listM_adv g _ _ h;exact⟨by omega,h4⟩
     ·split at h
      ·cases hg:getM B 7 a1 with
       |error e=>rw[hg] at h;cases h
       |ok x=>
        rw[hg] at h
        have h2:=getM_adv (v:=x.1) (a':=x.2) hg
        simp only at h
        split at h
        ·cases h
        ·obtain⟨h3,h4⟩:=listM_adv g _ _ h;exact⟨by omega,h4⟩
      ·obtain⟨h3,h4⟩:=listM_adv g _ _ h;exact⟨by omega,h4⟩
theorem last_get{ls:List Int}{v:Int}(h:ls.getLast?=some v):ls[ls.length-1]?=some v:=by rw[←List.getLast?_eq_getElem?];exact h
set_option maxHeartbeats 2000000 in
theorem tablesC:TabC tablesM:=fun{H0 H σ R f a most B out} hs hbad hR=>by
 have key:tablesM B a=tablesM B a:=rfl
 conv at key=>lhs;unfold tablesM
 have e5:(2:Int)^5=32:=by decide
 have e4:(2:Int)^4=16:=by decide
 refine Try.s59 ?_
 unfold Try.S59
 -- three numbers
 have three: ∀(Q:Int→Int→Int→Heap→Prop),
  (∀H' hl hd hc a' e,0≤hl∧hl<32→0≤hd∧hd<32→0≤hc∧hc<16→(e=0∧getM B 5 a= .ok (hl,a+5)∧getM B 5 (a+5)= .ok (hd,a+10)∧getM B 4 (a+10)= .ok (hc,a+14)∧a'=a+14)∨(e=20∧tablesM B a= .error 20)→
   St H0 H' (flR f B a' most out e::σ)→Q hl hd hc H')→
  CallsH Try.prog 55 #[.pointer (some ⟨f,0,none⟩),.int .i64 5] H fun r2 H3=> ∃hl4,r2= .int .i64 hl4∧CallsH Try.prog 55 #[.pointer (some ⟨f,0,none⟩),.int .i64 5] H3 fun r5 H6=> ∃hd7,r5= .int .i64 hd7∧
   CallsH Try.prog 55 #[.pointer (some ⟨f,0,none⟩),.int .i64 4] H6 fun r8 H9=> ∃hc10,r8= .int .i64 hc10∧Q hl4 hd7 hc10 H9:=fun Q hQ=>by
  have err3: ∀H6 a' hl hd,0≤hl∧hl<32→0≤hd∧hd<32→tablesM B a= .error 20→St H0 H6 (flR f B a' most out 20::σ)→CallsH Try.prog 55 #[.pointer (some ⟨f,0,none⟩),.int .i64 4] H6 fun r8 H9=> ∃hc10,r8= .int .i64 hc10∧Q hl hd hc10 H9:=fun H6 a' hl hd h1 h2 hT hs6=>
   c55 hs6 (by omega) (fun _ H9 hs9=>⟨_,rfl,hQ H9 hl hd 0 a' 20 h1 h2 (by omega) (.inr ⟨rfl,hT⟩) hs9⟩) (fun _ H9 hs9=>⟨_,rfl,hQ H9 hl hd _ _ 20 h1 h2 (pow_e e4) (.inr ⟨rfl,hT⟩) hs9⟩)
  have err2: ∀H3 a' hl,0≤hl∧hl<32→tablesM B a= .error 20→St H0 H3 (flR f B a' most out 20::σ)→CallsH Try.prog 55 #[.pointer (some ⟨f,0,none⟩),.int .i64 5] H3 fun r5 H6=> ∃hd7,r5= .int .i64 hd7∧CallsH Try.prog 55 #[.pointer (some ⟨f,0,none⟩),.int .i64 4] H6 fun r8 H9=> ∃hc10,r8= .int .i64 hc10∧Q hl hd7 hc10 H9:=fun H3 a' hl h1 hT hs3=>
   c55 hs3 (by omega) (fun _ H6 hs6=>⟨_,rfl,err3 H6 a' hl 0 h1 (by omega) hT hs6⟩) (fun _ H6 hs6=>⟨_,rfl,err3 H6 _ hl _ h1 (pow_e e5) hT hs6⟩)
  refine c55 hs (by omega) (fun hlt H3 hs3=>⟨_,rfl,err2 H3 a 0 (by omega) ?_ hs3⟩) (fun hle H3 hs3=>⟨_,rfl,?_⟩)
  ·rw[getM_bad (n:=5) hlt] at key;exact key.symm
  have g1:=getM_num (n:=5) hle
  rw[g1] at key
  simp only[show Int.toNat 5=5 from rfl] at hs3 key g1 hle ⊢
  refine c55 hs3 (by omega) (fun hlt H6 hs6=>⟨_,rfl,err3 H6 _ _ 0 (pow_e e5) (by omega) ?_ hs6⟩) (fun hle2 H6 hs6=>⟨_,rfl,?_⟩)
  ·rw[getM_bad (n:=5) hlt] at key;exact key.symm
  have g2:=getM_num (n:=5) hle2
  rw[g2] at key
  simp only[show Int.toNat 5=5 from rfl] at hs6 key g2 hle2 ⊢
  refine c55 hs6 (by omega) (fun hlt H9 hs9=>⟨_,rfl,hQ H9 _ _ 0 _ 20 (pow_e e5) (pow_e e5) (by omega) (.inr ⟨rfl,?_⟩) hs9⟩) (fun hle3 H9 hs9=>⟨_,rfl,?_⟩)
  ·rw[getM_bad (n:=4) hlt] at key;exact key.symm
  have g3:=getM_num (n:=4) hle3
  simp only[show Int.toNat 4=4 from rfl] at hs9 g3 hle3 ⊢
  exact hQ H9 _ _ _ _ 0 (pow_e e5) (pow_e e5) (pow_e e4) (.inl ⟨rfl,g1,g2,g3,rfl⟩) hs9
 refine three _ fun H9 hl hd hc a9 e9 bhl bhd bhc hcase hs9=>?_
 clear three e5 e4
 obtain⟨ra,rB,rr⟩:=flR_rd hs
 -- what is left behind the numbers
 have left: ∀e H',e≠0→tablesM B a= .error e→ ∀a' τ,St H0 H' (flR f B a' most out e::(τ++σ))→R (.tuple #[.pointer none,.pointer none]) H':=fun e H' he hT a' τ hs'=>hbad e he hT H' a' none none τ hs'
 intro J11 hJ11
 have w1:IntKind.wrap .i64 (hc+4)=((hc.toNat+4:Nat):Int):=by rw[wrap_id (by omega) (by omega)];omega
 have w2:IntKind.wrap .i64 (hl+257)=((hl.toNat+257:Nat):Int):=by rw[wrap_id (by omega) (by omega)];omega
 have w3:IntKind.wrap .i64 (IntKind.wrap .i64 (((hl.toNat+257:Nat):Int)+hd)+1)=((hl.toNat+hd.toNat+258:Nat):Int):=by rw[wrap_id (n:=_+hd) (by omega) (by omega),wrap_id (by omega) (by omega)];omega
 -- from here on
 have main: ∀H1 a1 e1,(e1=0∧tablesM B a=(match firstM B (ordL.take (hc.toNat+4)) a1 (List.replicate 19 0) with
  | .error e=> .error e
  | .ok (at4,first)=>if rightM first false false=false then .error 21 else match listM B first (hl.toNat+hd.toNat+258) (8*B.length+2) at4 [] with
   | .error e=> .error e
   | .ok (at5,ls)=>if rightM (ls.take (hl.toNat+257)) true false=false∨rightM (ls.drop (hl.toNat+257)) true true=false then .error 21 else .ok (at5,ls.take (hl.toNat+257),ls.drop (hl.toNat+257)))∧a≤a1)∨
  (e1≠0∧tablesM B a= .error e1)→St H0 H1 (flR f B a1 most out e1::σ)→J11 [] H1:=fun H1 a1 e1 hc1 hs1=>by
  refine hJ11 H1 ⟨by decide,by decide,by decide,by decide,hs1.alc fun b13 H2 hs2=>?_⟩
  refine c75 fun bo H3 hs3=>⟨_,_,_,rfl,?_⟩
  have hs3:=hs2.call hs3
  rw[show(List.toArray (reps (Int.toNat 19) (Array.toList #[Value.int .i64 0])))=(ints (List.replicate 19 0)).toArray from repsA 19] at hs3
  have hs3:=(hs3.front 2 rfl).perm (List.Perm.cons _ (List.Perm.swap _ _ _))
  simp only[List.eraseIdx] at hs3
  rw[w1,w2,w3]
  refine⟨by omega,by omega,?_⟩
  simp only[Int.toNat_natCast,Nat.sub_zero]
  intro X18 hX18
  have loop: ∀k,k≤hc.toNat+4→ ∀(a2:Nat) (e2:Int) (fs:List Int) (H4:Heap),fs.length=19→(∀x∈fs,0≤x∧x<8)→(e2=0∧e1=0∧firstM B ((ordL.take (hc.toNat+4)).take k) a1 (List.replicate 19 0)= .ok (a2,fs))∨(e2≠0∧tablesM B a= .error e2)→
   St H0 H4 (flR f B a2 most out e2:: .cell b13 (ints fs).toArray 3:: .sl (some ⟨bo,0,none⟩) 19 19 3 1 (ints (ordL.map Int.ofNat))::σ)→X18 [.int .i64 (k:Nat)] H4:=upto fun k hk ih a2 e2 fs H4 hfl hfr hc2 hs4=>by
   have hord:IS H4 (some ⟨bo,0,none⟩) 19 (kints .i64 (ordL.map Int.ofNat)):=hs4.is 2 rfl
   refine hX18 _ H4 (br_dec (fun hlt=>?_) (fun hge=>?_))
   ·have hlt:k<hc.toNat+4:=by omega
    have ho:=ordL_lt ⟨k,by omega⟩
    simp only at ho
    have hnext:=ih hlt
    rw[ordL_take hlt (by omega),firstM_snoc] at hnext
    have hg:=ordI_get (k:=k) (by omega)
    generalize ordL.getD k 0=s at ho hg hnext
    have hrd:IS H4 (if 19=0 then(some ⟨bo,0,none⟩:Option Addr) else Option.map (fun x=>Addr.add x (0*1)) (some ⟨bo,0,none⟩)) ((hc.toNat+4)-0) ((kints .i64 (ordL.map Int.ofNat)).take (hc.toNat+4)):=is_till hord (by omega)
    rw[Nat.sub_zero,kints_take] at hrd
    refine hrd.rd (x:=(s:Int)) (by omega) (by omega) (by rw[Int.toNat_natCast,List.getElem?_take_of_lt hlt];exact hg) ?_
    have wk:IntKind.wrap .i64 ((k:Int)+1)=((k+1:Nat):Int):=by rw[wrap_id (by omega) (by omega)];omega
    rw[wk]
    refine c55 hs4 (by omega) (fun hb H5 hs5=>⟨_,rfl,_,rfl,by omega,by omega,?_⟩) (fun hb H5 hs5=>⟨_,rfl,_,rfl,by omega,by omega,?_⟩)
    ·simp only[Int.toNat_natCast,Nat.mul_one]
     rw[add_none,Nat.zero_add]
     refine hs5.putA 1 rfl (by omega) fun H6 hs6=>hnext a2 _ _ H6 (by simpa using hfl) (fun x hx=>?_) (.inr ?_) hs6
     ·rcases List.mem_or_eq_of_mem_set hx with hx|rfl
      ·exact hfr x hx
      ·omega
     ·rcases hc2 with ⟨h1,h2,h3⟩|⟨h1,h2⟩
      ·rw[if_pos h1]
       refine⟨by decide,?_⟩
       rcases hc1 with ⟨_,hT,_⟩|⟨hne,_⟩
       ·have hle:=firstM_snoc (B:=B) ((ordL.take (hc.toNat+4)).take k) s a1 (List.replicate 19 0)
        have hcut:ordL.take (hc.toNat+4)=((ordL.take (hc.toNat+4)).take k++[ordL.getD k 0])++(ordL.take (hc.toNat+4)).drop (k+1):=by
         rw[←ordL_take hlt (by omega),List.take_append_drop]
        have hbadl: ∀(l:List Nat) (r:List Nat) (x:Nat) (fs:List Int) {e:Int},firstM B l x fs= .error e→firstM B (l++r) x fs= .error e:=by
         intro l
         induction l with
         |nil=>intro r x fs e h;cases h
         |cons t l ih=>
          intro r x fs e h
          rw[List.cons_append,firstM]
          rw[firstM] at h
          cases hg:getM B 3 x with
          |error e'=>rw[hg] at h;exact h
          |ok y=>rw[hg] at h;exact ih _ _ _ h
        have hbd:firstM B (ordL.take (hc.toNat+4)) a1 (List.replicate 19 0)= .error 20:=by
         rw[hcut]
         refine hbadl _ _ _ _ ?_
         rw[firstM_snoc,h3]
         simp only
         rw[getM_bad (n:=3) hb]
        rw[hbd] at hT
        exact hT
       ·exact absurd h2 hne
      ·rw[if_neg h1];exact⟨h1,h2⟩
    ·simp only[Int.toNat_natCast,Nat.mul_one]
     rw[add_none,Nat.zero_add]
     refine hs5.putA 1 rfl (by omega) fun H6 hs6=>hnext _ _ _ H6 (by simpa using hfl) (fun x hx=>?_) ?_ hs6
     ·rcases List.mem_or_eq_of_mem_set hx with hx|rfl
      ·exact hfr x hx
      ·exact pow_e (n:=3) (by decide)
     ·rcases hc2 with ⟨h1,h2,h3⟩|h
      ·left
       refine⟨h1,h2,?_⟩
       rw[h3]
       simp only
       rw[getM_num (n:=3) hb]
       rfl
      ·exact .inr h
   ·have hk:k=hc.toNat+4:=by omega
    subst hk
    rw[List.take_take,Nat.min_self] at hc2
    refine⟨_,rfl,_,flR_e hs4,br_ne (fun hne=>?_) (fun he0=>?_)⟩
    ·rcases hc2 with ⟨h1,_⟩|⟨h1,h2⟩
     ·exact absurd h1 hne
     ·exact left e2 H4 h1 h2 a2 [_,_] hs4
    subst he0
    rcases hc2 with ⟨_,h2,h3⟩|⟨h1,h2⟩
    case inr=>exact absurd rfl h1
    rcases hc1 with ⟨_,hT,haa⟩|⟨hne,_⟩
    case inr=>exact absurd h2 hne
    rw[h3] at hT
    simp only at hT
    have haa2:=(firstM_len _ h3).2
    have hfirst:IS H4 (some ⟨b13,0,none⟩) 19 (ints fs):=hs4.isA 1 rfl hfl
    refine c81 hs4 hfirst (by omega) (fun hr H5 d τ hs5=>⟨_,rfl,?_⟩) (fun hr H5 b32 P32 F32 hs5=>⟨_,rfl,?_⟩)
    ·rw[if_pos hr] at hT
     rw[if_pos rfl] at hs5
     intro J33 hJ33
     intro X44 hX44
     refine hX44 _ _ _ H5 ?_
     intro J47 hJ47
     have hend:R (.tuple #[.pointer none,.pointer none]) H5:=left 21 H5 (by decide) hT a2 (τ++[_,_]) (by simpa using hs5)
     have hj:J33 [.slice none 0 0] H5:=hJ33 _ _ _ H5 ⟨_,rfl,_,flR_e hs5,br_t rfl hend⟩
     exact br_dec (fun _=>⟨_,rfl,_,flR_e hs5,br_f rfl hj⟩) (fun _=>hj)
    rw[if_neg (by rw[hr];decide)] at hT
    have ok32:=rightM_ok hr
    intro J33 hJ33
    generalize hW:listM B fs (hl.toNat+hd.toNat+258) (8*B.length+2) a2 []=W at hT
    generalize hrest:([Rs.cell b13 (ints fs).toArray 3,.sl (some ⟨bo,0,none⟩) 19 19 3 1 (ints (ordL.map Int.ofNat))]:List Rs)=two at*
    have hs5:St H0 H5 (flR f B a2 most out 0::decR b32 fs P32 F32::(two++σ)):=by rw[←hrest];exact hs5
    generalize hT9:hl.toNat+hd.toNat+258=T at*
    generalize hN:hl.toNat+257=N at*
    -- an error on the way
    have errJ: ∀e q n m a' τ H6,e≠0→tablesM B a= .error e→St H0 H6 (flR f B a' most out e::(τ++σ))→J33 [.slice q n m] H6:=fun e q n m a' τ H6 he hTe hs6=>
     hJ33 _ _ _ H6 ⟨_,rfl,_,flR_e hs6,br_ne (fun _=>left e H6 he hTe a' τ hs6) (fun h=>absurd h he)⟩
    intro X44 hX44
    have errX: ∀e q n m a' ls' H6,e≠0→tablesM B a= .error e→St H0 H6 (flR f B a' most out e:: .sl q n m 3 1 (ints ls')::decR b32 fs P32 F32::(two++σ))→X44 [.slice q n m] H6:=fun e q n m a' ls' H6 he hTe hs6=>by
     have hj:=errJ e q n m a' (.sl q n m 3 1 (ints ls')::decR b32 fs P32 F32::two) H6 he hTe (by simpa using hs6)
     refine hX44 _ _ _ H6 ?_
     intro J47 hJ47
     exact br_dec (fun _=>⟨_,rfl,_,flR_e hs6,br_eq (fun h=>absurd h he) (fun _=>hj)⟩) (fun _=>hj)
    have grow: ∀(g a1:Nat) (ls:List Int) (q:Option Addr) (m:Nat) (H6:Heap),8*B.length+1<a1+g→a2≤a1→ls.length≤T→listM B fs T g a1 ls=W→St H0 H6 (flR f B a1 most out 0:: .sl q ls.length m 3 1 (ints ls)::decR b32 fs P32 F32::(two++σ))→X44 [.slice q ls.length m] H6:=by
     intro g
     induction g with
     |zero=>
      intro a1 ls q m H6 h1 h2 h3 he hs6
      have:=flR_rd hs6;omega
     |succ g ihg=>
      intro a1 ls q m H6 hg ha12 hlT he hs6
      rw[listM] at he
      refine hX44 _ _ _ H6 ?_
      intro J47 hJ47
      refine br_dec (fun hlt=>⟨_,rfl,_,flR_e hs6,br_t rfl (hJ47 H6 ?_)⟩) (fun hge=>?_)
      ·rw[if_neg (by omega)] at he
       have w5:IntKind.wrap .i64 ((T:Int)-(ls.length:Nat))=((T-ls.length:Nat):Int):=by rw[wrap_id (by omega) (by omega)];omega
       have hpush: ∀(J52:List Value→Heap→Prop),(∀(v53 n54:Int) H55,(∀J56:List Value→Heap→Prop,(∀H57,(∀X58:List Value→Heap→Prop,(∀(li59p:Option Addr) (li59l li59c:Nat) (t60:Int) H61,(br (decide (t60<n54))
        (alc H61 (.cells #[.int .i64 v53] 3) fun b62 H63=>appQ 1 8 #[.int .i64 0] H63 li59p li59l li59c (some ⟨b62,0,none⟩) 1 3 fun li64p li64l li64c H65=>X58 [.slice li64p li64l li64c,.int .i64 (IntKind.wrap .i64 (t60+1))] H65)
        (X44 [.slice li59p li59l li59c] H61))→X58 [.slice li59p li59l li59c,.int .i64 t60] H61)→X58 [.slice q ls.length m,.int .i64 0] H57)→J56 [] H57)→
        br (decide (n54>(IntKind.wrap .i64 ((T:Int)-(ls.length:Nat)))))
        (CallsH Try.prog 60 #[.pointer (some ⟨f,0,none⟩),.int .i64 21] H55 fun r66 H67=>r66= .tuple #[]∧J56 [] H67)
        (J56 [] H55))→J52 [.int .i64 v53,.int .i64 n54] H55)→
        ∀(e v:Int) (n a':Nat) (H7:Heap),n≤200→St H0 H7 (flR f B a' most out e:: .sl q ls.length m 3 1 (ints ls)::decR b32 fs P32 F32::(two++σ))→
        (∀q' m' H8,St H0 H8 (flR f B a' most out (if (n:Int)>((T-ls.length:Nat):Int) then(if e=0 then 21 else e) else e):: .sl q' (ls++List.replicate n v).length m' 3 1 (ints (ls++List.replicate n v))::decR b32 fs P32 F32::(two++σ))→X44 [.slice q' (ls++List.replicate n v).length m'] H8)→
        J52 [.int .i64 v,.int .i64 (n:Nat)] H7:=fun J52 hJ52 e v n a' H7 hn hs7 hafter=>by
        refine hJ52 _ _ H7 ?_
        intro J56 hJ56
        have app: ∀e' H8,e'=(if (n:Int)>((T-ls.length:Nat):Int) then(if e=0 then 21 else e) else e)→St H0 H8 (flR f B a' most out e':: .sl q ls.length m 3 1 (ints ls)::decR b32 fs P32 F32::(two++σ))→J56 [] H8:=fun e' H8 he' hs8=>by
         refine hJ56 H8 ?_
         intro X58 hX58
         have go: ∀k,k≤n→ ∀q' m' H9,St H0 H9 (flR f B a' most out e':: .sl q' (ls.length+k) m' 3 1 (ints (ls++List.replicate k v))::decR b32 fs P32 F32::(two++σ))→X58 [.slice q' (ls.length+k) m',.int .i64 (k:Nat)] H9:=upto fun k hk ih q' m' H9 hs9=>by
          refine hX58 _ _ _ _ H9 (br_dec (fun hlt=>?_) (fun hge=>?_))
          ·refine hs9.alc fun b H10 hs10=>?_
           refine hs10.appC 2 0 (el:=3) (k:=1) rfl rfl rfl (one1 rfl) (by decide) rfl (by omega) (by omega) fun p' c' H11 hs11=>?_
           rw[wrap_id (by omega) (by omega)]
           refine ih (by omega) p' c' H11 ?_
           rw[List.replicate_succ',←List.append_assoc,ints_append]
           exact hs11.tail
          ·have:k=n:=by omega
           subst this
           have:=hafter q' m' H9 (by rw[←he',List.length_append,List.length_replicate];exact hs9)
           rw[List.length_append,List.length_replicate] at this
           exact this
         exact go 0 (by omega) q m H8 (by simpa using hs8)
        rw[w5]
        refine br_dec (fun hgt=>c60 hs7 fun H8 hs8=>⟨rfl,app _ H8 (by rw[if_pos hgt]) hs8⟩) (fun hle=>app _ H7 (by rw[if_neg hle]) hs7)
       refine c79 hs6 (j:=1) rfl (fun k hk hsy H7 a7 hs7=>⟨_,rfl,?_⟩) (fun s a7 hsy H7 hs7=>⟨_,rfl,?_⟩)
       ·intro J52 hJ52
        rw[hsy] at he
        simp only at he
        rw[←he] at hT
        have hT:tablesM B a= .error k:=hT
        refine br_eq (fun h=>absurd h (by decide)) (fun _=>br_eq (fun h=>absurd h (by decide)) (fun _=>br_eq (fun h=>absurd h (by decide)) (fun _=>?_)))
        refine hpush J52 hJ52 k 0 1 a7 H7 (by omega) hs7 fun q' m' H8 hs8=>?_
        have e1:(if ((1:Nat):Int)>((T-ls.length:Nat):Int) then(if k=0 then 21 else k) else k)=k:=by rw[if_neg hk,ite_self]
        rw[e1] at hs8
        exact errX k _ _ _ _ _ H8 hk hT hs8
       ·have hadv:=symM_adv hsy
        rw[hsy] at he
        simp only at he
        intro J52 hJ52
        -- behind the bits of a repeat
        have rep: ∀(v:Int) (x:Int) (c:Nat) (a8:Nat) (H8:Heap),0≤x→(c:Int)+x≤200→a7≤a8→(if (c:Int)+x>(T:Int)-ls.length then .error 21 else listM B fs T g a8 (ls++List.replicate ((c:Int)+x).toNat v))=W→St H0 H8 (flR f B a8 most out 0:: .sl q ls.length m 3 1 (ints ls)::decR b32 fs P32 F32::(two++σ))→J52 [.int .i64 v,.int .i64 (IntKind.wrap .i64 ((c:Int)+x))] H8:=fun v x c a8 H8 hx0 hx hle he hs8=>by
         rw[wrap_id (by omega) (by omega)]
         obtain⟨n,hn⟩:=Int.eq_ofNat_of_zero_le (show 0≤(c:Int)+x by omega)
         rw[hn] at he hx ⊢
         rw[Int.toNat_natCast] at he
         refine hpush J52 hJ52 0 v n a8 H8 (by omega) hs8 fun q' m' H9 hs9=>?_
         by_cases hgt:(n:Int)>((T-ls.length:Nat):Int)
         ·rw[if_pos hgt,if_pos rfl] at hs9
          rw[if_pos (by omega)] at he
          rw[←he] at hT
          exact errX 21 _ _ _ _ _ H9 (by decide) hT hs9
         ·rw[if_neg hgt] at hs9
          rw[if_neg (by omega)] at he
          exact ihg a8 _ q' m' H9 (by omega) (by omega) (by rw[List.length_append,List.length_replicate];omega) he hs9
        have repE: ∀(v:Int) (n:Nat) (a8:Nat) (H8:Heap),n≤200→tablesM B a= .error 20→St H0 H8 (flR f B a8 most out 20:: .sl q ls.length m 3 1 (ints ls)::decR b32 fs P32 F32::(two++σ))→J52 [.int .i64 v,.int .i64 (n:Nat)] H8:=fun v n a8 H8 hn hTe hs8=>by
         refine hpush J52 hJ52 20 v n a8 H8 hn hs8 fun q' m' H9 hs9=>?_
         have e1:(if ((n:Nat):Int)>((T-ls.length:Nat):Int) then(if (20:Int)=0 then 21 else 20) else 20)=(20:Int):=by split<;>rfl
         rw[e1] at hs9
         exact errX 20 _ _ _ _ _ H9 (by decide) hTe hs9
        have hlsr: ∀{H8:Heap} {e8:Int} {a8:Nat},St H0 H8 (flR f B a8 most out e8:: .sl q ls.length m 3 1 (ints ls)::decR b32 fs P32 F32::(two++σ))→IS H8 q ls.length (kints .i64 ls):=fun hs8=>hs8.is 1 rfl
        refine br_eq (fun h16=>?_) (fun h16=>br_eq (fun h17=>?_) (fun h17=>br_eq (fun h18=>?_) (fun h18=>?_)))
        ·rw[if_pos (by omega)] at he
         refine c55 hs7 (by omega) (fun hb H8 hs8=>⟨_,rfl,?_⟩) (fun hb H8 hs8=>⟨_,rfl,?_⟩)
         ·rw[getM_bad (n:=2) hb] at he
          rw[←he] at hT
          have hT:tablesM B a= .error 20:=hT
          rw[if_pos rfl] at hs8
          refine br_eq (fun hl0=>c60 hs8 fun H9 hs9=>⟨rfl,?_⟩) (fun hl0=>?_)
          ·rw[if_neg (by decide)] at hs9
           exact left 20 H9 (by decide) hT _ (.sl q ls.length m 3 1 (ints ls)::decR b32 fs P32 F32::two) (by simpa using hs9)
          ·rw[wrap_id (n:=((ls.length:Nat):Int)-1) (by omega) (by omega)]
           refine(hlsr hs8).rd (by omega) (by omega) (get_gD ls 0 (by omega)) ?_
           rw[show IntKind.wrap .i64 ((3:Int)+0)=((3:Nat):Int) from by decide]
           exact repE _ 3 _ H8 (by omega) hT hs8
         ·rw[getM_num (n:=2) hb] at he
          simp only[show Int.toNat 2=2 from rfl] at hs8 he hb ⊢
          have hx:=pow_e (n:=2) (d:=4) (by decide) (B:=B) (a:=a7)
          generalize numB false B a7 2=x at*
          refine br_eq (fun hl0=>c60 hs8 fun H9 hs9=>⟨rfl,?_⟩) (fun hl0=>?_)
          ·rw[if_pos rfl] at hs9
           have:ls=[]:=List.length_eq_zero_iff.1 (by omega)
           rw[this,List.getLast?_nil] at he
           rw[←he] at hT
           exact left 21 H9 (by decide) hT _ (.sl q ls.length m 3 1 (ints ls)::decR b32 fs P32 F32::two) (by simpa using hs9)
          ·rw[wrap_id (n:=((ls.length:Nat):Int)-1) (by omega) (by omega)]
           cases hv:ls.getLast? with
           |none=>rw[List.getLast?_eq_none_iff] at hv;rw[hv] at hl0;exact absurd rfl hl0
           |some v=>
            rw[hv] at he
            refine(hlsr hs8).rd (x:=v) (by omega) (by omega) (by rw[show(((ls.length:Nat):Int)-1).toNat=ls.length-1 from by omega];exact last_get hv) ?_
            exact rep v x 3 _ H8 hx.1 (by omega) (by omega) he hs8
        ·rw[if_neg (by omega),if_pos (by omega)] at he
         refine c55 hs7 (by omega) (fun hb H8 hs8=>⟨_,rfl,?_⟩) (fun hb H8 hs8=>⟨_,rfl,?_⟩)
         ·rw[getM_bad (n:=3) hb] at he
          rw[←he] at hT
          rw[if_pos rfl] at hs8
          rw[show IntKind.wrap .i64 ((3:Int)+0)=((3:Nat):Int) from by decide]
          exact repE _ 3 _ H8 (by omega) hT hs8
         ·rw[getM_num (n:=3) hb] at he
          simp only[show Int.toNat 3=3 from rfl] at hs8 he hb ⊢
          have hx:=pow_e (n:=3) (d:=8) (by decide) (B:=B) (a:=a7)
          exact rep 0 _ 3 _ H8 hx.1 (by omega) (by omega) he hs8
        ·rw[if_neg (by omega),if_neg (by omega),if_pos (by omega)] at he
         refine c55 hs7 (by omega) (fun hb H8 hs8=>⟨_,rfl,?_⟩) (fun hb H8 hs8=>⟨_,rfl,?_⟩)
         ·rw[getM_bad (n:=7) hb] at he
          rw[←he] at hT
          rw[if_pos rfl] at hs8
          rw[show IntKind.wrap .i64 ((11:Int)+0)=((11:Nat):Int) from by decide]
          exact repE _ 11 _ H8 (by omega) hT hs8
         ·rw[getM_num (n:=7) hb] at he
          simp only[show Int.toNat 7=7 from rfl] at hs8 he hb ⊢
          have hx:=pow_e (n:=7) (d:=128) (by decide) (B:=B) (a:=a7)
          exact rep 0 _ 11 _ H8 hx.1 (by omega) (by omega) he hs8
        ·rw[if_neg (by omega),if_neg (by omega),if_neg (by omega)] at he
         refine hpush J52 hJ52 0 (s:Int) 1 a7 H7 (by omega) hs7 fun q' m' H9 hs9=>?_
         rw[if_neg (by omega)] at hs9
         exact ihg a7 _ q' m' H9 (by omega) (by omega) (by simp;omega) he hs9
      ·rw[if_pos (by omega)] at he
       rw[←he] at hT
       simp only at hT
       have hcap:=(hs6.fs 1 rfl).le
       refine hJ33 _ _ _ H6 ⟨_,rfl,_,flR_e hs6,br_f rfl ⟨by omega,by omega,by omega,by omega,?_⟩⟩
       have i1:=is_till (hs6.is 1 rfl) (c:=m) (n:=N) (by omega)
       rw[ints_take] at i1
       have i2: ∀{H7:Heap},IS H7 q ls.length (ints ls)→IS H7 (if m=N then q else Option.map (fun x=>Addr.add x (N*1)) q) (ls.length-N) (ints (ls.drop N)):=fun h=>by
        have:=is_from h hcap (a:=N) (by omega)
        rwa [ints_drop] at this
       refine c81 hs6 i1 (by omega) (fun hr1 H7 d1 τ hs7=>⟨_,rfl,?_⟩) (fun hr1 H7 b1 P1 F1 hs7=>⟨_,rfl,?_⟩)
       ·rw[if_pos (.inl hr1)] at hT
        rw[if_pos rfl] at hs7
        have hs7:=hs7.perm (List.Perm.cons _ List.perm_append_comm)
        refine c81 hs7 (i2 (hs7.is 1 rfl)) (by omega) (fun hr2 H8 d2 τ2 hs8=>⟨_,rfl,?_⟩) (fun hr2 H8 b2 P2 F2 hs8=>⟨_,rfl,?_⟩)
        ·rw[if_neg (by decide)] at hs8
         exact hbad 21 (by decide) hT H8 _ _ _ (τ2++(.sl q ls.length m 3 1 (ints ls)::decR b32 fs P32 F32::two)++τ) (hs8.perm (List.Perm.cons _ (by
          simp only[List.append_eq,List.append_assoc,List.cons_append]
          exact List.Perm.append_left _ (List.Perm.cons _ (List.Perm.cons _ (List.Perm.append_left _ List.perm_append_comm))))))
        ·exact hbad 21 (by decide) hT H8 _ _ _ (decR b2 (ls.drop N) P2 F2::(.sl q ls.length m 3 1 (ints ls)::decR b32 fs P32 F32::two)++τ) (hs8.perm (List.Perm.cons _ (by
          simp only[List.append_eq,List.append_assoc,List.cons_append]
          exact List.Perm.cons _ (List.Perm.cons _ (List.Perm.cons _ (List.Perm.append_left _ List.perm_append_comm))))))
       ·refine c81 hs7 (i2 (hs7.is 2 rfl)) (by omega) (fun hr2 H8 d2 τ2 hs8=>⟨_,rfl,?_⟩) (fun hr2 H8 b2 P2 F2 hs8=>⟨_,rfl,?_⟩)
        ·rw[if_pos (.inr hr2)] at hT
         rw[if_pos rfl] at hs8
         exact hbad 21 (by decide) hT H8 _ _ _ (τ2++decR b1 (ls.take N) P1 F1:: .sl q ls.length m 3 1 (ints ls)::decR b32 fs P32 F32::two) (by simpa using hs8)
        ·rw[if_neg (by rw[hr1,hr2];decide)] at hT
         exact hR _ _ _ hT (by omega) H8 b1 b2 P1 F1 P2 F2 (.sl q ls.length m 3 1 (ints ls)::decR b32 fs P32 F32::two) (by
          have:=hs8.perm (List.Perm.cons _ (List.Perm.swap _ _ _))
          simpa using this)
    have hs6:=hs5.nilSl 3 1
    exact grow (8*B.length+2) a2 [] none 0 H5 (by omega) (Nat.le_refl _) (by simp) hW (hs6.swap)
  have hz:=loop 0 (by omega) a1 e1 (List.replicate 19 0) H3 (by simp) (fun x hx=>by rw[(List.mem_replicate.1 hx).2];omega) (by
   rcases hc1 with ⟨h1,_⟩|h
   ·exact .inl ⟨h1,h1,rfl⟩
   ·exact .inr h) hs3
  exact hz
 rcases hcase with ⟨he,g1,g2,g3,ha9⟩|⟨he,hT⟩
 ·subst he ha9
  rw[g1] at key
  simp only at key
  rw[g2] at key
  simp only at key
  rw[g3] at key
  simp only at key
  have bad25:hl>29∨hd>29→ ∀H',St H0 H' (flR f B (a+14) most out 25::σ)→J11 [] H':=fun hb H' hs'=>by
   rw[if_pos hb] at key
   exact main H' (a+14) 25 (.inr ⟨by decide,key.symm⟩) hs'
  refine⟨_,rfl,_,flR_e hs9,br_t rfl (br_dec (fun h1=>c60 hs9 fun H10 hs10=>⟨rfl,bad25 (.inl h1) H10 hs10⟩) (fun h1=>br_dec (fun h2=>c60 hs9 fun H10 hs10=>⟨rfl,bad25 (.inr h2) H10 hs10⟩) (fun h2=>?_)))⟩
  rw[if_neg (by omega)] at key
  exact main H9 (a+14) 0 (.inl ⟨rfl,key.symm,by omega⟩) hs9
 ·subst he
  exact⟨_,rfl,_,flR_e hs9,br_f rfl (main H9 a9 20 (.inr ⟨by decide,hT⟩) hs9)⟩
end Go.Proofs
namespace Go.Proofs
open Go.Sh
variable {H0 H:Heap} {σ:List Rs} {R:Value→Heap→Prop}
theorem perm24(a b c d e f:Rs)(τ:List Rs):(a::b::c::d::e::f::τ).Perm (c::d::e::f::a::b::τ):=(List.perm_append_comm (l₁:=[a,b]) (l₂:=[c,d,e,f])).append_right τ
theorem cntH_step{all:List Int}{k:Nat}{n:Int}(h:all[k]?=some n):cntH (all.take (k+1))=bump (cntH (all.take k)) n:=by
 unfold cntH
 rw[List.take_add_one,h,Option.toList_some,List.foldl_append];rfl
set_option maxHeartbeats 1000000 in
theorem c51(hs:St H0 H σ){i k b m:Nat}{ws:List Int}{ts:List Tok}{q:Option Addr}(hi:σ[i]?=some (wrR b false ws))(hk:σ[k]?=some (.sl q ts.length m 97 3 (tokL ts)))
 (hik:i≠k)(hr: ∀t∈ts,TokR t)(hl:ws.length+50*ts.length+10000≤1000000000){last:Int}(h01:0≤last∧last<2)
 (hR: ∀H',St H0 H' (σ.set i (wrR b false (ws++dynB ts last)))→R (.tuple #[]) H'):
 CallsH Try.prog 51 #[.agg #[.pointer (some ⟨b,0,none⟩)],.slice q ts.length m,.int .i64 last] H R:=by
 have dy:=dyn_of hr (by omega)
 have hcl:=(cntL_ok hr)
 have hcd:=(cntD_ok hr)
 refine Try.s51 ?_
 unfold Try.S51
 refine hs.alc fun b4 H5 hs5=>?_
 refine c70 (hs5.rs (k+1) (by rw[List.getElem?_cons_succ];exact hk)) hr (by omega) fun b1 b2 H7 hs7=>⟨_,_,_,_,_,_,rfl,?_⟩
 have hs7:=hs5.call hs7
 have wl:(litL ts).length=(cntL ts).length:=by rw[dy.ll,hcl.1]
 have wd:(dstL ts).length=(cntD ts).length:=by rw[dy.dl,hcd.1]
 refine c71 (hs7.is 0 rfl) (by rw[hcl.1];decide) (by rw[hcl.1];decide) (fun x hx=>(hcl.2.1 x hx).1) dy.lo wl fun bl H11 hs11=>⟨_,_,_,rfl,?_⟩
 have hs11:=hs7.call hs11
 refine c71 (hs11.is 2 rfl) (by rw[hcd.1];decide) (by rw[hcd.1];decide) (fun x hx=>(hcd.2.1 x hx).1) dy.do_ wd fun bd H14 hs14=>⟨_,_,_,rfl,?_⟩
 have hs14:=hs11.call hs14
 change St H0 H14 (.sl (some ⟨bd,0,none⟩) (dstL ts).length (dstL ts).length 3 1 (ints (dstL ts)):: .sl (some ⟨bl,0,none⟩) (litL ts).length (litL ts).length 3 1 (ints (litL ts))::_::_::_::σ) at hs14
 refine c48 (ll:=litL ts) (dl:=dstL ts) (hs14.is 1 rfl) (hs14.is 0 rfl) dy.l.ok dy.d.ok fun q3 q4 H17 hs17=>⟨_,rfl,?_⟩
 have hs17:=hs14.call hs17
 refine hs17.alc fun b19 H20 hs20=>⟨rfl,hs20.putAll 0 rfl rfl (by simp[Value.oneCell']) fun H21 hs21=>?_⟩
 rw[List.set_cons_zero] at hs21
 have hs21:=(hs21.del 5).del 5
 refine⟨_,_,_,hs21.get 0 (j:=0) rfl rfl,_,_,_,hs21.get 0 (j:=1) rfl rfl,hs21.alc fun b24 H25 hs25=>?_⟩
 refine c72 (hs25.block 0 rfl) (hs25.rs 5 rfl) (hs25.rs 4 rfl) (by rw[dy.ll,dy.dl];decide) fun H27 pa ca fa ea=>⟨_,_,_,rfl,by decide,by decide,by decide,by decide,?_⟩
 have hs27:=hs25.newSl ea fa
 rw[←ints_append] at hs27
 -- the codes are kept
 have hs27:St H0 H27 (.pers (SetI (some ⟨bl,0,none⟩) (some ⟨bd,0,none⟩) q3 q4 (litL ts) (dstL ts)):: .sl pa ((litL ts).length+(dstL ts).length) ca 3 1 (ints (litL ts++dstL ts)):: .cell b19 #[.slice (some ⟨bl,0,none⟩) (litL ts).length (litL ts).length,.slice (some ⟨bd,0,none⟩) (dstL ts).length (dstL ts).length,.slice q3 (litL ts).length (litL ts).length,.slice q4 (dstL ts).length (dstL ts).length] 76:: .cell b4 #[.pointer (some ⟨b,0,none⟩)] 72::σ):=by
  have h1:=hs27.del 1
  have h2:St H0 H27 ([.sl q4 (dstL ts).length (dstL ts).length 3 1 (ints (codesM (dstL ts))),.sl q3 (litL ts).length (litL ts).length 3 1 (ints (codesM (litL ts))),.sl (some ⟨bd,0,none⟩) (dstL ts).length (dstL ts).length 3 1 (ints (dstL ts)),.sl (some ⟨bl,0,none⟩) (litL ts).length (litL ts).length 3 1 (ints (litL ts))]++
   (.sl pa ((litL ts).length+(dstL ts).length) ca 3 1 (ints (litL ts++dstL ts)):: .cell b19 #[.slice (some ⟨bl,0,none⟩) (litL ts).length (litL ts).length,.slice (some ⟨bd,0,none⟩) (dstL ts).length (dstL ts).length,.slice q3 (litL ts).length (litL ts).length,.slice q4 (dstL ts).length (dstL ts).length] 76:: .cell b4 #[.pointer (some ⟨b,0,none⟩)] 72::σ)):=
   h1.perm (perm24 _ _ _ _ _ _ _)
  exact h2.persOf fun H' h=>⟨h.is 3 rfl,h.is 2 rfl,h.is 1 rfl,h.is 0 rfl⟩
 have hal:(litL ts++dstL ts).length=316:=by rw[List.length_append,dy.ll,dy.dl]
 have hal2:(litL ts).length+(dstL ts).length=316:=by rw[dy.ll,dy.dl]
 have hall:=dy.all
 refine hs27.alc fun b29 H30 hs30=>?_
 have hs30:=st_zeros hs30 0 rfl
 rw[List.set_cons_zero] at hs30
 intro X31 hX31
 -- the counts of the lengths
 have cnts: ∀t,t≤316→ ∀H33,St H0 H33 (.sl (some ⟨b29,0,none⟩) 19 19 3 1 (ints (cntH ((litL ts++dstL ts).take t))):: .pers (SetI (some ⟨bl,0,none⟩) (some ⟨bd,0,none⟩) q3 q4 (litL ts) (dstL ts)):: .sl pa ((litL ts).length+(dstL ts).length) ca 3 1 (ints (litL ts++dstL ts)):: .cell b19 #[.slice (some ⟨bl,0,none⟩) (litL ts).length (litL ts).length,.slice (some ⟨bd,0,none⟩) (dstL ts).length (dstL ts).length,.slice q3 (litL ts).length (litL ts).length,.slice q4 (dstL ts).length (dstL ts).length] 76:: .cell b4 #[.pointer (some ⟨b,0,none⟩)] 72::σ)→X31 [.int .i64 (t:Nat)] H33:=upto fun t ht ih H33 hs33=>by
  refine hX31 _ H33 (br_dec (fun hlt=>?_) (fun hge=>?_))
  ·have hlt:t<316:=by omega
   have hA:IS H33 pa ((litL ts).length+(dstL ts).length) (kints .i64 (litL ts++dstL ts)):=hs33.is 2 rfl
   have hg:=get_gD (litL ts++dstL ts) 0 (i:=t) (by omega)
   have hm:=hall _ (List.mem_of_getElem? hg)
   have ih:=ih hlt
   rw[cntH_step hg] at ih
   generalize (litL ts++dstL ts).getD t 0=n at hg hm ih
   refine hA.rd (by omega) (by omega) (by rw[Int.toNat_natCast];exact hg) ?_
   obtain⟨s,rfl⟩:=Int.eq_ofNat_of_zero_le hm.1
   have hC:IS H33 (some ⟨b29,0,none⟩) 19 (kints .i64 (cntH ((litL ts++dstL ts).take t))):=hs33.is 0 rfl
   have hcl:(cntH ((litL ts++dstL ts).take t)).length=19:=by unfold cntH;rw[foldl_bump_len,List.length_replicate]
   have hcr:=cnt_rng (l:=(litL ts++dstL ts).take t) (o:=List.replicate 19 0) (s:=s) (fun x hx=>by have:=hall x (List.mem_of_mem_take hx);rw[List.length_replicate];omega) (fun x hx=>by rw[(List.mem_replicate.1 hx).2];omega)
   rw[List.length_take] at hcr
   refine hC.rd (by omega) (by omega) (by rw[Int.toNat_natCast];exact bump_get (by omega)) ⟨_,rfl,by omega,by omega,?_⟩
   rw[Int.toNat_natCast,add_none,Nat.zero_add,Nat.mul_one]
   refine st_bump hs33 0 rfl (by omega) (by unfold cntH;omega) fun H39 hs39=>?_
   rw[wrap_id (by omega) (by omega)]
   exact ih H39 hs39
  ·have:t=316:=by omega
   subst this
   rw[List.take_of_length_le (by omega)] at hs33
   obtain⟨h1,h2,_,_⟩:=bumps_ok (l:=litL ts++dstL ts) (o:=List.replicate 19 0) (fun x hx=>by have:=hall x hx;rw[List.length_replicate];omega) (fun x hx=>by rw[(List.mem_replicate.1 hx).2];omega)
   rw[List.length_replicate] at h1
   have hcl:(cntH (litL ts++dstL ts)).length=19:=h1
   refine c74 hs33 (i:=0) rfl hcl (by rw[hcl];decide) (by rw[hcl];decide) (fun x hx=>by have:=h2 x hx;omega) fun H41 hs41=>⟨_,_,_,rfl,?_⟩
   rw[List.set_cons_zero] at hs41
   refine c73 (hs41.is 0 rfl) (by decide) (fun _ _ hn=>absurd dy.ho hn) fun _ H44 bf ff ef=>⟨_,_,_,_,rfl,?_⟩
   have hs44:=hs41.newSl ef ff
   change St H0 H44 (.sl (some ⟨bf,0,none⟩) 19 19 3 1 (ints (hdrL ts))::_) at hs44
   refine c69 (hs44.is 0 rfl) (fun hn=>absurd dy.h.ok hn) fun _ H48 bc fc ec=>⟨_,_,_,_,rfl,?_⟩
   have hs48:=(hs44.newSl ec fc).del 2
   have hs48:St H0 H48 (.sl (some ⟨bc,0,none⟩) 19 19 3 1 (ints (codesM (hdrL ts))):: .sl (some ⟨bf,0,none⟩) 19 19 3 1 (ints (hdrL ts)):: .pers (SetI (some ⟨bl,0,none⟩) (some ⟨bd,0,none⟩) q3 q4 (litL ts) (dstL ts)):: .sl pa ((litL ts).length+(dstL ts).length) ca 3 1 (ints (litL ts++dstL ts))::
    .cell b19 #[.slice (some ⟨bl,0,none⟩) (litL ts).length (litL ts).length,.slice (some ⟨bd,0,none⟩) (dstL ts).length (dstL ts).length,.slice q3 (litL ts).length (litL ts).length,.slice q4 (dstL ts).length (dstL ts).length] 76:: .cell b4 #[.pointer (some ⟨b,0,none⟩)] 72::σ.set i (wrR b false ws)):=by
    obtain⟨g1,g2⟩:=List.getElem?_eq_some_iff.1 hi
    rw[←g2,List.set_getElem_self];exact hs48
   generalize hP:Rs.pers (SetI (some ⟨bl,0,none⟩) (some ⟨bd,0,none⟩) q3 q4 (litL ts) (dstL ts))=P at*
   generalize hA:Rs.sl pa ((litL ts).length+(dstL ts).length) ca 3 1 (ints (litL ts++dstL ts))=A at*
   generalize hS:Rs.cell b19 #[.slice (some ⟨bl,0,none⟩) (litL ts).length (litL ts).length,.slice (some ⟨bd,0,none⟩) (dstL ts).length (dstL ts).length,.slice q3 (litL ts).length (litL ts).length,.slice q4 (dstL ts).length (dstL ts).length] 76=S at*
   generalize hF:Rs.sl (some ⟨bf,0,none⟩) 19 19 3 1 (ints (hdrL ts))=F at*
   generalize hC:Rs.sl (some ⟨bc,0,none⟩) 19 19 3 1 (ints (codesM (hdrL ts)))=C at*
   generalize hD:Rs.cell b4 #[.pointer (some ⟨b,0,none⟩)] 72=D at*
   have hW: ∀x:List Int,(C::F::P::A::S::D::σ.set i (wrR b false x))[i+6]?=some (wrR b false x):=fun x=>by
    simp only[List.getElem?_cons_succ];exact setget hi _
   have step: ∀{H1:Heap} {x:List Int},St H0 H1 (C::F::P::A::S::D::σ.set i (wrR b false x))→ ∀{v:Int} {n:Nat},n≤24→0≤v→v<2^n→x.length+n≤1000000000→ ∀{K:Bool→Heap→Prop},(∀H2,St H0 H2 (C::F::P::A::S::D::σ.set i (wrR b false (x++bitsOf false v n)))→K true H2)→
    CallsH Try.prog 46 #[.pointer (some ⟨b,0,none⟩),.int .i64 v,.int .i64 (n:Nat)] H1 fun r H2=> ∃z,r= .bool z∧K z H2:=fun hs1 v n h1 h2 h3 h4 K hK=>
    put_ok hs1 (hW _) h1 h2 h3 h4 fun H2 hs2=>⟨_,rfl,hK H2 (by simp only[List.set_cons_succ] at hs2;rw[setset] at hs2;exact hs2)⟩
   have gW: ∀{H1:Heap} {x:List Int},St H0 H1 (C::F::P::A::S::D::σ.set i (wrR b false x))→Sh.cell H1 ⟨b4,0,none⟩=some (.pointer (some ⟨b,0,none⟩)):=fun hs1=>hs1.get 5 (j:=0) (by rw[←hD];rfl) rfl
   have hbase:ws.length+8000≤1000000000:=by omega
   refine⟨_,gW hs48,step (n:=1) hs48 (by omega) h01.1 (by have:=h01.2;omega) (by omega) fun H53 hs53=>?_⟩
   refine⟨_,gW hs53,step (n:=2) hs53 (by omega) (by omega) (by decide) (by rw[List.length_append,bitsOf_len];omega) fun H57 hs57=>?_⟩
   refine⟨_,gW hs57,_,_,_,hs57.get 4 (j:=0) (by rw[←hS];rfl) rfl,?_⟩
   rw[show IntKind.wrap .i64 (((litL ts).length:Int)-257)=29 from by rw[dy.ll];decide]
   refine step (n:=5) hs57 (by omega) (by omega) (by decide) (by simp only[List.length_append,bitsOf_len];omega) fun H62 hs62=>?_
   refine⟨_,gW hs62,_,_,_,hs62.get 4 (j:=1) (by rw[←hS];rfl) rfl,?_⟩
   rw[show IntKind.wrap .i64 (((dstL ts).length:Int)-1)=29 from by rw[dy.dl];decide]
   refine step (n:=5) hs62 (by omega) (by omega) (by decide) (by simp only[List.length_append,bitsOf_len];omega) fun H67 hs67=>?_
   refine⟨_,gW hs67,step (n:=4) hs67 (by omega) (by omega) (by decide) (by simp only[List.length_append,bitsOf_len];omega) fun H71 hs71=>?_⟩
   refine c75 fun bo H74 hs74=>⟨_,_,_,rfl,?_⟩
   have hs74:=hs71.call hs74
   change St H0 H74 (.sl (some ⟨bo,0,none⟩) 19 19 3 1 (ints (ordL.map Int.ofNat))::C::F::P::A::S::D::σ.set i (wrR b false _)) at hs74
   generalize hO:Rs.sl (some ⟨bo,0,none⟩) 19 19 3 1 (ints (ordL.map Int.ofNat))=O at*
   have hws:(ws++bitsOf false last 1++bitsOf false 2 2++bitsOf false 29 5++bitsOf false 29 5++bitsOf false 15 4).length=ws.length+17:=by simp only[List.length_append,bitsOf_len]
   have hdef:ws++dynB ts last=(ws++bitsOf false last 1++bitsOf false 2 2++bitsOf false 29 5++bitsOf false 29 5++bitsOf false 15 4)++ordL.flatMap (fun s=>bitsOf false ((hdrL ts).getD s 0) 3)++(litL ts++dstL ts).flatMap (fun n=>symBits (hdrL ts) n.toNat)++toksB (litL ts) (dstL ts) ts:=by
    unfold dynB;simp only[List.append_assoc]
   rw[hdef] at hR
   generalize (ws++bitsOf false last 1++bitsOf false 2 2++bitsOf false 29 5++bitsOf false 29 5++bitsOf false 15 4)=w0 at*
   have hWO: ∀x:List Int,(O::C::F::P::A::S::D::σ.set i (wrR b false x))[i+7]?=some (wrR b false x):=fun x=>by
    simp only[List.getElem?_cons_succ];exact setget hi _
   have hh8: ∀x∈hdrL ts,0≤x∧x<8:=fun x hx=>by have:=dy.h.rng x hx;omega
   intro X76 hX76
   have ords: ∀t,t≤19→ ∀H1,St H0 H1 (O::C::F::P::A::S::D::σ.set i (wrR b false (w0++(ordL.take t).flatMap (fun s=>bitsOf false ((hdrL ts).getD s 0) 3))))→X76 [.int .i64 (t:Nat)] H1:=upto fun t ht ih H1 hs1=>by
    refine hX76 _ H1 (br_dec (fun hlt=>?_) (fun hge=>?_))
    ·have hlt:t<19:=by omega
     have hOI:IS H1 (some ⟨bo,0,none⟩) 19 (kints .i64 (ordL.map Int.ofNat)):=hs1.is 0 (by rw[←hO];rfl)
     have hFI:IS H1 (some ⟨bf,0,none⟩) 19 (kints .i64 (hdrL ts)):=hs1.is 2 (by rw[←hF];rfl)
     have ho:=ordL_lt ⟨t,hlt⟩
     simp only at ho
     have hg:=ordI_get hlt
     have hfl:((ordL.take t).flatMap (fun s=>bitsOf false ((hdrL ts).getD s 0) 3)).length≤3*t:=by
      have: ∀l:List Nat,(l.flatMap (fun s=>bitsOf false ((hdrL ts).getD s 0) 3)).length=3*l.length:=fun l=>by
       induction l with
       |nil=>rfl
       |cons x l ih=>rw[List.flatMap_cons,List.length_append,ih,bitsOf_len,List.length_cons];omega
      rw[this,List.length_take];omega
     have ih:=ih hlt
     have eo:ordL.take (t+1)=ordL.take t++[ordL.getD t 0]:=by rw[List.take_add_one,get_gD ordL 0 (by show t<19;exact hlt)];rfl
     rw[eo,List.flatMap_append,←List.append_assoc,List.flatMap_singleton] at ih
     generalize ordL.getD t 0=s at ho hg ih
     refine hOI.rd (by omega) (by omega) (by rw[Int.toNat_natCast];exact hg) ⟨_,hs1.get 6 (j:=0) (by rw[←hD];rfl) rfl,?_⟩
     have hv:=get_gD (hdrL ts) 0 (i:=s) (by rw[dy.hl];exact ho)
     have hvr:=hh8 _ (List.mem_of_getElem? hv)
     refine hFI.rd (by omega) (by omega) (by rw[Int.toNat_natCast];exact hv) ?_
     refine put_ok hs1 (hWO _) (n:=3) (by omega) hvr.1 (by have:=hvr.2;omega) (by rw[List.length_append];omega) fun H2 hs2=>⟨_,rfl,?_⟩
     simp only[List.set_cons_succ] at hs2
     rw[setset] at hs2
     rw[wrap_id (by omega) (by omega)]
     exact ih H2 hs2
    ·have:t=19:=by omega
     subst this
     rw[show ordL.take 19=ordL from rfl] at hs1
     have hlen0:(ordL.flatMap (fun s=>bitsOf false ((hdrL ts).getD s 0) 3)).length=57:=by simp[ordL,bitsOf_len]
     generalize hw1:w0++ordL.flatMap (fun s=>bitsOf false ((hdrL ts).getD s 0) 3)=w1 at hs1 hR
     have hw1l:w1.length=ws.length+74:=by rw[←hw1,List.length_append,hws,hlen0]
     intro X87 hX87
     have h16: ∀n∈litL ts++dstL ts,(symBits (hdrL ts) n.toNat).length≤7:=fun n hn=>by
      rw[symBits_len]
      have h3:=hall n hn
      have hv:=get_gD (hdrL ts) 0 (i:=n.toNat) (by rw[dy.hl];omega)
      have:=dy.h.rng _ (List.mem_of_getElem? hv)
      omega
     have fl: ∀l:List Int,(∀n∈l,(symBits (hdrL ts) n.toNat).length≤7)→(l.flatMap (fun n=>symBits (hdrL ts) n.toNat)).length≤7*l.length:=by
      intro l
      induction l with
      |nil=>intro _;simp
      |cons x l ih=>
       intro h
       have:=h x List.mem_cons_self
       have:=ih fun y hy=>h y (List.mem_cons_of_mem _ hy)
       rw[List.flatMap_cons,List.length_append,List.length_cons];omega
     have alls: ∀t,t≤316→ ∀H1,St H0 H1 (O::C::F::P::A::S::D::σ.set i (wrR b false (w1++((litL ts++dstL ts).take t).flatMap (fun n=>symBits (hdrL ts) n.toNat))))→X87 [.int .i64 (t:Nat)] H1:=upto fun t ht ih H1 hs1=>by
      have hflt:=fl ((litL ts++dstL ts).take t) fun n hn=>h16 n (List.mem_of_mem_take hn)
      rw[List.length_take] at hflt
      refine hX87 _ H1 (br_dec (fun hlt=>?_) (fun hge=>?_))
      ·have hlt:t<316:=by omega
       have hAI:IS H1 pa ((litL ts).length+(dstL ts).length) (kints .i64 (litL ts++dstL ts)):=hs1.is 4 (by rw[←hA];rfl)
       have hFI:IS H1 (some ⟨bf,0,none⟩) 19 (kints .i64 (hdrL ts)):=hs1.is 2 (by rw[←hF];rfl)
       have hCI:IS H1 (some ⟨bc,0,none⟩) 19 (kints .i64 (codesM (hdrL ts))):=hs1.is 1 (by rw[←hC];rfl)
       have hg:=get_gD (litL ts++dstL ts) 0 (i:=t) (by omega)
       have hm:=hall _ (List.mem_of_getElem? hg)
       have ih:=ih hlt
       rw[List.take_add_one,hg,Option.toList_some,List.flatMap_append,←List.append_assoc,List.flatMap_singleton] at ih
       generalize (litL ts++dstL ts).getD t 0=n at hg hm ih
       refine hAI.rd (by omega) (by omega) (by rw[Int.toNat_natCast];exact hg) ⟨_,rfl,rowIn_whole (hs1.block 6 (by rw[←hD];rfl)),?_⟩
       have hv:=get_gD (hdrL ts) 0 (i:=n.toNat) (by rw[dy.hl];omega)
       have hvr:=hh8 _ (List.mem_of_getElem? hv)
       refine hCI.rd (by omega) (by omega) (codesM_get (by rw[dy.hl];omega)) (hFI.rd (by omega) (by omega) hv ?_)
       refine c65 hs1 (hWO _) (by omega) (by rw[List.length_append];omega) fun H2 hs2=>⟨rfl,?_⟩
       simp only[List.set_cons_succ] at hs2
       rw[setset] at hs2
       rw[wrap_id (by omega) (by omega)]
       exact ih H2 hs2
      ·have:t=316:=by omega
       subst this
       rw[List.take_of_length_le (by omega)] at hs1 hflt
       refine⟨_,rfl,rowIn_whole (hs1.block 6 (by rw[←hD];rfl)),_,rfl,rowIn_whole (hs1.block 5 (by rw[←hS];rfl)),?_⟩
       refine c47 (j:=3) (k:=k+7) hs1 (hWO _) (by rw[←hP];rfl) (by simp only[List.getElem?_cons_succ];exact setget_ne hik _ hk) (by omega) (by omega) dy.c hr (by rw[List.length_append];omega) fun H2 hs2=>⟨rfl,hR H2 ?_⟩
       simp only[List.set_cons_succ] at hs2
       rw[setset] at hs2
       exact hs2.drop 7
     refine alls 0 (by omega) H1 ?_
     rw[List.take_zero,List.flatMap_nil,List.append_nil];exact hs1
   refine ords 0 (by omega) H74 ?_
   rw[List.take_zero,List.flatMap_nil,List.append_nil];exact hs74
 exact cnts 0 (by omega) H30 hs30
end Go.Proofs
namespace Go.Proofs
open Go.Sh
variable {H0 H:Heap} {σ:List Rs} {R:Value→Heap→Prop}
theorem p16:(2:Int)^16=65536:=by decide
theorem p8:(2:Int)^8=256:=by decide
theorem e288:288=fixL.length:=fixL_len.symm
theorem e32:32=fixD.length:=fixD_len.symm
theorem xor_16{n:Nat}(h:n<65536):xorI .i64 (n:Int) (65535:Int)=((65535-n:Nat):Int):=by
 have e64:(2:Int)^64=18446744073709551616:=by decide
 unfold xorI
 rw[show IntKind.bits .i64=64 from rfl,BitVec.toNat_xor,ofInt_nat (by omega) (by omega),ofInt_nat (by omega) (by omega),Int.toNat_natCast,show Int.toNat 65535=65535 from rfl]
 have hx:=xor_all ⟨n,h⟩
 simp only at hx
 rw[hx,wrap_id (by omega) (by omega)]
theorem c52{p:Option Addr}{l c:Nat}{b:List Int}(h:IS H p l (kints .u8 b))(hr: ∀x∈b,0≤x∧x<256)(hlc:l≤c)(hl:l≤100000000)
 (hR: ∀q m B H',WOk false (storB b) B→St H H' [.sl q B.length m 5 1 (kints .u8 B)]→R (.slice q B.length m) H'):CallsH Try.prog 52 #[.slice p l c] H R:=by
 have hbl:=h.length
 refine Try.s52 ?_
 unfold Try.S52
 refine c45 (St.nil H) fun wb H3 hs3=>⟨_,rfl,hs3.alc fun b5 H6 hs6=>⟨rfl,hs6.putAll 0 rfl rfl (by simp[Value.oneCell']) fun H7 hs7=>?_⟩⟩
 rw[List.set_cons_zero] at hs7
 intro X8 hX
 have fin: ∀q l' c' H1,St H H1 [.cell b5 (Array.toList #[.pointer (some ⟨wb,0,none⟩)]).toArray 72,wrR wb false (storB b)]→X8 [.slice q l' c',.bool true] H1:=fun q l' c' H1 hs1=>by
  refine hX _ _ _ _ H1 (br_f rfl ⟨_,hs1.get 0 (j:=0) rfl rfl,c50 hs1 (i:=1) rfl fun q lq m B H2 ok hlb hs2=>⟨_,_,_,rfl,?_⟩⟩)
  subst hlb
  exact hR q m B H2 ok (hs2.take 1)
 have loop: ∀(f:Nat) (ws b':List Int) (p':Option Addr) (l' c':Nat) (H1:Heap),IS H p' l' (kints .u8 b')→(∀x∈b',0≤x∧x<256)→l'≤c'→b'.length<f→ws.length+8*b'.length+48*(b'.length/65535+1)+100≤1000000000→storW f ws b'=storB b→
  St H H1 [.cell b5 (Array.toList #[.pointer (some ⟨wb,0,none⟩)]).toArray 72,wrR wb false ws]→X8 [.slice p' l' c',.bool false] H1:=by
  intro f
  induction f with
  |zero=>intro ws b' p' l' c' H1 h1 h2 h3 h4;omega
  |succ f ih=>
   intro ws b' p' l' c' H1 hI hr' hlc' hf hb he hs1
   have hbl':=hI.length
   rw[storW] at he
   refine hX _ _ _ _ H1 (br_t rfl ?_)
   have hmin:min ((l':Nat):Int) 65535=((min l' 65535:Nat):Int):=by omega
   rw[hmin]
   generalize hn:min l' 65535=n at*
   have hn1:n≤l':=by omega
   have hn2:n≤65535:=by omega
   intro J12 hJ12
   have mid: ∀(last:Int) (H2:Heap),last=(if n=l' then 1 else 0)→St H H2 [.cell b5 (Array.toList #[.pointer (some ⟨wb,0,none⟩)]).toArray 72,wrR wb false (ws++bitsOf false last 1++bitsOf false 0 2)]→J12 [] H2:=fun last H2 hlast hs2=>by
    refine hJ12 H2 ⟨_,hs2.get 0 (j:=0) rfl rfl,c76 hs2 (i:=1) rfl (by simp only[List.length_append,bitsOf_len];omega) fun H3 hs3=>⟨rfl,?_⟩⟩
    simp only[List.set_cons_succ,List.set_cons_zero] at hs3
    have hfl:(fillM (ws++bitsOf false last 1++bitsOf false 0 2) 0).length≤ws.length+10:=by
     unfold fillM;simp only[List.length_append,bitsOf_len,List.length_replicate];omega
    have hpart:partW ws last 0 (b'.take n)=fillM (ws++bitsOf false last 1++bitsOf false 0 2) 0++bitsOf false (n:Nat) 16++bitsOf false ((65535-n:Nat):Int) 16++byteBits (b'.take n):=by
     unfold partW
     rw[List.length_take,Nat.min_eq_left (by omega),show(65535:Int)-(n:Nat)=((65535-n:Nat):Int) from by omega]
    have hplen:=partW_len ws last 0 (b'.take n)
    rw[List.length_take,Nat.min_eq_left (by omega)] at hplen
    generalize fillM (ws++bitsOf false last 1++bitsOf false 0 2) 0=w1 at*
    refine⟨_,hs3.get 0 (j:=0) rfl rfl,put_ok hs3 (i:=1) rfl (n:=16) (by omega) (by omega) (by rw[p16];omega) (by omega) fun H4 hs4=>⟨_,rfl,?_⟩⟩
    simp only[List.set_cons_succ,List.set_cons_zero] at hs4
    rw[xor_16 (by omega)]
    refine⟨_,hs4.get 0 (j:=0) rfl rfl,put_ok hs4 (i:=1) rfl (n:=16) (by omega) (by omega) (by rw[p16];omega) (by simp only[List.length_append,bitsOf_len];omega) fun H5 hs5=>⟨_,rfl,by omega,by omega,?_⟩⟩
    simp only[List.set_cons_succ,List.set_cons_zero] at hs5
    intro X25 hX25
    have hIt:IS H (if c'=0 then p' else Option.map (fun x=>Addr.add x (0*1)) p') (n-0) (kints .u8 (b'.take n)):=by
     rw[←kints_take];exact is_till hI hn1
    have bytes: ∀k,k≤n→ ∀H6,St H H6 [.cell b5 (Array.toList #[.pointer (some ⟨wb,0,none⟩)]).toArray 72,wrR wb false (w1++bitsOf false (n:Nat) 16++bitsOf false ((65535-n:Nat):Int) 16++byteBits (b'.take k))]→X25 [.int .i64 (k:Nat)] H6:=upto fun k hk ih2 H6 hs6=>by
     refine hX25 _ H6 (br_dec (fun hlt=>?_) (fun hge=>?_))
     ·have hlt:k<n:=by rw[Int.toNat_natCast,Nat.sub_zero] at hlt;omega
      have hg:(b'.take n)[k]?=some (b'.getD k 0):=by rw[List.getElem?_take_of_lt hlt];exact get_gD b' 0 (by omega)
      have hv:=hr' _ (List.mem_of_mem_take (List.mem_of_getElem? hg))
      have ih2:=ih2 hlt
      have eb:b'.take (k+1)=b'.take k++[b'.getD k 0]:=by rw[List.take_add_one,get_gD b' 0 (by omega)];rfl
      rw[eb,byteBits_snoc,←List.append_assoc] at ih2
      generalize b'.getD k 0=v at hg hv ih2
      have hrd:=(hIt.ext hs6.ext).rd (i:=(k:Int)) (x:=v) (K:=fun c29=> ∃Wr30,cell H6 (.add ⟨b5,0,none⟩ 0)=some (.pointer Wr30)∧Try.C 46 #[.pointer Wr30,.int .i64 (IntKind.wrap .i64 c29),.int .i64 8] H6 fun r31 H32=> ∃r33,r31= .bool r33∧X25 [.int .i64 (IntKind.wrap .i64 ((k:Int)+1))] H32) (by omega) (by omega) (by rw[Int.toNat_natCast];exact hg) ⟨_,hs6.get 0 (j:=0) rfl rfl,by
       rw[wrap_id (by omega) (by omega),wrap_id (by omega) (by omega)]
       refine put_ok hs6 (i:=1) rfl (n:=8) (by omega) hv.1 (by rw[p8];exact hv.2) (by simp only[List.length_append,bitsOf_len,byteBits_len,List.length_take];omega) fun H7 hs7=>⟨_,rfl,?_⟩
       simp only[List.set_cons_succ,List.set_cons_zero] at hs7
       exact ih2 H7 hs7⟩
      rw[Int.toNat_natCast]
      rw[Int.toNat_natCast] at hrd
      exact hrd
     ·have:k=n:=by rw[Int.toNat_natCast,Nat.sub_zero] at hge;omega
      subst this
      rw[←hpart] at hs6
      refine⟨by omega,by omega,?_⟩
      rw[Int.toNat_natCast]
      by_cases h65:b'.length≤65535
      ·rw[if_pos h65] at he
       have hkl:k=l':=by omega
       rw[hlast,if_pos hkl,List.take_of_length_le (by omega),he] at hs6
       have e1:(((k:Nat):Int)==((l':Nat):Int))=true:=by simp;omega
       rw[e1]
       exact fin _ _ _ H6 hs6
      ·rw[if_neg h65] at he
       have hk6:k=65535:=by omega
       have hkl: ¬k=l':=by omega
       rw[hlast,if_neg hkl] at hs6 hplen
       have e1:(((k:Nat):Int)==((l':Nat):Int))=false:=by simp;omega
       rw[e1]
       rw[←hk6] at he
       have hd:(b'.drop k).length=b'.length-k:=List.length_drop
       refine ih _ (b'.drop k) _ _ _ H6 ?_ (fun x hx=>hr' x (List.mem_of_mem_drop hx)) (by omega) (by omega) ?_ he hs6
       ·rw[←kints_drop]
        exact is_from hI hlc' (by omega)
       ·rw[hd,hplen]
        have:b'.length/65535=(b'.length-k)/65535+1:=by omega
        omega
    have:=bytes 0 (by omega) H5 (by rw[List.take_zero];simpa[byteBits] using hs5)
    exact this
   refine br_eq (fun heq=>⟨_,hs1.get 0 (j:=0) rfl rfl,put_ok hs1 (i:=1) rfl (n:=3) (by omega) (by omega) (by decide) (by omega) fun H2 hs2=>⟨_,rfl,mid 1 H2 (by rw[if_pos (by omega)]) ?_⟩⟩) (fun hne=>⟨_,hs1.get 0 (j:=0) rfl rfl,put_ok hs1 (i:=1) rfl (n:=3) (by omega) (by omega) (by decide) (by omega) fun H2 hs2=>⟨_,rfl,mid 0 H2 (by rw[if_neg (by omega)]) ?_⟩⟩)
   all_goals
    simp only[List.set_cons_succ,List.set_cons_zero] at hs2
    rw[List.append_assoc]
    exact hs2
 exact loop (b.length+1) [] b p l c H7 h hr hlc (by omega) (by rw[List.length_nil];omega) rfl hs7
theorem WOk.nby{ws B:List Int}(ok:WOk false ws B):B.length=nby ws:=ok.len
set_option maxHeartbeats 1000000 in
theorem c34{p:Option Addr}{l c:Nat}{b:List Int}{eff:Int}(h:IS H p l (kints .u8 b))(hr: ∀x∈b,0≤x∧x<256)(hlc:l≤c)(hl:l≤10000000)
 (hR: ∀q m B H',WOk false (defB b eff) B→St H H' [.sl q B.length m 5 1 (kints .u8 B)]→R (.slice q B.length m) H'):CallsH Try.prog 34 #[.slice p l c,.int .i64 eff] H R:=by
 have hbl:=h.length
 have hrun:=lz_ok hr eff
 have hlen:=hrun.len
 rw[List.length_nil] at hlen
 have hrt:=hrun.r
 refine Try.s34 ?_
 unfold Try.S34
 refine c44 h hr hlc (by omega) fun q m H4 hs4=>⟨_,_,_,rfl,?_⟩
 unfold defB bestB at hR
 generalize lzM b eff=ts at*
 refine c45 hs4 fun wb H7 hs7=>⟨_,rfl,hs7.alc fun b9 H10 hs10=>⟨rfl,hs10.putAll 0 rfl rfl (by simp[Value.oneCell']) fun H11 hs11=>?_⟩⟩
 rw[List.set_cons_zero] at hs11
 refine⟨_,hs11.get 0 (j:=0) rfl rfl,put_ok hs11 (i:=1) rfl (n:=3) (by omega) (by omega) (by decide) (by simp) fun H14 hs14=>⟨_,rfl,_,rfl,rowIn_whole (hs14.block 0 rfl),?_⟩⟩
 simp only[List.set_cons_succ,List.set_cons_zero,List.nil_append] at hs14
 refine c49 fun fp fc dp dc H18 hs18=>?_
 rw[e288,e32] at hs18 ⊢
 refine⟨_,_,_,_,_,_,rfl,.inl hs18.ext,?_⟩
 have hs18':=hs14.call hs18
 refine c48 (ll:=fixL) (dl:=fixD) (hs18'.is 1 rfl) (hs18'.is 0 rfl) fixL_ok fixD_ok fun q3 q4 H22 hs22=>⟨_,rfl,.inl hs22.ext,?_⟩
 have hs22':St H H22 ([.sl q4 fixD.length fixD.length 3 1 (ints (codesM fixD)),.sl q3 fixL.length fixL.length 3 1 (ints (codesM fixL)),.sl dp fixD.length dc 3 1 (ints fixD),.sl fp fixL.length fc 3 1 (ints fixL)]++[.cell b9 _ 72,wrR wb false (bitsOf false 3 3),.sl q ts.length m 97 3 (tokL ts)]):=hs18'.call hs22
 have hs22':=hs22'.persOf (Q:=SetI fp dp q3 q4 fixL fixD) fun H' h=>⟨h.is 3 rfl,h.is 2 rfl,h.is 1 rfl,h.is 0 rfl⟩
 refine c47 (ll:=fixL) (dl:=fixD) hs22' (i:=2) (j:=0) (k:=3) rfl rfl rfl (by decide) (by decide) (fix_codes hrt) hrt (by rw[bitsOf_len];omega) fun H25 hs25=>⟨rfl,?_⟩
 simp only[List.set_cons_succ,List.set_cons_zero] at hs25
 refine⟨_,hs25.get 1 (j:=0) rfl rfl,c50 hs25 (i:=2) rfl fun qb lb mb BB H28 okB hlB hs28=>⟨_,_,_,rfl,?_⟩⟩
 subst hlB
 change WOk false (fixB ts) BB at okB
 intro J30 hJ30
 -- the blocks of kind 0 at last
 have last: ∀(q':Option Addr) (m':Nat) (B' bw:List Int) (ρ:List Rs) (H1:Heap),WOk false bw B'→bw=(if 20<ts.length∧nby (dynB ts 1)<nby (fixB ts) then dynB ts 1 else fixB ts)→St H H1 (.sl q' B'.length m' 5 1 (kints .u8 B')::ρ)→J30 [.slice q' B'.length m'] H1:=fun q' m' B' bw ρ H1 ok hbw hs1=>by
  refine hJ30 _ _ _ H1 ?_
  rw[←hbw] at hR
  refine c52 (h.ext hs1.ext) hr hlc (by omega) fun q2 m2 B2 H2 ok2 hs2=>⟨_,_,_,rfl,?_⟩
  have hs2:=hs1.call hs2
  have n1:=ok.nby
  have n2:=ok2.nby
  refine br_dec (fun hlt=>?_) (fun hge=>?_)
  ·rw[if_pos (by omega)] at hR
   exact hR q2 m2 B2 H2 ok2 (hs2.take 1)
  ·rw[if_neg (by omega)] at hR
   exact hR q' m' B' H2 ok (hs2.tail.take 1)
 refine br_dec (fun h20=>?_) (fun h20=>?_)
 ·refine c45 hs28 fun wd H37 hs37=>⟨_,rfl,hs37.alc fun b39 H40 hs40=>⟨rfl,hs40.putAll 0 rfl rfl (by simp[Value.oneCell']) fun H41 hs41=>⟨_,rfl,rowIn_whole (hs41.block 0 rfl),?_⟩⟩⟩
  rw[List.set_cons_zero] at hs41
  refine c51 hs41 (i:=1) (k:=6) rfl rfl (by decide) hrt (by rw[List.length_nil];omega) (by omega) fun H44 hs44=>⟨rfl,?_⟩
  simp only[List.set_cons_succ,List.set_cons_zero,List.nil_append] at hs44
  refine⟨_,hs44.get 0 (j:=0) rfl rfl,c50 hs44 (i:=1) rfl fun qx lx mx BX H47 okX hlX hs47=>⟨_,_,_,rfl,?_⟩⟩
  subst hlX
  have n1:=okX.nby
  have n2:=okB.nby
  refine br_dec (fun hlt=>last qx mx BX _ _ H47 okX (by rw[if_pos ⟨by omega,by omega⟩]) hs47) (fun hge=>last qb mb BB _ _ H47 okB (by rw[if_neg (by omega)]) (hs47.front 3 rfl))
 ·exact last qb mb BB _ _ H28 okB (by rw[if_neg (by omega)]) hs28
end Go.Proofs
