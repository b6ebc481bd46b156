/-
  OWN WORK. Several texts in one: TileV, ShS, ShT, ShU, TrA, TrB, TrC, EdC, EdD, TrD, TrE, TrF, TrG, TrH.
-/
import Derived.Test.YthigcnljndbmnaaGreatMgEditorGroupsC
import Derived.Test.YthigcnljndbmnaaGreatMgEditorGroupsB
import Derived.Lib.Overlaps

set_option linter.unusedVariables false
set_option linter.unusedSimpArgs false
set_option maxRecDepth 10000
namespace Go.Proofs
open Go.Sh Go.Tile
def bare(p:Pl):Pl:={p with en:=[]}
def gone(s:St)(done:List En):Nat:=s.ts.countP fun z=>refs s.pls z.1-done.countP (·.t==z.1)==0
end Go.Proofs
namespace Go.Sh
def ints(l:List Int):List Value:=l.map (Value.int .i64)
structure RS(H:Heap)(p:Option Addr)(l:Nat)(el:TypeId)(k:Nat)(fs:List Value):Prop where
 len:fs.length=l*k
 one: ∀v∈fs,v.oneCell'=true
 at_:l=0∨ ∃blk cs,p=some ⟨blk,0,none⟩∧H[blk]?=some (.cells cs el)∧ ∀(i:Nat) v,fs[i]?=some v→cs[i]?=some v
structure FS(n0:Nat)(H:Heap)(p:Option Addr)(l c:Nat)(el:TypeId)(k:Nat)(fs:List Value):Prop where
 len:fs.length=l*k
 le:l≤c
 one: ∀v∈fs,v.oneCell'=true
 at_:(p=none∧c=0)∨ ∃blk cs,p=some ⟨blk,0,none⟩∧n0≤blk∧H[blk]?=some (.cells cs el)∧cs.size=c*k∧ ∀(i:Nat) v,fs[i]?=some v→cs[i]?=some v
theorem FS.rs{n0:Nat}{H:Heap}{p:Option Addr}{l c:Nat}{el:TypeId}{k:Nat}{fs:List Value}(h:FS n0 H p l c el k fs):RS H p l el k fs:=by
 refine⟨h.len,h.one,?_⟩
 rcases h.at_ with ⟨_,h2⟩|⟨blk,cs,h1,_,h3,_,h5⟩
 ·left;have:=h.le;omega
 ·exact .inr ⟨blk,cs,h1,h3,h5⟩
theorem RS.keep{H H':Heap}{p:Option Addr}{l:Nat}{el:TypeId}{k:Nat}{fs:List Value}(h:RS H p l el k fs)(hk: ∀b cs,p=some ⟨b,0,none⟩→H[b]?=some (.cells cs el)→H'[b]?=some (.cells cs el)):RS H' p l el k fs:=by
 refine⟨h.len,h.one,?_⟩
 rcases h.at_ with h1|⟨blk,cs,h1,h3,h5⟩
 ·exact .inl h1
 ·exact .inr ⟨blk,cs,h1,hk _ _ h1 h3,h5⟩
theorem RS.ext{H H':Heap}{p:Option Addr}{l:Nat}{el:TypeId}{k:Nat}{fs:List Value}(h:RS H p l el k fs)(he:Ext H H'):RS H' p l el k fs:=h.keep fun b cs _ hb=>he _ _ hb
theorem FS.keep{n0:Nat}{H H':Heap}{p:Option Addr}{l c:Nat}{el:TypeId}{k:Nat}{fs:List Value}(h:FS n0 H p l c el k fs)(hk: ∀b cs,p=some ⟨b,0,none⟩→H[b]?=some (.cells cs el)→H'[b]?=some (.cells cs el)):FS n0 H' p l c el k fs:=by
 refine⟨h.len,h.le,h.one,?_⟩
 rcases h.at_ with h1|⟨blk,cs,h1,h2,h3,h5⟩
 ·exact .inl h1
 ·exact .inr ⟨blk,cs,h1,h2,hk _ _ h1 h3,h5⟩
theorem FS.ext{n0:Nat}{H H':Heap}{p:Option Addr}{l c:Nat}{el:TypeId}{k:Nat}{fs:List Value}(h:FS n0 H p l c el k fs)(he:Ext H H'):FS n0 H' p l c el k fs:=h.keep fun b cs _ hb=>he _ _ hb
theorem FS.lower{n0 n1:Nat}{H:Heap}{p:Option Addr}{l c:Nat}{el:TypeId}{k:Nat}{fs:List Value}(h:FS n0 H p l c el k fs)(hn:n1≤n0):FS n1 H p l c el k fs:=by
 refine⟨h.len,h.le,h.one,?_⟩
 rcases h.at_ with h1|⟨blk,cs,h1,h2,h3,h5⟩
 ·exact .inl h1
 ·exact .inr ⟨blk,cs,h1,by omega,h3,h5⟩
theorem FS.nil(n0:Nat)(H:Heap)(el:TypeId)(k:Nat):FS n0 H none 0 0 el k []:=⟨by simp,Nat.le_refl _,by simp,.inl ⟨rfl,rfl⟩⟩
theorem RS.nil(H:Heap)(p:Option Addr)(el:TypeId)(k:Nat):RS H p 0 el k []:=⟨by simp,by simp,.inl rfl⟩
theorem FS.whole{n0:Nat}{H:Heap}{b l k:Nat}{el:TypeId}{cs:Array Value}(hb:n0≤b)(h:H[b]?=some (.cells cs el))(hs:cs.size=l*k)(ho: ∀v∈cs.toList,v.oneCell'=true):FS n0 H (some ⟨b,0,none⟩) l l el k cs.toList:=
 ⟨by simpa using hs,Nat.le_refl _,ho,.inr ⟨b,cs,rfl,hb,h,hs,fun i v hv=>by simpa using hv⟩⟩
theorem RS.cell{H:Heap}{p:Option Addr}{l:Nat}{el:TypeId}{k:Nat}{fs:List Value}(h:RS H p l el k fs){i:Nat}{v:Value}(hv:fs[i]?=some v): ∃blk,p=some ⟨blk,0,none⟩∧Go.Sh.cell H ⟨blk,i,none⟩=some v:=by
 rcases h.at_ with h1|⟨blk,cs,h1,h3,h5⟩
 ·have:=(List.getElem?_eq_some_iff.1 hv).1
  have:=h.len
  rw[h1] at this
  omega
 ·exact⟨blk,h1,cell_get h3 (h5 i v hv)⟩
theorem RS.row{H:Heap}{p:Option Addr}{l:Nat}{el:TypeId}{k:Nat}{fs:List Value}(h:RS H p l el k fs){i:Nat}(hi:i<l)(hk:0<k){xs:Array Value}(hx: ∀(j:Nat) v,xs[j]?=some v→fs[i*k+j]?=some v): ∃blk,p=some ⟨blk,0,none⟩∧rowIn H ⟨blk,i*k,none⟩ xs:=by
 rcases h.at_ with h1|⟨blk,cs,h1,h3,h5⟩
 ·omega
 ·exact⟨blk,h1,rowIn_block h3 fun j v hv=>h5 _ _ (hx j v hv)⟩
structure IS(H:Heap)(p:Option Addr)(l:Nat)(fs:List Value):Prop where
 len:fs.length=l
 get: ∀(i:Nat) v,fs[i]?=some v→ ∃a,p=some a∧Go.Sh.cell H (a.add i)=some v
theorem IS.ext{H H':Heap}{p:Option Addr}{l:Nat}{fs:List Value}(h:IS H p l fs)(he:Ext H H'):IS H' p l fs:=⟨h.len,fun i v hv=>let ⟨a,h1,h2⟩:=h.get i v hv;⟨a,h1,he.cell h2⟩⟩
theorem IS.cell{H:Heap}{p:Option Addr}{l:Nat}{fs:List Value}(h:IS H p l fs){i:Nat}{v:Value}(hv:fs[i]?=some v): ∃a,p=some a∧Go.Sh.cell H (a.add i)=some v:=h.get i v hv
theorem RS.is{H:Heap}{p:Option Addr}{l:Nat}{el:TypeId}{fs:List Value}(h:RS H p l el 1 fs):IS H p l fs:=
 ⟨by have:=h.len;omega,fun i v hv=>let ⟨blk,h1,h2⟩:=h.cell hv;⟨_,h1,by simpa using h2⟩⟩
theorem RS.rowOf{H:Heap}{p:Option Addr}{l:Nat}{el:TypeId}{k:Nat}{fs:List Value}(h:RS H p l el k fs):rowOf H p (l*k) fs.toArray:=by
 rcases h.at_ with h1|⟨blk,cs,h1,h3,h5⟩
 ·have:=h.len
  rw[h1,Nat.zero_mul] at this
  have:fs=[]:=List.length_eq_zero_iff.1 this
  subst this
  subst h1
  cases p with
  |none=>rfl
  |some a=>exact⟨by simp,fun j v hv=>by simp at hv⟩
 ·subst h1
  refine⟨by simp[h.len],rowIn_block h3 fun j v hv=>?_⟩
  rw[Nat.zero_add]
  exact h5 j v (by simpa using hv)
theorem setL_get{c vs:List Value}{i:Nat}(h:i+vs.length≤c.length)(j:Nat):(setL c i vs)[j]?=if i≤j∧j<i+vs.length then vs[j-i]? else c[j]?:=by
 unfold setL
 by_cases h1:j<i
 ·rw[if_neg (by omega),List.append_assoc,List.getElem?_append_left (by simp;omega),List.getElem?_take_of_lt h1]
 ·by_cases h2:j<i+vs.length
  ·rw[if_pos ⟨by omega,h2⟩,List.append_assoc,List.getElem?_append_right (by simp;omega),List.getElem?_append_left (by simp;omega)]
   congr 1
   simp;omega
  ·rw[if_neg (by omega),List.getElem?_append_right (by simp;omega),List.getElem?_drop]
   congr 1
   simp;omega
theorem setL_len{c vs:List Value}{i:Nat}(h:i+vs.length≤c.length):(setL c i vs).length=c.length:=by unfold setL;simp;omega
theorem stAt_some{H:Heap}{b i:Nat}{c:Array Value}{t:TypeId}{vs:List Value}{f:Heap→Prop}(h:H[b]?=some (.cells c t (0,0)))(hl:i+vs.length≤c.size)(ho: ∀v∈vs,v.oneCell'=true)
 (hf: ∀c':Array Value,c'.size=c.size→(∀j:Nat,c'[j]?=if i≤j∧j<i+vs.length then vs[j-i]? else c[j]?)→f (H.setIfInBounds b (.cells c' t (0,0)))):stAt H ⟨b,i,none⟩ vs f:=by
 have hl':i+vs.length≤c.toList.length:=by simpa using hl
 refine⟨c,t,h,rfl,hl,ho,?_⟩
 refine hf (setL c.toList i vs).toArray (by simp[setL_len hl']) fun j=>?_
 rw[List.getElem?_toArray,setL_get hl' j,Array.getElem?_toList (xs:=c)]
theorem FS.app'{n0:Nat}{H:Heap}{p q:Option Addr}{l c n:Nat}{el:TypeId}{k bytes:Nat}{zero:Array Value}{fs gs:List Value}(h:FS n0 H p l c el k fs)(hrow:Go.Sh.rowOf H q (n*k) gs.toArray)(hgl:gs.length=n*k)(hgo: ∀v∈gs,v.oneCell'=true)(hk:0<k)(hn:n0≤H.size)(hz:zero.size=k)
 (hb:(l+n)*bytes≤70368744177664)(hm:l+n≤1000000000000){K:Option Addr→Nat→Nat→Heap→Prop}
 (hK: ∀p' c' H',FS n0 H' p' (l+n) c' el k (fs++gs)→(∀(b:Nat) (o:Obj),H[b]?=some o→p≠some ⟨b,0,none⟩→H'[b]?=some o)→H.size≤H'.size→K p' (l+n) c' H'):appQ k bytes zero H p l c q n el K:=by
 have hfl:=h.len
 have hlen:(fs++gs).length=(l+n)*k:=by rw[List.length_append,hfl,hgl,Nat.add_mul]
 have hone: ∀v∈fs++gs,v.oneCell'=true:=fun v hv=>(List.mem_append.1 hv).elim (h.one v) (hgo v)
 refine⟨hb,by omega,gs.toArray,hrow,fun hle=>?_,fun hlt=>?_⟩
 ·rcases h.at_ with ⟨rfl,hc0⟩|⟨blk,cs,rfl,h2,h3,h4,h5⟩
  ·refine hK none c H ⟨hlen,hle,hone,.inl ⟨rfl,hc0⟩⟩ (fun b o hb _=>hb) (Nat.le_refl _)
  ·simp only[add_none,Nat.zero_add]
   have hcap:(l+n)*k≤c*k:=Nat.mul_le_mul_right k hle
   rw[Nat.add_mul] at hcap
   refine stAt_some h3 (by show l*k+gs.length≤cs.size;omega) (by simpa using hgo) fun c' hc' hg=>?_
   refine hK _ _ _ ⟨hlen,hle,hone,.inr ⟨blk,c',rfl,h2,get_set_self h3,by omega,fun i v hv=>?_⟩⟩ (fun b o hb hne=>get_set_ne (fun hh=>hne (by rw[hh])) hb) (by simp)
   rw[hg]
   by_cases hi:i<fs.length
   ·rw[if_neg (by omega)]
    rw[List.getElem?_append_left hi] at hv
    exact h5 i v hv
   ·rw[List.getElem?_append_right (by omega)] at hv
    have hlt:=(List.getElem?_eq_some_iff.1 hv).1
    rw[if_pos ⟨by omega,by show i<l*k+gs.length;omega⟩]
    rw[←hfl]
    simpa using hv
 ·have hrow: ∃ys,Go.Sh.rowOf H p (l*k) ys∧ys.toList=fs:=⟨fs.toArray,h.rs.rowOf,by simp⟩
  obtain⟨ys,hy,hvs⟩:=hrow
  refine⟨ys,hy,fun c' hc'=>?_⟩
  rw[zeroCells_eq _ _ (by omega)]
  have hcap:(l+n)*k≤c'*k:=Nat.mul_le_mul_right k hc'
  have hys:ys.size=l*k:=by rw[←Array.length_toList,hvs,hfl]
  refine hK _ _ _ ⟨hlen,hc',hone,.inr ⟨H.size,_,rfl,hn,get_push_self _ _,?_,fun i v hv=>?_⟩⟩ (fun b o hb _=>get_push hb) (by simp)
  ·simp only[Array.size_append,hys,List.size_toArray,reps_length,Array.length_toList,hz,hgl]
   rw[Nat.sub_mul]
   rw[Nat.add_mul] at hcap ⊢
   omega
  ·have hi:=(List.getElem?_eq_some_iff.1 hv).1
   rw[Array.getElem?_append_left (by simp[hys,hgl];rw[hlen,Nat.add_mul] at hi;omega)]
   have:(ys++gs.toArray).toList=fs++gs:=by simp[hvs]
   rw[←Array.getElem?_toList,this]
   exact hv
theorem FS.app{n0:Nat}{H:Heap}{p q:Option Addr}{l c n:Nat}{el:TypeId}{k bytes:Nat}{zero:Array Value}{fs gs:List Value}(h:FS n0 H p l c el k fs)(hs:RS H q n el k gs)(hk:0<k)(hn:n0≤H.size)(hz:zero.size=k)
 (hb:(l+n)*bytes≤70368744177664)(hm:l+n≤1000000000000){K:Option Addr→Nat→Nat→Heap→Prop}
 (hK: ∀p' c' H',FS n0 H' p' (l+n) c' el k (fs++gs)→(∀(b:Nat) (o:Obj),H[b]?=some o→p≠some ⟨b,0,none⟩→H'[b]?=some o)→H.size≤H'.size→K p' (l+n) c' H'):appQ k bytes zero H p l c q n el K:=
 h.app' hs.rowOf hs.len hs.one hk hn hz hb hm hK
theorem FS.set{n0:Nat}{H:Heap}{b l c:Nat}{el:TypeId}{k:Nat}{fs:List Value}{i:Nat}{v:Value}{f:Heap→Prop}(h:FS n0 H (some ⟨b,0,none⟩) l c el k fs)(hi:i<fs.length)(ho:v.oneCell'=true)
 (hf: ∀H',FS n0 H' (some ⟨b,0,none⟩) l c el k (fs.set i v)→(∀(b':Nat) (o:Obj),H[b']?=some o→b'≠b→H'[b']?=some o)→H'.size=H.size→f H'):stAt H ⟨b,i,none⟩ [v] f:=by
 have hlen:=h.len
 rcases h.at_ with ⟨h1,_⟩|⟨blk,cs,h1,h2,h3,h4,h5⟩
 ·cases h1
 ·cases h1
  have hics:i<cs.size:=by
   have:=h5 i fs[i] (List.getElem?_eq_getElem hi)
   exact(Array.getElem?_eq_some_iff.1 this).1
  refine stAt_one h3 hics ho ?_
  refine hf _ ⟨by simpa using hlen,h.le,fun u hu=>?_,.inr ⟨b,cs.setIfInBounds i v,rfl,h2,get_set_self h3,by simpa using h4,fun j u hu=>?_⟩⟩ (fun b' o hb' hne=>get_set_ne (Ne.symm hne) hb') (by simp)
  ·rcases List.mem_or_eq_of_mem_set hu with hu|rfl
   ·exact h.one u hu
   ·exact ho
  ·rw[List.getElem?_set] at hu
   rw[Array.getElem?_setIfInBounds]
   by_cases hij:i=j
   ·subst hij
    rw[if_pos rfl,if_pos hi] at hu
    rw[if_pos rfl,if_pos hics]
    exact hu
   ·rw[if_neg hij] at hu
    rw[if_neg hij]
    exact h5 j u hu
end Go.Sh
namespace Go.Sh
structure Rs where
 at_:Heap→List Nat→Prop
 loc: ∀{H H':Heap} {fp:List Nat},at_ H fp→(∀b∈fp,∀o,H[b]?=some o→H'[b]?=some o)→at_ H' fp
 has: ∀{H:Heap} {fp:List Nat},at_ H fp→ ∀b∈fp,b<H.size
def Rs.cell(b:Nat)(cs:Array Value)(ty:TypeId):Rs where
 at_ H fp:=fp=[b]∧H[b]?=some (.cells cs ty)
 loc h hk:=⟨h.1,hk _ (by rw[h.1];exact List.mem_singleton.2 rfl) _ h.2⟩
 has h b hb:=by rw[h.1,List.mem_singleton] at hb;subst hb;exact lt_of_get h.2
def Rs.sl(p:Option Addr)(l c:Nat)(el:TypeId)(k:Nat)(fs:List Value):Rs where
 at_ H fp:=FS 0 H p l c el k fs∧((p=none∧fp=[])∨ ∃blk,p=some ⟨blk,0,none⟩∧fp=[blk])
 loc h hk:=by
  refine⟨h.1.keep fun b cs hp hb=>hk b ?_ _ hb,h.2⟩
  rcases h.2 with ⟨h1,_⟩|⟨blk,h1,h2⟩
  ·rw[h1] at hp;cases hp
  ·rw[h1] at hp;cases hp;rw[h2];exact List.mem_singleton.2 rfl
 has h b hb:=by
  rcases h.2 with ⟨_,h2⟩|⟨blk,h1,h2⟩
  ·rw[h2] at hb;cases hb
  ·rw[h2,List.mem_singleton] at hb
   subst hb
   rcases h.1.at_ with ⟨h3,_⟩|⟨blk',cs,h3,_,h4,_⟩
   ·rw[h1] at h3;cases h3
   ·rw[h1] at h3;cases h3;exact lt_of_get h4
def Rs.star(r s:Rs):Rs where
 at_ H fp:= ∃a b,fp=a++b∧r.at_ H a∧s.at_ H b
 loc:=fun⟨a,b,e,h1,h2⟩ hk=>⟨a,b,e,r.loc h1 fun x hx=>hk x (by rw[e];exact List.mem_append_left _ hx),s.loc h2 fun x hx=>hk x (by rw[e];exact List.mem_append_right _ hx)⟩
 has:=fun⟨a,b,e,h1,h2⟩ x hx=>by
  rw[e] at hx
  rcases List.mem_append.1 hx with hx|hx
  ·exact r.has h1 x hx
  ·exact s.has h2 x hx
def Rs.ex{α:Type}(f:α→Rs):Rs where
 at_ H fp:= ∃a,(f a).at_ H fp
 loc:=fun⟨a,h⟩ hk=>⟨a,(f a).loc h hk⟩
 has:=fun⟨a,h⟩=>(f a).has h
def Rs.pu(q:Prop)(r:Rs):Rs where
 at_ H fp:=q∧r.at_ H fp
 loc:=fun⟨a,h⟩ hk=>⟨a,r.loc h hk⟩
 has:=fun⟨a,h⟩=>r.has h
def Rs.emp:Rs where
 at_ H fp:=fp=[]
 loc h _:=h
 has h b hb:=by rw[h] at hb;cases hb
def Lie(H:Heap):List Rs→List (List Nat)→Prop
 |[],[]=>True
 |r::σ,fp::fps=>r.at_ H fp∧Lie H σ fps
 |_,_=>False
theorem Lie.get{H:Heap}: ∀{σ:List Rs} {fps:List (List Nat)},Lie H σ fps→ ∀{i:Nat} {r:Rs},σ[i]?=some r→ ∃fp,fps[i]?=some fp∧r.at_ H fp
 |[],[],_,i,r,h=>by simp at h
 |r::σ,fp::fps,hl,0,s,h=>by simp at h;subst h;exact⟨fp,rfl,hl.1⟩
 |r::σ,fp::fps,hl,i+1,s,h=>by
  simp only[List.getElem?_cons_succ] at h ⊢
  exact Lie.get hl.2 h
theorem Lie.has{H:Heap}: ∀{σ:List Rs} {fps:List (List Nat)},Lie H σ fps→ ∀b∈fps.flatten,b<H.size
 |[],[],_,b,hb=>by simp at hb
 |r::σ,fp::fps,hl,b,hb=>by
  simp only[List.flatten_cons,List.mem_append] at hb
  rcases hb with hb|hb
  ·exact r.has hl.1 b hb
  ·exact Lie.has hl.2 b hb
theorem Lie.loc{H H':Heap}: ∀{σ:List Rs} {fps:List (List Nat)},Lie H σ fps→(∀b∈fps.flatten,∀o,H[b]?=some o→H'[b]?=some o)→Lie H' σ fps
 |[],[],_,_=>trivial
 |r::σ,fp::fps,hl,hk=>by
  simp only[List.flatten_cons,List.mem_append] at hk
  exact⟨r.loc hl.1 fun b hb=>hk b (.inl hb),Lie.loc hl.2 fun b hb=>hk b (.inr hb)⟩
theorem Lie.set {H H' : Heap} : ∀ {σ : List Rs} {fps : List (List Nat)} {i : Nat} {fp fp' : List Nat} {r' : Rs}, Lie H σ fps → fps.flatten.Nodup → fps[i]? = some fp → r'.at_ H' fp' → fp'.Nodup → (∀ b ∈ fp', b ∈ fp ∨ H.size ≤ b) →
    (∀ b o, H[b]? = some o → b ∉ fp → H'[b]? = some o) → Lie H' (σ.set i r') (fps.set i fp') ∧ (fps.set i fp').flatten.Nodup
  | [], [], i, fp, fp', r', hl, hn, hi, h, hn', hf, hk => by simp at hi
  | r :: σ, g :: fps, 0, fp, fp', r', hl, hn, hi, h, hn', hf, hk => by
    simp at hi; subst hi
    simp only [List.flatten_cons, List.nodup_append] at hn
    refine ⟨⟨h, hl.2.loc fun b hb o ho => hk b o ho fun hg => hn.2.2 b hg b hb rfl⟩, ?_⟩
    simp only [List.set_cons_zero, List.flatten_cons, List.nodup_append]
    refine ⟨hn', hn.2.1, fun a ha b hb hab => ?_⟩
    subst hab
    rcases hf a ha with h1 | h1
    · exact hn.2.2 a h1 a hb rfl
    · have := Lie.has hl.2 a hb; omega
  | r :: σ, g :: fps, i + 1, fp, fp', r', hl, hn, hi, h, hn', hf, hk => by
    simp only [List.getElem?_cons_succ] at hi
    simp only [List.flatten_cons, List.nodup_append] at hn
    obtain ⟨h1, h2⟩ := Lie.set hl.2 hn.2.1 hi h hn' hf hk
    have hmem : ∀ b ∈ fp, b ∈ fps.flatten := fun b hb => List.mem_flatten.2 ⟨fp, List.mem_of_getElem? hi, hb⟩
    refine ⟨⟨r.loc hl.1 fun b hb o ho => hk b o ho fun hg => hn.2.2 b hb b (hmem b hg) rfl, h1⟩, ?_⟩
    simp only [List.set_cons_succ, List.flatten_cons, List.nodup_append]
    refine ⟨hn.1, h2, fun a ha b hb hab => ?_⟩
    subst hab
    obtain ⟨f, hf1, hf2⟩ := List.mem_flatten.1 hb
    rcases List.mem_or_eq_of_mem_set hf1 with hf1 | rfl
    · exact hn.2.2 a ha a (List.mem_flatten.2 ⟨f, hf1, hf2⟩) rfl
    · rcases hf a hf2 with h3 | h3
      · exact hn.2.2 a ha a (hmem a h3) rfl
      · have := r.has hl.1 a ha; omega
structure St(H0 H:Heap)(σ:List Rs):Prop where
 ext:Ext H0 H
 own: ∃fps,Lie H σ fps∧fps.flatten.Nodup∧ ∀b∈fps.flatten,H0.size≤b
theorem St.nil(H:Heap):St H H []:=⟨Ext.refl H,[],trivial,by simp,by simp⟩
variable {H0 H H':Heap} {σ τ:List Rs}
theorem nodup_mem: ∀{fps:List (List Nat)},fps.flatten.Nodup→ ∀fp∈fps,fp.Nodup
 |[],_,fp,h=>by cases h
 |g::r,hn,fp,h=>by
  rw[List.flatten_cons,List.nodup_append] at hn
  rcases List.mem_cons.1 h with rfl|h
  ·exact hn.1
  ·exact nodup_mem hn.2.1 fp h
theorem St.upd(hs:St H0 H σ){i:Nat}{r r':Rs}(hi:σ[i]?=some r)
 (h: ∀fp,r.at_ H fp→fp.Nodup→(∀b∈fp,H0.size≤b)→ ∃fp',r'.at_ H' fp'∧fp'.Nodup∧(∀b∈fp',b∈fp∨H.size≤b)∧ ∀b o,H[b]?=some o→b∉fp→H'[b]?=some o):St H0 H' (σ.set i r'):=by
 obtain⟨he,fps,hl,hn,hb⟩:=hs
 obtain⟨fp,hfp,hat⟩:=hl.get hi
 have hmem: ∀b∈fp,b∈fps.flatten:=fun b hb=>List.mem_flatten.2 ⟨fp,List.mem_of_getElem? hfp,hb⟩
 have hfn:fp.Nodup:=nodup_mem hn _ (List.mem_of_getElem? hfp)
 obtain⟨fp',h1,h2,h3,h4⟩:=h fp hat hfn fun b hb'=>hb b (hmem b hb')
 obtain⟨h5,h6⟩:=hl.set hn hfp h1 h2 h3 h4
 refine⟨fun b o ho=>h4 b o (he b o ho) fun hf=>?_,_,h5,h6,fun b hb'=>?_⟩
 ·have:=hb b (hmem b hf);have:=lt_of_get ho;omega
 ·obtain⟨f,hf1,hf2⟩:=List.mem_flatten.1 hb'
  rcases List.mem_or_eq_of_mem_set hf1 with hf1|rfl
  ·exact hb b (List.mem_flatten.2 ⟨f,hf1,hf2⟩)
  ·rcases h3 b hf2 with h7|h7
   ·exact hb b (hmem b h7)
   ·have:=he.size;omega
theorem St.as(hs:St H0 H σ)(i:Nat){r r':Rs}(hi:σ[i]?=some r)(h: ∀fp,r.at_ H fp→r'.at_ H fp):St H0 H (σ.set i r'):=
 hs.upd hi fun fp h1 h2 _=>⟨fp,h fp h1,h2,fun b hb=> .inl hb,fun b o ho _=>ho⟩
theorem St.step(hs:St H0 H σ)(he:Ext H H'):St H0 H' σ:=by
 obtain⟨h1,fps,hl,hn,hb⟩:=hs
 exact⟨h1.trans he,fps,hl.loc fun b _ o ho=>he b o ho,hn,hb⟩
theorem Lie.append{H:Heap}: ∀{σ τ:List Rs} {f g:List (List Nat)},Lie H σ f→Lie H τ g→Lie H (σ++τ) (f++g)
 |[],_,[],_,_,h=>h
 |_::_,_,_::_,_,h,h'=>⟨h.1,Lie.append h.2 h'⟩
theorem Lie.split{H:Heap}: ∀{σ τ:List Rs} {f:List (List Nat)},Lie H (σ++τ) f→ ∃a b,f=a++b∧Lie H σ a∧Lie H τ b
 |[],_,f,h=>⟨[],f,rfl,trivial,h⟩
 |r::σ,τ,[],h=>h.elim
 |r::σ,τ,g::f,h=>let ⟨a,b,e,h1,h2⟩:=Lie.split h.2;⟨g::a,b,by rw[e];rfl,⟨h.1,h1⟩,h2⟩
theorem St.call(hs:St H0 H σ)(ht:St H H' τ):St H0 H' (τ++σ):=by
 obtain⟨h1,fps,hl,hn,hb⟩:=hs
 obtain⟨h2,gps,hl2,hn2,hb2⟩:=ht
 refine⟨h1.trans h2,gps++fps,hl2.append (hl.loc fun b _ o ho=>h2 b o ho),?_,fun b h=>?_⟩
 ·rw[List.flatten_append,List.nodup_append]
  refine⟨hn2,hn,fun a ha b hb' hab=>?_⟩
  subst hab
  have:=hb2 a ha;have:=hl.has a hb';omega
 ·rw[List.flatten_append,List.mem_append] at h
  rcases h with h|h
  ·have:=hb2 b h;have:=h1.size;omega
  ·exact hb b h
theorem St.perm(hs:St H0 H σ)(hp:σ.Perm τ):St H0 H τ:=by
 obtain⟨he,fps,hl,hn,hb⟩:=hs
 have: ∀{σ τ:List Rs},σ.Perm τ→ ∀fps,Lie H σ fps→ ∃gps,Lie H τ gps∧fps.Perm gps:=by
  intro σ τ hp
  induction hp with
  |nil=>intro fps h;exact⟨fps,h,List.Perm.refl _⟩
  |cons x _ ih=>
   intro fps h
   match fps,h with
   |f::fps,h=>obtain⟨g,h1,h2⟩:=ih fps h.2;exact⟨f::g,⟨h.1,h1⟩,h2.cons f⟩
  |swap x y l=>
   intro fps h
   match fps,h with
   |f::g::fps,h=>exact⟨g::f::fps,⟨h.2.1,h.1,h.2.2⟩,List.Perm.swap _ _ _⟩
  |trans _ _ ih1 ih2=>
   intro fps h
   obtain⟨g,h1,h2⟩:=ih1 fps h
   obtain⟨k,h3,h4⟩:=ih2 g h1
   exact⟨k,h3,h2.trans h4⟩
 obtain⟨gps,h1,h2⟩:=this hp fps hl
 exact⟨he,gps,h1,(h2.flatten.nodup_iff).1 hn,fun b h=>hb b ((h2.flatten.mem_iff).2 h)⟩
theorem St.app(hs:St H0 H (σ++τ)):St H0 H σ∧St H0 H τ:=by
 obtain⟨he,fps,hl,hn,hb⟩:=hs
 obtain⟨a,b,rfl,h1,h2⟩:=hl.split
 rw[List.flatten_append,List.nodup_append] at hn
 rw[List.flatten_append] at hb
 exact⟨⟨he,a,h1,hn.1,fun x hx=>hb x (List.mem_append_left _ hx)⟩,⟨he,b,h2,hn.2.1,fun x hx=>hb x (List.mem_append_right _ hx)⟩⟩
theorem St.tail{r:Rs}(hs:St H0 H (r::σ)):St H0 H σ:=(St.app (σ:=[r]) hs).2
theorem St.drop(hs:St H0 H σ)(n:Nat):St H0 H (σ.drop n):=by
 rw[←List.take_append_drop n σ] at hs
 exact hs.app.2
theorem St.take(hs:St H0 H σ)(n:Nat):St H0 H (σ.take n):=by
 rw[←List.take_append_drop n σ] at hs
 exact hs.app.1
theorem St.swap{r s:Rs}(hs:St H0 H (r::s::σ)):St H0 H (s::r::σ):=hs.perm (List.Perm.swap _ _ _)
theorem St.front(hs:St H0 H σ)(i:Nat){r:Rs}(hi:σ[i]?=some r):St H0 H (r::σ.eraseIdx i):=by
 refine hs.perm ?_
 have: ∀(l:List Rs) (i:Nat),l[i]?=some r→l.Perm (r::l.eraseIdx i):=by
  intro l
  induction l with
  |nil=>intro i h;simp at h
  |cons x l ih=>
   intro i h
   cases i with
   |zero=>simp at h;subst h;exact List.Perm.refl _
   |succ i=>exact((ih i (by simpa using h)).cons x).trans (List.Perm.swap _ _ _)
 exact this σ i hi
theorem St.back{r r':Rs}{i:Nat}(hi:σ[i]?=some r)(hs:St H0 H (r'::σ.eraseIdx i)):St H0 H (σ.set i r'):=by
 refine hs.perm ?_
 have: ∀(l:List Rs) (i:Nat),l[i]?=some r→(r'::l.eraseIdx i).Perm (l.set i r'):=by
  intro l
  induction l with
  |nil=>intro i h;simp at h
  |cons x l ih=>
   intro i h
   cases i with
   |zero=>exact List.Perm.refl _
   |succ i=>exact(List.Perm.swap _ _ _).trans ((ih i (by simpa using h)).cons x)
 exact this σ i hi
theorem St.cat{r s:Rs}(hs:St H0 H (r::s::σ)):St H0 H (.star r s::σ):=by
 obtain⟨he,fps,hl,hn,hb⟩:=hs
 match fps,hl with
 |f::g::fps,hl=>exact⟨he,(f++g)::fps,⟨⟨f,g,rfl,hl.1,hl.2.1⟩,hl.2.2⟩,by simpa using hn,fun b h=>hb b (by simpa using h)⟩
theorem St.cut{r s:Rs}(hs:St H0 H (.star r s::σ)):St H0 H (r::s::σ):=by
 obtain⟨he,fps,hl,hn,hb⟩:=hs
 match fps,hl with
 |_::fps,⟨⟨f,g,rfl,h1,h2⟩,h3⟩=>exact⟨he,f::g::fps,⟨h1,h2,h3⟩,by simpa using hn,fun b h=>hb b (by simpa using h)⟩
theorem St.unex{α:Type}{f:α→Rs}(hs:St H0 H (.ex f::σ)): ∃a,St H0 H (f a::σ):=by
 obtain⟨he,fps,hl,hn,hb⟩:=hs
 match fps,hl with
 |g::fps,⟨⟨a,h1⟩,h3⟩=>exact⟨a,he,g::fps,⟨h1,h3⟩,hn,hb⟩
theorem St.inex{α:Type}{f:α→Rs}(a:α)(hs:St H0 H (f a::σ)):St H0 H (.ex f::σ):=by
 obtain⟨he,fps,hl,hn,hb⟩:=hs
 match fps,hl with
 |g::fps,⟨h1,h3⟩=>exact⟨he,g::fps,⟨⟨a,h1⟩,h3⟩,hn,hb⟩
theorem St.fact{q:Prop}{r:Rs}(hs:St H0 H (.pu q r::σ)):q∧St H0 H (r::σ):=by
 obtain⟨he,fps,hl,hn,hb⟩:=hs
 match fps,hl with
 |g::fps,⟨⟨a,h1⟩,h3⟩=>exact⟨a,he,g::fps,⟨h1,h3⟩,hn,hb⟩
theorem St.with{q:Prop}{r:Rs}(hq:q)(hs:St H0 H (r::σ)):St H0 H (.pu q r::σ):=by
 obtain⟨he,fps,hl,hn,hb⟩:=hs
 match fps,hl with
 |g::fps,⟨h1,h3⟩=>exact⟨he,g::fps,⟨⟨hq,h1⟩,h3⟩,hn,hb⟩
theorem St.new(hs:St H0 H σ){r:Rs}{fp:List Nat}(he:Ext H H')(h:r.at_ H' fp)(hn:fp.Nodup)(hb: ∀b∈fp,H.size≤b):St H0 H' (r::σ):=
 St.call (τ:=[r]) hs ⟨he,[fp],⟨h,trivial⟩,by simpa using hn,by simpa using hb⟩
theorem St.block(hs:St H0 H σ)(i:Nat){b:Nat}{cs:Array Value}{ty:TypeId}(hi:σ[i]?=some (.cell b cs ty)):H[b]?=some (.cells cs ty):=by
 obtain⟨_,fps,hl,_⟩:=hs
 obtain⟨fp,_,h⟩:=hl.get hi
 exact h.2
theorem St.get(hs:St H0 H σ)(i:Nat){b j:Nat}{cs:Array Value}{ty:TypeId}{v:Value}(hi:σ[i]?=some (.cell b cs ty))(hj:cs[j]?=some v):Sh.cell H ⟨b,j,none⟩=some v:=
 cell_get (hs.block i hi) hj
theorem St.alc(hs:St H0 H σ){cs:Array Value}{ty:TypeId}{K:Nat→Heap→Prop}(hK: ∀b H',St H0 H' (.cell b cs ty::σ)→K b H'):Sh.alc H (.cells cs ty) K:=
 hK _ _ (hs.new (Ext.push _ _) (fp:=[H.size]) ⟨rfl,get_push_self _ _⟩ (by simp) (by simp))
theorem St.put(hs:St H0 H σ)(i:Nat){b j:Nat}{cs:Array Value}{ty:TypeId}{v:Value}{f:Heap→Prop}(hi:σ[i]?=some (.cell b cs ty))(hj:j<cs.size)(ho:v.oneCell'=true)
 (hK: ∀H',St H0 H' (σ.set i (.cell b (cs.setIfInBounds j v) ty))→f H'):stAt H ⟨b,j,none⟩ [v] f:=
 stAt_one (hs.block i hi) hj ho (hK _ (hs.upd hi fun fp h1 _ _=>⟨[b],⟨rfl,get_set_self h1.2⟩,by simp,fun x hx=> .inl (h1.1▸hx),fun x o ho hx=>get_set_ne (fun he=>hx (by rw[h1.1,he];exact List.mem_singleton.2 rfl)) ho⟩))
theorem St.putAll(hs:St H0 H σ)(i:Nat){b:Nat}{cs:Array Value}{ty:TypeId}{vs:List Value}{f:Heap→Prop}(hi:σ[i]?=some (.cell b cs ty))(hl:vs.length=cs.size)(ho: ∀v∈vs,v.oneCell'=true)
 (hK: ∀H',St H0 H' (σ.set i (.cell b vs.toArray ty))→f H'):stAt H ⟨b,0,none⟩ vs f:=
 stAt_whole (hs.block i hi) hl ho (hK _ (hs.upd hi fun fp h1 _ _=>⟨[b],⟨rfl,get_set_self h1.2⟩,by simp,fun x hx=> .inl (h1.1▸hx),fun x o ho hx=>get_set_ne (fun he=>hx (by rw[h1.1,he];exact List.mem_singleton.2 rfl)) ho⟩))
theorem St.fs(hs:St H0 H σ)(i:Nat){p:Option Addr}{l c k:Nat}{el:TypeId}{fs:List Value}(hi:σ[i]?=some (.sl p l c el k fs)):FS 0 H p l c el k fs:=by
 obtain⟨_,fps,hl,_⟩:=hs
 obtain⟨fp,_,h⟩:=hl.get hi
 exact h.1
theorem St.rs(hs:St H0 H σ)(i:Nat){p:Option Addr}{l c k:Nat}{el:TypeId}{fs:List Value}(hi:σ[i]?=some (.sl p l c el k fs)):RS H p l el k fs:=(hs.fs i hi).rs
theorem St.is(hs:St H0 H σ)(i:Nat){p:Option Addr}{l c:Nat}{el:TypeId}{fs:List Value}(hi:σ[i]?=some (.sl p l c el 1 fs)):IS H p l fs:=(hs.rs i hi).is
theorem FS.resrc{n0:Nat}{H:Heap}{p:Option Addr}{l c k:Nat}{el:TypeId}{fs:List Value}(h:FS n0 H p l c el k fs): ∃fp,(Rs.sl p l c el k fs).at_ H fp∧fp.Nodup∧(∀b∈fp,n0≤b)∧ ∀b∈fp,p=some ⟨b,0,none⟩:=by
 rcases h.at_ with ⟨h1,h2⟩|⟨blk,cs,h1,h2,h3,h4,h5⟩
 ·exact⟨[],⟨h.lower (Nat.zero_le _),.inl ⟨h1,rfl⟩⟩,by simp,by simp,by simp⟩
 ·exact⟨[blk],⟨h.lower (Nat.zero_le _),.inr ⟨blk,h1,rfl⟩⟩,by simp,by simpa using h2,by simpa using h1⟩
theorem St.newSl(hs:St H0 H σ){p:Option Addr}{l c k:Nat}{el:TypeId}{fs:List Value}(he:Ext H H')(h:FS H.size H' p l c el k fs):St H0 H' (.sl p l c el k fs::σ):=by
 obtain⟨fp,h1,h2,h3,_⟩:=h.resrc
 exact hs.new he h1 h2 h3
theorem St.nilSl(hs:St H0 H σ)(el:TypeId)(k:Nat):St H0 H (.sl none 0 0 el k []::σ):=hs.newSl (Ext.refl _) (FS.nil _ _ _ _)
theorem IS.rowOf{H:Heap}{p:Option Addr}{l:Nat}{fs:List Value}(h:IS H p l fs):Go.Sh.rowOf H p (l*1) fs.toArray:=by
 cases p with
 |none=>
  have:fs=[]:=List.eq_nil_iff_forall_not_mem.2 fun v hv=>by
   obtain⟨i,hi⟩:=List.getElem?_of_mem hv
   obtain⟨a,h1,_⟩:=h.get i v hi
   cases h1
  subst this;rfl
 |some a=>
  refine⟨by simp[h.len],fun j v hv=>?_⟩
  obtain⟨a',h1,h2⟩:=h.get j v (by simpa using hv)
  cases h1;exact h2
def kints(k:IntKind)(l:List Int):List Value:=l.map (Value.int k)
theorem kints_get{k:IntKind}{l:List Int}{i:Nat}{v:Int}(h:l[i]?=some v):(kints k l)[i]?=some (Value.int k v):=by simp[kints,h]
theorem kints_len(k:IntKind)(l:List Int):(kints k l).length=l.length:=by simp[kints]
theorem IS.rd{H:Heap}{p:Option Addr}{l:Nat}{k:IntKind}{ls:List Int}(h:IS H p l (kints k ls)){i x:Int}(h0:0≤i)(h1:i<l)(hx:ls[i.toNat]?=some x){K:Int→Prop}(hK:K x):
 ∃a:Addr,p=some a∧0≤i∧i<((l:Nat):Int)∧ ∃v:Int,Sh.cell H (Addr.add a (Int.toNat i*1))=some (.int k v)∧K v:=by
 obtain⟨a,hp,hc⟩:=h.get _ _ (kints_get hx)
 exact⟨a,hp,h0,h1,x,by simpa using hc,hK⟩
theorem IS.length{H:Heap}{p:Option Addr}{l:Nat}{k:IntKind}{ls:List Int}(h:IS H p l (kints k ls)):ls.length=l:=by have:=h.len;rwa [kints_len] at this
theorem add_add(a:Addr)(i j:Nat):(a.add i).add j=a.add (i+j):=by
 obtain⟨b,o,s⟩:=a
 unfold Addr.add
 cases s<;>simp<;>split<;>split<;>simp_all<;>omega
theorem IS.part{H:Heap}{a:Addr}{l:Nat}{fs:List Value}(h:IS H (some a) l fs){i n:Nat}(hi:i+n≤l):IS H (some (a.add i)) n ((fs.drop i).take n):=by
 refine⟨by have:=h.len;simp;omega,fun j v hv=>?_⟩
 rw[List.getElem?_take] at hv
 split at hv
 ·rw[List.getElem?_drop] at hv
  obtain⟨a',h1,h2⟩:=h.get _ _ hv
  cases h1
  refine⟨_,rfl,?_⟩
  rw[show(a.add i).add j=a.add (i+j) from add_add a i j]
  exact h2
 ·cases hv
end Go.Sh
namespace Go.Sh
variable {H0 H:Heap} {σ:List Rs}
theorem getD_some{α:Type}(a:List α)(d:α){i:Nat}(h:i<a.length):a[i]?=some (a.getD i d):=by rw[List.getD_eq_getElem?_getD,List.getElem?_eq_getElem h];rfl
theorem mul_bd{x y A B:Int}(hx: -A≤x∧x≤A)(hy: -B≤y∧y≤B): -(A*B)≤x*y∧x*y≤A*B:=by
 have h1:x.natAbs≤A.toNat:=by omega
 have h2:y.natAbs≤B.toNat:=by omega
 have h3:=Nat.mul_le_mul h1 h2
 rw[←Int.natAbs_mul] at h3
 have h4:((A.toNat*B.toNat:Nat):Int)=A*B:=by
  rw[Int.natCast_mul,Int.toNat_of_nonneg (by omega),Int.toNat_of_nonneg (by omega)]
 omega
end Go.Sh
namespace Go.Proofs
open Go.Sh
structure M6 where
 a:Int
 b:Int
 c:Int
 d:Int
 e:Int
 f:Int
 deriving DecidableEq
def M6.l(m:M6):List Int:=[m.a,m.b,m.c,m.d,m.e,m.f]
structure LayF where
 id:Int
 kind:Int
 hidden:Bool
 opacity:Int
 mode:Int
 w:Int
 h:Int
 p:List Int
 mask:List Int
 map:M6
 smooth:Bool
 table:Int
 params:List Int
 deriving DecidableEq
inductive Lay where
 |mk (f:LayF) (kids:List Lay)
def Lay.f:Lay→LayF
 | .mk f _=>f
def Lay.kids:Lay→List Lay
 | .mk _ k=>k
structure Sl3 where
 p:Option Addr
 l:Nat
 c:Nat
def Sl3.v(s:Sl3):Value:= .slice s.p s.l s.c
def Sl3.nil:Sl3:=⟨none,0,0⟩
inductive T where
 |mk (f:LayF) (P M A K:Sl3) (kids:List T)
def T.f:T→LayF
 | .mk f _ _ _ _ _=>f
def T.K:T→Sl3
 | .mk _ _ _ _ K _=>K
def T.P':T→Sl3
 | .mk _ P _ _ _ _=>P
def T.kids:T→List T
 | .mk _ _ _ _ _ k=>k
def cellsL(f:LayF)(P M A K:Value):List Value:=
 [.int .i64 f.id,.int .i64 f.kind,.bool f.hidden,.int .i64 f.opacity,.int .i64 f.mode,.int .i64 f.w,.int .i64 f.h,P,M,
  .int .i64 f.map.a,.int .i64 f.map.b,.int .i64 f.map.c,.int .i64 f.map.d,.int .i64 f.map.e,.int .i64 f.map.f,.bool f.smooth,.int .i64 f.table,A,K]
def cellsT:T→List Value
 | .mk f P M A K _=>cellsL f P.v M.v A.v K.v
def cellsKs(ts:List T):List Value:=(ts.map cellsT).flatten
theorem cellsT_len(t:T):(cellsT t).length=19:=by cases t;rfl
theorem cellsKs_len(ts:List T):(cellsKs ts).length=ts.length*19:=by
 unfold cellsKs
 induction ts with
 |nil=>rfl
 |cons t ts ih=>rw[List.map_cons,List.flatten_cons,List.length_append,ih,cellsT_len,List.length_cons];omega
theorem cellsT_one(t:T): ∀v∈cellsT t,v.oneCell'=true:=by
 cases t with|mk f P M A K ks=>
 show ∀v∈cellsL f P.v M.v A.v K.v,v.oneCell'=true
 unfold cellsL
 simp only[List.forall_mem_cons]
 exact⟨rfl,rfl,rfl,rfl,rfl,rfl,rfl,rfl,rfl,rfl,rfl,rfl,rfl,rfl,rfl,rfl,rfl,rfl,rfl,fun _ h=>by cases h⟩
theorem cellsKs_app(a b:List T):cellsKs (a++b)=cellsKs a++cellsKs b:=by simp[cellsKs]
theorem cellsKs_cons(t:T)(ts:List T):cellsKs (t::ts)=cellsT t++cellsKs ts:=by simp[cellsKs]
theorem cellsKs_get{ts:List T}{i:Nat}{t:T}(h:ts[i]?=some t){j:Nat}{v:Value}(hv:(cellsT t)[j]?=some v):(cellsKs ts)[i*19+j]?=some v:=by
 have hj:j<19:=by have:=(List.getElem?_eq_some_iff.1 hv).1;rw[cellsT_len] at this;exact this
 induction ts generalizing i with
 |nil=>simp at h
 |cons x ts ih=>
  rw[cellsKs_cons]
  cases i with
  |zero=>
   simp at h;subst h
   rw[Nat.zero_mul,Nat.zero_add,List.getElem?_append_left (by rw[cellsT_len];exact hj)];exact hv
  |succ i=>
   rw[List.getElem?_append_right (by rw[cellsT_len];omega),cellsT_len,show(i+1)*19+j-19=i*19+j from by omega]
   exact ih (by simpa using h)
mutual
def layT:T→Lay
 | .mk f _ _ _ _ ks=> .mk f (layKs ks)
def layKs:List T→List Lay
 |[]=>[]
 |t::ts=>layT t::layKs ts
end
theorem layKs_map(ts:List T):layKs ts=ts.map layT:=by
 induction ts with
 |nil=>rfl
 |cons t ts ih=>rw[layKs,ih];rfl
theorem layKs_app(a b:List T):layKs (a++b)=layKs a++layKs b:=by simp[layKs_map]
theorem T.ind{Q:T→Prop}(h: ∀f P M A K ks,(∀t∈ks,Q t)→Q (.mk f P M A K ks)): ∀t,Q t:=
 fun t=>T.rec (motive_1:=Q) (motive_2:=fun ts=> ∀t∈ts,Q t) (fun f P M A K ks ih=>h f P M A K ks ih) (fun _ h=>by cases h)
  (fun t ts h1 h2 u hu=>by
   rcases List.mem_cons.1 hu with rfl|hu
   ·exact h1
   ·exact h2 u hu) t
theorem Lay.ind{Q:Lay→Prop}(h: ∀f ks,(∀t∈ks,Q t)→Q (.mk f ks)): ∀t,Q t:=
 fun t=>Lay.rec (motive_1:=Q) (motive_2:=fun ts=> ∀t∈ts,Q t) (fun f ks ih=>h f ks ih) (fun _ h=>by cases h)
  (fun t ts h1 h2 u hu=>by
   rcases List.mem_cons.1 hu with rfl|hu
   ·exact h1
   ·exact h2 u hu) t
def rowsK(H:Heap)(K:Sl3)(ks:List T):Prop:=K.l=ks.length∧ ∀(i:Nat) t,ks[i]?=some t→ ∃a,K.p=some a∧rowIn H (a.add (i*19)) (cellsT t).toArray
mutual
def rdT(H:Heap):T→Prop
 | .mk f P M A K ks=>IS H P.p P.l (ints f.p)∧IS H M.p M.l (kints .u8 f.mask)∧IS H A.p A.l (ints f.params)∧rowsK H K ks∧rdKs H ks
def rdKs(H:Heap):List T→Prop
 |[]=>True
 |t::ts=>rdT H t∧rdKs H ts
end
def grp(H:Heap)(K:Sl3)(ks:List T):Prop:=rowsK H K ks∧rdKs H ks
theorem rdKs_iff{H:Heap}: ∀{ts:List T},rdKs H ts↔ ∀t∈ts,rdT H t
 |[]=>⟨fun _ _ h=>(by cases h),fun _=>trivial⟩
 |t::ts=>by
  rw[rdKs,rdKs_iff]
  simp only[List.forall_mem_cons]
theorem rowsK.ext{H H':Heap}{K:Sl3}{ks:List T}(h:rowsK H K ks)(he:Ext H H'):rowsK H' K ks:=
 ⟨h.1,fun i t ht=>let ⟨a,h1,h2⟩:=h.2 i t ht;⟨a,h1,rowAt_ext he h2⟩⟩
theorem rdT.ext{H H':Heap}(he:Ext H H'): ∀t,rdT H t→rdT H' t:=by
 refine T.ind fun f P M A K ks ih h=>?_
 rw[rdT] at h ⊢
 exact⟨h.1.ext he,h.2.1.ext he,h.2.2.1.ext he,h.2.2.2.1.ext he,rdKs_iff.2 fun t ht=>ih t ht (rdKs_iff.1 h.2.2.2.2 t ht)⟩
theorem grp.ext{H H':Heap}{K:Sl3}{ks:List T}(h:grp H K ks)(he:Ext H H'):grp H' K ks:=
 ⟨h.1.ext he,rdKs_iff.2 fun t ht=>rdT.ext he t (rdKs_iff.1 h.2 t ht)⟩
theorem grp.get{H:Heap}{K:Sl3}{ks:List T}(h:grp H K ks){i:Nat}{t:T}(ht:ks[i]?=some t): ∃a,K.p=some a∧rowIn H (a.add (i*19)) (cellsT t).toArray∧rdT H t:=
 let ⟨a,h1,h2⟩:=h.1.2 i t ht
 ⟨a,h1,h2,rdKs_iff.1 h.2 t (List.mem_of_getElem? ht)⟩
theorem grp.nil(H:Heap):grp H .nil []:=⟨⟨rfl,fun i t h=>by simp at h⟩,trivial⟩
theorem rdT.grp{H:Heap}{t:T}(h:rdT H t):grp H t.K t.kids:=by
 cases t with|mk f P M A K ks=>
 rw[rdT] at h
 exact⟨h.2.2.2.1,h.2.2.2.2⟩
mutual
def resT:T→List Rs
 | .mk f P M A K ks=> .sl P.p P.l P.c 3 1 (ints f.p):: .sl M.p M.l M.c 5 1 (kints .u8 f.mask):: .sl A.p A.l A.c 3 1 (ints f.params):: .sl K.p K.l K.c 118 19 (cellsKs ks)::resKs ks
def resKs:List T→List Rs
 |[]=>[]
 |t::ts=>resT t++resKs ts
end
def resG(K:Sl3)(ks:List T):List Rs:= .sl K.p K.l K.c 118 19 (cellsKs ks)::resKs ks
theorem resKs_app(a b:List T):resKs (a++b)=resKs a++resKs b:=by
 induction a with
 |nil=>rfl
 |cons t a ih=>rw[List.cons_append,resKs,ih,resKs,List.append_assoc]
theorem resKs_cons(t:T)(ts:List T):resKs (t::ts)=resT t++resKs ts:=by rw[resKs]
theorem resT_mk(f:LayF)(P M A K:Sl3)(ks:List T):resT (.mk f P M A K ks)= .sl P.p P.l P.c 3 1 (ints f.p):: .sl M.p M.l M.c 5 1 (kints .u8 f.mask):: .sl A.p A.l A.c 3 1 (ints f.params)::resG K ks:=by rw[resT];rfl
end Go.Proofs
namespace Go.Sh
open Go.Proofs
variable {H0 H H':Heap} {σ τ:List Rs}
theorem RS.rowsK{H:Heap}{K:Sl3}{ks:List T}{el:TypeId}(h:RS H K.p K.l el 19 (cellsKs ks)):Go.Proofs.rowsK H K ks:=by
 have hl:K.l=ks.length:=by have:=h.len;rw[cellsKs_len] at this;omega
 refine⟨hl,fun i t ht=>?_⟩
 have hi:i<ks.length:=(List.getElem?_eq_some_iff.1 ht).1
 obtain⟨blk,h1,h2⟩:=h.row (i:=i) (by omega) (by decide) (xs:=(cellsT t).toArray) fun j v hv=>cellsKs_get ht (by simpa using hv)
 exact⟨_,h1,by rw[add_none,Nat.zero_add];exact h2⟩
theorem St.rdKs_of: ∀{ks:List T},(∀t∈ks,∀{σ:List Rs},St H0 H (resT t++σ)→Go.Proofs.rdT H t)→St H0 H (resKs ks++σ)→Go.Proofs.rdKs H ks
 |[],_,_=>trivial
 |t::ts,h,hs=>by
  rw[resKs,List.append_assoc] at hs
  exact⟨h t List.mem_cons_self hs,St.rdKs_of (fun t ht=>h t (List.mem_cons_of_mem _ ht)) hs.app.2⟩
theorem St.rdT: ∀(t:T) {σ:List Rs},St H0 H (resT t++σ)→Go.Proofs.rdT H t:=by
 refine T.ind fun f P M A K ks ih σ hs=>?_
 rw[resT] at hs
 rw[Go.Proofs.rdT]
 refine⟨hs.is 0 rfl,hs.is 1 rfl,hs.is 2 rfl,RS.rowsK (hs.rs 3 rfl),St.rdKs_of (fun t ht _ hs=>ih t ht hs) (σ:=σ) ?_⟩
 exact hs.drop 4
theorem St.grp{K:Sl3}{ks:List T}(hs:St H0 H (resG K ks++σ)):Go.Proofs.grp H K ks:=
 ⟨RS.rowsK (hs.rs 0 rfl),St.rdKs_of (fun t ht _ hs=>St.rdT t hs) (σ:=σ) hs.tail⟩
end Go.Sh
namespace Go.Proofs
open Go.Sh
mutual
def okL:Lay→Prop
 | .mk f ks=>f.p.length≤1000000000∧f.mask.length≤1000000000∧f.params.length≤1000000000∧ks.length≤1000000000∧okKs ks
def okKs:List Lay→Prop
 |[]=>True
 |t::ts=>okL t∧okKs ts
end
mutual
def cntL:Lay→Nat
 | .mk _ ks=>1+cntKs ks
def cntKs:List Lay→Nat
 |[]=>0
 |t::ts=>cntL t+cntKs ts
end
mutual
def depL:Lay→Nat
 | .mk _ ks=>1+depKs ks
def depKs:List Lay→Nat
 |[]=>0
 |t::ts=>max (depL t) (depKs ts)
end
theorem okKs_iff: ∀{ts:List Lay},okKs ts↔ ∀t∈ts,okL t
 |[]=>⟨fun _ _ h=>(by cases h),fun _=>trivial⟩
 |t::ts=>by
  rw[okKs,okKs_iff]
  simp only[List.forall_mem_cons]
theorem okL.kids{t:Lay}(h:okL t):okKs t.kids∧t.kids.length≤1000000000:=by
 cases t;rw[okL] at h;exact⟨h.2.2.2.2,h.2.2.2.1⟩
theorem cntL_pos(t:Lay):1≤cntL t:=by cases t;rw[cntL];omega
theorem len_cnt: ∀ts:List Lay,ts.length≤cntKs ts
 |[]=>Nat.le_refl _
 |t::ts=>by have:=len_cnt ts;have:=cntL_pos t;rw[cntKs,List.length_cons];omega
theorem cnt_mem: ∀{ts:List Lay} {t:Lay},t∈ts→cntL t≤cntKs ts
 |u::ts,t,h=>by
  rw[cntKs]
  rcases List.mem_cons.1 h with rfl|h
  ·omega
  ·have:=cnt_mem h;omega
theorem cntKs_app(a b:List Lay):cntKs (a++b)=cntKs a+cntKs b:=by
 induction a with
 |nil=>simp[cntKs]
 |cons t a ih=>rw[List.cons_append,cntKs,ih,cntKs];omega
theorem depKs_app(a b:List Lay):depKs (a++b)=max (depKs a) (depKs b):=by
 induction a with
 |nil=>simp[depKs]
 |cons t a ih=>rw[List.cons_append,depKs,ih,depKs];omega
theorem setL_all{cs l:List Value}(h:l.length=cs.length):setL cs 0 l=l:=by simp[setL,h]
variable {H0 H:Heap} {R:Value→Heap→Prop}
end Go.Proofs
namespace Go.Proofs
open Go.Sh
variable {H0 H:Heap} {R:Value→Heap→Prop}
def sizedB(w h:Int):Bool:=decide (1≤w∧1≤h∧w≤32768∧h≤32768∧w*h≤4194304)
def docA(w h next:Int)(K:Sl3):Array Value:=#[.int .i64 w,.int .i64 h,.int .i64 next,K.v]
structure Fr where
 hdr:Sl3
 pre:List T
 f:LayF
 P:Sl3
 M:Sl3
 A:Sl3
 post:List T
def Fr.ad(fr:Fr):Option Addr:=fr.hdr.p.map fun a=>a.add (fr.pre.length*19)
end Go.Proofs
namespace Go.Proofs
open Go.Sh
variable {H0 H:Heap} {σ:List Rs} {R:Value→Heap→Prop}
abbrev TS:=Go.Tile.St
abbrev Shf:=Nat×List (Int×Nat)
def senc(z:(Int×Nat)×Nat):MapEntry:={key:= .int .i64 z.1.1,val:= .pointer (some ⟨z.1.2,0,none⟩),born:=z.2}
def sE(es:List (Int×Nat)):List MapEntry:=es.zipIdx.map senc
def sO(es:List (Int×Nat)):Obj:= .map (sE es).toArray es.length
def plFp(s:TS):List Nat:=s.A::(s.pls.map (·.b)++(s.pls.map (·.m)++s.ts.map (·.1)))
theorem in_fp{H:Heap}{s:TS}(h:In H s): ∀b∈plFp s,∃o,H[b]?=some o:=fun b hb=>by
 rcases List.mem_cons.1 hb with rfl|hb
 ·exact⟨_,h.arena⟩
 rcases List.mem_append.1 hb with hb|hb
 ·obtain⟨p,hp,rfl⟩:=List.mem_map.1 hb;exact⟨_,h.plane p hp⟩
 rcases List.mem_append.1 hb with hb|hb
 ·obtain⟨p,hp,rfl⟩:=List.mem_map.1 hb;exact⟨_,h.map p hp⟩
 ·obtain⟨p,hp,rfl⟩:=List.mem_map.1 hb;exact⟨_,h.tile p hp⟩
theorem owned_fp{s:TS}{b:Nat}(h:owned s b):b∈plFp s:=by
 rcases h with rfl|⟨p,hp,rfl⟩|h
 ·exact List.mem_cons_self
 ·exact List.mem_cons_of_mem _ (List.mem_append_right _ (List.mem_append_left _ (List.mem_map.2 ⟨p,hp,rfl⟩)))
 ·exact List.mem_cons_of_mem _ (List.mem_append_right _ (List.mem_append_right _ h))
def arRs(cap:Int)(s:TS)(ms:List Shf):Rs where
 at_ H fp:=fp=plFp s++ms.map (·.1)∧In H s∧Go.Tile.Ok cap s∧ ∀x∈ms,H[x.1]?=some (sO x.2)
 loc:=fun⟨h1,h2,h3,h4⟩ hk=>by
  subst h1
  refine⟨rfl,⟨?_,fun p hp=>?_,fun p hp=>?_,fun x hx=>?_⟩,h3,fun x hx=>?_⟩
  ·exact hk _ (List.mem_append_left _ List.mem_cons_self) _ h2.arena
  ·exact hk _ (List.mem_append_left _ (List.mem_cons_of_mem _ (List.mem_append_left _ (List.mem_map.2 ⟨p,hp,rfl⟩)))) _ (h2.plane p hp)
  ·exact hk _ (List.mem_append_left _ (owned_fp (.inr (.inl ⟨p,hp,rfl⟩)))) _ (h2.map p hp)
  ·exact hk _ (List.mem_append_left _ (owned_fp (.inr (.inr (List.mem_map.2 ⟨x,hx,rfl⟩))))) _ (h2.tile x hx)
  ·exact hk _ (List.mem_append_right _ (List.mem_map.2 ⟨x,hx,rfl⟩)) _ (h4 x hx)
 has:=fun⟨h1,h2,h3,h4⟩ b hb=>by
  subst h1
  rcases List.mem_append.1 hb with hb|hb
  ·obtain⟨o,ho⟩:=in_fp h2 b hb;exact lt_of_get ho
  ·obtain⟨x,hx,rfl⟩:=List.mem_map.1 hb;exact lt_of_get (h4 x hx)
structure ArOk(cap:Int)(H:Heap)(s:TS)(ms:List Shf):Prop where
 inn:In H s
 ok:Go.Tile.Ok cap s
 sh: ∀x∈ms,H[x.1]?=some (sO x.2)
 nd:(plFp s++ms.map (·.1)).Nodup
end Go.Proofs
namespace Go.Proofs
open Go.Sh
variable {H0 H:Heap} {σ:List Rs} {R:Value→Heap→Prop} {cap:Int} {s:TS} {ms:List Shf}
end Go.Proofs
namespace Go.Sh
variable {H0 H H':Heap} {σ τ:List Rs}
end Go.Sh
namespace Go.Proofs
open Go.Sh
variable {H0 H:Heap} {σ:List Rs} {R:Value→Heap→Prop}
end Go.Proofs
namespace Go.Proofs
open Go.Sh
variable {H0 H:Heap} {σ:List Rs} {R:Value→Heap→Prop}
end Go.Proofs
namespace Go.Sh
variable {H0 H H':Heap} {σ τ:List Rs}
theorem permC{α:Type}{a b:List α}(h: ∀(_:DecidableEq α) (x:α),a.count x=b.count x):a.Perm b:=by
 haveI:DecidableEq α:=fun a b=>Classical.propDecidable (a=b)
 exact List.perm_iff_count.2 (h inferInstance)
theorem perm_front{r:Rs}: ∀(l:List Rs) (i:Nat),l[i]?=some r→l.Perm (r::l.eraseIdx i)∧ ∀r',(l.set i r').Perm (r'::l.eraseIdx i)
 |[],i,h=>by simp at h
 |x::l,0,h=>by simp at h;subst h;exact⟨List.Perm.refl _,fun _=>List.Perm.refl _⟩
 |x::l,i+1,h=>by
  obtain⟨h1,h2⟩:=perm_front l i (by simpa using h)
  exact⟨(h1.cons x).trans (List.Perm.swap _ _ _),fun r'=>((h2 r').cons x).trans (List.Perm.swap _ _ _)⟩
theorem St.two(hs:St H0 H σ)(i m:Nat){r s:Rs}(hi:σ[i]?=some r)(hm:σ[m]?=some s)(hne:m≠i): ∃σ2,St H0 H (r::s::σ2)∧ ∀{H' r'},St H0 H' (r'::s::σ2)→St H0 H' (σ.set i r'):=by
 obtain⟨h1,h2⟩:=perm_front σ i hi
 have hm':(σ.eraseIdx i)[if m<i then m else m-1]?=some s:=by
  rw[List.getElem?_eraseIdx]
  by_cases h:m<i
  ·rw[if_pos h,if_pos h];exact hm
  ·rw[if_neg h,if_neg (by omega),show m-1+1=m from by omega];exact hm
 obtain⟨h3,_⟩:=perm_front _ _ hm'
 exact⟨_,hs.perm (h1.trans (h3.cons r)),fun hs'=>hs'.perm ((h3.symm.cons _).trans (h2 _).symm)⟩
theorem St.one(hs:St H0 H σ)(i:Nat){r:Rs}(hi:σ[i]?=some r): ∃σ2,St H0 H (r::σ2)∧ ∀{H' r'},St H0 H' (r'::σ2)→St H0 H' (σ.set i r'):=by
 obtain⟨h1,h2⟩:=perm_front σ i hi
 exact⟨_,hs.perm h1,fun hs'=>hs'.perm (h2 _).symm⟩
end Go.Sh
namespace Go.Proofs
open Go.Sh
variable {H0 H:Heap} {σ:List Rs} {R:Value→Heap→Prop}
def Fr.cells(fr:Fr)(K:Sl3):List Value:=cellsL fr.f fr.P.v fr.M.v fr.A.v K.v
def Fr.node(fr:Fr)(K:Sl3)(ks:List T):T:= .mk fr.f fr.P fr.M fr.A K ks
def plugZ:List Fr→Sl3→List T→Sl3×List T
 |[],K,ks=>(K,ks)
 |fr::up,K,ks=>plugZ up fr.hdr (fr.pre++fr.node K ks::fr.post)
def resFr(fr:Fr)(K:Sl3):List Rs:=
 .sl fr.hdr.p fr.hdr.l fr.hdr.c 118 19 (cellsKs fr.pre++fr.cells K++cellsKs fr.post):: .sl fr.P.p fr.P.l fr.P.c 3 1 (ints fr.f.p):: .sl fr.M.p fr.M.l fr.M.c 5 1 (kints .u8 fr.f.mask):: .sl fr.A.p fr.A.l fr.A.c 3 1 (ints fr.f.params)::(resKs fr.pre++resKs fr.post)
def resUp:List Fr→Sl3→List Rs
 |[],_=>[]
 |fr::up,K=>resFr fr K++resUp up fr.hdr
def openR(fr:Fr)(up:List Fr)(K:Sl3)(ks:List T):List Rs:=
 .sl fr.hdr.p fr.hdr.l fr.hdr.c 118 19 (cellsKs fr.pre++fr.cells K++cellsKs fr.post):: .sl fr.P.p fr.P.l fr.P.c 3 1 (ints fr.f.p):: .sl fr.M.p fr.M.l fr.M.c 5 1 (kints .u8 fr.f.mask):: .sl fr.A.p fr.A.l fr.A.c 3 1 (ints fr.f.params)::
  .sl K.p K.l K.c 118 19 (cellsKs ks)::(resKs ks++(resKs fr.pre++(resKs fr.post++resUp up fr.hdr)))
theorem cells_mid(fr:Fr)(K:Sl3)(ks:List T):cellsKs (fr.pre++fr.node K ks::fr.post)=cellsKs fr.pre++fr.cells K++cellsKs fr.post:=by
 rw[cellsKs_app,cellsKs_cons,List.append_assoc];rfl
theorem resKs_mid(fr:Fr)(K:Sl3)(ks:List T):resKs (fr.pre++fr.node K ks::fr.post)=resKs fr.pre++(resT (fr.node K ks)++resKs fr.post):=by
 rw[resKs_app,resKs_cons]
theorem plug_res: ∀(up:List Fr) (K:Sl3) (ks:List T),(resG (plugZ up K ks).1 (plugZ up K ks).2).Perm (resG K ks++resUp up K)
 |[],K,ks=>by rw[resUp,List.append_nil];exact List.Perm.refl _
 |fr::up,K,ks=>by
  rw[plugZ]
  refine(plug_res up fr.hdr _).trans ?_
  refine permC fun _ x=>?_
  simp only[resG,cells_mid,resKs_mid]
  simp only[Fr.node,resT_mk,resG,resUp,resFr,List.count_append,List.count_cons]
  ac_rfl
theorem open_perm(fr:Fr)(up:List Fr)(K:Sl3)(ks:List T):(resG (plugZ (fr::up) K ks).1 (plugZ (fr::up) K ks).2).Perm (openR fr up K ks):=by
 refine(plug_res (fr::up) K ks).trans (permC fun _ x=>?_)
 simp only[resG,resUp,resFr,openR,List.count_append,List.count_cons]
 ac_rfl
theorem _root_.Go.Sh.St.opened{S:Sl3}{ss:List T}(hs:St H0 H (resG S ss++σ)){fr:Fr}{up:List Fr}{K:Sl3}{ks:List T}(h:plugZ (fr::up) K ks=(S,ss)):St H0 H (openR fr up K ks++σ):=by
 have:=open_perm fr up K ks
 rw[h] at this
 exact hs.perm (this.append_right σ)
theorem _root_.Go.Sh.St.closed{fr:Fr}{up:List Fr}{K:Sl3}{ks:List T}(hs:St H0 H (openR fr up K ks++σ)):St H0 H (resG (plugZ (fr::up) K ks).1 (plugZ (fr::up) K ks).2++σ):=
 hs.perm ((open_perm fr up K ks).symm.append_right σ)
def rootF:LayF:=⟨0,1,false,0,0,0,0,[],[],⟨0,0,0,0,0,0⟩,false,0,[]⟩
def rootT(K:Sl3)(ks:List T):T:= .mk rootF .nil .nil .nil K ks
def rootS(b:Nat):Sl3:=⟨some ⟨b,0,none⟩,1,1⟩
def rootFr(b:Nat):Fr:=⟨rootS b,[],rootF,.nil,.nil,.nil,[]⟩
theorem plug_root(b:Nat): ∀(u:List Fr) (K:Sl3) (ks:List T),plugZ (u++[rootFr b]) K ks=(rootS b,[rootT (plugZ u K ks).1 (plugZ u K ks).2])
 |[],K,ks=>rfl
 |fr::u,K,ks=>by rw[List.cons_append,plugZ,plug_root b u];rfl
def resRoot(b:Nat)(K:Sl3)(ks:List T):List Rs:=resG (rootS b) [rootT K ks]
theorem close_at{b:Nat}{fr:Fr}{u:List Fr}{K:Sl3}{ks:List T}(hs:St H0 H (openR fr (u++[rootFr b]) K ks++σ)):St H0 H (resRoot b (plugZ (fr::u) K ks).1 (plugZ (fr::u) K ks).2++σ):=by
 have:=hs.closed
 rw[←List.cons_append,plug_root] at this
 exact this
end Go.Proofs
namespace Go.Proofs
open Go.Sh
variable {H0 H:Heap} {σ:List Rs} {R:Value→Heap→Prop}
structure FrL where
 pre:List Lay
 f:LayF
 post:List Lay
abbrev ZL:=List FrL×List Lay
mutual
def flT(up:List FrL)(pre post:List Lay)(id:Int):Lay→Option ZL
 | .mk f ks=>if f.id=id then some (⟨pre,f,post⟩::up,ks) else flK (⟨pre,f,post⟩::up) [] id ks
def flK(up:List FrL)(pre:List Lay)(id:Int):List Lay→Option ZL
 |[]=>none
 |t::ts=>match flT up pre ts id t with
  |some z=>some z
  |none=>flK up (pre++[t]) id ts
end
def plugL:List FrL→List Lay→List Lay
 |[],ks=>ks
 |fr::up,ks=>plugL up (fr.pre++ .mk fr.f ks::fr.post)
def Fr.lay(fr:Fr):FrL:=⟨layKs fr.pre,fr.f,layKs fr.post⟩
theorem plug_lay: ∀(u:List Fr) (K:Sl3) (ks:List T),layKs (plugZ u K ks).2=plugL (u.map Fr.lay) (layKs ks)
 |[],K,ks=>rfl
 |fr::u,K,ks=>by
  rw[plugZ,plug_lay u,List.map_cons,plugL,layKs_app,layKs]
  rfl
structure Ed where
 kind:Int
 id:Int
 to:Int
 at_:Int
 n:Int
 m:Int
 x:Int
 y:Int
 w:Int
 h:Int
 p:List Int
 shape:List (Int×Int)
 map:M6
 params:List Int
structure EdS where
 P:Sl3
 S:Sl3
 A:Sl3
def edL(e:Ed)(s:EdS):List Value:=
 [.int .i64 e.kind,.int .i64 e.id,.int .i64 e.to,.int .i64 e.at_,.int .i64 e.n,.int .i64 e.m,.int .i64 e.x,.int .i64 e.y,.int .i64 e.w,.int .i64 e.h,s.P.v,s.S.v,
  .int .i64 e.map.a,.int .i64 e.map.b,.int .i64 e.map.c,.int .i64 e.map.d,.int .i64 e.map.e,.int .i64 e.map.f,s.A.v]
structure IS2(H:Heap)(p:Option Addr)(l:Nat)(pts:List (Int×Int)):Prop where
 len:pts.length=l
 get: ∀(i:Nat) x y,pts[i]?=some (x,y)→ ∃a,p=some a∧rowIn H (a.add (i*2)) #[.int .i64 x,.int .i64 y]
theorem IS2.ext{H H':Heap}{p:Option Addr}{l:Nat}{pts:List (Int×Int)}(h:IS2 H p l pts)(he:Ext H H'):IS2 H' p l pts:=⟨h.len,fun i x y hi=>let ⟨a,h1,h2⟩:=h.get i x y hi;⟨a,h1,rowAt_ext he h2⟩⟩
structure rdEd(H:Heap)(e:Ed)(s:EdS):Prop where
 p:IS H s.P.p s.P.l (ints e.p)
 shape:IS2 H s.S.p s.S.l e.shape
 params:IS H s.A.p s.A.l (ints e.params)
theorem rdEd.ext{H H':Heap}{e:Ed}{s:EdS}(h:rdEd H e s)(he:Ext H H'):rdEd H' e s:=⟨h.p.ext he,h.shape.ext he,h.params.ext he⟩
end Go.Proofs
namespace Go.Proofs
open Go.Sh
variable {H0 H:Heap} {σ:List Rs} {R:Value→Heap→Prop}
def atL(a:Int)(n:Nat):Option Nat:=if a= -1 then some n else if 0≤a∧a≤n then some a.toNat else none
def homeL(D:List Lay)(to:Int):Int×ZL:=
 if to=0 then(0,[],D) else match flK [] [] to D with
  |some (fr::u,ks)=>if fr.f.kind=1 then(0,fr::u,ks) else(41,[],[])
  |_=>(40,[],[])
def putL(v:List FrL)(kh:List Lay)(a:Int)(l:Lay):Int×List Lay:=
 match atL a kh.length with
 |none=>(43,[])
 |some i=>(if 64<depKs (plugL v (kh.take i++l::kh.drop i)) then 31 else 0,plugL v (kh.take i++l::kh.drop i))
def moveL(D:List Lay)(e:Ed):Int×List Lay:=
 match flK [] [] e.id D with
 |some (fr::u,ks')=>
  if (homeL D e.to).1≠0 then((homeL D e.to).1,[]) else
  if e.to=e.id∨(flK [] [] e.to ks').isSome=true then(42,[]) else
  if (homeL (plugL u (fr.pre++fr.post)) e.to).1≠0 then((homeL (plugL u (fr.pre++fr.post)) e.to).1,[]) else
  putL (homeL (plugL u (fr.pre++fr.post)) e.to).2.1 (homeL (plugL u (fr.pre++fr.post)) e.to).2.2 e.at_ (.mk fr.f ks')
 |_=>(40,[])
def removeL(D:List Lay)(id:Int):Int×List Lay:=
 match flK [] [] id D with
 |some (fr::u,_)=>(0,plugL u (fr.pre++fr.post))
 |_=>(40,[])
def newL(next:Int)(e:Ed):LayF:=
 ⟨next,e.n,false,255,0,if e.n=0 then e.w else 0,if e.n=0 then e.h else 0,if e.n=0 then List.replicate (e.w*e.h).toNat 0 else[],[],⟨65536,0,0,65536,0,0⟩,false,2,[]⟩
def addL(next:Int)(D:List Lay)(e:Ed):Int×List Lay:=
 if e.n<0∨e.n>2 then(41,[]) else
 if e.n=0∧sizedB e.w e.h=false then(31,[]) else
 if (homeL D e.to).1≠0 then((homeL D e.to).1,[]) else
 if (putL (homeL D e.to).2.1 (homeL D e.to).2.2 e.at_ (.mk (newL next e) [])).1≠0 then((putL (homeL D e.to).2.1 (homeL D e.to).2.2 e.at_ (.mk (newL next e) [])).1,[]) else
 if 4096≤cntKs D then(31,[]) else(0,(putL (homeL D e.to).2.1 (homeL D e.to).2.2 e.at_ (.mk (newL next e) [])).2)
def cntUp:List FrL→Nat
 |[]=>0
 |fr::u=>1+cntKs fr.pre+cntKs fr.post+cntUp u
theorem cnt_plug: ∀(u:List FrL) (ks:List Lay),cntKs (plugL u ks)=cntUp u+cntKs ks
 |[],ks=>by rw[plugL,cntUp,Nat.zero_add]
 |fr::u,ks=>by rw[plugL,cnt_plug u,cntKs_app,cntKs,cntL,cntUp];omega
end Go.Proofs
