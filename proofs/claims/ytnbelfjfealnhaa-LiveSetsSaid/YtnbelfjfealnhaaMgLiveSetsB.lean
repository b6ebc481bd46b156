/-
  OWN WORK. Several texts in one: ShP, ShL, TileW, TileStay, ShS, ShT, ShU, TrA, GTab, GFunA, GFunB.
-/
import Derived.Test.YtnbelfjfealnhaaMgLiveSetsA
import Derived.ProofKit
import Derived.OpenShut
import Derived.Test.YtnbelfjfealnhaaProg
import Derived.KernelRfl

set_option linter.unusedSimpArgs false
set_option linter.unusedVariables false
set_option maxRecDepth 100000
namespace Go.Sh
def br(t:Bool)(A B:Prop):Prop:=(t=true→A)∧(t=false→B)
def alc(H:Heap)(o:Obj)(K:Nat→Heap→Prop):Prop:=K H.size (H.push o)
def sto(H:Heap)(r:Nat)(o:Obj)(K:Heap→Prop):Prop:=K (H.setIfInBounds r o)
abbrev OA:=Option Addr
abbrev AV:=Array Value
abbrev Kv:=Value→Heap→Prop
abbrev Kl:=List Value→Heap→Prop
namespace Plan
def tl(a:Plan):Plan:=two leaf a
def g0:Plan:=tl (two (tl leaf) leaf)
def tg(a:Plan):Plan:=two g0 a
end Plan
theorem vcs{P:Program}{T:Tab}(hT:TabOk P T)(hm:P.follows .mixedOrders=true){g:FuncId}{fn:Func}(hg:P.funcs[g]?=some fn)(hc:callable P g)(p:Plan){args:Array Value}{H:Heap}
 {R:Value→Heap→Prop}{A:Prop}(h:A)(e:A=vcFun P T fn p args.toList H R):CallsH P g args H R:=by
 have:=vcFun_sound hT hm hg hc (p:=p) (args:=args.toList) (H:=H) (R:=R) (Eq.mp e h)
 simpa using this
end Go.Sh
namespace Go.Sh
theorem br_i{t:Bool}{A B:Prop}(h:t=true→A)(h':t=false→B):br t A B:=⟨h,h'⟩
theorem br_dec{p:Prop}[Decidable p]{A B:Prop}(h:p→A)(h': ¬p→B):br (decide p) A B:=⟨fun e=>h (of_decide_eq_true e),fun e=>h' (of_decide_eq_false e)⟩
theorem br_eq{a b:Int}{A B:Prop}(h:a=b→A)(h':a≠b→B):br (a==b) A B:=⟨fun e=>h (by simpa using e),fun e=>h' (by simpa using e)⟩
theorem br_ne{a b:Int}{A B:Prop}(h:a≠b→A)(h':a=b→B):br (a != b) A B:=⟨fun e=>h (by simpa using e),fun e=>h' (by simpa using e)⟩
theorem br_not{t:Bool}{A B:Prop}(h:t=false→A)(h':t=true→B):br (!t) A B:=⟨fun e=>h (by simpa using e),fun e=>h' (by simpa using e)⟩
theorem br_true{A B:Prop}(h:A):br true A B:=⟨fun _=>h,fun e=>(by cases e)⟩
theorem br_false{A B:Prop}(h:B):br false A B:=⟨fun e=>(by cases e),fun _=>h⟩
theorem br_t{t:Bool}{A B:Prop}(ht:t=true)(h:A):br t A B:=by subst ht;exact br_true h
theorem br_f{t:Bool}{A B:Prop}(ht:t=false)(h:B):br t A B:=by subst ht;exact br_false h
theorem br_y{p:Prop}[Decidable p]{A B:Prop}(hp:p)(h:A):br (decide p) A B:=br_dec (fun _=>h) (fun n=>absurd hp n)
theorem br_n{p:Prop}[Decidable p]{A B:Prop}(hp: ¬p)(h:B):br (decide p) A B:=br_dec (fun y=>absurd y hp) (fun _=>h)
theorem br_none{α:Type}{p:Option α}{A B:Prop}(h:p=none→A)(h': ∀a,p=some a→B):br (Option.isNone p) A B:=by
 cases p with
 |none=>exact br_true (h rfl)
 |some a=>exact br_false (h' a rfl)
theorem lt_of_get{H:Heap}{b:Nat}{o:Obj}(h:H[b]?=some o):b<H.size:=(Array.getElem?_eq_some_iff.1 h).1
theorem get_push_self(H:Heap)(o:Obj):(H.push o)[H.size]?=some o:=by simp
theorem get_push{H:Heap}{b:Nat}{o x:Obj}(h:H[b]?=some x):(H.push o)[b]?=some x:=Ext.push H o b x h
theorem get_set_ne{H:Heap}{b r:Nat}{o x:Obj}(hne:r≠b)(h:H[b]?=some x):(H.setIfInBounds r o)[b]?=some x:=by
 rw[Array.getElem?_setIfInBounds_ne hne];exact h
theorem get_set_self{H:Heap}{r:Nat}{o x:Obj}(h:H[r]?=some x):(H.setIfInBounds r o)[r]?=some o:=by
 rw[Array.getElem?_setIfInBounds_self_of_lt (lt_of_get h)]
theorem cell_block{H:Heap}{b i:Nat}{c:Array Value}{t:TypeId}{f:Nat×Nat}(h:H[b]?=some (.cells c t f)):cell H ⟨b,i,none⟩=c[i]?:=by
 simp[cell,h]
theorem cell_get{H:Heap}{b i:Nat}{c:Array Value}{t:TypeId}{f:Nat×Nat}{v:Value}(h:H[b]?=some (.cells c t f))(hv:c[i]?=some v):cell H ⟨b,i,none⟩=some v:=by
 rw[cell_block h];exact hv
@[simp] theorem add_none(b i n:Nat):Addr.add ⟨b,i,none⟩ n=⟨b,i+n,none⟩:=by
 unfold Addr.add;split<;>simp_all
theorem rowIn_block{H:Heap}{b i:Nat}{c cs:Array Value}{t:TypeId}{f:Nat×Nat}(h:H[b]?=some (.cells c t f))(hc: ∀j v,cs[j]?=some v→c[i+j]?=some v):
 rowIn H ⟨b,i,none⟩ cs:=by
 intro j v hv
 rw[add_none,cell_block h]
 exact hc j v hv
theorem rowIn_whole{H:Heap}{b:Nat}{c:Array Value}{t:TypeId}{f:Nat×Nat}(h:H[b]?=some (.cells c t f)):rowIn H ⟨b,0,none⟩ c:=
 rowIn_block h fun j v hv=>by rw[Nat.zero_add];exact hv
theorem stAt_one{H:Heap}{b i:Nat}{c:Array Value}{t:TypeId}{v:Value}{f:Heap→Prop}(h:H[b]?=some (.cells c t (0,0)))(hi:i<c.size)(ho:v.oneCell'=true)
 (hf:f (H.setIfInBounds b (.cells (c.setIfInBounds i v) t (0,0)))):stAt H ⟨b,i,none⟩ [v] f:=by
 refine⟨c,t,h,rfl,(by simp;omega),by simpa using ho,?_⟩
 have:(setL c.toList i [v]).toArray=c.setIfInBounds i v:=by
  rw[setL_one (by simpa using hi)]
  apply Array.toList_inj.1
  simp
 simp only[this]
 exact hf
theorem stAt_whole{H:Heap}{b:Nat}{c:Array Value}{t:TypeId}{vs:List Value}{f:Heap→Prop}(h:H[b]?=some (.cells c t (0,0)))(hl:vs.length=c.size)(ho: ∀v∈vs,v.oneCell'=true)
 (hf:f (H.setIfInBounds b (.cells vs.toArray t (0,0)))):stAt H ⟨b,0,none⟩ vs f:=by
 refine⟨c,t,h,rfl,by simp;omega,ho,?_⟩
 have:setL c.toList 0 vs=vs:=by simp[setL,hl]
 simp only[this]
 exact hf
theorem wrap_id{n:Int}(h0: -9223372036854775808≤n)(h1:n≤9223372036854775807):IntKind.wrap .i64 n=n:=wrap_i64 h0 h1
theorem wrap_u8{n:Int}(h0:0≤n)(h1:n<256):IntKind.wrap .u8 n=n:=by
 simp only[IntKind.wrap,IntKind.signed,IntKind.bits];simp;omega
end Go.Sh
namespace Go.Sh
open Go.RowKit
theorem kept_of{W w':World}(hos:w'.os=W.os)(ho:Out W w')(hx:Ext W.heap w'.heap)(may:MemPlace→Prop):W.keptBut w' may:=by
 have h0:W.keptBut w' (fun _=>False):=by
  refine⟨hos,ho.output,fun i hi=>?_⟩
  obtain⟨o,h⟩: ∃o,W.heap[i]?=some o:=⟨_,Array.getElem?_eq_getElem hi⟩
  rw[hx i o h,h]
  cases o with
  |cells c t fr=>exact⟨rfl,rfl,rfl,fun _ _=>rfl⟩
  |map es k=>exact .inr ⟨rfl,rfl⟩
  |_=>rfl
 exact World.keptBut_mono (fun _ f=>f.elim) h0
end Go.Sh
namespace Go.Sh
open Go.RowKit Go.ChangeShapes Go.WideShapes Go.ChangeAt
section
variable {H:Type} {enc:TypeId×Value→H} {P:Program} {W W':World}
theorem same_of(hx:Ext W.heap W'.heap){p:MemPlace}(hp:p.block<W.heap.size):W.sameAt W' p:=by
 have h:W'.heap[p.block]?=W.heap[p.block]?:=by
  obtain⟨o,h⟩: ∃o,W.heap[p.block]?=some o:=⟨_,Array.getElem?_eq_getElem hp⟩
  rw[hx _ o h,h]
 cases p with
 |cell b o=>exact World.cell?_of_block (w:=W) h
 |map b=>exact h
theorem trodAll_ext (hl : laidOutB P = true) (hx : Ext W.heap W'.heap) {sp : Nat → Bool} : ∀ {ts : List TypeId} {vs : List Value} {ds : List (DataW H)} {ps : List MemPlace}, (ts.all fun t => P.readableRec t && decide (t < P.types.size)) = true →
    DataW.TrodAll enc P W 0 (fun _ => true) true ts vs ds ps → (∀ x ∈ ps, x.block < W.heap.size) → (∀ x ∈ ps, sp x.block = true) → DataW.TrodAll enc P W' 0 sp true ts vs ds ps
  | [], vs, ds, ps, _, h, _, _ => by
    obtain ⟨rfl, rfl, rfl⟩ := trodAll_nil h
    exact trodAll_mk0
  | t :: ts, vs, ds, ps, hr, h, hlt, hs => by
    obtain ⟨v, vs1, d, ds1, a, b, rfl, rfl, rfl, h1, h2⟩ := trodAll_cons h
    simp only [List.all_cons, Bool.and_eq_true, decide_eq_true_eq] at hr
    exact trodAll_cons_mk (WideElems.Trod_stays hl hr.1.1 hr.1.2 h1 (fun x hx' => same_of hx (hlt x (List.mem_append_left _ hx'))) (fun x hx' => hs x (List.mem_append_left _ hx')))
      (trodAll_ext hl hx (by simpa using hr.2) h2 (fun x hx' => hlt x (List.mem_append_right _ hx')) (fun x hx' => hs x (List.mem_append_right _ hx')))
theorem post_same{f:Func}{s:ChangeSpec}{apart fresh handsOn again:Bool}{args:Array Value}{v:Value}{ds gs:List (DataW H)}{before pa pv:List MemPlace}
 (hW:DataW.Whole enc P f.params.toList s.vars apart W args.toList ds gs before)
 (hres: ∀(b:Nat) (sp:Nat→Bool) (hd:Bool),DataW.TrodAll enc P W' b sp hd f.resultTypes.toList (v.resultList f.resultTypes.size) (s.fn H (ds++gs)).results [])
 (hargs: ∀sp:Nat→Bool,(∀p∈before,sp p.block=true)→DataW.TrodAll enc P W' 0 sp true f.params.toList args.toList (s.fn H (ds++gs)).args pa)
 (hvars: ∀sp:Nat→Bool,(∀p∈before,sp p.block=true)→DataW.TrodVars enc P W' sp s.vars (s.fn H (ds++gs)).vars pv)
 (hps:before=pa++pv)(hk:W.keptBut W' (· ∈before))(hfz: ∀a,a.block<W.heap.size→W'.frozen? a=W.frozen? a)
 (hok: ∀(j:Nat) (t:TypeId) (r:Value),f.resultTypes[j]?=some t→(v.resultList f.resultTypes.size)[j]?=some r→Value.okWide P W' .any 0 t r):
 s.post enc P f apart fresh handsOn again W args v W':=by
 have hold: ∀p∈before,(fun b=>decide (b<W.heap.size)) p.block=true:=fun p hp=>by simpa using hW.lt p hp
 have hlt:=hW.lt
 refine⟨ds,gs,before,[],pa,pv,hW,hres _ _ _,hargs _ hold,hvars _ hold,World.keptBut_mono (fun p hp=>⟨hp,?_⟩) hk,fun _=>?_⟩
 ·rw[hps,List.mem_append] at hp
  exact Or.inr hp
 ·obtain⟨_,_,_,_,_,hz,hn⟩:=hW
  refine⟨hok,_,_,([]++pa)++pv,⟨[]++pa,pv,trodAll_append (hargs _ (fun _ _=>rfl)) (hres _ _ _),hvars _ (fun _ _=>rfl),rfl,?_,?_⟩,?_⟩
  ·intro b off hp
   have hp':(MemPlace.cell b off)∈before:=by rw[hps];simpa using hp
   rw[hfz _ (hlt _ hp')]
   exact hz b off hp'
  ·intro ha
   have:=hn ha
   rw[hps] at this
   simpa using this
  ·intro p hp _
   rw[hps]
   simpa using hp
theorem wf_range{a:Int}(h:(Lit.int .i64 a).wf=true): -9223372036854775808≤a∧a≤9223372036854775807:=by
 simpa[Lit.wf,IntKind.min,IntKind.max,IntKind.signed,IntKind.bits] using h
end
end Go.Sh
namespace Go.Sh
def ints(l:List Int):List Value:=l.map (Value.int .i64)
theorem ints_get{l:List Int}{i:Nat}{v:Int}(h:l[i]?=some v):(ints l)[i]?=some (Value.int .i64 v):=by simp[ints,h]
theorem ints_len(l:List Int):(ints l).length=l.length:=by simp[ints]
theorem ints_set(l:List Int)(i:Nat)(v:Int):(ints l).set i (.int .i64 v)=ints (l.set i v):=by simp[ints]
theorem ints_one(l:List Int): ∀v∈ints l,v.oneCell'=true:=fun v hv=>by
 obtain⟨x,_,rfl⟩:=List.mem_map.1 hv;rfl
structure RS(H:Heap)(p:Option Addr)(l:Nat)(el:TypeId)(k:Nat)(fs:List Value):Prop where
 len:fs.length=l*k
 one: ∀v∈fs,v.oneCell'=true
 at_:l=0∨ ∃blk cs,p=some ⟨blk,0,none⟩∧H[blk]?=some (.cells cs el)∧ ∀(i:Nat) v,fs[i]?=some v→cs[i]?=some v
structure FS(n0:Nat)(H:Heap)(p:Option Addr)(l c:Nat)(el:TypeId)(k:Nat)(fs:List Value):Prop where
 len:fs.length=l*k
 le:l≤c
 one: ∀v∈fs,v.oneCell'=true
 at_:(p=none∧c=0)∨ ∃blk cs,p=some ⟨blk,0,none⟩∧n0≤blk∧H[blk]?=some (.cells cs el)∧cs.size=c*k∧ ∀(i:Nat) v,fs[i]?=some v→cs[i]?=some v
theorem FS.rs{n0:Nat}{H:Heap}{p:Option Addr}{l c:Nat}{el:TypeId}{k:Nat}{fs:List Value}(h:FS n0 H p l c el k fs):RS H p l el k fs:=by
 refine⟨h.len,h.one,?_⟩
 rcases h.at_ with ⟨_,h2⟩|⟨blk,cs,h1,_,h3,_,h5⟩
 ·left;have:=h.le;omega
 ·exact .inr ⟨blk,cs,h1,h3,h5⟩
theorem RS.keep{H H':Heap}{p:Option Addr}{l:Nat}{el:TypeId}{k:Nat}{fs:List Value}(h:RS H p l el k fs)(hk: ∀b cs,p=some ⟨b,0,none⟩→H[b]?=some (.cells cs el)→H'[b]?=some (.cells cs el)):RS H' p l el k fs:=by
 refine⟨h.len,h.one,?_⟩
 rcases h.at_ with h1|⟨blk,cs,h1,h3,h5⟩
 ·exact .inl h1
 ·exact .inr ⟨blk,cs,h1,hk _ _ h1 h3,h5⟩
theorem RS.ext{H H':Heap}{p:Option Addr}{l:Nat}{el:TypeId}{k:Nat}{fs:List Value}(h:RS H p l el k fs)(he:Ext H H'):RS H' p l el k fs:=h.keep fun b cs _ hb=>he _ _ hb
theorem FS.keep{n0:Nat}{H H':Heap}{p:Option Addr}{l c:Nat}{el:TypeId}{k:Nat}{fs:List Value}(h:FS n0 H p l c el k fs)(hk: ∀b cs,p=some ⟨b,0,none⟩→H[b]?=some (.cells cs el)→H'[b]?=some (.cells cs el)):FS n0 H' p l c el k fs:=by
 refine⟨h.len,h.le,h.one,?_⟩
 rcases h.at_ with h1|⟨blk,cs,h1,h2,h3,h5⟩
 ·exact .inl h1
 ·exact .inr ⟨blk,cs,h1,h2,hk _ _ h1 h3,h5⟩
theorem FS.ext{n0:Nat}{H H':Heap}{p:Option Addr}{l c:Nat}{el:TypeId}{k:Nat}{fs:List Value}(h:FS n0 H p l c el k fs)(he:Ext H H'):FS n0 H' p l c el k fs:=h.keep fun b cs _ hb=>he _ _ hb
theorem FS.lower{n0 n1:Nat}{H:Heap}{p:Option Addr}{l c:Nat}{el:TypeId}{k:Nat}{fs:List Value}(h:FS n0 H p l c el k fs)(hn:n1≤n0):FS n1 H p l c el k fs:=by
 refine⟨h.len,h.le,h.one,?_⟩
 rcases h.at_ with h1|⟨blk,cs,h1,h2,h3,h5⟩
 ·exact .inl h1
 ·exact .inr ⟨blk,cs,h1,by omega,h3,h5⟩
theorem FS.nil(n0:Nat)(H:Heap)(el:TypeId)(k:Nat):FS n0 H none 0 0 el k []:=⟨by simp,Nat.le_refl _,by simp,.inl ⟨rfl,rfl⟩⟩
theorem RS.nil(H:Heap)(p:Option Addr)(el:TypeId)(k:Nat):RS H p 0 el k []:=⟨by simp,by simp,.inl rfl⟩
theorem FS.whole{n0:Nat}{H:Heap}{b l k:Nat}{el:TypeId}{cs:Array Value}(hb:n0≤b)(h:H[b]?=some (.cells cs el))(hs:cs.size=l*k)(ho: ∀v∈cs.toList,v.oneCell'=true):FS n0 H (some ⟨b,0,none⟩) l l el k cs.toList:=
 ⟨by simpa using hs,Nat.le_refl _,ho,.inr ⟨b,cs,rfl,hb,h,hs,fun i v hv=>by simpa using hv⟩⟩
theorem RS.cell{H:Heap}{p:Option Addr}{l:Nat}{el:TypeId}{k:Nat}{fs:List Value}(h:RS H p l el k fs){i:Nat}{v:Value}(hv:fs[i]?=some v): ∃blk,p=some ⟨blk,0,none⟩∧Go.Sh.cell H ⟨blk,i,none⟩=some v:=by
 rcases h.at_ with h1|⟨blk,cs,h1,h3,h5⟩
 ·have:=(List.getElem?_eq_some_iff.1 hv).1
  have:=h.len
  rw[h1] at this
  omega
 ·exact⟨blk,h1,cell_get h3 (h5 i v hv)⟩
theorem RS.row{H:Heap}{p:Option Addr}{l:Nat}{el:TypeId}{k:Nat}{fs:List Value}(h:RS H p l el k fs){i:Nat}(hi:i<l)(hk:0<k){xs:Array Value}(hx: ∀(j:Nat) v,xs[j]?=some v→fs[i*k+j]?=some v): ∃blk,p=some ⟨blk,0,none⟩∧rowIn H ⟨blk,i*k,none⟩ xs:=by
 rcases h.at_ with h1|⟨blk,cs,h1,h3,h5⟩
 ·omega
 ·exact⟨blk,h1,rowIn_block h3 fun j v hv=>h5 _ _ (hx j v hv)⟩
structure IS(H:Heap)(p:Option Addr)(l:Nat)(fs:List Value):Prop where
 len:fs.length=l
 get: ∀(i:Nat) v,fs[i]?=some v→ ∃a,p=some a∧Go.Sh.cell H (a.add i)=some v
theorem IS.ext{H H':Heap}{p:Option Addr}{l:Nat}{fs:List Value}(h:IS H p l fs)(he:Ext H H'):IS H' p l fs:=⟨h.len,fun i v hv=>let ⟨a,h1,h2⟩:=h.get i v hv;⟨a,h1,he.cell h2⟩⟩
theorem IS.cell{H:Heap}{p:Option Addr}{l:Nat}{fs:List Value}(h:IS H p l fs){i:Nat}{v:Value}(hv:fs[i]?=some v): ∃a,p=some a∧Go.Sh.cell H (a.add i)=some v:=h.get i v hv
theorem RS.is{H:Heap}{p:Option Addr}{l:Nat}{el:TypeId}{fs:List Value}(h:RS H p l el 1 fs):IS H p l fs:=
 ⟨by have:=h.len;omega,fun i v hv=>let ⟨blk,h1,h2⟩:=h.cell hv;⟨_,h1,by simpa using h2⟩⟩
theorem RS.rowOf{H:Heap}{p:Option Addr}{l:Nat}{el:TypeId}{k:Nat}{fs:List Value}(h:RS H p l el k fs):rowOf H p (l*k) fs.toArray:=by
 rcases h.at_ with h1|⟨blk,cs,h1,h3,h5⟩
 ·have:=h.len
  rw[h1,Nat.zero_mul] at this
  have:fs=[]:=List.length_eq_zero_iff.1 this
  subst this
  subst h1
  cases p with
  |none=>rfl
  |some a=>exact⟨by simp,fun j v hv=>by simp at hv⟩
 ·subst h1
  refine⟨by simp[h.len],rowIn_block h3 fun j v hv=>?_⟩
  rw[Nat.zero_add]
  exact h5 j v (by simpa using hv)
theorem setL_get{c vs:List Value}{i:Nat}(h:i+vs.length≤c.length)(j:Nat):(setL c i vs)[j]?=if i≤j∧j<i+vs.length then vs[j-i]? else c[j]?:=by
 unfold setL
 by_cases h1:j<i
 ·rw[if_neg (by omega),List.append_assoc,List.getElem?_append_left (by simp;omega),List.getElem?_take_of_lt h1]
 ·by_cases h2:j<i+vs.length
  ·rw[if_pos ⟨by omega,h2⟩,List.append_assoc,List.getElem?_append_right (by simp;omega),List.getElem?_append_left (by simp;omega)]
   congr 1
   simp;omega
  ·rw[if_neg (by omega),List.getElem?_append_right (by simp;omega),List.getElem?_drop]
   congr 1
   simp;omega
theorem setL_len{c vs:List Value}{i:Nat}(h:i+vs.length≤c.length):(setL c i vs).length=c.length:=by unfold setL;simp;omega
theorem stAt_some{H:Heap}{b i:Nat}{c:Array Value}{t:TypeId}{vs:List Value}{f:Heap→Prop}(h:H[b]?=some (.cells c t (0,0)))(hl:i+vs.length≤c.size)(ho: ∀v∈vs,v.oneCell'=true)
 (hf: ∀c':Array Value,c'.size=c.size→(∀j:Nat,c'[j]?=if i≤j∧j<i+vs.length then vs[j-i]? else c[j]?)→f (H.setIfInBounds b (.cells c' t (0,0)))):stAt H ⟨b,i,none⟩ vs f:=by
 have hl':i+vs.length≤c.toList.length:=by simpa using hl
 refine⟨c,t,h,rfl,hl,ho,?_⟩
 refine hf (setL c.toList i vs).toArray (by simp[setL_len hl']) fun j=>?_
 rw[List.getElem?_toArray,setL_get hl' j,Array.getElem?_toList (xs:=c)]
theorem FS.app'{n0:Nat}{H:Heap}{p q:Option Addr}{l c n:Nat}{el:TypeId}{k bytes:Nat}{zero:Array Value}{fs gs:List Value}(h:FS n0 H p l c el k fs)(hrow:Go.Sh.rowOf H q (n*k) gs.toArray)(hgl:gs.length=n*k)(hgo: ∀v∈gs,v.oneCell'=true)(hk:0<k)(hn:n0≤H.size)(hz:zero.size=k)
 (hb:(l+n)*bytes≤70368744177664)(hm:l+n≤1000000000000){K:Option Addr→Nat→Nat→Heap→Prop}
 (hK: ∀p' c' H',FS n0 H' p' (l+n) c' el k (fs++gs)→(∀(b:Nat) (o:Obj),H[b]?=some o→p≠some ⟨b,0,none⟩→H'[b]?=some o)→H.size≤H'.size→K p' (l+n) c' H'):appQ k bytes zero H p l c q n el K:=by
 have hfl:=h.len
 have hlen:(fs++gs).length=(l+n)*k:=by rw[List.length_append,hfl,hgl,Nat.add_mul]
 have hone: ∀v∈fs++gs,v.oneCell'=true:=fun v hv=>(List.mem_append.1 hv).elim (h.one v) (hgo v)
 refine⟨hb,by omega,gs.toArray,hrow,fun hle=>?_,fun hlt=>?_⟩
 ·rcases h.at_ with ⟨rfl,hc0⟩|⟨blk,cs,rfl,h2,h3,h4,h5⟩
  ·refine hK none c H ⟨hlen,hle,hone,.inl ⟨rfl,hc0⟩⟩ (fun b o hb _=>hb) (Nat.le_refl _)
  ·simp only[add_none,Nat.zero_add]
   have hcap:(l+n)*k≤c*k:=Nat.mul_le_mul_right k hle
   rw[Nat.add_mul] at hcap
   refine stAt_some h3 (by show l*k+gs.length≤cs.size;omega) (by simpa using hgo) fun c' hc' hg=>?_
   refine hK _ _ _ ⟨hlen,hle,hone,.inr ⟨blk,c',rfl,h2,get_set_self h3,by omega,fun i v hv=>?_⟩⟩ (fun b o hb hne=>get_set_ne (fun hh=>hne (by rw[hh])) hb) (by simp)
   rw[hg]
   by_cases hi:i<fs.length
   ·rw[if_neg (by omega)]
    rw[List.getElem?_append_left hi] at hv
    exact h5 i v hv
   ·rw[List.getElem?_append_right (by omega)] at hv
    have hlt:=(List.getElem?_eq_some_iff.1 hv).1
    rw[if_pos ⟨by omega,by show i<l*k+gs.length;omega⟩]
    rw[←hfl]
    simpa using hv
 ·have hrow: ∃ys,Go.Sh.rowOf H p (l*k) ys∧ys.toList=fs:=⟨fs.toArray,h.rs.rowOf,by simp⟩
  obtain⟨ys,hy,hvs⟩:=hrow
  refine⟨ys,hy,fun c' hc'=>?_⟩
  rw[zeroCells_eq _ _ (by omega)]
  have hcap:(l+n)*k≤c'*k:=Nat.mul_le_mul_right k hc'
  have hys:ys.size=l*k:=by rw[←Array.length_toList,hvs,hfl]
  refine hK _ _ _ ⟨hlen,hc',hone,.inr ⟨H.size,_,rfl,hn,get_push_self _ _,?_,fun i v hv=>?_⟩⟩ (fun b o hb _=>get_push hb) (by simp)
  ·simp only[Array.size_append,hys,List.size_toArray,reps_length,Array.length_toList,hz,hgl]
   rw[Nat.sub_mul]
   rw[Nat.add_mul] at hcap ⊢
   omega
  ·have hi:=(List.getElem?_eq_some_iff.1 hv).1
   rw[Array.getElem?_append_left (by simp[hys,hgl];rw[hlen,Nat.add_mul] at hi;omega)]
   have:(ys++gs.toArray).toList=fs++gs:=by simp[hvs]
   rw[←Array.getElem?_toList,this]
   exact hv
theorem FS.app{n0:Nat}{H:Heap}{p q:Option Addr}{l c n:Nat}{el:TypeId}{k bytes:Nat}{zero:Array Value}{fs gs:List Value}(h:FS n0 H p l c el k fs)(hs:RS H q n el k gs)(hk:0<k)(hn:n0≤H.size)(hz:zero.size=k)
 (hb:(l+n)*bytes≤70368744177664)(hm:l+n≤1000000000000){K:Option Addr→Nat→Nat→Heap→Prop}
 (hK: ∀p' c' H',FS n0 H' p' (l+n) c' el k (fs++gs)→(∀(b:Nat) (o:Obj),H[b]?=some o→p≠some ⟨b,0,none⟩→H'[b]?=some o)→H.size≤H'.size→K p' (l+n) c' H'):appQ k bytes zero H p l c q n el K:=
 h.app' hs.rowOf hs.len hs.one hk hn hz hb hm hK
theorem FS.set{n0:Nat}{H:Heap}{b l c:Nat}{el:TypeId}{k:Nat}{fs:List Value}{i:Nat}{v:Value}{f:Heap→Prop}(h:FS n0 H (some ⟨b,0,none⟩) l c el k fs)(hi:i<fs.length)(ho:v.oneCell'=true)
 (hf: ∀H',FS n0 H' (some ⟨b,0,none⟩) l c el k (fs.set i v)→(∀(b':Nat) (o:Obj),H[b']?=some o→b'≠b→H'[b']?=some o)→H'.size=H.size→f H'):stAt H ⟨b,i,none⟩ [v] f:=by
 have hlen:=h.len
 rcases h.at_ with ⟨h1,_⟩|⟨blk,cs,h1,h2,h3,h4,h5⟩
 ·cases h1
 ·cases h1
  have hics:i<cs.size:=by
   have:=h5 i fs[i] (List.getElem?_eq_getElem hi)
   exact(Array.getElem?_eq_some_iff.1 this).1
  refine stAt_one h3 hics ho ?_
  refine hf _ ⟨by simpa using hlen,h.le,fun u hu=>?_,.inr ⟨b,cs.setIfInBounds i v,rfl,h2,get_set_self h3,by simpa using h4,fun j u hu=>?_⟩⟩ (fun b' o hb' hne=>get_set_ne (Ne.symm hne) hb') (by simp)
  ·rcases List.mem_or_eq_of_mem_set hu with hu|rfl
   ·exact h.one u hu
   ·exact ho
  ·rw[List.getElem?_set] at hu
   rw[Array.getElem?_setIfInBounds]
   by_cases hij:i=j
   ·subst hij
    rw[if_pos rfl,if_pos hi] at hu
    rw[if_pos rfl,if_pos hics]
    exact hu
   ·rw[if_neg hij] at hu
    rw[if_neg hij]
    exact h5 j u hu
end Go.Sh
namespace Go.Sh
structure Rs where
 at_:Heap→List Nat→Prop
 loc: ∀{H H':Heap} {fp:List Nat},at_ H fp→(∀b∈fp,∀o,H[b]?=some o→H'[b]?=some o)→at_ H' fp
 has: ∀{H:Heap} {fp:List Nat},at_ H fp→ ∀b∈fp,b<H.size
def Rs.cell(b:Nat)(cs:Array Value)(ty:TypeId):Rs where
 at_ H fp:=fp=[b]∧H[b]?=some (.cells cs ty)
 loc h hk:=⟨h.1,hk _ (by rw[h.1];exact List.mem_singleton.2 rfl) _ h.2⟩
 has h b hb:=by rw[h.1,List.mem_singleton] at hb;subst hb;exact lt_of_get h.2
def Rs.sl(p:Option Addr)(l c:Nat)(el:TypeId)(k:Nat)(fs:List Value):Rs where
 at_ H fp:=FS 0 H p l c el k fs∧((p=none∧fp=[])∨ ∃blk,p=some ⟨blk,0,none⟩∧fp=[blk])
 loc h hk:=by
  refine⟨h.1.keep fun b cs hp hb=>hk b ?_ _ hb,h.2⟩
  rcases h.2 with ⟨h1,_⟩|⟨blk,h1,h2⟩
  ·rw[h1] at hp;cases hp
  ·rw[h1] at hp;cases hp;rw[h2];exact List.mem_singleton.2 rfl
 has h b hb:=by
  rcases h.2 with ⟨_,h2⟩|⟨blk,h1,h2⟩
  ·rw[h2] at hb;cases hb
  ·rw[h2,List.mem_singleton] at hb
   subst hb
   rcases h.1.at_ with ⟨h3,_⟩|⟨blk',cs,h3,_,h4,_⟩
   ·rw[h1] at h3;cases h3
   ·rw[h1] at h3;cases h3;exact lt_of_get h4
def Rs.star(r s:Rs):Rs where
 at_ H fp:= ∃a b,fp=a++b∧r.at_ H a∧s.at_ H b
 loc:=fun⟨a,b,e,h1,h2⟩ hk=>⟨a,b,e,r.loc h1 fun x hx=>hk x (by rw[e];exact List.mem_append_left _ hx),s.loc h2 fun x hx=>hk x (by rw[e];exact List.mem_append_right _ hx)⟩
 has:=fun⟨a,b,e,h1,h2⟩ x hx=>by
  rw[e] at hx
  rcases List.mem_append.1 hx with hx|hx
  ·exact r.has h1 x hx
  ·exact s.has h2 x hx
def Rs.ex{α:Type}(f:α→Rs):Rs where
 at_ H fp:= ∃a,(f a).at_ H fp
 loc:=fun⟨a,h⟩ hk=>⟨a,(f a).loc h hk⟩
 has:=fun⟨a,h⟩=>(f a).has h
def Rs.pu(q:Prop)(r:Rs):Rs where
 at_ H fp:=q∧r.at_ H fp
 loc:=fun⟨a,h⟩ hk=>⟨a,r.loc h hk⟩
 has:=fun⟨a,h⟩=>r.has h
def Rs.emp:Rs where
 at_ H fp:=fp=[]
 loc h _:=h
 has h b hb:=by rw[h] at hb;cases hb
def Lie(H:Heap):List Rs→List (List Nat)→Prop
 |[],[]=>True
 |r::σ,fp::fps=>r.at_ H fp∧Lie H σ fps
 |_,_=>False
theorem Lie.get{H:Heap}: ∀{σ:List Rs} {fps:List (List Nat)},Lie H σ fps→ ∀{i:Nat} {r:Rs},σ[i]?=some r→ ∃fp,fps[i]?=some fp∧r.at_ H fp
 |[],[],_,i,r,h=>by simp at h
 |r::σ,fp::fps,hl,0,s,h=>by simp at h;subst h;exact⟨fp,rfl,hl.1⟩
 |r::σ,fp::fps,hl,i+1,s,h=>by
  simp only[List.getElem?_cons_succ] at h ⊢
  exact Lie.get hl.2 h
theorem Lie.has{H:Heap}: ∀{σ:List Rs} {fps:List (List Nat)},Lie H σ fps→ ∀b∈fps.flatten,b<H.size
 |[],[],_,b,hb=>by simp at hb
 |r::σ,fp::fps,hl,b,hb=>by
  simp only[List.flatten_cons,List.mem_append] at hb
  rcases hb with hb|hb
  ·exact r.has hl.1 b hb
  ·exact Lie.has hl.2 b hb
theorem Lie.loc{H H':Heap}: ∀{σ:List Rs} {fps:List (List Nat)},Lie H σ fps→(∀b∈fps.flatten,∀o,H[b]?=some o→H'[b]?=some o)→Lie H' σ fps
 |[],[],_,_=>trivial
 |r::σ,fp::fps,hl,hk=>by
  simp only[List.flatten_cons,List.mem_append] at hk
  exact⟨r.loc hl.1 fun b hb=>hk b (.inl hb),Lie.loc hl.2 fun b hb=>hk b (.inr hb)⟩
theorem Lie.set {H H' : Heap} : ∀ {σ : List Rs} {fps : List (List Nat)} {i : Nat} {fp fp' : List Nat} {r' : Rs}, Lie H σ fps → fps.flatten.Nodup → fps[i]? = some fp → r'.at_ H' fp' → fp'.Nodup → (∀ b ∈ fp', b ∈ fp ∨ H.size ≤ b) →
    (∀ b o, H[b]? = some o → b ∉ fp → H'[b]? = some o) → Lie H' (σ.set i r') (fps.set i fp') ∧ (fps.set i fp').flatten.Nodup
  | [], [], i, fp, fp', r', hl, hn, hi, h, hn', hf, hk => by simp at hi
  | r :: σ, g :: fps, 0, fp, fp', r', hl, hn, hi, h, hn', hf, hk => by
    simp at hi; subst hi
    simp only [List.flatten_cons, List.nodup_append] at hn
    refine ⟨⟨h, hl.2.loc fun b hb o ho => hk b o ho fun hg => hn.2.2 b hg b hb rfl⟩, ?_⟩
    simp only [List.set_cons_zero, List.flatten_cons, List.nodup_append]
    refine ⟨hn', hn.2.1, fun a ha b hb hab => ?_⟩
    subst hab
    rcases hf a ha with h1 | h1
    · exact hn.2.2 a h1 a hb rfl
    · have := Lie.has hl.2 a hb; omega
  | r :: σ, g :: fps, i + 1, fp, fp', r', hl, hn, hi, h, hn', hf, hk => by
    simp only [List.getElem?_cons_succ] at hi
    simp only [List.flatten_cons, List.nodup_append] at hn
    obtain ⟨h1, h2⟩ := Lie.set hl.2 hn.2.1 hi h hn' hf hk
    have hmem : ∀ b ∈ fp, b ∈ fps.flatten := fun b hb => List.mem_flatten.2 ⟨fp, List.mem_of_getElem? hi, hb⟩
    refine ⟨⟨r.loc hl.1 fun b hb o ho => hk b o ho fun hg => hn.2.2 b hb b (hmem b hg) rfl, h1⟩, ?_⟩
    simp only [List.set_cons_succ, List.flatten_cons, List.nodup_append]
    refine ⟨hn.1, h2, fun a ha b hb hab => ?_⟩
    subst hab
    obtain ⟨f, hf1, hf2⟩ := List.mem_flatten.1 hb
    rcases List.mem_or_eq_of_mem_set hf1 with hf1 | rfl
    · exact hn.2.2 a ha a (List.mem_flatten.2 ⟨f, hf1, hf2⟩) rfl
    · rcases hf a hf2 with h3 | h3
      · exact hn.2.2 a ha a (hmem a h3) rfl
      · have := r.has hl.1 a ha; omega
structure St(H0 H:Heap)(σ:List Rs):Prop where
 ext:Ext H0 H
 own: ∃fps,Lie H σ fps∧fps.flatten.Nodup∧ ∀b∈fps.flatten,H0.size≤b
theorem St.nil(H:Heap):St H H []:=⟨Ext.refl H,[],trivial,by simp,by simp⟩
theorem St.of_ext{H0 H:Heap}(h:Ext H0 H):St H0 H []:=⟨h,[],trivial,by simp,by simp⟩
variable {H0 H H':Heap} {σ τ:List Rs}
theorem nodup_mem: ∀{fps:List (List Nat)},fps.flatten.Nodup→ ∀fp∈fps,fp.Nodup
 |[],_,fp,h=>by cases h
 |g::r,hn,fp,h=>by
  rw[List.flatten_cons,List.nodup_append] at hn
  rcases List.mem_cons.1 h with rfl|h
  ·exact hn.1
  ·exact nodup_mem hn.2.1 fp h
theorem St.upd(hs:St H0 H σ){i:Nat}{r r':Rs}(hi:σ[i]?=some r)
 (h: ∀fp,r.at_ H fp→fp.Nodup→(∀b∈fp,H0.size≤b)→ ∃fp',r'.at_ H' fp'∧fp'.Nodup∧(∀b∈fp',b∈fp∨H.size≤b)∧ ∀b o,H[b]?=some o→b∉fp→H'[b]?=some o):St H0 H' (σ.set i r'):=by
 obtain⟨he,fps,hl,hn,hb⟩:=hs
 obtain⟨fp,hfp,hat⟩:=hl.get hi
 have hmem: ∀b∈fp,b∈fps.flatten:=fun b hb=>List.mem_flatten.2 ⟨fp,List.mem_of_getElem? hfp,hb⟩
 have hfn:fp.Nodup:=nodup_mem hn _ (List.mem_of_getElem? hfp)
 obtain⟨fp',h1,h2,h3,h4⟩:=h fp hat hfn fun b hb'=>hb b (hmem b hb')
 obtain⟨h5,h6⟩:=hl.set hn hfp h1 h2 h3 h4
 refine⟨fun b o ho=>h4 b o (he b o ho) fun hf=>?_,_,h5,h6,fun b hb'=>?_⟩
 ·have:=hb b (hmem b hf);have:=lt_of_get ho;omega
 ·obtain⟨f,hf1,hf2⟩:=List.mem_flatten.1 hb'
  rcases List.mem_or_eq_of_mem_set hf1 with hf1|rfl
  ·exact hb b (List.mem_flatten.2 ⟨f,hf1,hf2⟩)
  ·rcases h3 b hf2 with h7|h7
   ·exact hb b (hmem b h7)
   ·have:=he.size;omega
theorem St.as(hs:St H0 H σ)(i:Nat){r r':Rs}(hi:σ[i]?=some r)(h: ∀fp,r.at_ H fp→r'.at_ H fp):St H0 H (σ.set i r'):=
 hs.upd hi fun fp h1 h2 _=>⟨fp,h fp h1,h2,fun b hb=> .inl hb,fun b o ho _=>ho⟩
theorem St.step(hs:St H0 H σ)(he:Ext H H'):St H0 H' σ:=by
 obtain⟨h1,fps,hl,hn,hb⟩:=hs
 exact⟨h1.trans he,fps,hl.loc fun b _ o ho=>he b o ho,hn,hb⟩
theorem Lie.append{H:Heap}: ∀{σ τ:List Rs} {f g:List (List Nat)},Lie H σ f→Lie H τ g→Lie H (σ++τ) (f++g)
 |[],_,[],_,_,h=>h
 |_::_,_,_::_,_,h,h'=>⟨h.1,Lie.append h.2 h'⟩
theorem Lie.split{H:Heap}: ∀{σ τ:List Rs} {f:List (List Nat)},Lie H (σ++τ) f→ ∃a b,f=a++b∧Lie H σ a∧Lie H τ b
 |[],_,f,h=>⟨[],f,rfl,trivial,h⟩
 |r::σ,τ,[],h=>h.elim
 |r::σ,τ,g::f,h=>let ⟨a,b,e,h1,h2⟩:=Lie.split h.2;⟨g::a,b,by rw[e];rfl,⟨h.1,h1⟩,h2⟩
theorem St.call(hs:St H0 H σ)(ht:St H H' τ):St H0 H' (τ++σ):=by
 obtain⟨h1,fps,hl,hn,hb⟩:=hs
 obtain⟨h2,gps,hl2,hn2,hb2⟩:=ht
 refine⟨h1.trans h2,gps++fps,hl2.append (hl.loc fun b _ o ho=>h2 b o ho),?_,fun b h=>?_⟩
 ·rw[List.flatten_append,List.nodup_append]
  refine⟨hn2,hn,fun a ha b hb' hab=>?_⟩
  subst hab
  have:=hb2 a ha;have:=hl.has a hb';omega
 ·rw[List.flatten_append,List.mem_append] at h
  rcases h with h|h
  ·have:=hb2 b h;have:=h1.size;omega
  ·exact hb b h
theorem St.perm(hs:St H0 H σ)(hp:σ.Perm τ):St H0 H τ:=by
 obtain⟨he,fps,hl,hn,hb⟩:=hs
 have: ∀{σ τ:List Rs},σ.Perm τ→ ∀fps,Lie H σ fps→ ∃gps,Lie H τ gps∧fps.Perm gps:=by
  intro σ τ hp
  induction hp with
  |nil=>intro fps h;exact⟨fps,h,List.Perm.refl _⟩
  |cons x _ ih=>
   intro fps h
   match fps,h with
   |f::fps,h=>obtain⟨g,h1,h2⟩:=ih fps h.2;exact⟨f::g,⟨h.1,h1⟩,h2.cons f⟩
  |swap x y l=>
   intro fps h
   match fps,h with
   |f::g::fps,h=>exact⟨g::f::fps,⟨h.2.1,h.1,h.2.2⟩,List.Perm.swap _ _ _⟩
  |trans _ _ ih1 ih2=>
   intro fps h
   obtain⟨g,h1,h2⟩:=ih1 fps h
   obtain⟨k,h3,h4⟩:=ih2 g h1
   exact⟨k,h3,h2.trans h4⟩
 obtain⟨gps,h1,h2⟩:=this hp fps hl
 exact⟨he,gps,h1,(h2.flatten.nodup_iff).1 hn,fun b h=>hb b ((h2.flatten.mem_iff).2 h)⟩
theorem St.app(hs:St H0 H (σ++τ)):St H0 H σ∧St H0 H τ:=by
 obtain⟨he,fps,hl,hn,hb⟩:=hs
 obtain⟨a,b,rfl,h1,h2⟩:=hl.split
 rw[List.flatten_append,List.nodup_append] at hn
 rw[List.flatten_append] at hb
 exact⟨⟨he,a,h1,hn.1,fun x hx=>hb x (List.mem_append_left _ hx)⟩,⟨he,b,h2,hn.2.1,fun x hx=>hb x (List.mem_append_right _ hx)⟩⟩
theorem St.tail{r:Rs}(hs:St H0 H (r::σ)):St H0 H σ:=(St.app (σ:=[r]) hs).2
theorem St.drop(hs:St H0 H σ)(n:Nat):St H0 H (σ.drop n):=by
 rw[←List.take_append_drop n σ] at hs
 exact hs.app.2
theorem St.take(hs:St H0 H σ)(n:Nat):St H0 H (σ.take n):=by
 rw[←List.take_append_drop n σ] at hs
 exact hs.app.1
theorem St.swap{r s:Rs}(hs:St H0 H (r::s::σ)):St H0 H (s::r::σ):=hs.perm (List.Perm.swap _ _ _)
theorem St.front(hs:St H0 H σ)(i:Nat){r:Rs}(hi:σ[i]?=some r):St H0 H (r::σ.eraseIdx i):=by
 refine hs.perm ?_
 have: ∀(l:List Rs) (i:Nat),l[i]?=some r→l.Perm (r::l.eraseIdx i):=by
  intro l
  induction l with
  |nil=>intro i h;simp at h
  |cons x l ih=>
   intro i h
   cases i with
   |zero=>simp at h;subst h;exact List.Perm.refl _
   |succ i=>exact((ih i (by simpa using h)).cons x).trans (List.Perm.swap _ _ _)
 exact this σ i hi
theorem St.back{r r':Rs}{i:Nat}(hi:σ[i]?=some r)(hs:St H0 H (r'::σ.eraseIdx i)):St H0 H (σ.set i r'):=by
 refine hs.perm ?_
 have: ∀(l:List Rs) (i:Nat),l[i]?=some r→(r'::l.eraseIdx i).Perm (l.set i r'):=by
  intro l
  induction l with
  |nil=>intro i h;simp at h
  |cons x l ih=>
   intro i h
   cases i with
   |zero=>exact List.Perm.refl _
   |succ i=>exact(List.Perm.swap _ _ _).trans ((ih i (by simpa using h)).cons x)
 exact this σ i hi
theorem St.del(hs:St H0 H σ)(i:Nat):St H0 H (σ.eraseIdx i):=by
 rcases Nat.lt_or_ge i σ.length with h|h
 ·exact(hs.front i (List.getElem?_eq_getElem h)).tail
 ·rw[List.eraseIdx_of_length_le h];exact hs
theorem St.cat{r s:Rs}(hs:St H0 H (r::s::σ)):St H0 H (.star r s::σ):=by
 obtain⟨he,fps,hl,hn,hb⟩:=hs
 match fps,hl with
 |f::g::fps,hl=>exact⟨he,(f++g)::fps,⟨⟨f,g,rfl,hl.1,hl.2.1⟩,hl.2.2⟩,by simpa using hn,fun b h=>hb b (by simpa using h)⟩
theorem St.cut{r s:Rs}(hs:St H0 H (.star r s::σ)):St H0 H (r::s::σ):=by
 obtain⟨he,fps,hl,hn,hb⟩:=hs
 match fps,hl with
 |_::fps,⟨⟨f,g,rfl,h1,h2⟩,h3⟩=>exact⟨he,f::g::fps,⟨h1,h2,h3⟩,by simpa using hn,fun b h=>hb b (by simpa using h)⟩
theorem St.unex{α:Type}{f:α→Rs}(hs:St H0 H (.ex f::σ)): ∃a,St H0 H (f a::σ):=by
 obtain⟨he,fps,hl,hn,hb⟩:=hs
 match fps,hl with
 |g::fps,⟨⟨a,h1⟩,h3⟩=>exact⟨a,he,g::fps,⟨h1,h3⟩,hn,hb⟩
theorem St.inex{α:Type}{f:α→Rs}(a:α)(hs:St H0 H (f a::σ)):St H0 H (.ex f::σ):=by
 obtain⟨he,fps,hl,hn,hb⟩:=hs
 match fps,hl with
 |g::fps,⟨h1,h3⟩=>exact⟨he,g::fps,⟨⟨a,h1⟩,h3⟩,hn,hb⟩
theorem St.fact{q:Prop}{r:Rs}(hs:St H0 H (.pu q r::σ)):q∧St H0 H (r::σ):=by
 obtain⟨he,fps,hl,hn,hb⟩:=hs
 match fps,hl with
 |g::fps,⟨⟨a,h1⟩,h3⟩=>exact⟨a,he,g::fps,⟨h1,h3⟩,hn,hb⟩
theorem St.with{q:Prop}{r:Rs}(hq:q)(hs:St H0 H (r::σ)):St H0 H (.pu q r::σ):=by
 obtain⟨he,fps,hl,hn,hb⟩:=hs
 match fps,hl with
 |g::fps,⟨h1,h3⟩=>exact⟨he,g::fps,⟨⟨hq,h1⟩,h3⟩,hn,hb⟩
theorem St.new(hs:St H0 H σ){r:Rs}{fp:List Nat}(he:Ext H H')(h:r.at_ H' fp)(hn:fp.Nodup)(hb: ∀b∈fp,H.size≤b):St H0 H' (r::σ):=
 St.call (τ:=[r]) hs ⟨he,[fp],⟨h,trivial⟩,by simpa using hn,by simpa using hb⟩
theorem St.block(hs:St H0 H σ)(i:Nat){b:Nat}{cs:Array Value}{ty:TypeId}(hi:σ[i]?=some (.cell b cs ty)):H[b]?=some (.cells cs ty):=by
 obtain⟨_,fps,hl,_⟩:=hs
 obtain⟨fp,_,h⟩:=hl.get hi
 exact h.2
theorem St.get(hs:St H0 H σ)(i:Nat){b j:Nat}{cs:Array Value}{ty:TypeId}{v:Value}(hi:σ[i]?=some (.cell b cs ty))(hj:cs[j]?=some v):Sh.cell H ⟨b,j,none⟩=some v:=
 cell_get (hs.block i hi) hj
theorem St.alc(hs:St H0 H σ){cs:Array Value}{ty:TypeId}{K:Nat→Heap→Prop}(hK: ∀b H',St H0 H' (.cell b cs ty::σ)→K b H'):Sh.alc H (.cells cs ty) K:=
 hK _ _ (hs.new (Ext.push _ _) (fp:=[H.size]) ⟨rfl,get_push_self _ _⟩ (by simp) (by simp))
theorem St.alcE(hs:St H0 H σ){cs:Array Value}{ty:TypeId}{K:Nat→Heap→Prop}(hK: ∀b H',Ext H H'→St H0 H' (.cell b cs ty::σ)→K b H'):Sh.alc H (.cells cs ty) K:=
 hK _ _ (Ext.push _ _) (hs.new (Ext.push _ _) (fp:=[H.size]) ⟨rfl,get_push_self _ _⟩ (by simp) (by simp))
theorem St.put(hs:St H0 H σ)(i:Nat){b j:Nat}{cs:Array Value}{ty:TypeId}{v:Value}{f:Heap→Prop}(hi:σ[i]?=some (.cell b cs ty))(hj:j<cs.size)(ho:v.oneCell'=true)
 (hK: ∀H',St H0 H' (σ.set i (.cell b (cs.setIfInBounds j v) ty))→f H'):stAt H ⟨b,j,none⟩ [v] f:=
 stAt_one (hs.block i hi) hj ho (hK _ (hs.upd hi fun fp h1 _ _=>⟨[b],⟨rfl,get_set_self h1.2⟩,by simp,fun x hx=> .inl (h1.1▸hx),fun x o ho hx=>get_set_ne (fun he=>hx (by rw[h1.1,he];exact List.mem_singleton.2 rfl)) ho⟩))
theorem St.putAll(hs:St H0 H σ)(i:Nat){b:Nat}{cs:Array Value}{ty:TypeId}{vs:List Value}{f:Heap→Prop}(hi:σ[i]?=some (.cell b cs ty))(hl:vs.length=cs.size)(ho: ∀v∈vs,v.oneCell'=true)
 (hK: ∀H',St H0 H' (σ.set i (.cell b vs.toArray ty))→f H'):stAt H ⟨b,0,none⟩ vs f:=
 stAt_whole (hs.block i hi) hl ho (hK _ (hs.upd hi fun fp h1 _ _=>⟨[b],⟨rfl,get_set_self h1.2⟩,by simp,fun x hx=> .inl (h1.1▸hx),fun x o ho hx=>get_set_ne (fun he=>hx (by rw[h1.1,he];exact List.mem_singleton.2 rfl)) ho⟩))
theorem St.putRow(hs:St H0 H σ)(i:Nat){b j:Nat}{cs:Array Value}{ty:TypeId}{vs:List Value}{f:Heap→Prop}(hi:σ[i]?=some (.cell b cs ty))(hl:j+vs.length≤cs.size)(ho: ∀v∈vs,v.oneCell'=true)
 (hK: ∀H',St H0 H' (σ.set i (.cell b (setL cs.toList j vs).toArray ty))→f H'):stAt H ⟨b,j,none⟩ vs f:=
 ⟨cs,ty,hs.block i hi,rfl,hl,ho,hK _ (hs.upd hi fun fp h1 _ _=>⟨[b],⟨rfl,get_set_self h1.2⟩,by simp,fun x hx=> .inl (h1.1▸hx),fun x o ho hx=>get_set_ne (fun he=>hx (by rw[h1.1];exact List.mem_singleton.2 he.symm)) ho⟩)⟩
theorem St.fs(hs:St H0 H σ)(i:Nat){p:Option Addr}{l c k:Nat}{el:TypeId}{fs:List Value}(hi:σ[i]?=some (.sl p l c el k fs)):FS 0 H p l c el k fs:=by
 obtain⟨_,fps,hl,_⟩:=hs
 obtain⟨fp,_,h⟩:=hl.get hi
 exact h.1
theorem St.rs(hs:St H0 H σ)(i:Nat){p:Option Addr}{l c k:Nat}{el:TypeId}{fs:List Value}(hi:σ[i]?=some (.sl p l c el k fs)):RS H p l el k fs:=(hs.fs i hi).rs
theorem St.is(hs:St H0 H σ)(i:Nat){p:Option Addr}{l c:Nat}{el:TypeId}{fs:List Value}(hi:σ[i]?=some (.sl p l c el 1 fs)):IS H p l fs:=(hs.rs i hi).is
theorem FS.resrc{n0:Nat}{H:Heap}{p:Option Addr}{l c k:Nat}{el:TypeId}{fs:List Value}(h:FS n0 H p l c el k fs): ∃fp,(Rs.sl p l c el k fs).at_ H fp∧fp.Nodup∧(∀b∈fp,n0≤b)∧ ∀b∈fp,p=some ⟨b,0,none⟩:=by
 rcases h.at_ with ⟨h1,h2⟩|⟨blk,cs,h1,h2,h3,h4,h5⟩
 ·exact⟨[],⟨h.lower (Nat.zero_le _),.inl ⟨h1,rfl⟩⟩,by simp,by simp,by simp⟩
 ·exact⟨[blk],⟨h.lower (Nat.zero_le _),.inr ⟨blk,h1,rfl⟩⟩,by simp,by simpa using h2,by simpa using h1⟩
theorem St.newSl(hs:St H0 H σ){p:Option Addr}{l c k:Nat}{el:TypeId}{fs:List Value}(he:Ext H H')(h:FS H.size H' p l c el k fs):St H0 H' (.sl p l c el k fs::σ):=by
 obtain⟨fp,h1,h2,h3,_⟩:=h.resrc
 exact hs.new he h1 h2 h3
theorem St.nilSl(hs:St H0 H σ)(el:TypeId)(k:Nat):St H0 H (.sl none 0 0 el k []::σ):=hs.newSl (Ext.refl _) (FS.nil _ _ _ _)
theorem St.toSl(hs:St H0 H σ)(i:Nat){b l k:Nat}{cs:Array Value}{ty:TypeId}{fs:List Value}(hi:σ[i]?=some (.cell b cs ty))(hl:cs.size=l*k)(hf:cs.toList=fs)(ho: ∀v∈fs,v.oneCell'=true):
 St H0 H (σ.set i (.sl (some ⟨b,0,none⟩) l l ty k fs)):=
 hs.as i hi fun fp h=>⟨⟨by rw[←hf];simpa using hl,Nat.le_refl _,ho,.inr ⟨b,cs,rfl,Nat.zero_le _,h.2,hl,fun j v hv=>by rw[←hf] at hv;simpa using hv⟩⟩,.inr ⟨b,rfl,h.1⟩⟩
theorem FS.app2{n0:Nat}{H:Heap}{p q:Option Addr}{l c n:Nat}{el:TypeId}{k bytes:Nat}{zero:Array Value}{fs gs:List Value}(h:FS n0 H p l c el k fs)(hrow:Go.Sh.rowOf H q (n*k) gs.toArray)(hgl:gs.length=n*k)(hgo: ∀v∈gs,v.oneCell'=true)(hk:0<k)(hn:n0≤H.size)(hz:zero.size=k)
 (hb:(l+n)*bytes≤70368744177664)(hm:l+n≤1000000000000){K:Option Addr→Nat→Nat→Heap→Prop}
 (hK: ∀p' c' H',FS n0 H' p' (l+n) c' el k (fs++gs)→(∀(b:Nat) (o:Obj),H[b]?=some o→p≠some ⟨b,0,none⟩→H'[b]?=some o)→(p'=p∨p'=some ⟨H.size,0,none⟩)→K p' (l+n) c' H'):appQ k bytes zero H p l c q n el K:=by
 by_cases hle:l+n≤c
 ·obtain⟨g1,g2,xs,g3,g4,_⟩:=h.app' (K:=fun p' l' c' H'=>p'=p→K p' l' c' H') hrow hgl hgo hk hn hz hb hm fun p' c' H' h1 h2 h3 hp=>hK p' c' H' h1 h2 (.inl hp)
  refine⟨g1,g2,xs,g3,fun hle=>?_,fun hlt=>by omega⟩
  have:=g4 hle
  cases p with
  |none=>exact this rfl
  |some a=>
   obtain⟨cs,T,a1,a2,a3,a4,a5⟩:=this
   exact⟨cs,T,a1,a2,a3,a4,a5 rfl⟩
 ·obtain⟨g1,g2,xs,g3,_,g4⟩:=h.app' (K:=fun p' l' c' H'=>p'=some ⟨H.size,0,none⟩→K p' l' c' H') hrow hgl hgo hk hn hz hb hm fun p' c' H' h1 h2 h3 hp=>hK p' c' H' h1 h2 (.inr hp)
  refine⟨g1,g2,xs,g3,fun hle'=>by omega,fun hlt=>?_⟩
  obtain⟨ys,b1,b2⟩:=g4 hlt
  exact⟨ys,b1,fun c' hc'=>b2 c' hc' rfl⟩
theorem Rs.sl_at{H:Heap}{p:Option Addr}{l c k:Nat}{el:TypeId}{fs:List Value}{fp:List Nat}(h:(Rs.sl p l c el k fs).at_ H fp){b:Nat}(hp:p=some ⟨b,0,none⟩):fp=[b]:=by
 rcases h.2 with ⟨h1,_⟩|⟨blk,h1,h2⟩
 ·rw[hp] at h1;cases h1
 ·rw[hp] at h1;cases h1;exact h2
theorem St.slSet(hs:St H0 H σ){i:Nat}{p p':Option Addr}{l c l' c' k:Nat}{el:TypeId}{fs fs':List Value}(hi:σ[i]?=some (.sl p l c el k fs))(h:FS 0 H' p' l' c' el k fs')
 (hk: ∀(b:Nat) (o:Obj),H[b]?=some o→p≠some ⟨b,0,none⟩→H'[b]?=some o)(hp:p'=p∨p'=some ⟨H.size,0,none⟩):St H0 H' (σ.set i (.sl p' l' c' el k fs')):=by
 refine hs.upd hi fun fp h1 h2 h3=>?_
 obtain⟨fp',g1,g2,_,g4⟩:=h.resrc
 refine⟨fp',g1,g2,fun b hb=>?_,fun b o ho hb=>hk b o ho fun he=>hb (by rw[Rs.sl_at h1 he];exact List.mem_singleton.2 rfl)⟩
 have:=g4 b hb
 rcases hp with rfl|hp
 ·left;rw[Rs.sl_at h1 this];exact List.mem_singleton.2 rfl
 ·rw[this] at hp;cases hp;exact .inr (Nat.le_refl _)
theorem St.appS(hs:St H0 H σ)(i:Nat){p q:Option Addr}{l c n k bytes:Nat}{el:TypeId}{zero:Array Value}{fs gs:List Value}(hi:σ[i]?=some (.sl p l c el k fs))(hrow:Go.Sh.rowOf H q (n*k) gs.toArray)(hgl:gs.length=n*k)
 (hgo: ∀v∈gs,v.oneCell'=true)(hk:0<k)(hz:zero.size=k)(hb:(l+n)*bytes≤70368744177664)(hm:l+n≤1000000000000){K:Option Addr→Nat→Nat→Heap→Prop}
 (hK: ∀p' c' H',St H0 H' (σ.set i (.sl p' (l+n) c' el k (fs++gs)))→K p' (l+n) c' H'):appQ k bytes zero H p l c q n el K:=
 (hs.fs i hi).app2 hrow hgl hgo hk (Nat.zero_le _) hz hb hm fun p' c' H' h1 h2 h3=>hK p' c' H' (hs.slSet hi h1 h2 h3)
theorem St.appC(hs:St H0 H σ)(i m:Nat){p:Option Addr}{b l c n k bytes:Nat}{el ty:TypeId}{zero cs:Array Value}{fs:List Value}(hi:σ[i]?=some (.sl p l c el k fs))(hm':σ[m]?=some (.cell b cs ty))(hgl:cs.size=n*k)
 (hgo: ∀v∈cs.toList,v.oneCell'=true)(hk:0<k)(hz:zero.size=k)(hb:(l+n)*bytes≤70368744177664)(hm:l+n≤1000000000000){K:Option Addr→Nat→Nat→Heap→Prop}
 (hK: ∀p' c' H',St H0 H' (σ.set i (.sl p' (l+n) c' el k (fs++cs.toList)))→K p' (l+n) c' H'):appQ k bytes zero H p l c (some ⟨b,0,none⟩) n el K:=
 hs.appS i hi (gs:=cs.toList) (show Go.Sh.rowOf H (Option.some ⟨b,0,none⟩) (n*k) cs.toList.toArray from⟨by simpa using hgl,by simpa using rowIn_whole (hs.block m hm')⟩) (by simpa using hgl) hgo hk hz hb hm hK
theorem IS.rowOf{H:Heap}{p:Option Addr}{l:Nat}{fs:List Value}(h:IS H p l fs):Go.Sh.rowOf H p (l*1) fs.toArray:=by
 cases p with
 |none=>
  have:fs=[]:=List.eq_nil_iff_forall_not_mem.2 fun v hv=>by
   obtain⟨i,hi⟩:=List.getElem?_of_mem hv
   obtain⟨a,h1,_⟩:=h.get i v hi
   cases h1
  subst this;rfl
 |some a=>
  refine⟨by simp[h.len],fun j v hv=>?_⟩
  obtain⟨a',h1,h2⟩:=h.get j v (by simpa using hv)
  cases h1;exact h2
theorem St.appI(hs:St H0 H σ)(i:Nat){p q:Option Addr}{l c n bytes:Nat}{el:TypeId}{zero:Array Value}{fs gs:List Value}(hi:σ[i]?=some (.sl p l c el 1 fs))(hr:IS H q n gs)(ho: ∀v∈gs,v.oneCell'=true)(hz:zero.size=1)
 (hb:(l+n)*bytes≤70368744177664)(hm:l+n≤1000000000000){K:Option Addr→Nat→Nat→Heap→Prop}
 (hK: ∀p' c' H',St H0 H' (σ.set i (.sl p' (l+n) c' el 1 (fs++gs)))→K p' (l+n) c' H'):appQ 1 bytes zero H p l c q n el K:=
 hs.appS i hi hr.rowOf (by simp[hr.len]) ho (by decide) hz hb hm hK
theorem St.slPut(hs:St H0 H σ)(i:Nat){b l c k j:Nat}{el:TypeId}{fs:List Value}{v:Value}{f:Heap→Prop}(hi:σ[i]?=some (.sl (some ⟨b,0,none⟩) l c el k fs))(hj:j<fs.length)(ho:v.oneCell'=true)
 (hK: ∀H',St H0 H' (σ.set i (.sl (some ⟨b,0,none⟩) l c el k (fs.set j v)))→f H'):stAt H ⟨b,j,none⟩ [v] f:=
 (hs.fs i hi).set hj ho fun H' h1 h2 h3=>hK H' (hs.slSet hi h1 (fun b' o ho hne=>h2 b' o ho fun he=>hne (by rw[he])) (.inl rfl))
theorem St.slSome(hs:St H0 H σ)(i:Nat){p:Option Addr}{l c k j:Nat}{el:TypeId}{fs:List Value}(hi:σ[i]?=some (.sl p l c el k fs))(hj:j<fs.length): ∃b,p=some ⟨b,0,none⟩:=by
 obtain⟨b,h,_⟩:=(hs.rs i hi).cell (List.getElem?_eq_getElem hj)
 exact⟨b,h⟩
def kints(k:IntKind)(l:List Int):List Value:=l.map (Value.int k)
theorem kints_get{k:IntKind}{l:List Int}{i:Nat}{v:Int}(h:l[i]?=some v):(kints k l)[i]?=some (Value.int k v):=by simp[kints,h]
theorem kints_len(k:IntKind)(l:List Int):(kints k l).length=l.length:=by simp[kints]
theorem kints_set(k:IntKind)(l:List Int)(i:Nat)(v:Int):(kints k l).set i (.int k v)=kints k (l.set i v):=by simp[kints]
theorem kints_one(k:IntKind)(l:List Int): ∀v∈kints k l,v.oneCell'=true:=fun v hv=>by
 obtain⟨x,_,rfl⟩:=List.mem_map.1 hv;rfl
theorem IS.rd{H:Heap}{p:Option Addr}{l:Nat}{k:IntKind}{ls:List Int}(h:IS H p l (kints k ls)){i x:Int}(h0:0≤i)(h1:i<l)(hx:ls[i.toNat]?=some x){K:Int→Prop}(hK:K x):
 ∃a:Addr,p=some a∧0≤i∧i<((l:Nat):Int)∧ ∃v:Int,Sh.cell H (Addr.add a (Int.toNat i*1))=some (.int k v)∧K v:=by
 obtain⟨a,hp,hc⟩:=h.get _ _ (kints_get hx)
 exact⟨a,hp,h0,h1,x,by simpa using hc,hK⟩
theorem IS.length{H:Heap}{p:Option Addr}{l:Nat}{k:IntKind}{ls:List Int}(h:IS H p l (kints k ls)):ls.length=l:=by have:=h.len;rwa [kints_len] at this
theorem add_add(a:Addr)(i j:Nat):(a.add i).add j=a.add (i+j):=by
 obtain⟨b,o,s⟩:=a
 unfold Addr.add
 cases s<;>simp<;>split<;>split<;>simp_all<;>omega
theorem IS.part{H:Heap}{a:Addr}{l:Nat}{fs:List Value}(h:IS H (some a) l fs){i n:Nat}(hi:i+n≤l):IS H (some (a.add i)) n ((fs.drop i).take n):=by
 refine⟨by have:=h.len;simp;omega,fun j v hv=>?_⟩
 rw[List.getElem?_take] at hv
 split at hv
 ·rw[List.getElem?_drop] at hv
  obtain⟨a',h1,h2⟩:=h.get _ _ hv
  cases h1
  refine⟨_,rfl,?_⟩
  rw[show(a.add i).add j=a.add (i+j) from add_add a i j]
  exact h2
 ·cases hv
theorem upto{n:Nat}{Q:Nat→Prop}(h: ∀i,i≤n→(i<n→Q (i+1))→Q i): ∀i,i≤n→Q i:=by
 have: ∀m i,n-i=m→i≤n→Q i:=by
  intro m
  induction m with
  |zero=>intro i hm hi;exact h i hi fun hlt=>by omega
  |succ m ih=>intro i hm hi;exact h i hi fun hlt=>ih (i+1) (by omega) (by omega)
 exact fun i hi=>this (n-i) i rfl hi
end Go.Sh
namespace Go.Sh
variable {H0 H:Heap} {σ:List Rs}
theorem intsA_size(l:List Int):(ints l).toArray.size=l.length:=by simp[ints]
theorem St.rdA(hs:St H0 H σ)(i:Nat){b j:Nat}{l:List Int}{ty:TypeId}{x:Int}(hi:σ[i]?=some (.cell b (ints l).toArray ty))(hx:l[j]?=some x):Sh.cell H ⟨b,j,none⟩=some (.int .i64 x):=
 hs.get i hi (by rw[List.getElem?_toArray];exact ints_get hx)
theorem St.putA(hs:St H0 H σ)(i:Nat){b j:Nat}{l:List Int}{ty:TypeId}{x:Int}{f:Heap→Prop}(hi:σ[i]?=some (.cell b (ints l).toArray ty))(hj:j<l.length)
 (hK: ∀H',St H0 H' (σ.set i (.cell b (ints (l.set j x)).toArray ty))→f H'):stAt H ⟨b,j,none⟩ [.int .i64 x] f:=
 hs.put i hi (by rw[intsA_size];exact hj) rfl fun H' hs'=>hK H' (by
  have e:(ints l).toArray.setIfInBounds j (Value.int .i64 x)=(ints (l.set j x)).toArray:=by rw[←ints_set];simp
  rw[←e];exact hs')
theorem St.putAllA(hs:St H0 H σ)(i:Nat){b:Nat}{cs:Array Value}{l:List Int}{ty:TypeId}{f:Heap→Prop}(hi:σ[i]?=some (.cell b cs ty))(hl:l.length=cs.size)
 (hK: ∀H',St H0 H' (σ.set i (.cell b (ints l).toArray ty))→f H'):stAt H ⟨b,0,none⟩ (Array.toList (ints l).toArray) f:=
 hs.putAll i hi (by simpa[ints] using hl) (fun v hv=>ints_one l v (by simpa using hv)) fun H' hs'=>hK H' (by simpa using hs')
theorem reps_rep(v:Value): ∀n,reps n [v]=List.replicate n v
 |0=>rfl
 |n+1=>by rw[reps,reps_rep v n,List.replicate_succ];rfl
theorem repsA(n:Nat):(reps n (Array.toList #[Value.int .i64 0])).toArray=(ints (List.replicate n 0)).toArray:=by
 show(reps n [Value.int .i64 0]).toArray=_
 rw[reps_rep];simp[ints]
theorem St.isA(hs:St H0 H σ)(i:Nat){b n:Nat}{l:List Int}{ty:TypeId}(hi:σ[i]?=some (.cell b (ints l).toArray ty))(hn:l.length=n):IS H (some ⟨b,0,none⟩) n (ints l):=
 ⟨by rw[ints_len];exact hn,fun j v hv=>⟨_,rfl,by rw[add_none,Nat.zero_add];exact hs.get i hi (by rw[List.getElem?_toArray];exact hv)⟩⟩
theorem getD_some{α:Type}(a:List α)(d:α){i:Nat}(h:i<a.length):a[i]?=some (a.getD i d):=by rw[List.getD_eq_getElem?_getD,List.getElem?_eq_getElem h];rfl
def fillA(L:List Int)(s:Nat):List Int:=L.take s++List.replicate (L.length-s) 0
theorem fillA_len{L:List Int}{s:Nat}(h:s≤L.length):(fillA L s).length=L.length:=by unfold fillA;simp;omega
theorem fillA_zero(L:List Int):fillA L 0=List.replicate L.length 0:=by simp[fillA]
theorem fillA_all(L:List Int):fillA L L.length=L:=by simp[fillA]
theorem fillA_set{L:List Int}{s:Nat}(h:s<L.length):(fillA L s).set s (L.getD s 0)=fillA L (s+1):=by
 unfold fillA
 have ht:L.take (s+1)=L.take s++[L.getD s 0]:=by rw[List.take_add_one,getD_some L 0 h];rfl
 rw[ht,List.set_append_right _ _ (by rw[List.length_take];omega),List.length_take,Nat.min_eq_left (by omega),Nat.sub_self,show L.length-s=(L.length-(s+1))+1 from by omega,List.replicate_succ,List.set_cons_zero,List.append_assoc]
 rfl
theorem fillA_at{L:List Int}{s:Nat}(h:s<L.length):(fillA L s)[s]?=some 0:=by
 unfold fillA
 rw[List.getElem?_append_right (by rw[List.length_take];omega),List.length_take,Nat.min_eq_left (by omega),Nat.sub_self,show L.length-s=(L.length-(s+1))+1 from by omega,List.replicate_succ]
 rfl
theorem fillA_set0{L:List Int}{s:Nat}(h:s<L.length):(fillA L s).set s 0=fillA L s:=by
 have h1:=fillA_at h
 obtain⟨h2,h3⟩:=List.getElem?_eq_some_iff.1 h1
 rw[←h3,List.set_getElem_self]
theorem tab_getD{n:Nat}{f:Nat→Int}{i:Nat}(h:i<n):((List.range n).map f).getD i 0=f i:=by simp[List.getD_eq_getElem?_getD,h]
theorem tab_get{n:Nat}{f:Nat→Int}{i:Nat}(h:i<n):((List.range n).map f)[i]?=some (f i):=by simp[h]
theorem mul_bd{x y A B:Int}(hx: -A≤x∧x≤A)(hy: -B≤y∧y≤B): -(A*B)≤x*y∧x*y≤A*B:=by
 have h1:x.natAbs≤A.toNat:=by omega
 have h2:y.natAbs≤B.toNat:=by omega
 have h3:=Nat.mul_le_mul h1 h2
 rw[←Int.natAbs_mul] at h3
 have h4:((A.toNat*B.toNat:Nat):Int)=A*B:=by
  rw[Int.natCast_mul,Int.toNat_of_nonneg (by omega),Int.toNat_of_nonneg (by omega)]
 omega
end Go.Sh
namespace Go.Proofs
open Go.Sh
structure M6 where
 a:Int
 b:Int
 c:Int
 d:Int
 e:Int
 f:Int
 deriving DecidableEq
def M6.l(m:M6):List Int:=[m.a,m.b,m.c,m.d,m.e,m.f]
structure LayF where
 id:Int
 kind:Int
 hidden:Bool
 opacity:Int
 mode:Int
 w:Int
 h:Int
 p:List Int
 mask:List Int
 map:M6
 smooth:Bool
 table:Int
 params:List Int
 deriving DecidableEq
inductive Lay where
 |mk (f:LayF) (kids:List Lay)
def Lay.f:Lay→LayF
 | .mk f _=>f
def Lay.kids:Lay→List Lay
 | .mk _ k=>k
structure Sl3 where
 p:Option Addr
 l:Nat
 c:Nat
def Sl3.v(s:Sl3):Value:= .slice s.p s.l s.c
def Sl3.nil:Sl3:=⟨none,0,0⟩
inductive T where
 |mk (f:LayF) (P M A K:Sl3) (kids:List T)
def T.f:T→LayF
 | .mk f _ _ _ _ _=>f
def T.K:T→Sl3
 | .mk _ _ _ _ K _=>K
def T.P':T→Sl3
 | .mk _ P _ _ _ _=>P
def T.M':T→Sl3
 | .mk _ _ M _ _ _=>M
def T.A':T→Sl3
 | .mk _ _ _ A _ _=>A
def T.kids:T→List T
 | .mk _ _ _ _ _ k=>k
def cellsL(f:LayF)(P M A K:Value):List Value:=
 [.int .i64 f.id,.int .i64 f.kind,.bool f.hidden,.int .i64 f.opacity,.int .i64 f.mode,.int .i64 f.w,.int .i64 f.h,P,M,
  .int .i64 f.map.a,.int .i64 f.map.b,.int .i64 f.map.c,.int .i64 f.map.d,.int .i64 f.map.e,.int .i64 f.map.f,.bool f.smooth,.int .i64 f.table,A,K]
def cellsT:T→List Value
 | .mk f P M A K _=>cellsL f P.v M.v A.v K.v
def cellsKs(ts:List T):List Value:=(ts.map cellsT).flatten
theorem cellsT_len(t:T):(cellsT t).length=19:=by cases t;rfl
theorem cellsKs_len(ts:List T):(cellsKs ts).length=ts.length*19:=by
 unfold cellsKs
 induction ts with
 |nil=>rfl
 |cons t ts ih=>rw[List.map_cons,List.flatten_cons,List.length_append,ih,cellsT_len,List.length_cons];omega
theorem cellsT_one(t:T): ∀v∈cellsT t,v.oneCell'=true:=by
 cases t with|mk f P M A K ks=>
 show ∀v∈cellsL f P.v M.v A.v K.v,v.oneCell'=true
 unfold cellsL
 simp only[List.forall_mem_cons]
 exact⟨rfl,rfl,rfl,rfl,rfl,rfl,rfl,rfl,rfl,rfl,rfl,rfl,rfl,rfl,rfl,rfl,rfl,rfl,rfl,fun _ h=>by cases h⟩
theorem cellsL_one(f:LayF)(P M A K:Sl3): ∀v∈cellsL f P.v M.v A.v K.v,v.oneCell'=true:=cellsT_one (.mk f P M A K [])
theorem cellsKs_app(a b:List T):cellsKs (a++b)=cellsKs a++cellsKs b:=by simp[cellsKs]
theorem cellsKs_one(t:T):cellsKs [t]=cellsT t:=by simp[cellsKs]
theorem cellsKs_cons(t:T)(ts:List T):cellsKs (t::ts)=cellsT t++cellsKs ts:=by simp[cellsKs]
theorem cellsKs_get{ts:List T}{i:Nat}{t:T}(h:ts[i]?=some t){j:Nat}{v:Value}(hv:(cellsT t)[j]?=some v):(cellsKs ts)[i*19+j]?=some v:=by
 have hj:j<19:=by have:=(List.getElem?_eq_some_iff.1 hv).1;rw[cellsT_len] at this;exact this
 induction ts generalizing i with
 |nil=>simp at h
 |cons x ts ih=>
  rw[cellsKs_cons]
  cases i with
  |zero=>
   simp at h;subst h
   rw[Nat.zero_mul,Nat.zero_add,List.getElem?_append_left (by rw[cellsT_len];exact hj)];exact hv
  |succ i=>
   rw[List.getElem?_append_right (by rw[cellsT_len];omega),cellsT_len,show(i+1)*19+j-19=i*19+j from by omega]
   exact ih (by simpa using h)
mutual
def layT:T→Lay
 | .mk f _ _ _ _ ks=> .mk f (layKs ks)
def layKs:List T→List Lay
 |[]=>[]
 |t::ts=>layT t::layKs ts
end
theorem layKs_map(ts:List T):layKs ts=ts.map layT:=by
 induction ts with
 |nil=>rfl
 |cons t ts ih=>rw[layKs,ih];rfl
theorem layKs_len(ts:List T):(layKs ts).length=ts.length:=by rw[layKs_map,List.length_map]
theorem layKs_app(a b:List T):layKs (a++b)=layKs a++layKs b:=by simp[layKs_map]
theorem layT_f(t:T):(layT t).f=t.f:=by cases t;rfl
theorem T.ind{Q:T→Prop}(h: ∀f P M A K ks,(∀t∈ks,Q t)→Q (.mk f P M A K ks)): ∀t,Q t:=
 fun t=>T.rec (motive_1:=Q) (motive_2:=fun ts=> ∀t∈ts,Q t) (fun f P M A K ks ih=>h f P M A K ks ih) (fun _ h=>by cases h)
  (fun t ts h1 h2 u hu=>by
   rcases List.mem_cons.1 hu with rfl|hu
   ·exact h1
   ·exact h2 u hu) t
theorem Lay.ind{Q:Lay→Prop}(h: ∀f ks,(∀t∈ks,Q t)→Q (.mk f ks)): ∀t,Q t:=
 fun t=>Lay.rec (motive_1:=Q) (motive_2:=fun ts=> ∀t∈ts,Q t) (fun f ks ih=>h f ks ih) (fun _ h=>by cases h)
  (fun t ts h1 h2 u hu=>by
   rcases List.mem_cons.1 hu with rfl|hu
   ·exact h1
   ·exact h2 u hu) t
def rowsK(H:Heap)(K:Sl3)(ks:List T):Prop:=K.l=ks.length∧ ∀(i:Nat) t,ks[i]?=some t→ ∃a,K.p=some a∧rowIn H (a.add (i*19)) (cellsT t).toArray
mutual
def rdT(H:Heap):T→Prop
 | .mk f P M A K ks=>IS H P.p P.l (ints f.p)∧IS H M.p M.l (kints .u8 f.mask)∧IS H A.p A.l (ints f.params)∧rowsK H K ks∧rdKs H ks
def rdKs(H:Heap):List T→Prop
 |[]=>True
 |t::ts=>rdT H t∧rdKs H ts
end
def grp(H:Heap)(K:Sl3)(ks:List T):Prop:=rowsK H K ks∧rdKs H ks
theorem rdKs_iff{H:Heap}: ∀{ts:List T},rdKs H ts↔ ∀t∈ts,rdT H t
 |[]=>⟨fun _ _ h=>(by cases h),fun _=>trivial⟩
 |t::ts=>by
  rw[rdKs,rdKs_iff]
  simp only[List.forall_mem_cons]
theorem rowsK.ext{H H':Heap}{K:Sl3}{ks:List T}(h:rowsK H K ks)(he:Ext H H'):rowsK H' K ks:=
 ⟨h.1,fun i t ht=>let ⟨a,h1,h2⟩:=h.2 i t ht;⟨a,h1,rowAt_ext he h2⟩⟩
theorem rdT.ext{H H':Heap}(he:Ext H H'): ∀t,rdT H t→rdT H' t:=by
 refine T.ind fun f P M A K ks ih h=>?_
 rw[rdT] at h ⊢
 exact⟨h.1.ext he,h.2.1.ext he,h.2.2.1.ext he,h.2.2.2.1.ext he,rdKs_iff.2 fun t ht=>ih t ht (rdKs_iff.1 h.2.2.2.2 t ht)⟩
theorem grp.ext{H H':Heap}{K:Sl3}{ks:List T}(h:grp H K ks)(he:Ext H H'):grp H' K ks:=
 ⟨h.1.ext he,rdKs_iff.2 fun t ht=>rdT.ext he t (rdKs_iff.1 h.2 t ht)⟩
theorem grp.get{H:Heap}{K:Sl3}{ks:List T}(h:grp H K ks){i:Nat}{t:T}(ht:ks[i]?=some t): ∃a,K.p=some a∧rowIn H (a.add (i*19)) (cellsT t).toArray∧rdT H t:=
 let ⟨a,h1,h2⟩:=h.1.2 i t ht
 ⟨a,h1,h2,rdKs_iff.1 h.2 t (List.mem_of_getElem? ht)⟩
theorem grp.nil(H:Heap):grp H .nil []:=⟨⟨rfl,fun i t h=>by simp at h⟩,trivial⟩
theorem rdT.grp{H:Heap}{t:T}(h:rdT H t):grp H t.K t.kids:=by
 cases t with|mk f P M A K ks=>
 rw[rdT] at h
 exact⟨h.2.2.2.1,h.2.2.2.2⟩
mutual
def resT:T→List Rs
 | .mk f P M A K ks=> .sl P.p P.l P.c 3 1 (ints f.p):: .sl M.p M.l M.c 5 1 (kints .u8 f.mask):: .sl A.p A.l A.c 3 1 (ints f.params):: .sl K.p K.l K.c 45 19 (cellsKs ks)::resKs ks
def resKs:List T→List Rs
 |[]=>[]
 |t::ts=>resT t++resKs ts
end
def resG(K:Sl3)(ks:List T):List Rs:= .sl K.p K.l K.c 45 19 (cellsKs ks)::resKs ks
theorem resKs_app(a b:List T):resKs (a++b)=resKs a++resKs b:=by
 induction a with
 |nil=>rfl
 |cons t a ih=>rw[List.cons_append,resKs,ih,resKs,List.append_assoc]
theorem resKs_one(t:T):resKs [t]=resT t:=by rw[resKs,resKs,List.append_nil]
theorem resKs_cons(t:T)(ts:List T):resKs (t::ts)=resT t++resKs ts:=by rw[resKs]
theorem resT_mk(f:LayF)(P M A K:Sl3)(ks:List T):resT (.mk f P M A K ks)= .sl P.p P.l P.c 3 1 (ints f.p):: .sl M.p M.l M.c 5 1 (kints .u8 f.mask):: .sl A.p A.l A.c 3 1 (ints f.params)::resG K ks:=by rw[resT];rfl
end Go.Proofs
namespace Go.Sh
open Go.Proofs
variable {H0 H H':Heap} {σ τ:List Rs}
theorem RS.rowsK{H:Heap}{K:Sl3}{ks:List T}{el:TypeId}(h:RS H K.p K.l el 19 (cellsKs ks)):Go.Proofs.rowsK H K ks:=by
 have hl:K.l=ks.length:=by have:=h.len;rw[cellsKs_len] at this;omega
 refine⟨hl,fun i t ht=>?_⟩
 have hi:i<ks.length:=(List.getElem?_eq_some_iff.1 ht).1
 obtain⟨blk,h1,h2⟩:=h.row (i:=i) (by omega) (by decide) (xs:=(cellsT t).toArray) fun j v hv=>cellsKs_get ht (by simpa using hv)
 exact⟨_,h1,by rw[add_none,Nat.zero_add];exact h2⟩
theorem St.rdKs_of: ∀{ks:List T},(∀t∈ks,∀{σ:List Rs},St H0 H (resT t++σ)→Go.Proofs.rdT H t)→St H0 H (resKs ks++σ)→Go.Proofs.rdKs H ks
 |[],_,_=>trivial
 |t::ts,h,hs=>by
  rw[resKs,List.append_assoc] at hs
  exact⟨h t List.mem_cons_self hs,St.rdKs_of (fun t ht=>h t (List.mem_cons_of_mem _ ht)) hs.app.2⟩
theorem St.rdT: ∀(t:T) {σ:List Rs},St H0 H (resT t++σ)→Go.Proofs.rdT H t:=by
 refine T.ind fun f P M A K ks ih σ hs=>?_
 rw[resT] at hs
 rw[Go.Proofs.rdT]
 refine⟨hs.is 0 rfl,hs.is 1 rfl,hs.is 2 rfl,RS.rowsK (hs.rs 3 rfl),St.rdKs_of (fun t ht _ hs=>ih t ht hs) (σ:=σ) ?_⟩
 exact hs.drop 4
theorem St.grp{K:Sl3}{ks:List T}(hs:St H0 H (resG K ks++σ)):Go.Proofs.grp H K ks:=
 ⟨RS.rowsK (hs.rs 0 rfl),St.rdKs_of (fun t ht _ hs=>St.rdT t hs) (σ:=σ) hs.tail⟩
theorem St.callR(hs:St H0 H σ)(ht:St H H' τ):St H0 H' (σ++τ):=(hs.call ht).perm List.perm_append_comm
end Go.Sh
namespace Go.Proofs
open Go.Sh
def Try.i0:TI:=⟨.tuple [],1,0,Value.tuple #[]⟩
theorem Try.tok0:TIok Try.prog 0 Try.i0:=⟨by kernel_rfl,by kernel_rfl⟩
def Try.i3:TI:=⟨.int .i64,1,8,Value.int .i64 0⟩
theorem Try.tok3:TIok Try.prog 3 Try.i3:=⟨by kernel_rfl,by kernel_rfl⟩
def Try.i4:TI:=⟨.bool,1,1,Value.bool false⟩
theorem Try.tok4:TIok Try.prog 4 Try.i4:=⟨by kernel_rfl,by kernel_rfl⟩
def Try.i5:TI:=⟨.int .u8,1,1,Value.int .u8 0⟩
theorem Try.tok5:TIok Try.prog 5 Try.i5:=⟨by kernel_rfl,by kernel_rfl⟩
def Try.i22:TI:=⟨.sl 28,1,24,Value.slice none 0 0⟩
theorem Try.tok22:TIok Try.prog 22 Try.i22:=⟨by kernel_rfl,by kernel_rfl⟩
def Try.i23:TI:=⟨.sl 3,1,24,Value.slice none 0 0⟩
theorem Try.tok23:TIok Try.prog 23 Try.i23:=⟨by kernel_rfl,by kernel_rfl⟩
def Try.i24:TI:=⟨.sl 128,1,24,Value.slice none 0 0⟩
theorem Try.tok24:TIok Try.prog 24 Try.i24:=⟨by kernel_rfl,by kernel_rfl⟩
def Try.i26:TI:=⟨.arr 6 3,6,48,Value.agg #[Value.int .i64 0,Value.int .i64 0,Value.int .i64 0,Value.int .i64 0,Value.int .i64 0,Value.int .i64 0]⟩
theorem Try.tok26:TIok Try.prog 26 Try.i26:=⟨by kernel_rfl,by kernel_rfl⟩
def Try.i28:TI:=⟨.struct [(0,3),(1,3),(2,3),(3,3),(4,3),(5,3),(6,3),(7,3),(8,3),(9,3),(10,23),(11,24),(12,26),(18,23)],19,200,Value.agg #[Value.int .i64 0,Value.int .i64 0,Value.int .i64 0,Value.int .i64 0,Value.int .i64 0,Value.int .i64 0,Value.int .i64 0,Value.int .i64 0,Value.int .i64 0,Value.int .i64 0,Value.slice none 0 0,Value.slice none 0 0,Value.int .i64 0,Value.int .i64 0,Value.int .i64 0,Value.int .i64 0,Value.int .i64 0,Value.int .i64 0,Value.slice none 0 0]⟩
theorem Try.tok28:TIok Try.prog 28 Try.i28:=⟨by kernel_rfl,by kernel_rfl⟩
def Try.i31:TI:=⟨.sl 45,1,24,Value.slice none 0 0⟩
theorem Try.tok31:TIok Try.prog 31 Try.i31:=⟨by kernel_rfl,by kernel_rfl⟩
def Try.i33:TI:=⟨.struct [(0,3),(1,3),(2,3),(3,31)],4,48,Value.agg #[Value.int .i64 0,Value.int .i64 0,Value.int .i64 0,Value.slice none 0 0]⟩
theorem Try.tok33:TIok Try.prog 33 Try.i33:=⟨by kernel_rfl,by kernel_rfl⟩
def Try.i34:TI:=⟨.int .i64,1,8,Value.int .i64 0⟩
theorem Try.tok34:TIok Try.prog 34 Try.i34:=⟨by kernel_rfl,by kernel_rfl⟩
def Try.i35:TI:=⟨.tuple [33,34],1,0,Value.tuple #[Value.agg #[Value.int .i64 0,Value.int .i64 0,Value.int .i64 0,Value.slice none 0 0],Value.int .i64 0]⟩
theorem Try.tok35:TIok Try.prog 35 Try.i35:=⟨by kernel_rfl,by kernel_rfl⟩
def Try.i38:TI:=⟨.ptr 74,1,8,Value.pointer none⟩
theorem Try.tok38:TIok Try.prog 38 Try.i38:=⟨by kernel_rfl,by kernel_rfl⟩
def Try.i40:TI:=⟨.tuple [23,34],1,0,Value.tuple #[Value.slice none 0 0,Value.int .i64 0]⟩
theorem Try.tok40:TIok Try.prog 40 Try.i40:=⟨by kernel_rfl,by kernel_rfl⟩
def Try.i43:TI:=⟨.sl 5,1,24,Value.slice none 0 0⟩
theorem Try.tok43:TIok Try.prog 43 Try.i43:=⟨by kernel_rfl,by kernel_rfl⟩
def Try.i45:TI:=⟨.struct [(0,3),(1,3),(2,4),(3,3),(4,3),(5,3),(6,3),(7,23),(8,43),(9,26),(15,4),(16,3),(17,23),(18,31)],19,216,Value.agg #[Value.int .i64 0,Value.int .i64 0,Value.bool false,Value.int .i64 0,Value.int .i64 0,Value.int .i64 0,Value.int .i64 0,Value.slice none 0 0,Value.slice none 0 0,Value.int .i64 0,Value.int .i64 0,Value.int .i64 0,Value.int .i64 0,Value.int .i64 0,Value.int .i64 0,Value.bool false,Value.int .i64 0,Value.slice none 0 0,Value.slice none 0 0]⟩
theorem Try.tok45:TIok Try.prog 45 Try.i45:=⟨by kernel_rfl,by kernel_rfl⟩
def Try.i46:TI:=⟨.tuple [45,4],1,0,Value.tuple #[Value.agg #[Value.int .i64 0,Value.int .i64 0,Value.bool false,Value.int .i64 0,Value.int .i64 0,Value.int .i64 0,Value.int .i64 0,Value.slice none 0 0,Value.slice none 0 0,Value.int .i64 0,Value.int .i64 0,Value.int .i64 0,Value.int .i64 0,Value.int .i64 0,Value.int .i64 0,Value.bool false,Value.int .i64 0,Value.slice none 0 0,Value.slice none 0 0],Value.bool false]⟩
theorem Try.tok46:TIok Try.prog 46 Try.i46:=⟨by kernel_rfl,by kernel_rfl⟩
def Try.i54:TI:=⟨.struct [(0,3),(1,3),(2,23)],3,40,Value.agg #[Value.int .i64 0,Value.int .i64 0,Value.slice none 0 0]⟩
theorem Try.tok54:TIok Try.prog 54 Try.i54:=⟨by kernel_rfl,by kernel_rfl⟩
def Try.i64:TI:=⟨.ptr 45,1,8,Value.pointer none⟩
theorem Try.tok64:TIok Try.prog 64 Try.i64:=⟨by kernel_rfl,by kernel_rfl⟩
def Try.i66:TI:=⟨.ptr 33,1,8,Value.pointer none⟩
theorem Try.tok66:TIok Try.prog 66 Try.i66:=⟨by kernel_rfl,by kernel_rfl⟩
def Try.i68:TI:=⟨.struct [(0,64),(1,66),(2,28)],21,216,Value.agg #[Value.pointer none,Value.pointer none,Value.int .i64 0,Value.int .i64 0,Value.int .i64 0,Value.int .i64 0,Value.int .i64 0,Value.int .i64 0,Value.int .i64 0,Value.int .i64 0,Value.int .i64 0,Value.int .i64 0,Value.slice none 0 0,Value.slice none 0 0,Value.int .i64 0,Value.int .i64 0,Value.int .i64 0,Value.int .i64 0,Value.int .i64 0,Value.int .i64 0,Value.slice none 0 0]⟩
theorem Try.tok68:TIok Try.prog 68 Try.i68:=⟨by kernel_rfl,by kernel_rfl⟩
def Try.i69:TI:=⟨.fn,1,8,Value.nilFunc⟩
theorem Try.tok69:TIok Try.prog 69 Try.i69:=⟨by kernel_rfl,by kernel_rfl⟩
def Try.i71:TI:=⟨.sl 69,1,24,Value.slice none 0 0⟩
theorem Try.tok71:TIok Try.prog 71 Try.i71:=⟨by kernel_rfl,by kernel_rfl⟩
def Try.i72:TI:=⟨.map 81 23,1,8,Value.map none⟩
theorem Try.tok72:TIok Try.prog 72 Try.i72:=⟨by kernel_rfl,by kernel_rfl⟩
def Try.i74:TI:=⟨.struct [(0,33),(4,72),(5,3)],6,64,Value.agg #[Value.int .i64 0,Value.int .i64 0,Value.int .i64 0,Value.slice none 0 0,Value.map none,Value.int .i64 0]⟩
theorem Try.tok74:TIok Try.prog 74 Try.i74:=⟨by kernel_rfl,by kernel_rfl⟩
def Try.i76:TI:=⟨.tuple [64,64,3],1,0,Value.tuple #[Value.pointer none,Value.pointer none,Value.int .i64 0]⟩
theorem Try.tok76:TIok Try.prog 76 Try.i76:=⟨by kernel_rfl,by kernel_rfl⟩
def Try.i81:TI:=⟨.arr 2 3,2,16,Value.agg #[Value.int .i64 0,Value.int .i64 0]⟩
theorem Try.tok81:TIok Try.prog 81 Try.i81:=⟨by kernel_rfl,by kernel_rfl⟩
def Try.i85:TI:=⟨.fn,1,8,Value.nilFunc⟩
theorem Try.tok85:TIok Try.prog 85 Try.i85:=⟨by kernel_rfl,by kernel_rfl⟩
def Try.i86:TI:=⟨.tuple [64,34],1,0,Value.tuple #[Value.pointer none,Value.int .i64 0]⟩
theorem Try.tok86:TIok Try.prog 86 Try.i86:=⟨by kernel_rfl,by kernel_rfl⟩
def Try.i92:TI:=⟨.fn,1,8,Value.nilFunc⟩
theorem Try.tok92:TIok Try.prog 92 Try.i92:=⟨by kernel_rfl,by kernel_rfl⟩
def Try.i93:TI:=⟨.tuple [43,34],1,0,Value.tuple #[Value.slice none 0 0,Value.int .i64 0]⟩
theorem Try.tok93:TIok Try.prog 93 Try.i93:=⟨by kernel_rfl,by kernel_rfl⟩
def Try.i95:TI:=⟨.tuple [26,34],1,0,Value.tuple #[Value.agg #[Value.int .i64 0,Value.int .i64 0,Value.int .i64 0,Value.int .i64 0,Value.int .i64 0,Value.int .i64 0],Value.int .i64 0]⟩
theorem Try.tok95:TIok Try.prog 95 Try.i95:=⟨by kernel_rfl,by kernel_rfl⟩
def Try.i97:TI:=⟨.tuple [23,4],1,0,Value.tuple #[Value.slice none 0 0,Value.bool false]⟩
theorem Try.tok97:TIok Try.prog 97 Try.i97:=⟨by kernel_rfl,by kernel_rfl⟩
def Try.i101:TI:=⟨.tuple [3,3,4],1,0,Value.tuple #[Value.int .i64 0,Value.int .i64 0,Value.bool false]⟩
theorem Try.tok101:TIok Try.prog 101 Try.i101:=⟨by kernel_rfl,by kernel_rfl⟩
def Try.i104:TI:=⟨.struct [(0,33),(4,3),(5,3),(6,3),(7,3)],8,80,Value.agg #[Value.int .i64 0,Value.int .i64 0,Value.int .i64 0,Value.slice none 0 0,Value.int .i64 0,Value.int .i64 0,Value.int .i64 0,Value.int .i64 0]⟩
theorem Try.tok104:TIok Try.prog 104 Try.i104:=⟨by kernel_rfl,by kernel_rfl⟩
def Try.i109:TI:=⟨.arr 4 3,4,32,Value.agg #[Value.int .i64 0,Value.int .i64 0,Value.int .i64 0,Value.int .i64 0]⟩
theorem Try.tok109:TIok Try.prog 109 Try.i109:=⟨by kernel_rfl,by kernel_rfl⟩
def Try.i123:TI:=⟨.fn,1,8,Value.nilFunc⟩
theorem Try.tok123:TIok Try.prog 123 Try.i123:=⟨by kernel_rfl,by kernel_rfl⟩
def Try.i126:TI:=⟨.sl 24,1,24,Value.slice none 0 0⟩
theorem Try.tok126:TIok Try.prog 126 Try.i126:=⟨by kernel_rfl,by kernel_rfl⟩
def Try.i128:TI:=⟨.struct [(0,3),(1,3)],2,16,Value.agg #[Value.int .i64 0,Value.int .i64 0]⟩
theorem Try.tok128:TIok Try.prog 128 Try.i128:=⟨by kernel_rfl,by kernel_rfl⟩
def Try.i129:TI:=⟨.cpl .f64,1,16,Value.complex .f64 0 0⟩
theorem Try.tok129:TIok Try.prog 129 Try.i129:=⟨by kernel_rfl,by kernel_rfl⟩
def Try.i130:TI:=⟨.flt .f64,1,8,Value.float .f64 0⟩
theorem Try.tok130:TIok Try.prog 130 Try.i130:=⟨by kernel_rfl,by kernel_rfl⟩
def Try.i137:TI:=⟨.arr 4 109,16,128,Value.agg #[Value.int .i64 0,Value.int .i64 0,Value.int .i64 0,Value.int .i64 0,Value.int .i64 0,Value.int .i64 0,Value.int .i64 0,Value.int .i64 0,Value.int .i64 0,Value.int .i64 0,Value.int .i64 0,Value.int .i64 0,Value.int .i64 0,Value.int .i64 0,Value.int .i64 0,Value.int .i64 0]⟩
theorem Try.tok137:TIok Try.prog 137 Try.i137:=⟨by kernel_rfl,by kernel_rfl⟩
def Try.tab:Tab:=[(0,Try.i0),(3,Try.i3),(4,Try.i4),(5,Try.i5),(22,Try.i22),(23,Try.i23),(24,Try.i24),(26,Try.i26),(28,Try.i28),(31,Try.i31),(33,Try.i33),(34,Try.i34),(35,Try.i35),(38,Try.i38),(40,Try.i40),(43,Try.i43),(45,Try.i45),(46,Try.i46),(54,Try.i54),(64,Try.i64),(66,Try.i66),(68,Try.i68),(69,Try.i69),(71,Try.i71),(72,Try.i72),(74,Try.i74),(76,Try.i76),(81,Try.i81),(85,Try.i85),(86,Try.i86),(92,Try.i92),(93,Try.i93),(95,Try.i95),(97,Try.i97),(101,Try.i101),(104,Try.i104),(109,Try.i109),(123,Try.i123),(126,Try.i126),(128,Try.i128),(129,Try.i129),(130,Try.i130),(137,Try.i137)]
theorem Try.tab_ok:TabOk Try.prog Try.tab:=by
 unfold TabOk Try.tab
 simp only[List.forall_mem_cons]
 exact⟨Try.tok0,Try.tok3,Try.tok4,Try.tok5,Try.tok22,Try.tok23,Try.tok24,Try.tok26,Try.tok28,Try.tok31,Try.tok33,Try.tok34,Try.tok35,Try.tok38,Try.tok40,Try.tok43,Try.tok45,Try.tok46,Try.tok54,Try.tok64,Try.tok66,Try.tok68,Try.tok69,Try.tok71,Try.tok72,Try.tok74,Try.tok76,Try.tok81,Try.tok85,Try.tok86,Try.tok92,Try.tok93,Try.tok95,Try.tok97,Try.tok101,Try.tok104,Try.tok109,Try.tok123,Try.tok126,Try.tok128,Try.tok129,Try.tok130,Try.tok137,fun _ h=>by cases h⟩
abbrev Try.C:=CallsH Try.prog
theorem Try.mixed:Try.prog.follows .mixedOrders=true:=by kernel_rfl
theorem Try.cal3:callable Try.prog 3:=⟨Try.f3,Try.func3,by kernel_rfl,by kernel_rfl⟩
theorem Try.cal4:callable Try.prog 4:=⟨Try.f4,Try.func4,by kernel_rfl,by kernel_rfl⟩
theorem Try.cal5:callable Try.prog 5:=⟨Try.f5,Try.func5,by kernel_rfl,by kernel_rfl⟩
theorem Try.cal6:callable Try.prog 6:=⟨Try.f6,Try.func6,by kernel_rfl,by kernel_rfl⟩
theorem Try.cal7:callable Try.prog 7:=⟨Try.f7,Try.func7,by kernel_rfl,by kernel_rfl⟩
theorem Try.cal8:callable Try.prog 8:=⟨Try.f8,Try.func8,by kernel_rfl,by kernel_rfl⟩
theorem Try.cal9:callable Try.prog 9:=⟨Try.f9,Try.func9,by kernel_rfl,by kernel_rfl⟩
theorem Try.cal10:callable Try.prog 10:=⟨Try.f10,Try.func10,by kernel_rfl,by kernel_rfl⟩
theorem Try.cal11:callable Try.prog 11:=⟨Try.f11,Try.func11,by kernel_rfl,by kernel_rfl⟩
theorem Try.cal12:callable Try.prog 12:=⟨Try.f12,Try.func12,by kernel_rfl,by kernel_rfl⟩
theorem Try.cal13:callable Try.prog 13:=⟨Try.f13,Try.func13,by kernel_rfl,by kernel_rfl⟩
theorem Try.cal14:callable Try.prog 14:=⟨Try.f14,Try.func14,by kernel_rfl,by kernel_rfl⟩
theorem Try.cal15:callable Try.prog 15:=⟨Try.f15,Try.func15,by kernel_rfl,by kernel_rfl⟩
theorem Try.cal17:callable Try.prog 17:=⟨Try.f17,Try.func17,by kernel_rfl,by kernel_rfl⟩
theorem Try.cal18:callable Try.prog 18:=⟨Try.f18,Try.func18,by kernel_rfl,by kernel_rfl⟩
theorem Try.cal19:callable Try.prog 19:=⟨Try.f19,Try.func19,by kernel_rfl,by kernel_rfl⟩
theorem Try.cal20:callable Try.prog 20:=⟨Try.f20,Try.func20,by kernel_rfl,by kernel_rfl⟩
theorem Try.cal21:callable Try.prog 21:=⟨Try.f21,Try.func21,by kernel_rfl,by kernel_rfl⟩
theorem Try.cal22:callable Try.prog 22:=⟨Try.f22,Try.func22,by kernel_rfl,by kernel_rfl⟩
theorem Try.cal23:callable Try.prog 23:=⟨Try.f23,Try.func23,by kernel_rfl,by kernel_rfl⟩
theorem Try.cal24:callable Try.prog 24:=⟨Try.f24,Try.func24,by kernel_rfl,by kernel_rfl⟩
theorem Try.cal25:callable Try.prog 25:=⟨Try.f25,Try.func25,by kernel_rfl,by kernel_rfl⟩
theorem Try.cal26:callable Try.prog 26:=⟨Try.f26,Try.func26,by kernel_rfl,by kernel_rfl⟩
theorem Try.cal27:callable Try.prog 27:=⟨Try.f27,Try.func27,by kernel_rfl,by kernel_rfl⟩
theorem Try.cal28:callable Try.prog 28:=⟨Try.f28,Try.func28,by kernel_rfl,by kernel_rfl⟩
theorem Try.cal29:callable Try.prog 29:=⟨Try.f29,Try.func29,by kernel_rfl,by kernel_rfl⟩
theorem Try.cal30:callable Try.prog 30:=⟨Try.f30,Try.func30,by kernel_rfl,by kernel_rfl⟩
theorem Try.cal31:callable Try.prog 31:=⟨Try.f31,Try.func31,by kernel_rfl,by kernel_rfl⟩
theorem Try.cal32:callable Try.prog 32:=⟨Try.f32,Try.func32,by kernel_rfl,by kernel_rfl⟩
theorem Try.cal33:callable Try.prog 33:=⟨Try.f33,Try.func33,by kernel_rfl,by kernel_rfl⟩
theorem Try.cal34:callable Try.prog 34:=⟨Try.f34,Try.func34,by kernel_rfl,by kernel_rfl⟩
theorem Try.cal35:callable Try.prog 35:=⟨Try.f35,Try.func35,by kernel_rfl,by kernel_rfl⟩
theorem Try.cal36:callable Try.prog 36:=⟨Try.f36,Try.func36,by kernel_rfl,by kernel_rfl⟩
theorem Try.cal37:callable Try.prog 37:=⟨Try.f37,Try.func37,by kernel_rfl,by kernel_rfl⟩
theorem Try.cal38:callable Try.prog 38:=⟨Try.f38,Try.func38,by kernel_rfl,by kernel_rfl⟩
theorem Try.cal39:callable Try.prog 39:=⟨Try.f39,Try.func39,by kernel_rfl,by kernel_rfl⟩
theorem Try.cal40:callable Try.prog 40:=⟨Try.f40,Try.func40,by kernel_rfl,by kernel_rfl⟩
theorem Try.cal41:callable Try.prog 41:=⟨Try.f41,Try.func41,by kernel_rfl,by kernel_rfl⟩
theorem Try.cal42:callable Try.prog 42:=⟨Try.f42,Try.func42,by kernel_rfl,by kernel_rfl⟩
theorem Try.cal43:callable Try.prog 43:=⟨Try.f43,Try.func43,by kernel_rfl,by kernel_rfl⟩
theorem Try.cal44:callable Try.prog 44:=⟨Try.f44,Try.func44,by kernel_rfl,by kernel_rfl⟩
theorem Try.cal45:callable Try.prog 45:=⟨Try.f45,Try.func45,by kernel_rfl,by kernel_rfl⟩
theorem Try.cal46:callable Try.prog 46:=⟨Try.f46,Try.func46,by kernel_rfl,by kernel_rfl⟩
theorem Try.cal47:callable Try.prog 47:=⟨Try.f47,Try.func47,by kernel_rfl,by kernel_rfl⟩
theorem Try.cal48:callable Try.prog 48:=⟨Try.f48,Try.func48,by kernel_rfl,by kernel_rfl⟩
theorem Try.cal49:callable Try.prog 49:=⟨Try.f49,Try.func49,by kernel_rfl,by kernel_rfl⟩
theorem Try.cal50:callable Try.prog 50:=⟨Try.f50,Try.func50,by kernel_rfl,by kernel_rfl⟩
theorem Try.cal51:callable Try.prog 51:=⟨Try.f51,Try.func51,by kernel_rfl,by kernel_rfl⟩
theorem Try.cal52:callable Try.prog 52:=⟨Try.f52,Try.func52,by kernel_rfl,by kernel_rfl⟩
theorem Try.cal53:callable Try.prog 53:=⟨Try.f53,Try.func53,by kernel_rfl,by kernel_rfl⟩
theorem Try.cal54:callable Try.prog 54:=⟨Try.f54,Try.func54,by kernel_rfl,by kernel_rfl⟩
theorem Try.cal55:callable Try.prog 55:=⟨Try.f55,Try.func55,by kernel_rfl,by kernel_rfl⟩
theorem Try.cal56:callable Try.prog 56:=⟨Try.f56,Try.func56,by kernel_rfl,by kernel_rfl⟩
theorem Try.cal57:callable Try.prog 57:=⟨Try.f57,Try.func57,by kernel_rfl,by kernel_rfl⟩
theorem Try.cal58:callable Try.prog 58:=⟨Try.f58,Try.func58,by kernel_rfl,by kernel_rfl⟩
theorem Try.cal59:callable Try.prog 59:=⟨Try.f59,Try.func59,by kernel_rfl,by kernel_rfl⟩
theorem Try.cal60:callable Try.prog 60:=⟨Try.f60,Try.func60,by kernel_rfl,by kernel_rfl⟩
theorem Try.cal61:callable Try.prog 61:=⟨Try.f61,Try.func61,by kernel_rfl,by kernel_rfl⟩
theorem Try.cal62:callable Try.prog 62:=⟨Try.f62,Try.func62,by kernel_rfl,by kernel_rfl⟩
theorem Try.cal63:callable Try.prog 63:=⟨Try.f63,Try.func63,by kernel_rfl,by kernel_rfl⟩
theorem Try.cal64:callable Try.prog 64:=⟨Try.f64,Try.func64,by kernel_rfl,by kernel_rfl⟩
theorem Try.cal65:callable Try.prog 65:=⟨Try.f65,Try.func65,by kernel_rfl,by kernel_rfl⟩
theorem Try.cal66:callable Try.prog 66:=⟨Try.f66,Try.func66,by kernel_rfl,by kernel_rfl⟩
theorem Try.cal67:callable Try.prog 67:=⟨Try.f67,Try.func67,by kernel_rfl,by kernel_rfl⟩
theorem Try.cal68:callable Try.prog 68:=⟨Try.f68,Try.func68,by kernel_rfl,by kernel_rfl⟩
theorem Try.cal69:callable Try.prog 69:=⟨Try.f69,Try.func69,by kernel_rfl,by kernel_rfl⟩
theorem Try.cal70:callable Try.prog 70:=⟨Try.f70,Try.func70,by kernel_rfl,by kernel_rfl⟩
theorem Try.cal71:callable Try.prog 71:=⟨Try.f71,Try.func71,by kernel_rfl,by kernel_rfl⟩
theorem Try.cal72:callable Try.prog 72:=⟨Try.f72,Try.func72,by kernel_rfl,by kernel_rfl⟩
theorem Try.cal73:callable Try.prog 73:=⟨Try.f73,Try.func73,by kernel_rfl,by kernel_rfl⟩
theorem Try.cal74:callable Try.prog 74:=⟨Try.f74,Try.func74,by kernel_rfl,by kernel_rfl⟩
theorem Try.cal75:callable Try.prog 75:=⟨Try.f75,Try.func75,by kernel_rfl,by kernel_rfl⟩
theorem Try.cal76:callable Try.prog 76:=⟨Try.f76,Try.func76,by kernel_rfl,by kernel_rfl⟩
theorem Try.cal77:callable Try.prog 77:=⟨Try.f77,Try.func77,by kernel_rfl,by kernel_rfl⟩
theorem Try.cal78:callable Try.prog 78:=⟨Try.f78,Try.func78,by kernel_rfl,by kernel_rfl⟩
theorem Try.cal81:callable Try.prog 81:=⟨Try.f81,Try.func81,by kernel_rfl,by kernel_rfl⟩
theorem Try.cal82:callable Try.prog 82:=⟨Try.f82,Try.func82,by kernel_rfl,by kernel_rfl⟩
theorem Try.cal83:callable Try.prog 83:=⟨Try.f83,Try.func83,by kernel_rfl,by kernel_rfl⟩
theorem Try.cal84:callable Try.prog 84:=⟨Try.f84,Try.func84,by kernel_rfl,by kernel_rfl⟩
theorem Try.cal85:callable Try.prog 85:=⟨Try.f85,Try.func85,by kernel_rfl,by kernel_rfl⟩
theorem Try.cal86:callable Try.prog 86:=⟨Try.f86,Try.func86,by kernel_rfl,by kernel_rfl⟩
theorem Try.cal87:callable Try.prog 87:=⟨Try.f87,Try.func87,by kernel_rfl,by kernel_rfl⟩
theorem Try.cal88:callable Try.prog 88:=⟨Try.f88,Try.func88,by kernel_rfl,by kernel_rfl⟩
theorem Try.cal89:callable Try.prog 89:=⟨Try.f89,Try.func89,by kernel_rfl,by kernel_rfl⟩
theorem Try.cal90:callable Try.prog 90:=⟨Try.f90,Try.func90,by kernel_rfl,by kernel_rfl⟩
theorem Try.cal91:callable Try.prog 91:=⟨Try.f91,Try.func91,by kernel_rfl,by kernel_rfl⟩
theorem Try.cal93:callable Try.prog 93:=⟨Try.f93,Try.func93,by kernel_rfl,by kernel_rfl⟩
theorem Try.cal94:callable Try.prog 94:=⟨Try.f94,Try.func94,by kernel_rfl,by kernel_rfl⟩
theorem Try.cal95:callable Try.prog 95:=⟨Try.f95,Try.func95,by kernel_rfl,by kernel_rfl⟩
theorem Try.cal96:callable Try.prog 96:=⟨Try.f96,Try.func96,by kernel_rfl,by kernel_rfl⟩
end Go.Proofs
namespace Go.Proofs
open Go.Sh Go.Sh.Plan
open Go.IntKind (wrap)
open Int (toNat)
def Try.S3(ed1p:OA)(ed1l ed1c:Nat)(la2:AV)(H:Heap)(R:Kv):Prop:=
 alc H (.cells la2 28) fun b3 H4=>Try.C 6 #[] H4 fun r5 H6=> ∃r7,r5= .bool r7∧br (!r7)
 (R (.bool false) H6)
 (∀J8:Kl,(∀H9,(Try.C 8 #[.int .i64 24,.int .i64 20] H9 fun r10 H11=> ∃r12 r13,r10= .tuple #[.agg r12,.int .i64 r13]∧alc H11 (.cells #[.int .i64 0,.int .i64 0,.int .i64 0,.slice none 0 0] 33) fun b14 H15=>r12.size=4∧stAt H15 ⟨b14,0,none⟩ r12.toList fun H16=> ∀X17:Kl,(∀(t18:Int) H19,(br (decide (t18<(ed1l:Int))) (∃a20,ed1p=some a20∧0≤t18∧t18<(ed1l:Int)∧ ∃v21,v21.size=19∧rowIn H19 (.add a20 (toNat t18*19)) v21∧alc H19 (.cells #[.int .i64 0,.int .i64 0,.int .i64 0,.int .i64 0,.int .i64 0,.int .i64 0,.int .i64 0,.int .i64 0,.int .i64 0,.int .i64 0,.slice none 0 0,.slice none 0 0,.int .i64 0,.int .i64 0,.int .i64 0,.int .i64 0,.int .i64 0,.int .i64 0,.slice none 0 0] 28) fun b22 H23=>v21.size=19∧stAt H23 ⟨b22,0,none⟩ v21.toList fun H24=> ∃v25,v25.size=4∧rowIn H24 ⟨b14,0,none⟩ v25∧ ∃v26,v26.size=19∧rowIn H24 ⟨b22,0,none⟩ v26∧Try.C 9 #[.agg v25,.agg v26] H24 fun r27 H28=> ∃r29 r30,r27= .tuple #[.agg r29,.int .i64 r30]∧alc H28 (.cells #[.int .i64 0,.int .i64 0,.int .i64 0,.slice none 0 0] 33) fun b31 H32=>r29.size=4∧stAt H32 ⟨b31,0,none⟩ r29.toList fun H33=>br (r30==0) (∃v34,v34.size=4∧rowIn H33 ⟨b31,0,none⟩ v34∧v34.size=4∧stAt H33 ⟨b14,0,none⟩ v34.toList fun H35=>X17 [.int .i64 (wrap .i64 (t18+1))] H35) (X17 [.int .i64 (wrap .i64 (t18+1))] H33)) (∃v36,v36.size=4∧rowIn H19 ⟨b14,0,none⟩ v36∧Try.C 10 #[.agg v36] H19 fun r37 H38=> ∃l39,r37= .pointer l39∧br (Option.isNone l39) (R (.bool false) H38) (Try.C 11 #[.pointer l39,.int .i64 0,.int .i64 0,.int .i64 24,.int .i64 20] H38 fun r40 H41=> ∃r42p r42l r42c r43,r40= .tuple #[.slice r42p r42l r42c,.int .i64 r43]∧Try.C 12 #[.pointer l39] H41 fun r44 H45=> ∃wa46,r44= .int .i64 wa46∧br (wa46 != 4) (R (.bool false) H45) (∃v47,v47.size=4∧rowIn H45 ⟨b14,0,none⟩ v47∧ ∃ID48,cell H45 (.add ⟨b3,0,none⟩ 1)=some (.int .i64 ID48)∧Try.C 13 #[.agg v47,.int .i64 ID48] H45 fun r49 H50=> ∃r51 r52,r49= .tuple #[.agg r51,.bool r52]∧alc H50 (.cells #[.int .i64 0,.int .i64 0,.bool false,.int .i64 0,.int .i64 0,.int .i64 0,.int .i64 0,.slice none 0 0,.slice none 0 0,.int .i64 0,.int .i64 0,.int .i64 0,.int .i64 0,.int .i64 0,.int .i64 0,.bool false,.int .i64 0,.slice none 0 0,.slice none 0 0] 45) fun b53 H54=>r51.size=19∧stAt H54 ⟨b53,0,none⟩ r51.toList fun H55=> ∀J56:Kl,(∀(hi57:Bool) H58,(∃v59,v59.size=19∧rowIn H58 ⟨b3,0,none⟩ v59∧Try.C 14 #[.pointer l39,.agg v59] H58 fun r60 H61=> ∃e62,r60= .int .i64 e62∧Try.C 11 #[.pointer l39,.int .i64 0,.int .i64 0,.int .i64 24,.int .i64 20] H61 fun r63 H64=> ∃r65p r65l r65c r66,r63= .tuple #[.slice r65p r65l r65c,.int .i64 r66]∧Try.C 12 #[.pointer l39] H64 fun r67 H68=> ∃r69,r67= .int .i64 r69∧ ∀J70:Kl,(∀H71,(R (.bool (decide (((wrap .i64 (r69-wa46)):Int)≤4))) H71)→J70 [] H71)→br (e62 != 0) (R (.bool (((wrap .i64 (r69-wa46)):Int)==0)) H68) (br hi57 (R (.bool (((wrap .i64 (r69-wa46)):Int)==0)) H68) (∃Ki72,cell H68 (.add ⟨b3,0,none⟩ 0)=some (.int .i64 Ki72)∧br (Ki72==4) (∃Ma73,Ma73.size=6∧rowIn H68 (.add ⟨b53,0,none⟩ 9) Ma73∧Try.C 15 #[] H68 fun r74 H75=> ∃r76,r74= .agg r76∧(Ext H68 H75∨(∃Ma90,Ma90.size=6∧rowIn H75 (.add ⟨b53,0,none⟩ 9) Ma90∧Value.agg Ma90= .agg Ma73))∧(1=1∧ ∃as_77 bs78:List Int,as_77.length=6∧bs78.length=6∧Ma73=(as_77.map (Value.int .i64)).toArray∧r76=(bs78.map (Value.int .i64)).toArray∧br (decide (as_77=bs78)) (∃X79,cell H75 (.add ⟨b3,0,none⟩ 6)=some (.int .i64 X79)∧ ∃Y80,cell H75 (.add ⟨b3,0,none⟩ 7)=some (.int .i64 Y80)∧ ∃X81,cell H75 (.add ⟨b3,0,none⟩ 6)=some (.int .i64 X81)∧ ∃W82,cell H75 (.add ⟨b3,0,none⟩ 8)=some (.int .i64 W82)∧ ∃W83,cell H75 (.add ⟨b53,0,none⟩ 5)=some (.int .i64 W83)∧ ∃Y84,cell H75 (.add ⟨b3,0,none⟩ 7)=some (.int .i64 Y84)∧ ∃H85,cell H75 (.add ⟨b3,0,none⟩ 9)=some (.int .i64 H85)∧ ∃H86,cell H75 (.add ⟨b53,0,none⟩ 6)=some (.int .i64 H86)∧Try.C 16 #[.int .i64 (max 0 X79),.int .i64 (max 0 Y80),.int .i64 (wrap .i64 ((min (min (wrap .i64 (X81+W82)) W83) 24)-(max 0 X79))),.int .i64 (wrap .i64 ((min (min (wrap .i64 (Y84+H85)) H86) 20)-(max 0 Y80)))] H75 fun r87 H88=> ∃r89,r87= .int .i64 r89∧R (.bool (decide (((wrap .i64 (r69-wa46)):Int)≤r89))) H88) (J70 [] H75))) (J70 [] H68))))→J56 [.bool hi57] H58)→br r52 (∃Hi91,cell H55 (.add ⟨b53,0,none⟩ 2)=some (.bool Hi91)∧br Hi91 (∃Ki92,cell H55 (.add ⟨b3,0,none⟩ 0)=some (.int .i64 Ki92)∧br (Ki92 != 6) (∃Ki93,cell H55 (.add ⟨b3,0,none⟩ 0)=some (.int .i64 Ki93)∧J56 [.bool (decide (Ki93≥4))] H55) (J56 [.bool false] H55)) (J56 [.bool false] H55)) (J56 [.bool false] H55)))))→X17 [.int .i64 t18] H19)→X17 [.int .i64 0] H16)→J8 [] H9)→Try.C 7 #[.slice ed1p ed1l ed1c,.int .i64 12] H6 fun r94 H95=> ∃r96,r94= .bool r96∧br (!r96) (R (.bool true) H95) (∃v97,v97.size=19∧rowIn H95 ⟨b3,0,none⟩ v97∧v97.size=19∧0+19≤19∧alc H95 (.cells (List.toArray (setL [.int .i64 0,.int .i64 0,.int .i64 0,.int .i64 0,.int .i64 0,.int .i64 0,.int .i64 0,.int .i64 0,.int .i64 0,.int .i64 0,.slice none 0 0,.slice none 0 0,.int .i64 0,.int .i64 0,.int .i64 0,.int .i64 0,.int .i64 0,.int .i64 0,.slice none 0 0] 0 v97.toList)) 28) fun b98 H99=>Try.C 7 #[.slice (some ⟨b98,0,none⟩) 1 1,.int .i64 1] H99 fun r100 H101=> ∃r102,r100= .bool r102∧br (!r102) (R (.bool true) H101) (J8 [] H101)))
def Try.p3:Plan:=(tl (tg (two (join [] [0,3] g0) (tl (two (tl (one (loop [(37,3)] [3,5,35,36] (tl (two (tl leaf) (two (one (tl (tl (tl (tl leaf))))) leaf)))))) (tl (tg (tl (tl (tg (tl (two (join [(15,4)] [3,11,12,13] leaf) (tl (tl (tl (two (join [] [17] (one (tl (two (tl leaf) (tl (two (tl (tl leaf)) leaf)))))) (tl leaf)))))))))))))))))
theorem Try.s3{ed1p:OA}{ed1l ed1c:Nat}{la2:AV}{H R}(h:Try.S3 ed1p ed1l ed1c la2 H R):Try.C 3 #[.slice ed1p ed1l ed1c,.agg la2] H R:=vcs Try.tab_ok Try.mixed Try.func3 Try.cal3 Try.p3 h (by kernel_rfl)
def Try.S4(ed1p:OA)(ed1l ed1c:Nat)(re2p:OA)(re2l re2c:Nat)(H:Heap)(R:Kv):Prop:=
 Try.C 6 #[] H fun r3 H4=> ∃r5,r3= .bool r5∧br (!r5)
 (R (.bool false) H4)
 (∀J6:Kl,(∀H7,(Try.C 8 #[.int .i64 20,.int .i64 18] H7 fun r8 H9=> ∃r10 r11,r8= .tuple #[.agg r10,.int .i64 r11]∧alc H9 (.cells #[.int .i64 0,.int .i64 0,.int .i64 0,.slice none 0 0] 33) fun b12 H13=>r10.size=4∧stAt H13 ⟨b12,0,none⟩ r10.toList fun H14=> ∃v15,v15.size=4∧rowIn H14 ⟨b12,0,none⟩ v15∧ ∃v16,v16.size=4∧rowIn H14 ⟨b12,0,none⟩ v16∧Try.C 10 #[.agg v15] H14 fun r17 H18=> ∃a19,r17= .pointer a19∧(Ext H14 H18∨(∃v80,v80.size=4∧rowIn H18 ⟨b12,0,none⟩ v80∧Value.agg v80= .agg v16))∧Try.C 10 #[.agg v16] H18 fun r20 H21=> ∃b22,r20= .pointer b22∧ ∀J23:Kl,(∀H24,(∀X25:Kl,(∀(i26:Int) H27,(br (decide (i26<(ed1l:Int))) (∃a28,ed1p=some a28∧0≤i26∧i26<(ed1l:Int)∧ ∃v29,v29.size=19∧rowIn H27 (.add a28 (toNat i26*19)) v29∧alc H27 (.cells #[.int .i64 0,.int .i64 0,.int .i64 0,.int .i64 0,.int .i64 0,.int .i64 0,.int .i64 0,.int .i64 0,.int .i64 0,.int .i64 0,.slice none 0 0,.slice none 0 0,.int .i64 0,.int .i64 0,.int .i64 0,.int .i64 0,.int .i64 0,.int .i64 0,.slice none 0 0] 28) fun b30 H31=>v29.size=19∧stAt H31 ⟨b30,0,none⟩ v29.toList fun H32=> ∃v33,v33.size=19∧rowIn H32 ⟨b30,0,none⟩ v33∧ ∃v34,v34.size=19∧rowIn H32 ⟨b30,0,none⟩ v34∧Try.C 14 #[.pointer a19,.agg v33] H32 fun r35 H36=> ∃e37,r35= .int .i64 e37∧(Ext H32 H36∨(∃v49,v49.size=19∧rowIn H36 ⟨b30,0,none⟩ v49∧Value.agg v49= .agg v34))∧Try.C 14 #[.pointer b22,.agg v34] H36 fun r38 H39=> ∃f40,r38= .int .i64 f40∧br (e37 != f40) (R (.bool false) H39) (br (decide (i26<(re2l:Int))) (∃a41,re2p=some a41∧0≤i26∧i26<(re2l:Int)∧ ∃v42,cell H39 (.add a41 (toNat i26*1))=some (.int .i64 v42)∧ ∃a43,re2p=some a43∧0≤i26∧i26<(re2l:Int)∧ ∃v44,cell H39 (.add a43 (toNat i26*1))=some (.int .i64 v44)∧0≤(4:Int)∧Try.C 11 #[.pointer a19,.int .i64 (andI .i64 v42 15),.int .i64 (andI .i64 (shrI .i64 v44 4) 15),.int .i64 4,.int .i64 2] H39 fun r45 H46=> ∃r47p r47l r47c r48,r45= .tuple #[.slice r47p r47l r47c,.int .i64 r48]∧X25 [.int .i64 (wrap .i64 (i26+1))] H46) (X25 [.int .i64 (wrap .i64 (i26+1))] H39))) (Try.C 11 #[.pointer a19,.int .i64 0,.int .i64 0,.int .i64 20,.int .i64 18] H27 fun r50 H51=> ∃r52p r52l r52c r53,r50= .tuple #[.slice r52p r52l r52c,.int .i64 r53]∧Try.C 11 #[.pointer b22,.int .i64 0,.int .i64 0,.int .i64 20,.int .i64 18] H51 fun r54 H55=> ∃r56p r56l r56c r57,r54= .tuple #[.slice r56p r56l r56c,.int .i64 r57]∧Try.C 18 #[.pointer a19] H55 fun r58 H59=> ∃r60,r58= .agg r60∧Try.C 17 #[.agg r60] H59 fun r61 H62=> ∃r63,r61= .agg r63∧alc H62 (.cells #[.int .i64 0,.int .i64 0,.slice none 0 0] 54) fun b64 H65=>r63.size=3∧stAt H65 ⟨b64,0,none⟩ r63.toList fun H66=>br (r53==0) (br (r57==0) (Try.C 19 #[.slice r52p r52l r52c,.slice r56p r56l r56c] H66 fun r67 H68=> ∃r69,r67= .bool r69∧br r69 (∃P70p P70l P70c,cell H68 (.add ⟨b64,0,none⟩ 2)=some (.slice P70p P70l P70c)∧Try.C 19 #[.slice r52p r52l r52c,.slice P70p P70l P70c] H68 fun r71 H72=> ∃r73,r71= .bool r73∧br r73 (Try.C 12 #[.pointer a19] H72 fun r74 H75=> ∃r76,r74= .int .i64 r76∧Try.C 12 #[.pointer b22] H75 fun r77 H78=> ∃r79,r77= .int .i64 r79∧R (.bool (decide (r76≥r79))) H78) (R (.bool false) H72)) (R (.bool false) H68)) (R (.bool false) H66)) (R (.bool false) H66)))→X25 [.int .i64 i26] H27)→X25 [.int .i64 0] H24)→J23 [] H24)→br (Option.isNone a19) (R (.bool false) H21) (br (Option.isNone b22) (R (.bool false) H21) (J23 [] H21)))→J6 [] H7)→Try.C 7 #[.slice ed1p ed1l ed1c,.int .i64 14] H4 fun r81 H82=> ∃r83,r81= .bool r83∧br (!r83) (R (.bool true) H82) (br (decide (((re2l:Int):Int)>40)) (R (.bool true) H82) (J6 [] H82)))
def Try.p4:Plan:=(tl (tg (two (join [] [0,1] g0) (tl (tl (two (join [] [0,1,7,8] g0) (two (tl (one (loop [(44,3)] [1,7,8,42,43] (tl (two (tl leaf) (two (one (tl (tl (tg (tl (tl leaf)))))) leaf)))))) (tl (tl (tl (tl leaf)))))))))))
theorem Try.s4{ed1p:OA}{ed1l ed1c:Nat}{re2p:OA}{re2l re2c:Nat}{H R}(h:Try.S4 ed1p ed1l ed1c re2p re2l re2c H R):Try.C 4 #[.slice ed1p ed1l ed1c,.slice re2p re2l re2c] H R:=vcs Try.tab_ok Try.mixed Try.func4 Try.cal4 Try.p4 h (by kernel_rfl)
def Try.S5(fi1p:OA)(fi1l fi1c:Nat)(se2p:OA)(se2l se2c:Nat)(w3 h4:Int)(H:Heap)(R:Kv):Prop:=
 Try.C 6 #[] H fun r5 H6=> ∃r7,r5= .bool r7∧br (!r7)
 (R (.bool false) H6)
 (∀J8:Kl,(∀H9,(Try.C 8 #[.int .i64 9,.int .i64 9] H9 fun r10 H11=> ∃r12 r13,r10= .tuple #[.agg r12,.int .i64 r13]∧alc H11 (.cells #[.int .i64 0,.int .i64 0,.int .i64 0,.slice none 0 0] 33) fun b14 H15=>r12.size=4∧stAt H15 ⟨b14,0,none⟩ r12.toList fun H16=>Try.C 8 #[.int .i64 w3,.int .i64 h4] H16 fun r17 H18=> ∃r19 r20,r17= .tuple #[.agg r19,.int .i64 r20]∧alc H18 (.cells #[.int .i64 0,.int .i64 0,.int .i64 0,.slice none 0 0] 33) fun b21 H22=>r19.size=4∧stAt H22 ⟨b21,0,none⟩ r19.toList fun H23=> ∀X24:Kl,(∀(t25:Int) H26,(br (decide (t25<(fi1l:Int))) (∃a27,fi1p=some a27∧0≤t25∧t25<(fi1l:Int)∧ ∃v28,v28.size=19∧rowIn H26 (.add a27 (toNat t25*19)) v28∧alc H26 (.cells #[.int .i64 0,.int .i64 0,.int .i64 0,.int .i64 0,.int .i64 0,.int .i64 0,.int .i64 0,.int .i64 0,.int .i64 0,.int .i64 0,.slice none 0 0,.slice none 0 0,.int .i64 0,.int .i64 0,.int .i64 0,.int .i64 0,.int .i64 0,.int .i64 0,.slice none 0 0] 28) fun b29 H30=>v28.size=19∧stAt H30 ⟨b29,0,none⟩ v28.toList fun H31=> ∃v32,v32.size=4∧rowIn H31 ⟨b14,0,none⟩ v32∧ ∃v33,v33.size=19∧rowIn H31 ⟨b29,0,none⟩ v33∧Try.C 9 #[.agg v32,.agg v33] H31 fun r34 H35=> ∃r36 r37,r34= .tuple #[.agg r36,.int .i64 r37]∧alc H35 (.cells #[.int .i64 0,.int .i64 0,.int .i64 0,.slice none 0 0] 33) fun b38 H39=>r36.size=4∧stAt H39 ⟨b38,0,none⟩ r36.toList fun H40=>br (r37==0) (∃v41,v41.size=4∧rowIn H40 ⟨b38,0,none⟩ v41∧v41.size=4∧stAt H40 ⟨b14,0,none⟩ v41.toList fun H42=>X24 [.int .i64 (wrap .i64 (t25+1))] H42) (X24 [.int .i64 (wrap .i64 (t25+1))] H40)) (∀X43:Kl,(∀(t44:Int) H45,(br (decide (t44<(se2l:Int))) (∃a46,se2p=some a46∧0≤t44∧t44<(se2l:Int)∧ ∃v47,v47.size=19∧rowIn H45 (.add a46 (toNat t44*19)) v47∧alc H45 (.cells #[.int .i64 0,.int .i64 0,.int .i64 0,.int .i64 0,.int .i64 0,.int .i64 0,.int .i64 0,.int .i64 0,.int .i64 0,.int .i64 0,.slice none 0 0,.slice none 0 0,.int .i64 0,.int .i64 0,.int .i64 0,.int .i64 0,.int .i64 0,.int .i64 0,.slice none 0 0] 28) fun b48 H49=>v47.size=19∧stAt H49 ⟨b48,0,none⟩ v47.toList fun H50=> ∃v51,v51.size=4∧rowIn H50 ⟨b21,0,none⟩ v51∧ ∃v52,v52.size=19∧rowIn H50 ⟨b48,0,none⟩ v52∧Try.C 9 #[.agg v51,.agg v52] H50 fun r53 H54=> ∃r55 r56,r53= .tuple #[.agg r55,.int .i64 r56]∧alc H54 (.cells #[.int .i64 0,.int .i64 0,.int .i64 0,.slice none 0 0] 33) fun b57 H58=>r55.size=4∧stAt H58 ⟨b57,0,none⟩ r55.toList fun H59=>br (r56==0) (∃v60,v60.size=4∧rowIn H59 ⟨b57,0,none⟩ v60∧v60.size=4∧stAt H59 ⟨b21,0,none⟩ v60.toList fun H61=>X43 [.int .i64 (wrap .i64 (t44+1))] H61) (X43 [.int .i64 (wrap .i64 (t44+1))] H59)) (∃v62,v62.size=4∧rowIn H45 ⟨b14,0,none⟩ v62∧Try.C 10 #[.agg v62] H45 fun r63 H64=> ∃l65,r63= .pointer l65∧br (Option.isNone l65) (R (.bool false) H64) (Try.C 11 #[.pointer l65,.int .i64 0,.int .i64 0,.int .i64 9,.int .i64 9] H64 fun r66 H67=> ∃r68p r68l r68c r69,r66= .tuple #[.slice r68p r68l r68c,.int .i64 r69]∧ ∃v70,v70.size=4∧rowIn H67 ⟨b21,0,none⟩ v70∧Try.C 20 #[.pointer l65,.agg v70] H67 fun r71 H72=>r71= .tuple #[]∧Try.C 11 #[.pointer l65,.int .i64 0,.int .i64 0,.int .i64 w3,.int .i64 h4] H72 fun r73 H74=> ∃r75p r75l r75c r76,r73= .tuple #[.slice r75p r75l r75c,.int .i64 r76]∧Try.C 18 #[.pointer l65] H74 fun r77 H78=> ∃r79,r77= .agg r79∧alc H78 (.cells #[.int .i64 0,.int .i64 0,.int .i64 0,.slice none 0 0] 33) fun b80 H81=>r79.size=4∧stAt H81 ⟨b80,0,none⟩ r79.toList fun H82=> ∃v83,v83.size=4∧rowIn H82 ⟨b14,0,none⟩ v83∧Try.C 20 #[.pointer l65,.agg v83] H82 fun r84 H85=>r84= .tuple #[]∧Try.C 11 #[.pointer l65,.int .i64 0,.int .i64 0,.int .i64 9,.int .i64 9] H85 fun r86 H87=> ∃r88p r88l r88c r89,r86= .tuple #[.slice r88p r88l r88c,.int .i64 r89]∧br (r76==0) (br (r89==0) (∃v90,v90.size=4∧rowIn H87 ⟨b21,0,none⟩ v90∧Try.C 17 #[.agg v90] H87 fun r91 H92=> ∃r93,r91= .agg r93∧ ∃P94p P94l P94c,r93[2]?=some (.slice P94p P94l P94c)∧Try.C 19 #[.slice r75p r75l r75c,.slice P94p P94l P94c] H92 fun r95 H96=> ∃r97,r95= .bool r97∧br r97 (∃v98,v98.size=4∧rowIn H96 ⟨b14,0,none⟩ v98∧Try.C 17 #[.agg v98] H96 fun r99 H100=> ∃r101,r99= .agg r101∧ ∃P102p P102l P102c,r101[2]?=some (.slice P102p P102l P102c)∧Try.C 19 #[.slice r88p r88l r88c,.slice P102p P102l P102c] H100 fun r103 H104=> ∃r105,r103= .bool r105∧br r105 (∃v106,v106.size=4∧rowIn H104 ⟨b80,0,none⟩ v106∧ ∃v107,v107.size=4∧rowIn H104 ⟨b21,0,none⟩ v107∧Try.C 21 #[.agg v106,.agg v107] H104 fun r108 H109=> ∃r110,r108= .bool r110∧br r110 (∃v111,v111.size=4∧rowIn H109 ⟨b14,0,none⟩ v111∧Try.C 18 #[.pointer l65] H109 fun r112 H113=> ∃r114,r112= .agg r114∧(Ext H109 H113∨(∃v118,v118.size=4∧rowIn H113 ⟨b14,0,none⟩ v118∧Value.agg v118= .agg v111))∧Try.C 21 #[.agg r114,.agg v111] H113 fun r115 H116=> ∃r117,r115= .bool r117∧R (.bool r117) H116) (R (.bool false) H109)) (R (.bool false) H104)) (R (.bool false) H96)) (R (.bool false) H87)) (R (.bool false) H87))))→X43 [.int .i64 t44] H45)→X43 [.int .i64 0] H26))→X24 [.int .i64 t25] H26)→X24 [.int .i64 0] H23)→J8 [] H9)→Try.C 7 #[.slice fi1p fi1l fi1c,.int .i64 10] H6 fun r119 H120=> ∃r121,r119= .bool r121∧br (!r121) (R (.bool true) H120) (Try.C 7 #[.slice se2p se2l se2c,.int .i64 10] H120 fun r122 H123=> ∃r124,r122= .bool r124∧br (!r124) (R (.bool true) H123) (br (decide (w3<1)) (R (.bool true) H123) (br (decide (h4<1)) (R (.bool true) H123) (br (decide (w3>20)) (R (.bool true) H123) (br (decide (h4>20)) (R (.bool true) H123) (J8 [] H123)))))))
def Try.p5:Plan:=(tl (tg (two (join [] [0,1,2,3] g0) (tl (tl (two (tl (one (loop [(65,3)] [1,2,3,9,11,63,64] (tl (two (tl leaf) (two (one (tl (tl (tl (tl leaf))))) leaf)))))) (two (tl (one (loop [(81,3)] [2,3,9,11,79,80] (tl (two (tl leaf) (two (one (tl (tl (tl (tl leaf))))) leaf)))))) (tl (tg (tl (tl (tl (tl (tl (tl (tl leaf))))))))))))))))
theorem Try.s5{fi1p:OA}{fi1l fi1c:Nat}{se2p:OA}{se2l se2c:Nat}{w3 h4:Int}{H R}(h:Try.S5 fi1p fi1l fi1c se2p se2l se2c w3 h4 H R):Try.C 5 #[.slice fi1p fi1l fi1c,.slice se2p se2l se2c,.int .i64 w3,.int .i64 h4] H R:=vcs Try.tab_ok Try.mixed Try.func5 Try.cal5 Try.p5 h (by kernel_rfl)
def Try.S6(H:Heap)(R:Kv):Prop:=
 Try.C 8 #[.int .i64 40,.int .i64 40] H fun r1 H2=> ∃r3 r4,r1= .tuple #[.agg r3,.int .i64 r4]∧alc H2 (.cells #[.int .i64 0,.int .i64 0,.int .i64 0,.slice none 0 0] 33) fun b5 H6=>r3.size=4∧stAt H6 ⟨b5,0,none⟩ r3.toList fun H7=> ∃v8,v8.size=4∧rowIn H7 ⟨b5,0,none⟩ v8∧Try.C 9 #[.agg v8,.agg #[.int .i64 1,.int .i64 0,.int .i64 0,.int .i64 (-1:Int),.int .i64 0,.int .i64 0,.int .i64 0,.int .i64 0,.int .i64 40,.int .i64 40,.slice none 0 0,.slice none 0 0,.int .i64 0,.int .i64 0,.int .i64 0,.int .i64 0,.int .i64 0,.int .i64 0,.slice none 0 0]] H7 fun r9 H10=> ∃r11 r12,r9= .tuple #[.agg r11,.int .i64 r12]∧r11.size=4∧stAt H10 ⟨b5,0,none⟩ r11.toList fun H13=> ∃v14,v14.size=4∧rowIn H13 ⟨b5,0,none⟩ v14∧Try.C 10 #[.agg v14] H13 fun r15 H16=> ∃l17,r15= .pointer l17∧br (Option.isNone l17)
 (R (.bool false) H16)
 (Try.C 11 #[.pointer l17,.int .i64 0,.int .i64 0,.int .i64 40,.int .i64 40] H16 fun r18 H19=> ∃r20p r20l r20c r21,r18= .tuple #[.slice r20p r20l r20c,.int .i64 r21]∧Try.C 12 #[.pointer l17] H19 fun r22 H23=> ∃a24,r22= .int .i64 a24∧Try.C 11 #[.pointer l17,.int .i64 0,.int .i64 0,.int .i64 40,.int .i64 40] H23 fun r25 H26=> ∃r27p r27l r27c r28,r25= .tuple #[.slice r27p r27l r27c,.int .i64 r28]∧Try.C 12 #[.pointer l17] H26 fun r29 H30=> ∃b31,r29= .int .i64 b31∧alc H30 (.cells #[.int .i64 255] 3) fun b32 H33=>Try.C 14 #[.pointer l17,.agg #[.int .i64 4,.int .i64 1,.int .i64 0,.int .i64 0,.int .i64 0,.int .i64 0,.int .i64 3,.int .i64 3,.int .i64 1,.int .i64 1,.slice (some ⟨b32,0,none⟩) 1 1,.slice none 0 0,.int .i64 0,.int .i64 0,.int .i64 0,.int .i64 0,.int .i64 0,.int .i64 0,.slice none 0 0]] H33 fun r34 H35=> ∃e36,r34= .int .i64 e36∧Try.C 11 #[.pointer l17,.int .i64 0,.int .i64 0,.int .i64 40,.int .i64 40] H35 fun r37 H38=> ∃r39p r39l r39c r40,r37= .tuple #[.slice r39p r39l r39c,.int .i64 r40]∧br (a24==9) (br (b31==9) (br (e36==0) (br (r40==0) (Try.C 12 #[.pointer l17] H38 fun r41 H42=> ∃r43,r41= .int .i64 r43∧br (r43==10) (br (((r39l:Int):Int)==1600) (∃a44,r39p=some a44∧0≤(123:Int)∧(123:Int)<(r39l:Int)∧ ∃v45,cell H42 (.add a44 (toNat (123:Int)*1))=some (.int .i64 v45)∧R (.bool (v45==255)) H42) (R (.bool false) H42)) (R (.bool false) H42)) (R (.bool false) H38)) (R (.bool false) H38)) (R (.bool false) H38)) (R (.bool false) H38))
def Try.p6:Plan:=(tl (tl (tl (tl (tg (tl (tl (tl (tl (tl (tl (tl leaf))))))))))))
theorem Try.s6{_u:Unit}{H R}(h:Try.S6 H R):Try.C 6 #[] H R:=vcs Try.tab_ok Try.mixed Try.func6 Try.cal6 Try.p6 h (by kernel_rfl)
def Try.S7(li1p:OA)(li1l li1c:Nat)(mo2:Int)(H:Heap)(R:Kv):Prop:=
 br (decide (((li1l:Int):Int)>mo2))
 (R (.bool false) H)
 (∀X3:Kl,(∀(t4:Int) H5,(br (decide (t4<(li1l:Int))) (∀J6:Kl,(∀H7,(X3 [.int .i64 (wrap .i64 (t4+1))] H7)→J6 [] H7)→ ∃a8,li1p=some a8∧0≤t4∧t4<(li1l:Int)∧ ∃v9,v9.size=19∧rowIn H5 (.add a8 (toNat t4*19)) v9∧alc H5 (.cells #[.int .i64 0,.int .i64 0,.int .i64 0,.int .i64 0,.int .i64 0,.int .i64 0,.int .i64 0,.int .i64 0,.int .i64 0,.int .i64 0,.slice none 0 0,.slice none 0 0,.int .i64 0,.int .i64 0,.int .i64 0,.int .i64 0,.int .i64 0,.int .i64 0,.slice none 0 0] 28) fun b10 H11=>v9.size=19∧stAt H11 ⟨b10,0,none⟩ v9.toList fun H12=> ∃P13p P13l P13c,cell H12 (.add ⟨b10,0,none⟩ 10)=some (.slice P13p P13l P13c)∧br (decide (((P13l:Int):Int)>600)) (R (.bool false) H12) (∃Sh14p Sh14l Sh14c,cell H12 (.add ⟨b10,0,none⟩ 11)=some (.slice Sh14p Sh14l Sh14c)∧br (decide (((Sh14l:Int):Int)>300)) (R (.bool false) H12) (∃Pa15p Pa15l Pa15c,cell H12 (.add ⟨b10,0,none⟩ 18)=some (.slice Pa15p Pa15l Pa15c)∧br (decide (((Pa15l:Int):Int)>100)) (R (.bool false) H12) (∃Ki16,cell H12 (.add ⟨b10,0,none⟩ 0)=some (.int .i64 Ki16)∧br (Ki16==1) (∃N17,cell H12 (.add ⟨b10,0,none⟩ 4)=some (.int .i64 N17)∧br (N17==0) (∃W18,cell H12 (.add ⟨b10,0,none⟩ 8)=some (.int .i64 W18)∧ ∃H19,cell H12 (.add ⟨b10,0,none⟩ 9)=some (.int .i64 H19)∧Try.C 22 #[.int .i64 W18,.int .i64 H19] H12 fun r20 H21=> ∃r22,r20= .bool r22∧br r22 (∃W23,cell H21 (.add ⟨b10,0,none⟩ 8)=some (.int .i64 W23)∧ ∃H24,cell H21 (.add ⟨b10,0,none⟩ 9)=some (.int .i64 H24)∧br (decide (((wrap .i64 (W23*H24)):Int)>600)) (R (.bool false) H21) (J6 [] H21)) (J6 [] H21)) (J6 [] H12)) (J6 [] H12))))) (R (.bool true) H5))→X3 [.int .i64 t4] H5)→X3 [.int .i64 0] H)
def Try.p7:Plan:=(tl (tg (two (tl (one (loop [(13,3)] [11,12] (tl (two (tl leaf) (two (join [] [11,12,13] (one (tl g0))) leaf)))))) (tl leaf))))
theorem Try.s7{li1p:OA}{li1l li1c:Nat}{mo2:Int}{H R}(h:Try.S7 li1p li1l li1c mo2 H R):Try.C 7 #[.slice li1p li1l li1c,.int .i64 mo2] H R:=vcs Try.tab_ok Try.mixed Try.func7 Try.cal7 Try.p7 h (by kernel_rfl)
def Try.S8(w1 h2:Int)(H:Heap)(R:Kv):Prop:=
 alc H (.cells #[.int .i64 0,.int .i64 0,.int .i64 0,.slice none 0 0] 33) fun b3 H4=> ∀J5:Kl,(∀H6,(#[Value.int .i64 w1,Value.int .i64 h2,Value.int .i64 1,Value.slice none 0 0].size=4∧stAt H6 ⟨b3,0,none⟩ (Array.toList #[.int .i64 w1,.int .i64 h2,.int .i64 1,.slice none 0 0]) fun H7=> ∃re8,re8.size=4∧rowIn H7 ⟨b3,0,none⟩ re8∧R (.tuple #[.agg re8,.int .i64 0]) H7)→J5 [] H6)→
 br (decide (w1<1)) (#[Value.int .i64 0,Value.int .i64 0,Value.int .i64 0,Value.slice none 0 0].size=4∧stAt H4 ⟨b3,0,none⟩ (Array.toList #[.int .i64 0,.int .i64 0,.int .i64 0,.slice none 0 0]) fun H9=> ∃re10,re10.size=4∧rowIn H9 ⟨b3,0,none⟩ re10∧R (.tuple #[.agg re10,.int .i64 31]) H9) (br (decide (h2<1)) (#[Value.int .i64 0,Value.int .i64 0,Value.int .i64 0,Value.slice none 0 0].size=4∧stAt H4 ⟨b3,0,none⟩ (Array.toList #[.int .i64 0,.int .i64 0,.int .i64 0,.slice none 0 0]) fun H11=> ∃re12,re12.size=4∧rowIn H11 ⟨b3,0,none⟩ re12∧R (.tuple #[.agg re12,.int .i64 31]) H11) (br (decide (w1>32768)) (#[Value.int .i64 0,Value.int .i64 0,Value.int .i64 0,Value.slice none 0 0].size=4∧stAt H4 ⟨b3,0,none⟩ (Array.toList #[.int .i64 0,.int .i64 0,.int .i64 0,.slice none 0 0]) fun H13=> ∃re14,re14.size=4∧rowIn H13 ⟨b3,0,none⟩ re14∧R (.tuple #[.agg re14,.int .i64 31]) H13) (br (decide (h2>32768)) (#[Value.int .i64 0,Value.int .i64 0,Value.int .i64 0,Value.slice none 0 0].size=4∧stAt H4 ⟨b3,0,none⟩ (Array.toList #[.int .i64 0,.int .i64 0,.int .i64 0,.slice none 0 0]) fun H15=> ∃re16,re16.size=4∧rowIn H15 ⟨b3,0,none⟩ re16∧R (.tuple #[.agg re16,.int .i64 31]) H15) (br (decide (((wrap .i64 (w1*h2)):Int)>4194304)) (#[Value.int .i64 0,Value.int .i64 0,Value.int .i64 0,Value.slice none 0 0].size=4∧stAt H4 ⟨b3,0,none⟩ (Array.toList #[.int .i64 0,.int .i64 0,.int .i64 0,.slice none 0 0]) fun H17=> ∃re18,re18.size=4∧rowIn H17 ⟨b3,0,none⟩ re18∧R (.tuple #[.agg re18,.int .i64 31]) H17) (J5 [] H4)))))
def Try.p8:Plan:=(tl (two (join [] [0,1,4] g0) (tl leaf)))
theorem Try.s8{w1 h2:Int}{H R}(h:Try.S8 w1 h2 H R):Try.C 8 #[.int .i64 w1,.int .i64 h2] H R:=vcs Try.tab_ok Try.mixed Try.func8 Try.cal8 Try.p8 h (by kernel_rfl)
def Try.S9(d1 e2:AV)(H:Heap)(R:Kv):Prop:=
 alc H (.cells d1 33) fun b3 H4=>alc H4 (.cells e2 28) fun b5 H6=>alc H6 (.cells #[.int .i64 0,.int .i64 0,.int .i64 0,.slice none 0 0] 33) fun b7 H8=> ∀J9:Kl,(∀(ou10:Addr) H11,(∀J12:Kl,(∀(w13:Addr) H14,(alc H14 (.cells #[.func (.func 25) #[] #[],.func (.func 26) #[] #[],.func (.func 27) #[] #[],.func (.func 28) #[] #[],.func (.func 29) #[] #[],.func (.func 30) #[] #[],.func (.func 31) #[] #[],.func (.func 32) #[] #[],.func (.func 33) #[] #[]] 69) fun b15 H16=> ∀J17:Kl,(∀H18,(∃Ki19,cell H18 (.add ⟨b5,0,none⟩ 0)=some (.int .i64 Ki19)∧ ∃a20,(some ⟨b15,0,none⟩)=some a20∧0≤(wrap .i64 (Ki19-1))∧(wrap .i64 (Ki19-1))<((9:Nat):Int)∧ ∃v21g v21x v21y,cell H18 (.add a20 (toNat (wrap .i64 (Ki19-1))*1))=some (.func (.func v21g) v21x v21y)∧ ∃v22,v22.size=21∧rowIn H18 w13 v22∧Try.C v21g (List.toArray (Array.toList v21x++[Value.agg v22]++Array.toList v21y)) H18 fun r23 H24=> ∃e25,r23= .int .i64 e25∧br (e25 != 0) (#[Value.int .i64 0,Value.int .i64 0,Value.int .i64 0,Value.slice none 0 0].size=4∧stAt H24 ⟨b7,0,none⟩ (Array.toList #[.int .i64 0,.int .i64 0,.int .i64 0,.slice none 0 0]) fun H26=> ∃re27,re27.size=4∧rowIn H26 ⟨b7,0,none⟩ re27∧R (.tuple #[.agg re27,.int .i64 e25]) H26) (∃ro28,cell H24 (.add w13 0)=some (.pointer ro28)∧ ∃a29,ro28=some a29∧ ∃Ki30p Ki30l Ki30c,cell H24 (.add a29 18)=some (.slice Ki30p Ki30l Ki30c)∧stAt H24 (.add ou10 3) [.slice Ki30p Ki30l Ki30c] fun H31=> ∃v32,v32.size=4∧rowIn H31 ou10 v32∧v32.size=4∧stAt H31 ⟨b7,0,none⟩ v32.toList fun H33=> ∃re34,re34.size=4∧rowIn H33 ⟨b7,0,none⟩ re34∧R (.tuple #[.agg re34,.int .i64 0]) H33))→J17 [] H18)→ ∃Ki35,cell H16 (.add ⟨b5,0,none⟩ 0)=some (.int .i64 Ki35)∧br (decide (Ki35<1)) (#[Value.int .i64 0,Value.int .i64 0,Value.int .i64 0,Value.slice none 0 0].size=4∧stAt H16 ⟨b7,0,none⟩ (Array.toList #[.int .i64 0,.int .i64 0,.int .i64 0,.slice none 0 0]) fun H36=> ∃re37,re37.size=4∧rowIn H36 ⟨b7,0,none⟩ re37∧R (.tuple #[.agg re37,.int .i64 41]) H36) (∃Ki38,cell H16 (.add ⟨b5,0,none⟩ 0)=some (.int .i64 Ki38)∧br (decide (Ki38>((9:Nat):Int))) (#[Value.int .i64 0,Value.int .i64 0,Value.int .i64 0,Value.slice none 0 0].size=4∧stAt H16 ⟨b7,0,none⟩ (Array.toList #[.int .i64 0,.int .i64 0,.int .i64 0,.slice none 0 0]) fun H39=> ∃re40,re40.size=4∧rowIn H39 ⟨b7,0,none⟩ re40∧R (.tuple #[.agg re40,.int .i64 41]) H39) (J17 [] H16)))→J12 [.pointer (some w13)] H14)→ ∃v41,v41.size=19∧rowIn H11 ⟨b5,0,none⟩ v41∧(Try.C 24 #[.pointer (some ou10)] H11 fun r42 H43=> ∃r44,r42= .pointer r44∧(Ext H11 H43∨(∃v49,v49.size=19∧rowIn H43 ⟨b5,0,none⟩ v49∧Value.agg v49= .agg v41))∧v41.size=19∧2+19≤21∧alc H43 (.cells #[.pointer none,.pointer none,.int .i64 0,.int .i64 0,.int .i64 0,.int .i64 0,.int .i64 0,.int .i64 0,.int .i64 0,.int .i64 0,.int .i64 0,.int .i64 0,.slice none 0 0,.slice none 0 0,.int .i64 0,.int .i64 0,.int .i64 0,.int .i64 0,.int .i64 0,.int .i64 0,.slice none 0 0] 68) fun b45 H46=>(Ext H43 H46∨(∃v48,v48.size=19∧rowIn H46 ⟨b5,0,none⟩ v48∧Value.agg v48= .agg v41))∧(List.toArray (setL [.pointer r44,.pointer (some ou10),.int .i64 0,.int .i64 0,.int .i64 0,.int .i64 0,.int .i64 0,.int .i64 0,.int .i64 0,.int .i64 0,.int .i64 0,.int .i64 0,.slice none 0 0,.slice none 0 0,.int .i64 0,.int .i64 0,.int .i64 0,.int .i64 0,.int .i64 0,.int .i64 0,.slice none 0 0] 2 v41.toList)).size=21∧stAt H46 ⟨b45,0,none⟩ (Array.toList (List.toArray (setL [.pointer r44,.pointer (some ou10),.int .i64 0,.int .i64 0,.int .i64 0,.int .i64 0,.int .i64 0,.int .i64 0,.int .i64 0,.int .i64 0,.int .i64 0,.int .i64 0,.slice none 0 0,.slice none 0 0,.int .i64 0,.int .i64 0,.int .i64 0,.int .i64 0,.int .i64 0,.int .i64 0,.slice none 0 0] 2 v41.toList))) fun H47=>J12 [.pointer (some ⟨b45,0,none⟩)] H47)∧(alc H11 (.cells #[.pointer none,.pointer none,.int .i64 0,.int .i64 0,.int .i64 0,.int .i64 0,.int .i64 0,.int .i64 0,.int .i64 0,.int .i64 0,.int .i64 0,.int .i64 0,.slice none 0 0,.slice none 0 0,.int .i64 0,.int .i64 0,.int .i64 0,.int .i64 0,.int .i64 0,.int .i64 0,.slice none 0 0] 68) fun b50 H51=>(Ext H11 H51∨(∃v57,v57.size=19∧rowIn H51 ⟨b5,0,none⟩ v57∧Value.agg v57= .agg v41))∧Try.C 24 #[.pointer (some ou10)] H51 fun r52 H53=> ∃r54,r52= .pointer r54∧(Ext H51 H53∨(∃v56,v56.size=19∧rowIn H53 ⟨b5,0,none⟩ v56∧Value.agg v56= .agg v41))∧v41.size=19∧2+19≤21∧(List.toArray (setL [.pointer r54,.pointer (some ou10),.int .i64 0,.int .i64 0,.int .i64 0,.int .i64 0,.int .i64 0,.int .i64 0,.int .i64 0,.int .i64 0,.int .i64 0,.int .i64 0,.slice none 0 0,.slice none 0 0,.int .i64 0,.int .i64 0,.int .i64 0,.int .i64 0,.int .i64 0,.int .i64 0,.slice none 0 0] 2 v41.toList)).size=21∧stAt H53 ⟨b50,0,none⟩ (Array.toList (List.toArray (setL [.pointer r54,.pointer (some ou10),.int .i64 0,.int .i64 0,.int .i64 0,.int .i64 0,.int .i64 0,.int .i64 0,.int .i64 0,.int .i64 0,.int .i64 0,.int .i64 0,.slice none 0 0,.slice none 0 0,.int .i64 0,.int .i64 0,.int .i64 0,.int .i64 0,.int .i64 0,.int .i64 0,.slice none 0 0] 2 v41.toList))) fun H55=>J12 [.pointer (some ⟨b50,0,none⟩)] H55))→J9 [.pointer (some ou10)] H11)→
 ∃W58,cell H8 (.add ⟨b3,0,none⟩ 0)=some (.int .i64 W58)∧ ∃H59,cell H8 (.add ⟨b3,0,none⟩ 1)=some (.int .i64 H59)∧ ∃Ne60,cell H8 (.add ⟨b3,0,none⟩ 2)=some (.int .i64 Ne60)∧ ∃Ki61p Ki61l Ki61c,cell H8 (.add ⟨b3,0,none⟩ 3)=some (.slice Ki61p Ki61l Ki61c)∧(Try.C 23 #[.slice Ki61p Ki61l Ki61c] H8 fun r62 H63=> ∃r64p r64l r64c,r62= .slice r64p r64l r64c∧(Ext H8 H63∨(∃Ne71,cell H63 (.add ⟨b3,0,none⟩ 2)=some (.int .i64 Ne71)∧Value.int .i64 Ne71= .int .i64 Ne60)∧(∃H72,cell H63 (.add ⟨b3,0,none⟩ 1)=some (.int .i64 H72)∧Value.int .i64 H72= .int .i64 H59)∧(∃W73,cell H63 (.add ⟨b3,0,none⟩ 0)=some (.int .i64 W73)∧Value.int .i64 W73= .int .i64 W58))∧alc H63 (.cells #[.int .i64 0,.int .i64 0,.int .i64 0,.slice none 0 0] 33) fun b65 H66=>(Ext H63 H66∨(∃Ne68,cell H66 (.add ⟨b3,0,none⟩ 2)=some (.int .i64 Ne68)∧Value.int .i64 Ne68= .int .i64 Ne60)∧(∃H69,cell H66 (.add ⟨b3,0,none⟩ 1)=some (.int .i64 H69)∧Value.int .i64 H69= .int .i64 H59)∧(∃W70,cell H66 (.add ⟨b3,0,none⟩ 0)=some (.int .i64 W70)∧Value.int .i64 W70= .int .i64 W58))∧#[Value.int .i64 W58,Value.int .i64 H59,Value.int .i64 Ne60,Value.slice r64p r64l r64c].size=4∧stAt H66 ⟨b65,0,none⟩ (Array.toList #[.int .i64 W58,.int .i64 H59,.int .i64 Ne60,.slice r64p r64l r64c]) fun H67=>J9 [.pointer (some ⟨b65,0,none⟩)] H67)∧(alc H8 (.cells #[.int .i64 0,.int .i64 0,.int .i64 0,.slice none 0 0] 33) fun b74 H75=>(Ext H8 H75∨(∃Ki83p Ki83l Ki83c,cell H75 (.add ⟨b3,0,none⟩ 3)=some (.slice Ki83p Ki83l Ki83c)∧Value.slice Ki83p Ki83l Ki83c= .slice Ki61p Ki61l Ki61c)∧(∃Ne84,cell H75 (.add ⟨b3,0,none⟩ 2)=some (.int .i64 Ne84)∧Value.int .i64 Ne84= .int .i64 Ne60)∧(∃H85,cell H75 (.add ⟨b3,0,none⟩ 1)=some (.int .i64 H85)∧Value.int .i64 H85= .int .i64 H59)∧(∃W86,cell H75 (.add ⟨b3,0,none⟩ 0)=some (.int .i64 W86)∧Value.int .i64 W86= .int .i64 W58))∧Try.C 23 #[.slice Ki61p Ki61l Ki61c] H75 fun r76 H77=> ∃r78p r78l r78c,r76= .slice r78p r78l r78c∧(Ext H75 H77∨(∃Ne80,cell H77 (.add ⟨b3,0,none⟩ 2)=some (.int .i64 Ne80)∧Value.int .i64 Ne80= .int .i64 Ne60)∧(∃H81,cell H77 (.add ⟨b3,0,none⟩ 1)=some (.int .i64 H81)∧Value.int .i64 H81= .int .i64 H59)∧(∃W82,cell H77 (.add ⟨b3,0,none⟩ 0)=some (.int .i64 W82)∧Value.int .i64 W82= .int .i64 W58))∧#[Value.int .i64 W58,Value.int .i64 H59,Value.int .i64 Ne60,Value.slice r78p r78l r78c].size=4∧stAt H77 ⟨b74,0,none⟩ (Array.toList #[.int .i64 W58,.int .i64 H59,.int .i64 Ne60,.slice r78p r78l r78c]) fun H79=>J9 [.pointer (some ⟨b74,0,none⟩)] H79)
def Try.p9:Plan:=(tl (two (join [(6,999999)] [3,4] leaf) (two (join [(7,999999)] [3,4,6] leaf) (tl (two (join [] [3,4,6,7,8] g0) (two (tl g0) (tl (tl leaf))))))))
theorem Try.s9{d1 e2:AV}{H R}(h:Try.S9 d1 e2 H R):Try.C 9 #[.agg d1,.agg e2] H R:=vcs Try.tab_ok Try.mixed Try.func9 Try.cal9 Try.p9 h (by kernel_rfl)
def Try.S10(d1:AV)(H:Heap)(R:Kv):Prop:=
 alc H (.cells d1 33) fun b2 H3=>alc H3 (.cells #[.int .i64 0,.int .i64 0,.int .i64 0,.slice none 0 0,.map none,.int .i64 0] 74) fun b4 H5=> ∃v6,v6.size=4∧rowIn H5 ⟨b2,0,none⟩ v6∧Try.C 20 #[.pointer (some ⟨b4,0,none⟩),.agg v6] H5 fun r7 H8=>r7= .tuple #[]∧R (.pointer (some ⟨b4,0,none⟩)) H8
def Try.p10:Plan:=(tl (tl (tl (tl leaf))))
theorem Try.s10{d1:AV}{H R}(h:Try.S10 d1 H R):Try.C 10 #[.agg d1] H R:=vcs Try.tab_ok Try.mixed Try.func10 Try.cal10 Try.p10 h (by kernel_rfl)
def Try.S11(l1:OA)(x2 y3 w4 h5:Int)(H:Heap)(R:Kv):Prop:=
 ∀J6:Kl,(∀H7,(0≤(wrap .i64 (w4*h5))∧(wrap .i64 (w4*h5))≤(wrap .i64 (w4*h5))∧((8:Nat):Int)*(wrap .i64 (w4*h5))≤281474976710656∧(wrap .i64 (w4*h5))≤281474976710656∧alc H7 (.cells (List.toArray (reps (toNat (wrap .i64 (w4*h5))) (Array.toList #[.int .i64 0]))) 3) fun b8 H9=> ∀X10:Kl,(∀(i11:Int) H12,(br (decide (i11<(((toNat (wrap .i64 (w4*h5))):Nat):Int))) (w4≠0∧w4≠0∧(16:Int)≠0∧(16:Int)≠0∧Try.C 34 #[.pointer l1,.int .i64 (wrap .i64 (Int.tdiv (wrap .i64 (x2+(Int.tmod i11 w4))) 16)),.int .i64 (wrap .i64 (Int.tdiv (wrap .i64 (y3+(wrap .i64 (Int.tdiv i11 w4)))) 16))] H12 fun r13 H14=> ∃t15p t15l t15c,r13= .slice t15p t15l t15c∧ ∃a16,l1=some a16∧ ∃W17,cell H14 (.add (.add a16 0) 0)=some (.int .i64 W17)∧(16:Int)≠0∧(16:Int)≠0∧(16:Int)≠0∧ ∃a18,t15p=some a18∧0≤(wrap .i64 ((wrap .i64 ((Int.tmod (wrap .i64 (y3+(wrap .i64 (Int.tdiv i11 w4)))) 16)*(min 16 (wrap .i64 (W17-(wrap .i64 ((wrap .i64 (Int.tdiv (wrap .i64 (x2+(Int.tmod i11 w4))) 16))*16)))))))+(Int.tmod (wrap .i64 (x2+(Int.tmod i11 w4))) 16)))∧(wrap .i64 ((wrap .i64 ((Int.tmod (wrap .i64 (y3+(wrap .i64 (Int.tdiv i11 w4)))) 16)*(min 16 (wrap .i64 (W17-(wrap .i64 ((wrap .i64 (Int.tdiv (wrap .i64 (x2+(Int.tmod i11 w4))) 16))*16)))))))+(Int.tmod (wrap .i64 (x2+(Int.tmod i11 w4))) 16)))<(t15l:Int)∧ ∃v19,cell H14 (.add a18 (toNat (wrap .i64 ((wrap .i64 ((Int.tmod (wrap .i64 (y3+(wrap .i64 (Int.tdiv i11 w4)))) 16)*(min 16 (wrap .i64 (W17-(wrap .i64 ((wrap .i64 (Int.tdiv (wrap .i64 (x2+(Int.tmod i11 w4))) 16))*16)))))))+(Int.tmod (wrap .i64 (x2+(Int.tmod i11 w4))) 16)))*1))=some (.int .i64 v19)∧ ∃a20,(some ⟨b8,0,none⟩)=some a20∧0≤i11∧i11<(((toNat (wrap .i64 (w4*h5))):Nat):Int)∧stAt H14 (.add a20 (toNat i11*1)) [.int .i64 v19] fun H21=>X10 [.int .i64 (wrap .i64 (i11+1))] H21) (R (.tuple #[.slice (some ⟨b8,0,none⟩) (toNat (wrap .i64 (w4*h5))) (toNat (wrap .i64 (w4*h5))),.int .i64 0]) H12))→X10 [.int .i64 i11] H12)→X10 [.int .i64 0] H9)→J6 [] H7)→
 br (decide (x2<0)) (R (.tuple #[.slice none 0 0,.int .i64 12]) H) (br (decide (y3<0)) (R (.tuple #[.slice none 0 0,.int .i64 12]) H) (br (decide (w4<0)) (R (.tuple #[.slice none 0 0,.int .i64 12]) H) (br (decide (h5<0)) (R (.tuple #[.slice none 0 0,.int .i64 12]) H) (∃a22,l1=some a22∧ ∃W23,cell H (.add (.add a22 0) 0)=some (.int .i64 W23)∧br (decide (x2>W23)) (R (.tuple #[.slice none 0 0,.int .i64 12]) H) (∃a24,l1=some a24∧ ∃H25,cell H (.add (.add a24 0) 1)=some (.int .i64 H25)∧br (decide (y3>H25)) (R (.tuple #[.slice none 0 0,.int .i64 12]) H) (∃a26,l1=some a26∧ ∃W27,cell H (.add (.add a26 0) 0)=some (.int .i64 W27)∧br (decide (w4>(wrap .i64 (W27-x2)))) (R (.tuple #[.slice none 0 0,.int .i64 12]) H) (∃a28,l1=some a28∧ ∃H29,cell H (.add (.add a28 0) 1)=some (.int .i64 H29)∧br (decide (h5>(wrap .i64 (H29-y3)))) (R (.tuple #[.slice none 0 0,.int .i64 12]) H) (J6 [] H))))))))
def Try.p11:Plan:=(tl (two (join [] [0,1,2,3,4] g0) (tl (two (tl (one (loop [(78,3)] [0,1,2,3,12,77] (tl (two (tl leaf) (two (one (tl (tl (tl (tl leaf))))) leaf)))))) (tl leaf)))))
theorem Try.s11{l1:OA}{x2 y3 w4 h5:Int}{H R}(h:Try.S11 l1 x2 y3 w4 h5 H R):Try.C 11 #[.pointer l1,.int .i64 x2,.int .i64 y3,.int .i64 w4,.int .i64 h5] H R:=vcs Try.tab_ok Try.mixed Try.func11 Try.cal11 Try.p11 h (by kernel_rfl)
def Try.S12(l1:OA)(H:Heap)(R:Kv):Prop:=
 ∃a2,l1=some a2∧ ∃la3,cell H (.add a2 5)=some (.int .i64 la3)∧R (.int .i64 la3) H
def Try.p12:Plan:=(tl (tl leaf))
theorem Try.s12{l1:OA}{H R}(h:Try.S12 l1 H R):Try.C 12 #[.pointer l1] H R:=vcs Try.tab_ok Try.mixed Try.func12 Try.cal12 Try.p12 h (by kernel_rfl)
def Try.S13(d1:AV)(id2:Int)(H:Heap)(R:Kv):Prop:=
 alc H (.cells d1 33) fun b3 H4=>alc H4 (.cells #[.int .i64 0,.int .i64 0,.bool false,.int .i64 0,.int .i64 0,.int .i64 0,.int .i64 0,.slice none 0 0,.slice none 0 0,.int .i64 0,.int .i64 0,.int .i64 0,.int .i64 0,.int .i64 0,.int .i64 0,.bool false,.int .i64 0,.slice none 0 0,.slice none 0 0] 45) fun b5 H6=>Try.C 24 #[.pointer (some ⟨b3,0,none⟩)] H6 fun r7 H8=> ∃r9,r7= .pointer r9∧Try.C 35 #[.pointer r9,.int .i64 id2] H8 fun r10 H11=> ∃r12 r13 r14,r10= .tuple #[.pointer r12,.pointer r13,.int .i64 r14]∧br (Option.isNone r12)
 (#[Value.int .i64 0,Value.int .i64 0,Value.bool false,Value.int .i64 0,Value.int .i64 0,Value.int .i64 0,Value.int .i64 0,Value.slice none 0 0,Value.slice none 0 0,Value.int .i64 0,Value.int .i64 0,Value.int .i64 0,Value.int .i64 0,Value.int .i64 0,Value.int .i64 0,Value.bool false,Value.int .i64 0,Value.slice none 0 0,Value.slice none 0 0].size=19∧stAt H11 ⟨b5,0,none⟩ (Array.toList #[.int .i64 0,.int .i64 0,.bool false,.int .i64 0,.int .i64 0,.int .i64 0,.int .i64 0,.slice none 0 0,.slice none 0 0,.int .i64 0,.int .i64 0,.int .i64 0,.int .i64 0,.int .i64 0,.int .i64 0,.bool false,.int .i64 0,.slice none 0 0,.slice none 0 0]) fun H15=> ∃re16,re16.size=19∧rowIn H15 ⟨b5,0,none⟩ re16∧R (.tuple #[.agg re16,.bool false]) H15)
 (∃a17,r12=some a17∧ ∃v18,v18.size=19∧rowIn H11 a17 v18∧Try.C 36 #[.agg v18] H11 fun r19 H20=> ∃r21,r19= .agg r21∧r21.size=19∧stAt H20 ⟨b5,0,none⟩ r21.toList fun H22=> ∃re23,re23.size=19∧rowIn H22 ⟨b5,0,none⟩ re23∧R (.tuple #[.agg re23,.bool true]) H22)
def Try.p13:Plan:=(tl (tl (tg (tl leaf))))
theorem Try.s13{d1:AV}{id2:Int}{H R}(h:Try.S13 d1 id2 H R):Try.C 13 #[.agg d1,.int .i64 id2] H R:=vcs Try.tab_ok Try.mixed Try.func13 Try.cal13 Try.p13 h (by kernel_rfl)
def Try.S14(l1:OA)(e2:AV)(H:Heap)(R:Kv):Prop:=
 alc H (.cells e2 28) fun b3 H4=> ∀J5:Kl,(∀(d6:Addr) (er7:Int) H8,(br (er7 != 0) (R (.int .i64 er7) H8) (∃a9,l1=some a9∧ ∃d10,d10.size=4∧rowIn H8 (.add a9 0) d10∧alc H8 (.cells #[.int .i64 0,.int .i64 0,.int .i64 0,.slice none 0 0] 33) fun b11 H12=>d10.size=4∧stAt H12 ⟨b11,0,none⟩ d10.toList fun H13=> ∃v14,v14.size=4∧rowIn H13 d6 v14∧ ∃a15,l1=some a15∧v14.size=4∧stAt H13 (.add a15 0) v14.toList fun H16=> ∃v17,v17.size=19∧rowIn H16 ⟨b3,0,none⟩ v17∧ ∃v18,v18.size=4∧rowIn H16 d6 v18∧Try.C 37 #[.agg v17,.agg v18] H16 fun r19 H20=> ∃id21,r19= .int .i64 id21∧ ∃v22,v22.size=4∧rowIn H20 ⟨b11,0,none⟩ v22∧Try.C 13 #[.agg v22,.int .i64 id21] H20 fun r23 H24=> ∃r25 r26,r23= .tuple #[.agg r25,.bool r26]∧alc H24 (.cells #[.int .i64 0,.int .i64 0,.bool false,.int .i64 0,.int .i64 0,.int .i64 0,.int .i64 0,.slice none 0 0,.slice none 0 0,.int .i64 0,.int .i64 0,.int .i64 0,.int .i64 0,.int .i64 0,.int .i64 0,.bool false,.int .i64 0,.slice none 0 0,.slice none 0 0] 45) fun b27 H28=>r25.size=19∧stAt H28 ⟨b27,0,none⟩ r25.toList fun H29=> ∃v30,v30.size=4∧rowIn H29 d6 v30∧Try.C 13 #[.agg v30,.int .i64 id21] H29 fun r31 H32=> ∃r33 r34,r31= .tuple #[.agg r33,.bool r34]∧alc H32 (.cells #[.int .i64 0,.int .i64 0,.bool false,.int .i64 0,.int .i64 0,.int .i64 0,.int .i64 0,.slice none 0 0,.slice none 0 0,.int .i64 0,.int .i64 0,.int .i64 0,.int .i64 0,.int .i64 0,.int .i64 0,.bool false,.int .i64 0,.slice none 0 0,.slice none 0 0] 45) fun b35 H36=>r33.size=19∧stAt H36 ⟨b35,0,none⟩ r33.toList fun H37=> ∀J38:Kl,(∀H39,(∃v40,v40.size=4∧rowIn H39 d6 v40∧Try.C 13 #[.agg v40,.int .i64 id21] H39 fun r41 H42=> ∃r43 r44,r41= .tuple #[.agg r43,.bool r44]∧alc H42 (.cells #[.int .i64 0,.int .i64 0,.bool false,.int .i64 0,.int .i64 0,.int .i64 0,.int .i64 0,.slice none 0 0,.slice none 0 0,.int .i64 0,.int .i64 0,.int .i64 0,.int .i64 0,.int .i64 0,.int .i64 0,.bool false,.int .i64 0,.slice none 0 0,.slice none 0 0] 45) fun b45 H46=>r43.size=19∧stAt H46 ⟨b45,0,none⟩ r43.toList fun H47=> ∀J48:Kl,(∀H49,(∃X50,cell H49 (.add ⟨b3,0,none⟩ 6)=some (.int .i64 X50)∧ ∃Y51,cell H49 (.add ⟨b3,0,none⟩ 7)=some (.int .i64 Y51)∧ ∃X52,cell H49 (.add ⟨b3,0,none⟩ 6)=some (.int .i64 X52)∧ ∃W53,cell H49 (.add ⟨b3,0,none⟩ 8)=some (.int .i64 W53)∧ ∃W54,cell H49 (.add ⟨b45,0,none⟩ 5)=some (.int .i64 W54)∧ ∃W55,cell H49 (.add d6 0)=some (.int .i64 W55)∧ ∃Y56,cell H49 (.add ⟨b3,0,none⟩ 7)=some (.int .i64 Y56)∧ ∃H57,cell H49 (.add ⟨b3,0,none⟩ 9)=some (.int .i64 H57)∧ ∃H58,cell H49 (.add ⟨b45,0,none⟩ 6)=some (.int .i64 H58)∧ ∃H59,cell H49 (.add d6 1)=some (.int .i64 H59)∧br (decide (((max 0 X50):Int)≥(min (min (wrap .i64 (X52+W53)) W54) W55))) (R (.int .i64 0) H49) ((16:Int)≠0∧ ∀X60:Kl,(∀(y61:Int) H62,(∀J63:Kl,(∀H64,((16:Int)≠0∧ ∀X65:Kl,(∀(x66:Int) H67,(br (decide (((wrap .i64 (x66*16)):Int)<(min (min (wrap .i64 (X52+W53)) W54) W55))) (∃a68,l1=some a68∧ ∃ti69,cell H67 (.add a68 4)=some (.map ti69)∧delQ (.arr 2 3) (.int .i64) (.map ti69) (.agg #[.int .i64 x66,.int .i64 y61]) H67 fun H70=>X65 [.int .i64 (wrap .i64 (x66+1))] H70) (X60 [.int .i64 (wrap .i64 (y61+1))] H67))→X65 [.int .i64 x66] H67)→X65 [.int .i64 (wrap .i64 (Int.tdiv (max 0 X50) 16))] H64)→J63 [] H64)→br (decide (((max 0 Y51):Int)<(min (min (wrap .i64 (Y56+H57)) H58) H59))) (br (decide (((wrap .i64 (y61*16)):Int)<(min (min (wrap .i64 (Y56+H57)) H58) H59))) (J63 [] H62) (R (.int .i64 0) H62)) (R (.int .i64 0) H62))→X60 [.int .i64 y61] H62)→X60 [.int .i64 (wrap .i64 (Int.tdiv (max 0 Y51) 16))] H49))→J48 [] H49)→ ∃Ki71,cell H47 (.add ⟨b3,0,none⟩ 0)=some (.int .i64 Ki71)∧br (Ki71 != 4) (∃a72,l1=some a72∧ ∃ti73,cell H47 (.add a72 4)=some (.map ti73)∧ ∃r74,ti73=some r74∧ ∃(es75:Array MapEntry) (c76:Nat),H47[r74]?=some (.map es75 c76)∧sto H47 r74 (.map #[] c76) fun H77=>R (.int .i64 0) H77) (∃Ma78,Ma78.size=6∧rowIn H47 (.add ⟨b45,0,none⟩ 9) Ma78∧Try.C 15 #[] H47 fun r79 H80=> ∃r81,r79= .agg r81∧(Ext H47 H80∨(∃Ma90,Ma90.size=6∧rowIn H80 (.add ⟨b45,0,none⟩ 9) Ma90∧Value.agg Ma90= .agg Ma78))∧(1=1∧ ∃as_82 bs83:List Int,as_82.length=6∧bs83.length=6∧Ma78=(as_82.map (Value.int .i64)).toArray∧r81=(bs83.map (Value.int .i64)).toArray∧br (!(decide (as_82=bs83))) (∃a84,l1=some a84∧ ∃ti85,cell H80 (.add a84 4)=some (.map ti85)∧ ∃r86,ti85=some r86∧ ∃(es87:Array MapEntry) (c88:Nat),H80[r86]?=some (.map es87 c88)∧sto H80 r86 (.map #[] c88) fun H89=>R (.int .i64 0) H89) (J48 [] H80))))→J38 [] H39)→br (!r26) (br (!r34) (R (.int .i64 0) H37) (∃v91,v91.size=4∧rowIn H37 d6 v91∧Try.C 38 #[.agg v91,.int .i64 id21] H37 fun r92 H93=> ∃r94,r92= .bool r94∧br r94 (R (.int .i64 0) H93) (J38 [] H93))) (∃v95,v95.size=4∧rowIn H37 ⟨b11,0,none⟩ v95∧Try.C 38 #[.agg v95,.int .i64 id21] H37 fun r96 H97=> ∃r98,r96= .bool r98∧br r98 (br (!r34) (R (.int .i64 0) H97) (∃v99,v99.size=4∧rowIn H97 d6 v99∧Try.C 38 #[.agg v99,.int .i64 id21] H97 fun r100 H101=> ∃r102,r100= .bool r102∧br r102 (R (.int .i64 0) H101) (J38 [] H101))) (J38 [] H97))))→J5 [.pointer (some d6),.int .i64 er7] H8)→
 ∃a103,l1=some a103∧ ∃d104,d104.size=4∧rowIn H4 (.add a103 0) d104∧ ∃v105,v105.size=19∧rowIn H4 ⟨b3,0,none⟩ v105∧(Try.C 9 #[.agg d104,.agg v105] H4 fun r106 H107=> ∃r108 r109,r106= .tuple #[.agg r108,.int .i64 r109]∧alc H107 (.cells #[.int .i64 0,.int .i64 0,.int .i64 0,.slice none 0 0] 33) fun b110 H111=>r108.size=4∧stAt H111 ⟨b110,0,none⟩ r108.toList fun H112=>J5 [.pointer (some ⟨b110,0,none⟩),.int .i64 r109] H112)∧(alc H4 (.cells #[.int .i64 0,.int .i64 0,.int .i64 0,.slice none 0 0] 33) fun b113 H114=>(Ext H4 H114∨(∃v120,v120.size=19∧rowIn H114 ⟨b3,0,none⟩ v120∧Value.agg v120= .agg v105)∧(∃d121,d121.size=4∧rowIn H114 (.add a103 0) d121∧Value.agg d121= .agg d104))∧Try.C 9 #[.agg d104,.agg v105] H114 fun r115 H116=> ∃r117 r118,r115= .tuple #[.agg r117,.int .i64 r118]∧r117.size=4∧stAt H116 ⟨b113,0,none⟩ r117.toList fun H119=>J5 [.pointer (some ⟨b113,0,none⟩),.int .i64 r118] H119)
def Try.p14:Plan:=(tl (two (join [(5,999999),(6,34)] [0,3] leaf) (tg (tl (tl (tl (tl (tl (two (join [] [0,3,5,8] g0) (tl (two (join [] [0,3,5,13] (tl (two (tl (tl leaf)) leaf))) (tl (tl (tg (two (tl (one (loop [(19,3)] [0,15,16,17,18] (two (join [] [0,15,16,17,18,19] (tl (tl leaf))) (two (one (tl (one (loop [(20,3)] [0,15,16,17,18,19] (two (tl (tl leaf)) (two (one leaf) leaf)))))) leaf))))) (tl leaf))))))))))))))))
theorem Try.s14{l1:OA}{e2:AV}{H R}(h:Try.S14 l1 e2 H R):Try.C 14 #[.pointer l1,.agg e2] H R:=vcs Try.tab_ok Try.mixed Try.func14 Try.cal14 Try.p14 h (by kernel_rfl)
def Try.S15(H:Heap)(R:Kv):Prop:=
 alc H (.cells #[.int .i64 0,.int .i64 0,.int .i64 0,.int .i64 0,.int .i64 0,.int .i64 0] 26) fun b1 H2=>#[Value.int .i64 65536,Value.int .i64 0,Value.int .i64 0,Value.int .i64 65536,Value.int .i64 0,Value.int .i64 0].size=6∧stAt H2 ⟨b1,0,none⟩ (Array.toList #[.int .i64 65536,.int .i64 0,.int .i64 0,.int .i64 65536,.int .i64 0,.int .i64 0]) fun H3=> ∃re4,re4.size=6∧rowIn H3 ⟨b1,0,none⟩ re4∧R (.agg re4) H3
def Try.p15:Plan:=(tl (tl leaf))
theorem Try.s15{_u:Unit}{H R}(h:Try.S15 H R):Try.C 15 #[] H R:=vcs Try.tab_ok Try.mixed Try.func15 Try.cal15 Try.p15 h (by kernel_rfl)
end Go.Proofs
namespace Go.Proofs
open Go.Sh Go.Sh.Plan
open Go.IntKind (wrap)
open Int (toNat)
def Try.S17(d1:AV)(H:Heap)(R:Kv):Prop:=
 alc H (.cells d1 33) fun b2 H3=>alc H3 (.cells #[.int .i64 0,.int .i64 0,.slice none 0 0] 54) fun b4 H5=> ∃v6,v6.size=4∧rowIn H5 ⟨b2,0,none⟩ v6∧ ∃W7,cell H5 (.add ⟨b2,0,none⟩ 0)=some (.int .i64 W7)∧ ∃H8,cell H5 (.add ⟨b2,0,none⟩ 1)=some (.int .i64 H8)∧Try.C 39 #[.agg v6,.int .i64 0,.int .i64 0,.int .i64 W7,.int .i64 H8] H5 fun r9 H10=> ∃r11p r11l r11c r12,r9= .tuple #[.slice r11p r11l r11c,.int .i64 r12]∧ ∃W13,cell H10 (.add ⟨b2,0,none⟩ 0)=some (.int .i64 W13)∧ ∃H14,cell H10 (.add ⟨b2,0,none⟩ 1)=some (.int .i64 H14)∧#[Value.int .i64 W13,Value.int .i64 H14,Value.slice r11p r11l r11c].size=3∧stAt H10 ⟨b4,0,none⟩ (Array.toList #[.int .i64 W13,.int .i64 H14,.slice r11p r11l r11c]) fun H15=> ∃re16,re16.size=3∧rowIn H15 ⟨b4,0,none⟩ re16∧R (.agg re16) H15
def Try.p17:Plan:=(tl (tl (tl leaf)))
theorem Try.s17{d1:AV}{H R}(h:Try.S17 d1 H R):Try.C 17 #[.agg d1] H R:=vcs Try.tab_ok Try.mixed Try.func17 Try.cal17 Try.p17 h (by kernel_rfl)
def Try.S18(l1:OA)(H:Heap)(R:Kv):Prop:=
 alc H (.cells #[.int .i64 0,.int .i64 0,.int .i64 0,.slice none 0 0] 33) fun b2 H3=> ∃a4,l1=some a4∧ ∃d5,d5.size=4∧rowIn H3 (.add a4 0) d5∧Try.C 40 #[.agg d5] H3 fun r6 H7=> ∃r8,r6= .agg r8∧r8.size=4∧stAt H7 ⟨b2,0,none⟩ r8.toList fun H9=> ∃re10,re10.size=4∧rowIn H9 ⟨b2,0,none⟩ re10∧R (.agg re10) H9
def Try.p18:Plan:=(tl (tl leaf))
theorem Try.s18{l1:OA}{H R}(h:Try.S18 l1 H R):Try.C 18 #[.pointer l1] H R:=vcs Try.tab_ok Try.mixed Try.func18 Try.cal18 Try.p18 h (by kernel_rfl)
def Try.S19(a1p:OA)(a1l a1c:Nat)(b2p:OA)(b2l b2c:Nat)(H:Heap)(R:Kv):Prop:=
 br (((a1l:Int):Int) != (b2l:Int))
 (R (.bool false) H)
 (∀X3:Kl,(∀(i4:Int) H5,(br (decide (i4<(a1l:Int))) (∃a6,a1p=some a6∧0≤i4∧i4<(a1l:Int)∧ ∃v7,cell H5 (.add a6 (toNat i4*1))=some (.int .i64 v7)∧ ∃a8,b2p=some a8∧0≤i4∧i4<(b2l:Int)∧ ∃v9,cell H5 (.add a8 (toNat i4*1))=some (.int .i64 v9)∧br (v7 != v9) (R (.bool false) H5) (X3 [.int .i64 (wrap .i64 (i4+1))] H5)) (R (.bool true) H5))→X3 [.int .i64 i4] H5)→X3 [.int .i64 0] H)
def Try.p19:Plan:=(tl (tg (two (tl (one (loop [(14,3)] [1,12,13] (tl (two (tl leaf) (two (one (tl g0)) leaf)))))) (tl leaf))))
theorem Try.s19{a1p:OA}{a1l a1c:Nat}{b2p:OA}{b2l b2c:Nat}{H R}(h:Try.S19 a1p a1l a1c b2p b2l b2c H R):Try.C 19 #[.slice a1p a1l a1c,.slice b2p b2l b2c] H R:=vcs Try.tab_ok Try.mixed Try.func19 Try.cal19 Try.p19 h (by kernel_rfl)
def Try.S20(l1:OA)(d2:AV)(H:Heap)(R:Kv):Prop:=
 alc H (.cells d2 33) fun b3 H4=> ∃v5,v5.size=4∧rowIn H4 ⟨b3,0,none⟩ v5∧Try.C 40 #[.agg v5] H4 fun r6 H7=> ∃r8,r6= .agg r8∧alc H7 (.map #[] 0) fun b9 H10=> ∃a11,l1=some a11∧r8.size=4∧stAt H10 (.add a11 0) r8.toList fun H12=> ∃a13,l1=some a13∧stAt H12 (.add a13 4) [.map (some b9)] fun H14=>R (.tuple #[]) H14
def Try.p20:Plan:=(tl leaf)
theorem Try.s20{l1:OA}{d2:AV}{H R}(h:Try.S20 l1 d2 H R):Try.C 20 #[.pointer l1,.agg d2] H R:=vcs Try.tab_ok Try.mixed Try.func20 Try.cal20 Try.p20 h (by kernel_rfl)
def Try.S21(d1 o2:AV)(H:Heap)(R:Kv):Prop:=
 alc H (.cells d1 33) fun b3 H4=>alc H4 (.cells o2 33) fun b5 H6=> ∃W7,cell H6 (.add ⟨b3,0,none⟩ 0)=some (.int .i64 W7)∧ ∃W8,cell H6 (.add ⟨b5,0,none⟩ 0)=some (.int .i64 W8)∧br (W7==W8) (∃H9,cell H6 (.add ⟨b3,0,none⟩ 1)=some (.int .i64 H9)∧ ∃H10,cell H6 (.add ⟨b5,0,none⟩ 1)=some (.int .i64 H10)∧br (H9==H10) (∃Ne11,cell H6 (.add ⟨b3,0,none⟩ 2)=some (.int .i64 Ne11)∧ ∃Ne12,cell H6 (.add ⟨b5,0,none⟩ 2)=some (.int .i64 Ne12)∧br (Ne11==Ne12) (∃Ki13p Ki13l Ki13c,cell H6 (.add ⟨b3,0,none⟩ 3)=some (.slice Ki13p Ki13l Ki13c)∧ ∃Ki14p Ki14l Ki14c,cell H6 (.add ⟨b5,0,none⟩ 3)=some (.slice Ki14p Ki14l Ki14c)∧Try.C 41 #[.slice Ki13p Ki13l Ki13c,.slice Ki14p Ki14l Ki14c,.func (.func 42) #[] #[]] H6 fun r15 H16=> ∃r17,r15= .bool r17∧R (.bool r17) H16) (R (.bool false) H6)) (R (.bool false) H6)) (R (.bool false) H6)
def Try.p21:Plan:=(tl (tl leaf))
theorem Try.s21{d1 o2:AV}{H R}(h:Try.S21 d1 o2 H R):Try.C 21 #[.agg d1,.agg o2] H R:=vcs Try.tab_ok Try.mixed Try.func21 Try.cal21 Try.p21 h (by kernel_rfl)
def Try.S22(w1 h2:Int)(H:Heap)(R:Kv):Prop:=
 br (decide (w1≥1)) (br (decide (h2≥1)) (br (decide (w1≤32768)) (br (decide (h2≤32768)) (R (.bool (decide (((wrap .i64 (w1*h2)):Int)≤4194304))) H) (R (.bool false) H)) (R (.bool false) H)) (R (.bool false) H)) (R (.bool false) H)
def Try.p22:Plan:=(tl (tl leaf))
theorem Try.s22{w1 h2:Int}{H R}(h:Try.S22 w1 h2 H R):Try.C 22 #[.int .i64 w1,.int .i64 h2] H R:=vcs Try.tab_ok Try.mixed Try.func22 Try.cal22 Try.p22 h (by kernel_rfl)
def Try.S23(li1p:OA)(li1l li1c:Nat)(H:Heap)(R:Kv):Prop:=
 ∀X2:Kl,(∀(ou3p:OA) (ou3l ou3c:Nat) (t4:Int) H5,(br (decide (t4<(li1l:Int))) (∃a6,li1p=some a6∧0≤t4∧t4<(li1l:Int)∧ ∃v7,v7.size=19∧rowIn H5 (.add a6 (toNat t4*19)) v7∧alc H5 (.cells #[.int .i64 0,.int .i64 0,.bool false,.int .i64 0,.int .i64 0,.int .i64 0,.int .i64 0,.slice none 0 0,.slice none 0 0,.int .i64 0,.int .i64 0,.int .i64 0,.int .i64 0,.int .i64 0,.int .i64 0,.bool false,.int .i64 0,.slice none 0 0,.slice none 0 0] 45) fun b8 H9=>v7.size=19∧stAt H9 ⟨b8,0,none⟩ v7.toList fun H10=> ∃v11,v11.size=19∧rowIn H10 ⟨b8,0,none⟩ v11∧Try.C 36 #[.agg v11] H10 fun r12 H13=> ∃r14,r12= .agg r14∧r14.size=19∧0+19≤19∧alc H13 (.cells (List.toArray (setL [.int .i64 0,.int .i64 0,.bool false,.int .i64 0,.int .i64 0,.int .i64 0,.int .i64 0,.slice none 0 0,.slice none 0 0,.int .i64 0,.int .i64 0,.int .i64 0,.int .i64 0,.int .i64 0,.int .i64 0,.bool false,.int .i64 0,.slice none 0 0,.slice none 0 0] 0 r14.toList)) 45) fun b15 H16=>appQ 19 216 #[.int .i64 0,.int .i64 0,.bool false,.int .i64 0,.int .i64 0,.int .i64 0,.int .i64 0,.slice none 0 0,.slice none 0 0,.int .i64 0,.int .i64 0,.int .i64 0,.int .i64 0,.int .i64 0,.int .i64 0,.bool false,.int .i64 0,.slice none 0 0,.slice none 0 0] H16 ou3p ou3l ou3c (some ⟨b15,0,none⟩) 1 45 fun ou17p ou17l ou17c H18=>X2 [.slice ou17p ou17l ou17c,.int .i64 (wrap .i64 (t4+1))] H18) (R (.slice ou3p ou3l ou3c) H5))→X2 [.slice ou3p ou3l ou3c,.int .i64 t4] H5)→X2 [.slice none 0 0,.int .i64 0] H
def Try.p23:Plan:=(tl (tl (two (tl (one (loop [(3,31),(8,3)] [6,7] (tl (two (tl leaf) (two (one (tl leaf)) leaf)))))) (tl leaf))))
theorem Try.s23{li1p:OA}{li1l li1c:Nat}{H R}(h:Try.S23 li1p li1l li1c H R):Try.C 23 #[.slice li1p li1l li1c] H R:=vcs Try.tab_ok Try.mixed Try.func23 Try.cal23 Try.p23 h (by kernel_rfl)
def Try.S24(d1:OA)(H:Heap)(R:Kv):Prop:=
 ∃a2,d1=some a2∧ ∃Ki3p Ki3l Ki3c,cell H (.add a2 3)=some (.slice Ki3p Ki3l Ki3c)∧alc H (.cells #[.int .i64 0,.int .i64 1,.bool false,.int .i64 0,.int .i64 0,.int .i64 0,.int .i64 0,.slice none 0 0,.slice none 0 0,.int .i64 0,.int .i64 0,.int .i64 0,.int .i64 0,.int .i64 0,.int .i64 0,.bool false,.int .i64 0,.slice none 0 0,.slice Ki3p Ki3l Ki3c] 45) fun b4 H5=>R (.pointer (some ⟨b4,0,none⟩)) H5
def Try.p24:Plan:=(tl (tl leaf))
theorem Try.s24{d1:OA}{H R}(h:Try.S24 d1 H R):Try.C 24 #[.pointer d1] H R:=vcs Try.tab_ok Try.mixed Try.func24 Try.cal24 Try.p24 h (by kernel_rfl)
def Try.S25(w1:AV)(H:Heap)(R:Kv):Prop:=
 alc H (.cells w1 68) fun b2 H3=> ∀J4:Kl,(∀(l5:Addr) H6,(∀J7:Kl,(∀H8,(∀J9:Kl,(∀H10,(∃v11,v11.size=21∧rowIn H10 ⟨b2,0,none⟩ v11∧Try.C 43 #[.agg v11] H10 fun r12 H13=> ∃r14 r15,r12= .tuple #[.pointer r14,.int .i64 r15]∧br (r15 != 0) (R (.int .i64 r15) H13) (∃ro16,cell H13 (.add ⟨b2,0,none⟩ 0)=some (.pointer ro16)∧ ∃a17,ro16=some a17∧ ∃Ki18p Ki18l Ki18c,cell H13 (.add a17 18)=some (.slice Ki18p Ki18l Ki18c)∧Try.C 44 #[.slice Ki18p Ki18l Ki18c] H13 fun r19 H20=> ∃n21,r19= .int .i64 n21∧ ∃v22,v22.size=21∧rowIn H20 ⟨b2,0,none⟩ v22∧ ∃v23,v23.size=19∧rowIn H20 l5 v23∧Try.C 45 #[.agg v22,.pointer r14,.agg v23] H20 fun r24 H25=> ∃e26,r24= .int .i64 e26∧br (e26 != 0) (R (.int .i64 e26) H25) (br (decide (n21≥4096)) (R (.int .i64 31) H25) (∃d27,cell H25 (.add ⟨b2,0,none⟩ 1)=some (.pointer d27)∧ ∃a28,d27=some a28∧ ∃Ne29,cell H25 (.add a28 2)=some (.int .i64 Ne29)∧ ∃a30,d27=some a30∧stAt H25 (.add a30 2) [.int .i64 (wrap .i64 (Ne29+1))] fun H31=>R (.int .i64 0) H31))))→J9 [] H10)→ ∃Ki32,cell H8 (.add l5 1)=some (.int .i64 Ki32)∧br (Ki32==0) (∃W33,cell H8 (.add (.add ⟨b2,0,none⟩ 2) 8)=some (.int .i64 W33)∧ ∃H34,cell H8 (.add (.add ⟨b2,0,none⟩ 2) 9)=some (.int .i64 H34)∧Try.C 8 #[.int .i64 W33,.int .i64 H34] H8 fun r35 H36=> ∃r37 r38,r35= .tuple #[.agg r37,.int .i64 r38]∧alc H36 (.cells #[.int .i64 0,.int .i64 0,.int .i64 0,.slice none 0 0] 33) fun b39 H40=>r37.size=4∧stAt H40 ⟨b39,0,none⟩ r37.toList fun H41=>br (r38 != 0) (R (.int .i64 r38) H41) (∃W42,cell H41 (.add ⟨b39,0,none⟩ 0)=some (.int .i64 W42)∧ ∃H43,cell H41 (.add ⟨b39,0,none⟩ 1)=some (.int .i64 H43)∧ ∃W44,cell H41 (.add ⟨b39,0,none⟩ 0)=some (.int .i64 W44)∧ ∃H45,cell H41 (.add ⟨b39,0,none⟩ 1)=some (.int .i64 H45)∧(0≤(wrap .i64 (W44*H45))∧(wrap .i64 (W44*H45))≤(wrap .i64 (W44*H45))∧((8:Nat):Int)*(wrap .i64 (W44*H45))≤281474976710656∧(wrap .i64 (W44*H45))≤281474976710656∧alc H41 (.cells (List.toArray (reps (toNat (wrap .i64 (W44*H45))) (Array.toList #[.int .i64 0]))) 3) fun b46 H47=>(Ext H41 H47∨(∃H52,cell H47 (.add ⟨b39,0,none⟩ 1)=some (.int .i64 H52)∧Value.int .i64 H52= .int .i64 H43)∧(∃W53,cell H47 (.add ⟨b39,0,none⟩ 0)=some (.int .i64 W53)∧Value.int .i64 W53= .int .i64 W42))∧stAt H47 (.add l5 5) [.int .i64 W42] fun H48=>(Ext H47 H48∨(∃H51,cell H48 (.add ⟨b39,0,none⟩ 1)=some (.int .i64 H51)∧Value.int .i64 H51= .int .i64 H43))∧stAt H48 (.add l5 6) [.int .i64 H43] fun H49=>stAt H49 (.add l5 7) [.slice (some ⟨b46,0,none⟩) (toNat (wrap .i64 (W44*H45))) (toNat (wrap .i64 (W44*H45)))] fun H50=>J9 [] H50)∧(stAt H41 (.add l5 5) [.int .i64 W42] fun H54=>(Ext H41 H54∨(∃H66,cell H54 (.add ⟨b39,0,none⟩ 1)=some (.int .i64 H66)∧Value.int .i64 H66= .int .i64 H45)∧(∃W67,cell H54 (.add ⟨b39,0,none⟩ 0)=some (.int .i64 W67)∧Value.int .i64 W67= .int .i64 W44)∧(∃H68,cell H54 (.add ⟨b39,0,none⟩ 1)=some (.int .i64 H68)∧Value.int .i64 H68= .int .i64 H43))∧(0≤(wrap .i64 (W44*H45))∧(wrap .i64 (W44*H45))≤(wrap .i64 (W44*H45))∧((8:Nat):Int)*(wrap .i64 (W44*H45))≤281474976710656∧(wrap .i64 (W44*H45))≤281474976710656∧alc H54 (.cells (List.toArray (reps (toNat (wrap .i64 (W44*H45))) (Array.toList #[.int .i64 0]))) 3) fun b55 H56=>(Ext H54 H56∨(∃H59,cell H56 (.add ⟨b39,0,none⟩ 1)=some (.int .i64 H59)∧Value.int .i64 H59= .int .i64 H43))∧stAt H56 (.add l5 6) [.int .i64 H43] fun H57=>stAt H57 (.add l5 7) [.slice (some ⟨b55,0,none⟩) (toNat (wrap .i64 (W44*H45))) (toNat (wrap .i64 (W44*H45)))] fun H58=>J9 [] H58)∧(stAt H54 (.add l5 6) [.int .i64 H43] fun H60=>(Ext H54 H60∨(∃H64,cell H60 (.add ⟨b39,0,none⟩ 1)=some (.int .i64 H64)∧Value.int .i64 H64= .int .i64 H45)∧(∃W65,cell H60 (.add ⟨b39,0,none⟩ 0)=some (.int .i64 W65)∧Value.int .i64 W65= .int .i64 W44))∧0≤(wrap .i64 (W44*H45))∧(wrap .i64 (W44*H45))≤(wrap .i64 (W44*H45))∧((8:Nat):Int)*(wrap .i64 (W44*H45))≤281474976710656∧(wrap .i64 (W44*H45))≤281474976710656∧alc H60 (.cells (List.toArray (reps (toNat (wrap .i64 (W44*H45))) (Array.toList #[.int .i64 0]))) 3) fun b61 H62=>stAt H62 (.add l5 7) [.slice (some ⟨b61,0,none⟩) (toNat (wrap .i64 (W44*H45))) (toNat (wrap .i64 (W44*H45)))] fun H63=>J9 [] H63)))) (J9 [] H8))→J7 [] H8)→ ∃Ki69,cell H6 (.add l5 1)=some (.int .i64 Ki69)∧br (decide (Ki69<0)) (R (.int .i64 41) H6) (∃Ki70,cell H6 (.add l5 1)=some (.int .i64 Ki70)∧br (decide (Ki70>2)) (R (.int .i64 41) H6) (J7 [] H6)))→J4 [.pointer (some l5)] H6)→
 ∃d71,cell H3 (.add ⟨b2,0,none⟩ 1)=some (.pointer d71)∧ ∃a72,d71=some a72∧ ∃Ne73,cell H3 (.add a72 2)=some (.int .i64 Ne73)∧ ∃N74,cell H3 (.add (.add ⟨b2,0,none⟩ 2) 4)=some (.int .i64 N74)∧(Try.C 15 #[] H3 fun r75 H76=> ∃r77,r75= .agg r77∧(Ext H3 H76∨(∃N84,cell H76 (.add (.add ⟨b2,0,none⟩ 2) 4)=some (.int .i64 N84)∧Value.int .i64 N84= .int .i64 N74)∧(∃Ne85,cell H76 (.add a72 2)=some (.int .i64 Ne85)∧Value.int .i64 Ne85= .int .i64 Ne73)∧(∃d86,cell H76 (.add ⟨b2,0,none⟩ 1)=some (.pointer d86)∧Value.pointer d86= .pointer d71))∧r77.size=6∧9+6≤19∧alc H76 (.cells #[.int .i64 0,.int .i64 0,.bool false,.int .i64 0,.int .i64 0,.int .i64 0,.int .i64 0,.slice none 0 0,.slice none 0 0,.int .i64 0,.int .i64 0,.int .i64 0,.int .i64 0,.int .i64 0,.int .i64 0,.bool false,.int .i64 0,.slice none 0 0,.slice none 0 0] 45) fun b78 H79=>(Ext H76 H79∨(∃N81,cell H79 (.add (.add ⟨b2,0,none⟩ 2) 4)=some (.int .i64 N81)∧Value.int .i64 N81= .int .i64 N74)∧(∃Ne82,cell H79 (.add a72 2)=some (.int .i64 Ne82)∧Value.int .i64 Ne82= .int .i64 Ne73)∧(∃d83,cell H79 (.add ⟨b2,0,none⟩ 1)=some (.pointer d83)∧Value.pointer d83= .pointer d71))∧(List.toArray (List.set (setL [.int .i64 Ne73,.int .i64 N74,.bool false,.int .i64 255,.int .i64 0,.int .i64 0,.int .i64 0,.slice none 0 0,.slice none 0 0,.int .i64 0,.int .i64 0,.int .i64 0,.int .i64 0,.int .i64 0,.int .i64 0,.bool false,.int .i64 0,.slice none 0 0,.slice none 0 0] 9 r77.toList) 16 (.int .i64 2))).size=19∧stAt H79 ⟨b78,0,none⟩ (Array.toList (List.toArray (List.set (setL [.int .i64 Ne73,.int .i64 N74,.bool false,.int .i64 255,.int .i64 0,.int .i64 0,.int .i64 0,.slice none 0 0,.slice none 0 0,.int .i64 0,.int .i64 0,.int .i64 0,.int .i64 0,.int .i64 0,.int .i64 0,.bool false,.int .i64 0,.slice none 0 0,.slice none 0 0] 9 r77.toList) 16 (.int .i64 2)))) fun H80=>J4 [.pointer (some ⟨b78,0,none⟩)] H80)∧(alc H3 (.cells #[.int .i64 0,.int .i64 0,.bool false,.int .i64 0,.int .i64 0,.int .i64 0,.int .i64 0,.slice none 0 0,.slice none 0 0,.int .i64 0,.int .i64 0,.int .i64 0,.int .i64 0,.int .i64 0,.int .i64 0,.bool false,.int .i64 0,.slice none 0 0,.slice none 0 0] 45) fun b87 H88=>(Ext H3 H88∨(∃N96,cell H88 (.add (.add ⟨b2,0,none⟩ 2) 4)=some (.int .i64 N96)∧Value.int .i64 N96= .int .i64 N74)∧(∃Ne97,cell H88 (.add a72 2)=some (.int .i64 Ne97)∧Value.int .i64 Ne97= .int .i64 Ne73)∧(∃d98,cell H88 (.add ⟨b2,0,none⟩ 1)=some (.pointer d98)∧Value.pointer d98= .pointer d71))∧Try.C 15 #[] H88 fun r89 H90=> ∃r91,r89= .agg r91∧(Ext H88 H90∨(∃N93,cell H90 (.add (.add ⟨b2,0,none⟩ 2) 4)=some (.int .i64 N93)∧Value.int .i64 N93= .int .i64 N74)∧(∃Ne94,cell H90 (.add a72 2)=some (.int .i64 Ne94)∧Value.int .i64 Ne94= .int .i64 Ne73)∧(∃d95,cell H90 (.add ⟨b2,0,none⟩ 1)=some (.pointer d95)∧Value.pointer d95= .pointer d71))∧r91.size=6∧9+6≤19∧(List.toArray (List.set (setL [.int .i64 Ne73,.int .i64 N74,.bool false,.int .i64 255,.int .i64 0,.int .i64 0,.int .i64 0,.slice none 0 0,.slice none 0 0,.int .i64 0,.int .i64 0,.int .i64 0,.int .i64 0,.int .i64 0,.int .i64 0,.bool false,.int .i64 0,.slice none 0 0,.slice none 0 0] 9 r91.toList) 16 (.int .i64 2))).size=19∧stAt H90 ⟨b87,0,none⟩ (Array.toList (List.toArray (List.set (setL [.int .i64 Ne73,.int .i64 N74,.bool false,.int .i64 255,.int .i64 0,.int .i64 0,.int .i64 0,.slice none 0 0,.slice none 0 0,.int .i64 0,.int .i64 0,.int .i64 0,.int .i64 0,.int .i64 0,.int .i64 0,.bool false,.int .i64 0,.slice none 0 0,.slice none 0 0] 9 r91.toList) 16 (.int .i64 2)))) fun H92=>J4 [.pointer (some ⟨b87,0,none⟩)] H92)
def Try.p25:Plan:=(tl (two (join [(3,999999)] [1] leaf) (two (join [] [1,3] g0) (two (join [] [1,3] (tl (two (tl (tg leaf)) leaf))) (tl (tg (tl (two (tl g0) (tg (tl (tl leaf)))))))))))
theorem Try.s25{w1:AV}{H R}(h:Try.S25 w1 H R):Try.C 25 #[.agg w1] H R:=vcs Try.tab_ok Try.mixed Try.func25 Try.cal25 Try.p25 h (by kernel_rfl)
def Try.S26(w1:AV)(H:Heap)(R:Kv):Prop:=
 alc H (.cells w1 68) fun b2 H3=> ∃ro4,cell H3 (.add ⟨b2,0,none⟩ 0)=some (.pointer ro4)∧ ∃ID5,cell H3 (.add (.add ⟨b2,0,none⟩ 2) 1)=some (.int .i64 ID5)∧Try.C 35 #[.pointer ro4,.int .i64 ID5] H3 fun r6 H7=> ∃r8 r9 r10,r6= .tuple #[.pointer r8,.pointer r9,.int .i64 r10]∧br (Option.isNone r8)
 (R (.int .i64 40) H7)
 (∃a11,r9=some a11∧ ∃Ki12p Ki12l Ki12c,cell H7 (.add a11 18)=some (.slice Ki12p Ki12l Ki12c)∧Try.C 46 #[.slice Ki12p Ki12l Ki12c,.int .i64 r10,.int .i64 (wrap .i64 (r10+1))] H7 fun r13 H14=> ∃r15p r15l r15c,r13= .slice r15p r15l r15c∧ ∃a16,r9=some a16∧stAt H14 (.add a16 18) [.slice r15p r15l r15c] fun H17=>R (.int .i64 0) H17)
def Try.p26:Plan:=(tl (tl (tg (tl (tl leaf)))))
theorem Try.s26{w1:AV}{H R}(h:Try.S26 w1 H R):Try.C 26 #[.agg w1] H R:=vcs Try.tab_ok Try.mixed Try.func26 Try.cal26 Try.p26 h (by kernel_rfl)
def Try.S27(w1:AV)(H:Heap)(R:Kv):Prop:=
 alc H (.cells w1 68) fun b2 H3=> ∃ro4,cell H3 (.add ⟨b2,0,none⟩ 0)=some (.pointer ro4)∧ ∃ID5,cell H3 (.add (.add ⟨b2,0,none⟩ 2) 1)=some (.int .i64 ID5)∧Try.C 35 #[.pointer ro4,.int .i64 ID5] H3 fun r6 H7=> ∃r8 r9 r10,r6= .tuple #[.pointer r8,.pointer r9,.int .i64 r10]∧br (Option.isNone r8)
 (R (.int .i64 40) H7)
 (∃v11,v11.size=21∧rowIn H7 ⟨b2,0,none⟩ v11∧Try.C 43 #[.agg v11] H7 fun r12 H13=> ∃r14 r15,r12= .tuple #[.pointer r14,.int .i64 r15]∧br (r15 != 0) (R (.int .i64 r15) H13) (∀J16:Kl,(∀H17,(∃a18,r8=some a18∧ ∃v19,v19.size=19∧rowIn H17 a18 v19∧alc H17 (.cells #[.int .i64 0,.int .i64 0,.bool false,.int .i64 0,.int .i64 0,.int .i64 0,.int .i64 0,.slice none 0 0,.slice none 0 0,.int .i64 0,.int .i64 0,.int .i64 0,.int .i64 0,.int .i64 0,.int .i64 0,.bool false,.int .i64 0,.slice none 0 0,.slice none 0 0] 45) fun b20 H21=>v19.size=19∧stAt H21 ⟨b20,0,none⟩ v19.toList fun H22=> ∃v23,v23.size=21∧rowIn H22 ⟨b2,0,none⟩ v23∧Try.C 26 #[.agg v23] H22 fun r24 H25=> ∃r26,r24= .int .i64 r26∧ ∃v27,v27.size=21∧rowIn H25 ⟨b2,0,none⟩ v27∧Try.C 43 #[.agg v27] H25 fun r28 H29=> ∃r30 r31,r28= .tuple #[.pointer r30,.int .i64 r31]∧br (r31 != 0) (R (.int .i64 r31) H29) (∃v32,v32.size=21∧rowIn H29 ⟨b2,0,none⟩ v32∧ ∃v33,v33.size=19∧rowIn H29 ⟨b20,0,none⟩ v33∧Try.C 45 #[.agg v32,.pointer r30,.agg v33] H29 fun r34 H35=> ∃r36,r34= .int .i64 r36∧R (.int .i64 r36) H35))→J16 [] H17)→ ∃To37,cell H13 (.add (.add ⟨b2,0,none⟩ 2) 2)=some (.int .i64 To37)∧Try.C 35 #[.pointer r8,.int .i64 To37] H13 fun r38 H39=> ∃r40 r41 r42,r38= .tuple #[.pointer r40,.pointer r41,.int .i64 r42]∧ ∃To43,cell H39 (.add (.add ⟨b2,0,none⟩ 2) 2)=some (.int .i64 To43)∧ ∃ID44,cell H39 (.add (.add ⟨b2,0,none⟩ 2) 1)=some (.int .i64 ID44)∧br (To43==ID44) (R (.int .i64 42) H39) (br (!(Option.isNone r40)) (R (.int .i64 42) H39) (J16 [] H39))))
def Try.p27:Plan:=(tl (tl (tg (tl (tg (two (join [] [1,3] (tl g0)) (tl (tl (two (tl g0) (tl leaf))))))))))
theorem Try.s27{w1:AV}{H R}(h:Try.S27 w1 H R):Try.C 27 #[.agg w1] H R:=vcs Try.tab_ok Try.mixed Try.func27 Try.cal27 Try.p27 h (by kernel_rfl)
def Try.S28(w1:AV)(H:Heap)(R:Kv):Prop:=
 alc H (.cells w1 68) fun b2 H3=> ∃v4,v4.size=21∧rowIn H3 ⟨b2,0,none⟩ v4∧Try.C 47 #[.agg v4] H3 fun r5 H6=> ∃r7 r8,r5= .tuple #[.pointer r7,.int .i64 r8]∧ ∀J9:Kl,(∀H10,(∃P11p P11l P11c,cell H10 (.add (.add ⟨b2,0,none⟩ 2) 10)=some (.slice P11p P11l P11c)∧Try.C 48 #[.slice P11p P11l P11c,.func (.func 49) #[] #[]] H10 fun r12 H13=> ∃r14,r12= .bool r14∧br r14 (R (.int .i64 25) H13) (∀J15:Kl,(∀H16,(∃P17p P17l P17c,cell H16 (.add (.add ⟨b2,0,none⟩ 2) 10)=some (.slice P17p P17l P17c)∧ ∀X18:Kl,(∀(i19:Int) H20,(br (decide (i19<(P17l:Int))) (∀J21:Kl,(∀H22,(X18 [.int .i64 (wrap .i64 (i19+1))] H22)→J21 [] H22)→ ∃a23,P17p=some a23∧0≤i19∧i19<(P17l:Int)∧ ∃v24,cell H20 (.add a23 (toNat i19*1))=some (.int .i64 v24)∧ ∃X25,cell H20 (.add (.add ⟨b2,0,none⟩ 2) 6)=some (.int .i64 X25)∧ ∃W26,cell H20 (.add (.add ⟨b2,0,none⟩ 2) 8)=some (.int .i64 W26)∧W26≠0∧ ∃Y27,cell H20 (.add (.add ⟨b2,0,none⟩ 2) 7)=some (.int .i64 Y27)∧ ∃W28,cell H20 (.add (.add ⟨b2,0,none⟩ 2) 8)=some (.int .i64 W28)∧W28≠0∧br (decide (((wrap .i64 (X25+(Int.tmod i19 W26))):Int)≥0)) (∃a29,r7=some a29∧ ∃W30,cell H20 (.add a29 5)=some (.int .i64 W30)∧br (decide (((wrap .i64 (X25+(Int.tmod i19 W26))):Int)<W30)) (br (decide (((wrap .i64 (Y27+(wrap .i64 (Int.tdiv i19 W28)))):Int)≥0)) (∃a31,r7=some a31∧ ∃H32,cell H20 (.add a31 6)=some (.int .i64 H32)∧br (decide (((wrap .i64 (Y27+(wrap .i64 (Int.tdiv i19 W28)))):Int)<H32)) (∃a33,r7=some a33∧ ∃P34p P34l P34c,cell H20 (.add a33 7)=some (.slice P34p P34l P34c)∧ ∃a35,r7=some a35∧ ∃W36,cell H20 (.add a35 5)=some (.int .i64 W36)∧ ∃a37,P34p=some a37∧0≤(wrap .i64 ((wrap .i64 ((wrap .i64 (Y27+(wrap .i64 (Int.tdiv i19 W28))))*W36))+(wrap .i64 (X25+(Int.tmod i19 W26)))))∧(wrap .i64 ((wrap .i64 ((wrap .i64 (Y27+(wrap .i64 (Int.tdiv i19 W28))))*W36))+(wrap .i64 (X25+(Int.tmod i19 W26)))))<(P34l:Int)∧stAt H20 (.add a37 (toNat (wrap .i64 ((wrap .i64 ((wrap .i64 (Y27+(wrap .i64 (Int.tdiv i19 W28))))*W36))+(wrap .i64 (X25+(Int.tmod i19 W26)))))*1)) [.int .i64 v24] fun H38=>J21 [] H38) (J21 [] H20)) (J21 [] H20)) (J21 [] H20)) (J21 [] H20)) (R (.int .i64 0) H20))→X18 [.int .i64 i19] H20)→X18 [.int .i64 0] H16)→J15 [] H16)→ ∃X39,cell H13 (.add (.add ⟨b2,0,none⟩ 2) 6)=some (.int .i64 X39)∧br (decide (X39<(-32768:Int))) (R (.int .i64 31) H13) (∃X40,cell H13 (.add (.add ⟨b2,0,none⟩ 2) 6)=some (.int .i64 X40)∧br (decide (X40>32768)) (R (.int .i64 31) H13) (∃Y41,cell H13 (.add (.add ⟨b2,0,none⟩ 2) 7)=some (.int .i64 Y41)∧br (decide (Y41<(-32768:Int))) (R (.int .i64 31) H13) (∃Y42,cell H13 (.add (.add ⟨b2,0,none⟩ 2) 7)=some (.int .i64 Y42)∧br (decide (Y42>32768)) (R (.int .i64 31) H13) (J15 [] H13))))))→J9 [] H10)→
 br (r8 != 0)
 (R (.int .i64 r8) H6)
 (∃a43,r7=some a43∧ ∃Ki44,cell H6 (.add a43 1)=some (.int .i64 Ki44)∧br (Ki44 != 0) (R (.int .i64 41) H6) (∃W45,cell H6 (.add (.add ⟨b2,0,none⟩ 2) 8)=some (.int .i64 W45)∧br (decide (W45<1)) (R (.int .i64 25) H6) (∃H46,cell H6 (.add (.add ⟨b2,0,none⟩ 2) 9)=some (.int .i64 H46)∧br (decide (H46<1)) (R (.int .i64 25) H6) (∃W47,cell H6 (.add (.add ⟨b2,0,none⟩ 2) 8)=some (.int .i64 W47)∧br (decide (W47>32768)) (R (.int .i64 25) H6) (∃H48,cell H6 (.add (.add ⟨b2,0,none⟩ 2) 9)=some (.int .i64 H48)∧br (decide (H48>32768)) (R (.int .i64 25) H6) (∃P49p P49l P49c,cell H6 (.add (.add ⟨b2,0,none⟩ 2) 10)=some (.slice P49p P49l P49c)∧ ∃W50,cell H6 (.add (.add ⟨b2,0,none⟩ 2) 8)=some (.int .i64 W50)∧ ∃H51,cell H6 (.add (.add ⟨b2,0,none⟩ 2) 9)=some (.int .i64 H51)∧br (((P49l:Int):Int) != (wrap .i64 (W50*H51))) (R (.int .i64 25) H6) (J9 [] H6)))))))
def Try.p28:Plan:=(tl (tl (two (join [] [1,3] (one (tl (two (tl leaf) (tl (two (tl leaf) g0)))))) (tg (two (join [] [1,3] g0) (two (tl (one (loop [(91,3)] [1,3,89,90] (tl (two (tl leaf) (two (join [] [1,3,89,90,91] (one (tl (tl (tl (tl leaf)))))) leaf)))))) (tl leaf)))))))
theorem Try.s28{w1:AV}{H R}(h:Try.S28 w1 H R):Try.C 28 #[.agg w1] H R:=vcs Try.tab_ok Try.mixed Try.func28 Try.cal28 Try.p28 h (by kernel_rfl)
def Try.S29(w1:AV)(H:Heap)(R:Kv):Prop:=
 alc H (.cells w1 68) fun b2 H3=> ∃v4,v4.size=21∧rowIn H3 ⟨b2,0,none⟩ v4∧Try.C 47 #[.agg v4] H3 fun r5 H6=> ∃r7 r8,r5= .tuple #[.pointer r7,.int .i64 r8]∧ ∀J9:Kl,(∀H10,(∃N11,cell H10 (.add (.add ⟨b2,0,none⟩ 2) 4)=some (.int .i64 N11)∧ ∃M12,cell H10 (.add (.add ⟨b2,0,none⟩ 2) 5)=some (.int .i64 M12)∧ ∃a13,r7=some a13∧stAt H10 (.add a13 3) [.int .i64 N11] fun H14=>(Ext H10 H14∨(∃M17,cell H14 (.add (.add ⟨b2,0,none⟩ 2) 5)=some (.int .i64 M17)∧Value.int .i64 M17= .int .i64 M12))∧ ∃a15,r7=some a15∧stAt H14 (.add a15 4) [.int .i64 M12] fun H16=>R (.int .i64 0) H16)→J9 [] H10)→
 br (r8 != 0)
 (R (.int .i64 r8) H6)
 (∃N18,cell H6 (.add (.add ⟨b2,0,none⟩ 2) 4)=some (.int .i64 N18)∧br (decide (N18<0)) (R (.int .i64 32) H6) (∃N19,cell H6 (.add (.add ⟨b2,0,none⟩ 2) 4)=some (.int .i64 N19)∧br (decide (N19>255)) (R (.int .i64 32) H6) (∃M20,cell H6 (.add (.add ⟨b2,0,none⟩ 2) 5)=some (.int .i64 M20)∧br (decide (M20<0)) (R (.int .i64 32) H6) (∃M21,cell H6 (.add (.add ⟨b2,0,none⟩ 2) 5)=some (.int .i64 M21)∧br (decide (M21>11)) (R (.int .i64 32) H6) (∃a22,r7=some a22∧ ∃Ki23,cell H6 (.add a22 1)=some (.int .i64 Ki23)∧br (Ki23==2) (∃M24,cell H6 (.add (.add ⟨b2,0,none⟩ 2) 5)=some (.int .i64 M24)∧br (M24 != 0) (R (.int .i64 41) H6) (J9 [] H6)) (J9 [] H6))))))
def Try.p29:Plan:=(tl (tl (two (join [] [1,3] (one (tl (two (tl leaf) (tl (two (tl leaf) g0)))))) (tl (tl leaf)))))
theorem Try.s29{w1:AV}{H R}(h:Try.S29 w1 H R):Try.C 29 #[.agg w1] H R:=vcs Try.tab_ok Try.mixed Try.func29 Try.cal29 Try.p29 h (by kernel_rfl)
def Try.S30(w1:AV)(H:Heap)(R:Kv):Prop:=
 alc H (.cells w1 68) fun b2 H3=> ∃v4,v4.size=21∧rowIn H3 ⟨b2,0,none⟩ v4∧Try.C 47 #[.agg v4] H3 fun r5 H6=> ∃r7 r8,r5= .tuple #[.pointer r7,.int .i64 r8]∧ ∀J9:Kl,(∀H10,(∃N11,cell H10 (.add (.add ⟨b2,0,none⟩ 2) 4)=some (.int .i64 N11)∧ ∃a12,r7=some a12∧stAt H10 (.add a12 2) [.bool (N11==1)] fun H13=>R (.int .i64 0) H13)→J9 [] H10)→
 br (r8 != 0)
 (R (.int .i64 r8) H6)
 (∃N14,cell H6 (.add (.add ⟨b2,0,none⟩ 2) 4)=some (.int .i64 N14)∧br (N14 != 0) (∃N15,cell H6 (.add (.add ⟨b2,0,none⟩ 2) 4)=some (.int .i64 N15)∧br (N15 != 1) (R (.int .i64 32) H6) (J9 [] H6)) (J9 [] H6))
def Try.p30:Plan:=(tl (tl (two (join [] [1,3] (one (tl (two (tl leaf) g0)))) (tl (tl leaf)))))
theorem Try.s30{w1:AV}{H R}(h:Try.S30 w1 H R):Try.C 30 #[.agg w1] H R:=vcs Try.tab_ok Try.mixed Try.func30 Try.cal30 Try.p30 h (by kernel_rfl)
def Try.S31(w1:AV)(H:Heap)(R:Kv):Prop:=
 alc H (.cells w1 68) fun b2 H3=> ∃v4,v4.size=21∧rowIn H3 ⟨b2,0,none⟩ v4∧Try.C 47 #[.agg v4] H3 fun r5 H6=> ∃r7 r8,r5= .tuple #[.pointer r7,.int .i64 r8]∧ ∀J9:Kl,(∀H10,(∃Sh11p Sh11l Sh11c,cell H10 (.add (.add ⟨b2,0,none⟩ 2) 11)=some (.slice Sh11p Sh11l Sh11c)∧ ∃d12,cell H10 (.add ⟨b2,0,none⟩ 1)=some (.pointer d12)∧ ∃a13,d12=some a13∧ ∃W14,cell H10 (.add a13 0)=some (.int .i64 W14)∧ ∃d15,cell H10 (.add ⟨b2,0,none⟩ 1)=some (.pointer d15)∧ ∃a16,d15=some a16∧ ∃H17,cell H10 (.add a16 1)=some (.int .i64 H17)∧Try.C 51 #[.slice Sh11p Sh11l Sh11c,.int .i64 W14,.int .i64 H17] H10 fun r18 H19=> ∃r20p r20l r20c r21,r18= .tuple #[.slice r20p r20l r20c,.int .i64 r21]∧br (r21 != 0) (R (.int .i64 r21) H19) (∀J22:Kl,(∀H23,(∃a24,r7=some a24∧stAt H23 (.add a24 8) [.slice r20p r20l r20c] fun H25=>R (.int .i64 0) H25)→J22 [] H23)→ ∃N26,cell H19 (.add (.add ⟨b2,0,none⟩ 2) 4)=some (.int .i64 N26)∧br (N26==1) (∀X27:Kl,(∀(i28:Int) H29,(br (decide (i28<(r20l:Int))) (∃a30,r20p=some a30∧0≤i28∧i28<(r20l:Int)∧ ∃v31,cell H29 (.add a30 (toNat i28*1))=some (.int .u8 v31)∧ ∃a32,r20p=some a32∧0≤i28∧i28<(r20l:Int)∧stAt H29 (.add a32 (toNat i28*1)) [.int .u8 (wrap .u8 ((255:Int)-v31))] fun H33=>X27 [.int .i64 (wrap .i64 (i28+1))] H33) (J22 [] H29))→X27 [.int .i64 i28] H29)→X27 [.int .i64 0] H19) (J22 [] H19)))→J9 [] H10)→
 br (r8 != 0)
 (R (.int .i64 r8) H6)
 (∃N34,cell H6 (.add (.add ⟨b2,0,none⟩ 2) 4)=some (.int .i64 N34)∧br (decide (N34<0)) (R (.int .i64 32) H6) (∃N35,cell H6 (.add (.add ⟨b2,0,none⟩ 2) 4)=some (.int .i64 N35)∧br (decide (N35>2)) (R (.int .i64 32) H6) (∃N36,cell H6 (.add (.add ⟨b2,0,none⟩ 2) 4)=some (.int .i64 N36)∧br (N36==2) (∃a37,r7=some a37∧stAt H6 (.add a37 8) [.slice none 0 0] fun H38=>R (.int .i64 0) H38) (J9 [] H6))))
def Try.p31:Plan:=(tl (tl (two (join [] [1,3] (one (tl (two (tl leaf) (tl (two (tl leaf) (tl (two (tl (tl leaf)) leaf)))))))) (tl (tg (two (join [] [3,5] (tl (two (tl (one (loop [(61,3)] [3,5,60] (tl (two (tl leaf) (two (one (tl leaf)) leaf)))))) leaf))) (tl (tl leaf))))))))
theorem Try.s31{w1:AV}{H R}(h:Try.S31 w1 H R):Try.C 31 #[.agg w1] H R:=vcs Try.tab_ok Try.mixed Try.func31 Try.cal31 Try.p31 h (by kernel_rfl)
def Try.S32(w1:AV)(H:Heap)(R:Kv):Prop:=
 alc H (.cells w1 68) fun b2 H3=> ∃v4,v4.size=21∧rowIn H3 ⟨b2,0,none⟩ v4∧Try.C 47 #[.agg v4] H3 fun r5 H6=> ∃r7 r8,r5= .tuple #[.pointer r7,.int .i64 r8]∧ ∀J9:Kl,(∀H10,(∃Ma11,Ma11.size=6∧rowIn H10 (.add (.add ⟨b2,0,none⟩ 2) 12) Ma11∧Try.C 52 #[.agg Ma11] H10 fun r12 H13=> ∃r14 r15,r12= .tuple #[.agg r14,.int .i64 r15]∧alc H13 (.cells #[.int .i64 0,.int .i64 0,.int .i64 0,.int .i64 0,.int .i64 0,.int .i64 0] 26) fun b16 H17=>r14.size=6∧stAt H17 ⟨b16,0,none⟩ r14.toList fun H18=>br (r15 != 0) (R (.int .i64 r15) H18) (∃Ma19,Ma19.size=6∧rowIn H18 (.add (.add ⟨b2,0,none⟩ 2) 12) Ma19∧ ∃N20,cell H18 (.add (.add ⟨b2,0,none⟩ 2) 4)=some (.int .i64 N20)∧ ∃a21,r7=some a21∧Ma19.size=6∧stAt H18 (.add a21 9) Ma19.toList fun H22=>(Ext H18 H22∨(∃N25,cell H22 (.add (.add ⟨b2,0,none⟩ 2) 4)=some (.int .i64 N25)∧Value.int .i64 N25= .int .i64 N20))∧ ∃a23,r7=some a23∧stAt H22 (.add a23 15) [.bool (N20==1)] fun H24=>R (.int .i64 0) H24))→J9 [] H10)→
 br (r8 != 0)
 (R (.int .i64 r8) H6)
 (∃a26,r7=some a26∧ ∃Ki27,cell H6 (.add a26 1)=some (.int .i64 Ki27)∧br (Ki27 != 0) (R (.int .i64 41) H6) (∃N28,cell H6 (.add (.add ⟨b2,0,none⟩ 2) 4)=some (.int .i64 N28)∧br (N28 != 0) (∃N29,cell H6 (.add (.add ⟨b2,0,none⟩ 2) 4)=some (.int .i64 N29)∧br (N29 != 1) (R (.int .i64 32) H6) (J9 [] H6)) (J9 [] H6)))
def Try.p32:Plan:=(tl (tl (two (join [] [1,3] (one (tl (two (tl leaf) (tl (two (tl leaf) g0)))))) (two (tl g0) (tl (tl leaf))))))
theorem Try.s32{w1:AV}{H R}(h:Try.S32 w1 H R):Try.C 32 #[.agg w1] H R:=vcs Try.tab_ok Try.mixed Try.func32 Try.cal32 Try.p32 h (by kernel_rfl)
def Try.S33(w1:AV)(H:Heap)(R:Kv):Prop:=
 alc H (.cells w1 68) fun b2 H3=> ∃v4,v4.size=21∧rowIn H3 ⟨b2,0,none⟩ v4∧Try.C 47 #[.agg v4] H3 fun r5 H6=> ∃r7 r8,r5= .tuple #[.pointer r7,.int .i64 r8]∧br (r8 != 0)
 (R (.int .i64 r8) H6)
 (∃a9,r7=some a9∧ ∃Ki10,cell H6 (.add a9 1)=some (.int .i64 Ki10)∧br (Ki10 != 2) (R (.int .i64 41) H6) (∃N11,cell H6 (.add (.add ⟨b2,0,none⟩ 2) 4)=some (.int .i64 N11)∧ ∃Pa12p Pa12l Pa12c,cell H6 (.add (.add ⟨b2,0,none⟩ 2) 18)=some (.slice Pa12p Pa12l Pa12c)∧Try.C 53 #[.int .i64 N11,.slice Pa12p Pa12l Pa12c] H6 fun r13 H14=> ∃r15p r15l r15c r16,r13= .tuple #[.slice r15p r15l r15c,.bool r16]∧br (!r16) (R (.int .i64 32) H14) (∃N17,cell H14 (.add (.add ⟨b2,0,none⟩ 2) 4)=some (.int .i64 N17)∧ ∃Pa18p Pa18l Pa18c,cell H14 (.add (.add ⟨b2,0,none⟩ 2) 18)=some (.slice Pa18p Pa18l Pa18c)∧Try.C 54 #[.slice Pa18p Pa18l Pa18c] H14 fun r19 H20=> ∃r21p r21l r21c,r19= .slice r21p r21l r21c∧(Ext H14 H20∨(∃N26,cell H20 (.add (.add ⟨b2,0,none⟩ 2) 4)=some (.int .i64 N26)∧Value.int .i64 N26= .int .i64 N17))∧ ∃a22,r7=some a22∧stAt H20 (.add a22 16) [.int .i64 N17] fun H23=> ∃a24,r7=some a24∧stAt H23 (.add a24 17) [.slice r21p r21l r21c] fun H25=>R (.int .i64 0) H25)))
def Try.p33:Plan:=(tl (tl (two (one (tl (two (tl leaf) g0))) (two (tl g0) (tl (tl leaf))))))
theorem Try.s33{w1:AV}{H R}(h:Try.S33 w1 H R):Try.C 33 #[.agg w1] H R:=vcs Try.tab_ok Try.mixed Try.func33 Try.cal33 Try.p33 h (by kernel_rfl)
def Try.S34(l1:OA)(x2 y3:Int)(H:Heap)(R:Kv):Prop:=
 alc H (.cells #[.int .i64 0,.int .i64 0] 81) fun b4 H5=>#[Value.int .i64 x2,Value.int .i64 y3].size=2∧stAt H5 ⟨b4,0,none⟩ (Array.toList #[.int .i64 x2,.int .i64 y3]) fun H6=> ∃a7,l1=some a7∧ ∃ti8,cell H6 (.add a7 4)=some (.map ti8)∧ ∃v9,v9.size=2∧rowIn H6 ⟨b4,0,none⟩ v9∧ ∃r10,ti8=some r10∧ ∃(es11:Array MapEntry) (c12:Nat),H6[r10]?=some (.map es11 c12)∧kForm (.arr 2 3) (.int .i64) (.agg v9)∧(∀e∈es11.toList,kForm (.arr 2 3) (.int .i64) e.key)∧ ∃v13p v13l v13c,lookV (.agg v9) es11.toList (.slice none 0 0)= .slice v13p v13l v13c∧br (!(Option.isSome (findE (.agg v9) es11.toList 0)))
 (∃a14,l1=some a14∧ ∃W15,cell H6 (.add (.add a14 0) 0)=some (.int .i64 W15)∧ ∃a16,l1=some a16∧ ∃H17,cell H6 (.add (.add a16 0) 1)=some (.int .i64 H17)∧ ∃a18,l1=some a18∧ ∃d19,d19.size=4∧rowIn H6 (.add a18 0) d19∧Try.C 39 #[.agg d19,.int .i64 (wrap .i64 (x2*16)),.int .i64 (wrap .i64 (y3*16)),.int .i64 (min 16 (wrap .i64 (W15-(wrap .i64 (x2*16))))),.int .i64 (min 16 (wrap .i64 (H17-(wrap .i64 (y3*16)))))] H6 fun r20 H21=> ∃r22p r22l r22c r23,r20= .tuple #[.slice r22p r22l r22c,.int .i64 r23]∧ ∃a24,l1=some a24∧ ∃ti25,cell H21 (.add a24 4)=some (.map ti25)∧ ∃v26,v26.size=2∧rowIn H21 ⟨b4,0,none⟩ v26∧updQ (.arr 2 3) (.int .i64) (.map ti25) (.agg v26) (.slice r22p r22l r22c) H21 fun H27=> ∃a28,l1=some a28∧ ∃la29,cell H27 (.add a28 5)=some (.int .i64 la29)∧ ∃a30,l1=some a30∧stAt H27 (.add a30 5) [.int .i64 (wrap .i64 (la29+1))] fun H31=>R (.slice r22p r22l r22c) H31)
 (R (.slice v13p v13l v13c) H6)
def Try.p34:Plan:=(tl (tl (tl (two (tl (two (tl (tl (tl leaf))) leaf)) (tl leaf)))))
theorem Try.s34{l1:OA}{x2 y3:Int}{H R}(h:Try.S34 l1 x2 y3 H R):Try.C 34 #[.pointer l1,.int .i64 x2,.int .i64 y3] H R:=vcs Try.tab_ok Try.mixed Try.func34 Try.cal34 Try.p34 h (by kernel_rfl)
def Try.S35(in_1:OA)(id2:Int)(H:Heap)(R:Kv):Prop:=
 ∃a3,in_1=some a3∧ ∃Ki4p Ki4l Ki4c,cell H (.add a3 18)=some (.slice Ki4p Ki4l Ki4c)∧ ∀X5:Kl,(∀(i6:Int) H7,(br (decide (i6<(Ki4l:Int))) (∃a8,in_1=some a8∧ ∃Ki9p Ki9l Ki9c,cell H7 (.add a8 18)=some (.slice Ki9p Ki9l Ki9c)∧ ∃a10,Ki9p=some a10∧0≤i6∧i6<(Ki9l:Int)∧ ∃a11,(some (.add a10 (toNat i6*19)))=some a11∧ ∃ID12,cell H7 (.add a11 0)=some (.int .i64 ID12)∧br (ID12==id2) (R (.tuple #[.pointer (some (.add a10 (toNat i6*19))),.pointer in_1,.int .i64 i6]) H7) (Try.C 35 #[.pointer (some (.add a10 (toNat i6*19))),.int .i64 id2] H7 fun r13 H14=> ∃r15 r16 r17,r13= .tuple #[.pointer r15,.pointer r16,.int .i64 r17]∧br (!(Option.isNone r15)) (R (.tuple #[.pointer r15,.pointer r16,.int .i64 r17]) H14) (X5 [.int .i64 (wrap .i64 (i6+1))] H14))) (R (.tuple #[.pointer none,.pointer none,.int .i64 0]) H7))→X5 [.int .i64 i6] H7)→X5 [.int .i64 0] H
def Try.p35:Plan:=(tl (two (tl (one (loop [(17,3)] [0,1,16] (tl (two (tl leaf) (two (one (tl (tl (tg (tl g0))))) leaf)))))) (tl leaf)))
theorem Try.s35{in_1:OA}{id2:Int}{H R}(h:Try.S35 in_1 id2 H R):Try.C 35 #[.pointer in_1,.int .i64 id2] H R:=vcs Try.tab_ok Try.mixed Try.func35 Try.cal35 Try.p35 h (by kernel_rfl)
def Try.S36(l1:AV)(H:Heap)(R:Kv):Prop:=
 alc H (.cells l1 45) fun b2 H3=>alc H3 (.cells #[.int .i64 0,.int .i64 0,.bool false,.int .i64 0,.int .i64 0,.int .i64 0,.int .i64 0,.slice none 0 0,.slice none 0 0,.int .i64 0,.int .i64 0,.int .i64 0,.int .i64 0,.int .i64 0,.int .i64 0,.bool false,.int .i64 0,.slice none 0 0,.slice none 0 0] 45) fun b4 H5=> ∃P6p P6l P6c,cell H5 (.add ⟨b2,0,none⟩ 7)=some (.slice P6p P6l P6c)∧ ∃Ma7p Ma7l Ma7c,cell H5 (.add ⟨b2,0,none⟩ 8)=some (.slice Ma7p Ma7l Ma7c)∧ ∃Pa8p Pa8l Pa8c,cell H5 (.add ⟨b2,0,none⟩ 17)=some (.slice Pa8p Pa8l Pa8c)∧Try.C 54 #[.slice P6p P6l P6c] H5 fun r9 H10=> ∃r11p r11l r11c,r9= .slice r11p r11l r11c∧(Ext H5 H10∨(∃Pa30p Pa30l Pa30c,cell H10 (.add ⟨b2,0,none⟩ 17)=some (.slice Pa30p Pa30l Pa30c)∧Value.slice Pa30p Pa30l Pa30c= .slice Pa8p Pa8l Pa8c)∧(∃Ma31p Ma31l Ma31c,cell H10 (.add ⟨b2,0,none⟩ 8)=some (.slice Ma31p Ma31l Ma31c)∧Value.slice Ma31p Ma31l Ma31c= .slice Ma7p Ma7l Ma7c))∧Try.C 55 #[.slice Ma7p Ma7l Ma7c] H10 fun r12 H13=> ∃r14p r14l r14c,r12= .slice r14p r14l r14c∧(Ext H10 H13∨(∃Pa29p Pa29l Pa29c,cell H13 (.add ⟨b2,0,none⟩ 17)=some (.slice Pa29p Pa29l Pa29c)∧Value.slice Pa29p Pa29l Pa29c= .slice Pa8p Pa8l Pa8c))∧Try.C 54 #[.slice Pa8p Pa8l Pa8c] H13 fun r15 H16=> ∃r17p r17l r17c,r15= .slice r17p r17l r17c∧stAt H16 (.add ⟨b2,0,none⟩ 7) [.slice r11p r11l r11c] fun H18=>stAt H18 (.add ⟨b2,0,none⟩ 8) [.slice r14p r14l r14c] fun H19=>stAt H19 (.add ⟨b2,0,none⟩ 17) [.slice r17p r17l r17c] fun H20=> ∃Ki21p Ki21l Ki21c,cell H20 (.add ⟨b2,0,none⟩ 18)=some (.slice Ki21p Ki21l Ki21c)∧Try.C 23 #[.slice Ki21p Ki21l Ki21c] H20 fun r22 H23=> ∃r24p r24l r24c,r22= .slice r24p r24l r24c∧stAt H23 (.add ⟨b2,0,none⟩ 18) [.slice r24p r24l r24c] fun H25=> ∃v26,v26.size=19∧rowIn H25 ⟨b2,0,none⟩ v26∧v26.size=19∧stAt H25 ⟨b4,0,none⟩ v26.toList fun H27=> ∃re28,re28.size=19∧rowIn H27 ⟨b4,0,none⟩ re28∧R (.agg re28) H27
def Try.p36:Plan:=(tl (tl (tl (tl leaf))))
theorem Try.s36{l1:AV}{H R}(h:Try.S36 l1 H R):Try.C 36 #[.agg l1] H R:=vcs Try.tab_ok Try.mixed Try.func36 Try.cal36 Try.p36 h (by kernel_rfl)
def Try.S37(e1 d2:AV)(H:Heap)(R:Kv):Prop:=
 alc H (.cells e1 28) fun b3 H4=>alc H4 (.cells d2 33) fun b5 H6=> ∃Ki7,cell H6 (.add ⟨b3,0,none⟩ 0)=some (.int .i64 Ki7)∧br (Ki7==1)
 (∃Ne8,cell H6 (.add ⟨b5,0,none⟩ 2)=some (.int .i64 Ne8)∧R (.int .i64 (wrap .i64 (Ne8-1))) H6)
 (∃ID9,cell H6 (.add ⟨b3,0,none⟩ 1)=some (.int .i64 ID9)∧R (.int .i64 ID9) H6)
def Try.p37:Plan:=(tl (tg (tl leaf)))
theorem Try.s37{e1 d2:AV}{H R}(h:Try.S37 e1 d2 H R):Try.C 37 #[.agg e1,.agg d2] H R:=vcs Try.tab_ok Try.mixed Try.func37 Try.cal37 Try.p37 h (by kernel_rfl)
def Try.S38(d1:AV)(id2:Int)(H:Heap)(R:Kv):Prop:=
 alc H (.cells d1 33) fun b3 H4=> ∀X5:Kl,(∀(id6:Int) H7,(br (id6 != 0) (∃v8,v8.size=4∧rowIn H7 ⟨b3,0,none⟩ v8∧Try.C 13 #[.agg v8,.int .i64 id6] H7 fun r9 H10=> ∃r11 r12,r9= .tuple #[.agg r11,.bool r12]∧alc H10 (.cells #[.int .i64 0,.int .i64 0,.bool false,.int .i64 0,.int .i64 0,.int .i64 0,.int .i64 0,.slice none 0 0,.slice none 0 0,.int .i64 0,.int .i64 0,.int .i64 0,.int .i64 0,.int .i64 0,.int .i64 0,.bool false,.int .i64 0,.slice none 0 0,.slice none 0 0] 45) fun b13 H14=>r11.size=19∧stAt H14 ⟨b13,0,none⟩ r11.toList fun H15=>br (!r12) (R (.bool false) H15) (∃Hi16,cell H15 (.add ⟨b13,0,none⟩ 2)=some (.bool Hi16)∧br Hi16 (R (.bool true) H15) (∃v17,v17.size=4∧rowIn H15 ⟨b3,0,none⟩ v17∧Try.C 56 #[.agg v17,.int .i64 id6] H15 fun r18 H19=> ∃r20 r21 r22,r18= .tuple #[.int .i64 r20,.int .i64 r21,.bool r22]∧X5 [.int .i64 r20] H19))) (R (.bool false) H7))→X5 [.int .i64 id6] H7)→X5 [.int .i64 id2] H4
def Try.p38:Plan:=(tl (two (one (loop [(1,3)] [2] (two (tl (tl leaf)) (one (tl (tg (tg leaf))))))) (tl leaf)))
theorem Try.s38{d1:AV}{id2:Int}{H R}(h:Try.S38 d1 id2 H R):Try.C 38 #[.agg d1,.int .i64 id2] H R:=vcs Try.tab_ok Try.mixed Try.func38 Try.cal38 Try.p38 h (by kernel_rfl)
def Try.S39(d1:AV)(x2 y3 w4 h5:Int)(H:Heap)(R:Kv):Prop:=
 alc H (.cells d1 33) fun b6 H7=> ∀J8:Kl,(∀H9,(∃v10,v10.size=4∧rowIn H9 ⟨b6,0,none⟩ v10∧v10.size=4∧0+4≤8∧ ∃Ki11p Ki11l Ki11c,cell H9 (.add ⟨b6,0,none⟩ 3)=some (.slice Ki11p Ki11l Ki11c)∧Try.C 57 #[.agg (List.toArray (List.set (List.set (List.set (List.set (setL [.int .i64 0,.int .i64 0,.int .i64 0,.slice none 0 0,.int .i64 0,.int .i64 0,.int .i64 0,.int .i64 0] 0 v10.toList) 4 (.int .i64 x2)) 5 (.int .i64 y3)) 6 (.int .i64 w4)) 7 (.int .i64 h5))),.slice Ki11p Ki11l Ki11c] H9 fun r12 H13=> ∃r14p r14l r14c,r12= .slice r14p r14l r14c∧R (.tuple #[.slice r14p r14l r14c,.int .i64 0]) H13)→J8 [] H9)→
 br (decide (x2<0)) (R (.tuple #[.slice none 0 0,.int .i64 12]) H7) (br (decide (y3<0)) (R (.tuple #[.slice none 0 0,.int .i64 12]) H7) (br (decide (w4<0)) (R (.tuple #[.slice none 0 0,.int .i64 12]) H7) (br (decide (h5<0)) (R (.tuple #[.slice none 0 0,.int .i64 12]) H7) (∃W15,cell H7 (.add ⟨b6,0,none⟩ 0)=some (.int .i64 W15)∧br (decide (x2>W15)) (R (.tuple #[.slice none 0 0,.int .i64 12]) H7) (∃H16,cell H7 (.add ⟨b6,0,none⟩ 1)=some (.int .i64 H16)∧br (decide (y3>H16)) (R (.tuple #[.slice none 0 0,.int .i64 12]) H7) (∃W17,cell H7 (.add ⟨b6,0,none⟩ 0)=some (.int .i64 W17)∧br (decide (w4>(wrap .i64 (W17-x2)))) (R (.tuple #[.slice none 0 0,.int .i64 12]) H7) (∃H18,cell H7 (.add ⟨b6,0,none⟩ 1)=some (.int .i64 H18)∧br (decide (h5>(wrap .i64 (H18-y3)))) (R (.tuple #[.slice none 0 0,.int .i64 12]) H7) (J8 [] H7))))))))
def Try.p39:Plan:=(tl (two (join [] [1,2,3,4,5] g0) (tl leaf)))
theorem Try.s39{d1:AV}{x2 y3 w4 h5:Int}{H R}(h:Try.S39 d1 x2 y3 w4 h5 H R):Try.C 39 #[.agg d1,.int .i64 x2,.int .i64 y3,.int .i64 w4,.int .i64 h5] H R:=vcs Try.tab_ok Try.mixed Try.func39 Try.cal39 Try.p39 h (by kernel_rfl)
def Try.S40(d1:AV)(H:Heap)(R:Kv):Prop:=
 alc H (.cells d1 33) fun b2 H3=>alc H3 (.cells #[.int .i64 0,.int .i64 0,.int .i64 0,.slice none 0 0] 33) fun b4 H5=> ∃W6,cell H5 (.add ⟨b2,0,none⟩ 0)=some (.int .i64 W6)∧ ∃H7,cell H5 (.add ⟨b2,0,none⟩ 1)=some (.int .i64 H7)∧ ∃Ne8,cell H5 (.add ⟨b2,0,none⟩ 2)=some (.int .i64 Ne8)∧alc H5 (.cells #[.int .i64 0,.int .i64 0,.int .i64 0,.slice none 0 0] 33) fun b9 H10=>#[Value.int .i64 W6,Value.int .i64 H7,Value.int .i64 Ne8,Value.slice none 0 0].size=4∧stAt H10 ⟨b9,0,none⟩ (Array.toList #[.int .i64 W6,.int .i64 H7,.int .i64 Ne8,.slice none 0 0]) fun H11=> ∃Ki12p Ki12l Ki12c,cell H11 (.add ⟨b2,0,none⟩ 3)=some (.slice Ki12p Ki12l Ki12c)∧ ∀X13:Kl,(∀(t14:Int) H15,(br (decide (t14<(Ki12l:Int))) (∃a16,Ki12p=some a16∧0≤t14∧t14<(Ki12l:Int)∧ ∃v17,v17.size=19∧rowIn H15 (.add a16 (toNat t14*19)) v17∧alc H15 (.cells #[.int .i64 0,.int .i64 0,.bool false,.int .i64 0,.int .i64 0,.int .i64 0,.int .i64 0,.slice none 0 0,.slice none 0 0,.int .i64 0,.int .i64 0,.int .i64 0,.int .i64 0,.int .i64 0,.int .i64 0,.bool false,.int .i64 0,.slice none 0 0,.slice none 0 0] 45) fun b18 H19=>v17.size=19∧stAt H19 ⟨b18,0,none⟩ v17.toList fun H20=> ∃v21,v21.size=4∧rowIn H20 ⟨b2,0,none⟩ v21∧ ∃ID22,cell H20 (.add ⟨b18,0,none⟩ 0)=some (.int .i64 ID22)∧Try.C 13 #[.agg v21,.int .i64 ID22] H20 fun r23 H24=> ∃r25 r26,r23= .tuple #[.agg r25,.bool r26]∧alc H24 (.cells #[.int .i64 0,.int .i64 0,.bool false,.int .i64 0,.int .i64 0,.int .i64 0,.int .i64 0,.slice none 0 0,.slice none 0 0,.int .i64 0,.int .i64 0,.int .i64 0,.int .i64 0,.int .i64 0,.int .i64 0,.bool false,.int .i64 0,.slice none 0 0,.slice none 0 0] 45) fun b27 H28=>r25.size=19∧stAt H28 ⟨b27,0,none⟩ r25.toList fun H29=> ∃Ki30p Ki30l Ki30c,cell H29 (.add ⟨b9,0,none⟩ 3)=some (.slice Ki30p Ki30l Ki30c)∧ ∃v31,v31.size=19∧rowIn H29 ⟨b27,0,none⟩ v31∧v31.size=19∧0+19≤19∧alc H29 (.cells (List.toArray (setL [.int .i64 0,.int .i64 0,.bool false,.int .i64 0,.int .i64 0,.int .i64 0,.int .i64 0,.slice none 0 0,.slice none 0 0,.int .i64 0,.int .i64 0,.int .i64 0,.int .i64 0,.int .i64 0,.int .i64 0,.bool false,.int .i64 0,.slice none 0 0,.slice none 0 0] 0 v31.toList)) 45) fun b32 H33=>appQ 19 216 #[.int .i64 0,.int .i64 0,.bool false,.int .i64 0,.int .i64 0,.int .i64 0,.int .i64 0,.slice none 0 0,.slice none 0 0,.int .i64 0,.int .i64 0,.int .i64 0,.int .i64 0,.int .i64 0,.int .i64 0,.bool false,.int .i64 0,.slice none 0 0,.slice none 0 0] H33 Ki30p Ki30l Ki30c (some ⟨b32,0,none⟩) 1 45 fun ap34p ap34l ap34c H35=>stAt H35 (.add ⟨b9,0,none⟩ 3) [.slice ap34p ap34l ap34c] fun H36=>X13 [.int .i64 (wrap .i64 (t14+1))] H36) (∃v37,v37.size=4∧rowIn H15 ⟨b9,0,none⟩ v37∧v37.size=4∧stAt H15 ⟨b4,0,none⟩ v37.toList fun H38=> ∃re39,re39.size=4∧rowIn H38 ⟨b4,0,none⟩ re39∧R (.agg re39) H38))→X13 [.int .i64 t14] H15)→X13 [.int .i64 0] H11
def Try.p40:Plan:=(tl (tl (two (tl (one (loop [(18,3)] [1,2,3,16,17] (tl (two (tl leaf) (two (one (tl (tl leaf))) leaf)))))) (tl leaf))))
theorem Try.s40{d1:AV}{H R}(h:Try.S40 d1 H R):Try.C 40 #[.agg d1] H R:=vcs Try.tab_ok Try.mixed Try.func40 Try.cal40 Try.p40 h (by kernel_rfl)
def Try.S41(s11p:OA)(s11l s11c:Nat)(s22p:OA)(s22l s22c eq3g:Nat)(eq3x eq3y:AV)(H:Heap)(R:Kv):Prop:=
 br (((s11l:Int):Int) != (s22l:Int))
 (R (.bool false) H)
 (∀X4:Kl,(∀(i5:Int) H6,(br (decide (i5<(s11l:Int))) (∃a7,s11p=some a7∧0≤i5∧i5<(s11l:Int)∧ ∃v8,v8.size=19∧rowIn H6 (.add a7 (toNat i5*19)) v8∧alc H6 (.cells #[.int .i64 0,.int .i64 0,.bool false,.int .i64 0,.int .i64 0,.int .i64 0,.int .i64 0,.slice none 0 0,.slice none 0 0,.int .i64 0,.int .i64 0,.int .i64 0,.int .i64 0,.int .i64 0,.int .i64 0,.bool false,.int .i64 0,.slice none 0 0,.slice none 0 0] 45) fun b9 H10=>v8.size=19∧stAt H10 ⟨b9,0,none⟩ v8.toList fun H11=> ∃a12,s22p=some a12∧0≤i5∧i5<(s22l:Int)∧ ∃v13,v13.size=19∧rowIn H11 (.add a12 (toNat i5*19)) v13∧alc H11 (.cells #[.int .i64 0,.int .i64 0,.bool false,.int .i64 0,.int .i64 0,.int .i64 0,.int .i64 0,.slice none 0 0,.slice none 0 0,.int .i64 0,.int .i64 0,.int .i64 0,.int .i64 0,.int .i64 0,.int .i64 0,.bool false,.int .i64 0,.slice none 0 0,.slice none 0 0] 45) fun b14 H15=>v13.size=19∧stAt H15 ⟨b14,0,none⟩ v13.toList fun H16=> ∃v17,v17.size=19∧rowIn H16 ⟨b9,0,none⟩ v17∧ ∃v18,v18.size=19∧rowIn H16 ⟨b14,0,none⟩ v18∧Try.C eq3g (List.toArray (Array.toList eq3x++[Value.agg v17,Value.agg v18]++Array.toList eq3y)) H16 fun r19 H20=> ∃r21,r19= .bool r21∧br (!r21) (R (.bool false) H20) (X4 [.int .i64 (wrap .i64 (i5+1))] H20)) (R (.bool true) H6))→X4 [.int .i64 i5] H6)→X4 [.int .i64 0] H)
def Try.p41:Plan:=(tl (tg (two (tl (one (loop [(17,3)] [1,2,15,16] (tl (two (tl leaf) (two (one (tl (tl g0))) leaf)))))) (tl leaf))))
theorem Try.s41{s11p:OA}{s11l s11c:Nat}{s22p:OA}{s22l s22c eq3g:Nat}{eq3x eq3y:AV}{H R}(h:Try.S41 s11p s11l s11c s22p s22l s22c eq3g eq3x eq3y H R):Try.C 41 #[.slice s11p s11l s11c,.slice s22p s22l s22c,.func (.func eq3g) eq3x eq3y] H R:=vcs Try.tab_ok Try.mixed Try.func41 Try.cal41 Try.p41 h (by kernel_rfl)
end Go.Proofs
