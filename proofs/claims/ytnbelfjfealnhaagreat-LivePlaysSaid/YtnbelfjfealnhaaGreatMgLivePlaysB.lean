/-
  OWN WORK. Several texts in one: ShP, ShL, TileW, TileStay, ShS, ShT, ShU, TrA, GTab, GFunA, GFunB.
-/
import Derived.Test.YtnbelfjfealnhaaGreatMgLivePlaysA
import Derived.ProofKit
import Derived.OpenShut
import Derived.Test.YtnbelfjfealnhaaGreatProg
import Derived.KernelRfl

set_option linter.unusedSimpArgs false
set_option linter.unusedVariables false
set_option maxRecDepth 100000
namespace Go.Sh
def br(t:Bool)(A B:Prop):Prop:=(t=true→A)∧(t=false→B)
def alc(H:Heap)(o:Obj)(K:Nat→Heap→Prop):Prop:=K H.size (H.push o)
def sto(H:Heap)(r:Nat)(o:Obj)(K:Heap→Prop):Prop:=K (H.setIfInBounds r o)
abbrev OA:=Option Addr
abbrev AV:=Array Value
abbrev Kv:=Value→Heap→Prop
abbrev Kl:=List Value→Heap→Prop
namespace Plan
def tl(a:Plan):Plan:=two leaf a
def g0:Plan:=tl (two (tl leaf) leaf)
def tg(a:Plan):Plan:=two g0 a
end Plan
theorem vcs{P:Program}{T:Tab}(hT:TabOk P T)(hm:P.follows .mixedOrders=true){g:FuncId}{fn:Func}(hg:P.funcs[g]?=some fn)(hc:callable P g)(p:Plan){args:Array Value}{H:Heap}
 {R:Value→Heap→Prop}{A:Prop}(h:A)(e:A=vcFun P T fn p args.toList H R):CallsH P g args H R:=by
 have:=vcFun_sound hT hm hg hc (p:=p) (args:=args.toList) (H:=H) (R:=R) (Eq.mp e h)
 simpa using this
end Go.Sh
namespace Go.Sh
theorem br_i{t:Bool}{A B:Prop}(h:t=true→A)(h':t=false→B):br t A B:=⟨h,h'⟩
theorem br_dec{p:Prop}[Decidable p]{A B:Prop}(h:p→A)(h': ¬p→B):br (decide p) A B:=⟨fun e=>h (of_decide_eq_true e),fun e=>h' (of_decide_eq_false e)⟩
theorem br_eq{a b:Int}{A B:Prop}(h:a=b→A)(h':a≠b→B):br (a==b) A B:=⟨fun e=>h (by simpa using e),fun e=>h' (by simpa using e)⟩
theorem br_ne{a b:Int}{A B:Prop}(h:a≠b→A)(h':a=b→B):br (a != b) A B:=⟨fun e=>h (by simpa using e),fun e=>h' (by simpa using e)⟩
theorem br_not{t:Bool}{A B:Prop}(h:t=false→A)(h':t=true→B):br (!t) A B:=⟨fun e=>h (by simpa using e),fun e=>h' (by simpa using e)⟩
theorem br_true{A B:Prop}(h:A):br true A B:=⟨fun _=>h,fun e=>(by cases e)⟩
theorem br_false{A B:Prop}(h:B):br false A B:=⟨fun e=>(by cases e),fun _=>h⟩
theorem br_t{t:Bool}{A B:Prop}(ht:t=true)(h:A):br t A B:=by subst ht;exact br_true h
theorem br_f{t:Bool}{A B:Prop}(ht:t=false)(h:B):br t A B:=by subst ht;exact br_false h
theorem br_y{p:Prop}[Decidable p]{A B:Prop}(hp:p)(h:A):br (decide p) A B:=br_dec (fun _=>h) (fun n=>absurd hp n)
theorem br_n{p:Prop}[Decidable p]{A B:Prop}(hp: ¬p)(h:B):br (decide p) A B:=br_dec (fun y=>absurd y hp) (fun _=>h)
theorem br_none{α:Type}{p:Option α}{A B:Prop}(h:p=none→A)(h': ∀a,p=some a→B):br (Option.isNone p) A B:=by
 cases p with
 |none=>exact br_true (h rfl)
 |some a=>exact br_false (h' a rfl)
theorem lt_of_get{H:Heap}{b:Nat}{o:Obj}(h:H[b]?=some o):b<H.size:=(Array.getElem?_eq_some_iff.1 h).1
theorem get_push_self(H:Heap)(o:Obj):(H.push o)[H.size]?=some o:=by simp
theorem get_push{H:Heap}{b:Nat}{o x:Obj}(h:H[b]?=some x):(H.push o)[b]?=some x:=Ext.push H o b x h
theorem get_set_ne{H:Heap}{b r:Nat}{o x:Obj}(hne:r≠b)(h:H[b]?=some x):(H.setIfInBounds r o)[b]?=some x:=by
 rw[Array.getElem?_setIfInBounds_ne hne];exact h
theorem get_set_self{H:Heap}{r:Nat}{o x:Obj}(h:H[r]?=some x):(H.setIfInBounds r o)[r]?=some o:=by
 rw[Array.getElem?_setIfInBounds_self_of_lt (lt_of_get h)]
theorem cell_block{H:Heap}{b i:Nat}{c:Array Value}{t:TypeId}{f:Nat×Nat}(h:H[b]?=some (.cells c t f)):cell H ⟨b,i,none⟩=c[i]?:=by
 simp[cell,h]
theorem cell_get{H:Heap}{b i:Nat}{c:Array Value}{t:TypeId}{f:Nat×Nat}{v:Value}(h:H[b]?=some (.cells c t f))(hv:c[i]?=some v):cell H ⟨b,i,none⟩=some v:=by
 rw[cell_block h];exact hv
@[simp] theorem add_none(b i n:Nat):Addr.add ⟨b,i,none⟩ n=⟨b,i+n,none⟩:=by
 unfold Addr.add;split<;>simp_all
theorem rowIn_block{H:Heap}{b i:Nat}{c cs:Array Value}{t:TypeId}{f:Nat×Nat}(h:H[b]?=some (.cells c t f))(hc: ∀j v,cs[j]?=some v→c[i+j]?=some v):
 rowIn H ⟨b,i,none⟩ cs:=by
 intro j v hv
 rw[add_none,cell_block h]
 exact hc j v hv
theorem rowIn_whole{H:Heap}{b:Nat}{c:Array Value}{t:TypeId}{f:Nat×Nat}(h:H[b]?=some (.cells c t f)):rowIn H ⟨b,0,none⟩ c:=
 rowIn_block h fun j v hv=>by rw[Nat.zero_add];exact hv
theorem stAt_one{H:Heap}{b i:Nat}{c:Array Value}{t:TypeId}{v:Value}{f:Heap→Prop}(h:H[b]?=some (.cells c t (0,0)))(hi:i<c.size)(ho:v.oneCell'=true)
 (hf:f (H.setIfInBounds b (.cells (c.setIfInBounds i v) t (0,0)))):stAt H ⟨b,i,none⟩ [v] f:=by
 refine⟨c,t,h,rfl,(by simp;omega),by simpa using ho,?_⟩
 have:(setL c.toList i [v]).toArray=c.setIfInBounds i v:=by
  rw[setL_one (by simpa using hi)]
  apply Array.toList_inj.1
  simp
 simp only[this]
 exact hf
theorem stAt_whole{H:Heap}{b:Nat}{c:Array Value}{t:TypeId}{vs:List Value}{f:Heap→Prop}(h:H[b]?=some (.cells c t (0,0)))(hl:vs.length=c.size)(ho: ∀v∈vs,v.oneCell'=true)
 (hf:f (H.setIfInBounds b (.cells vs.toArray t (0,0)))):stAt H ⟨b,0,none⟩ vs f:=by
 refine⟨c,t,h,rfl,by simp;omega,ho,?_⟩
 have:setL c.toList 0 vs=vs:=by simp[setL,hl]
 simp only[this]
 exact hf
theorem wrap_id{n:Int}(h0: -9223372036854775808≤n)(h1:n≤9223372036854775807):IntKind.wrap .i64 n=n:=wrap_i64 h0 h1
theorem wrap_u8{n:Int}(h0:0≤n)(h1:n<256):IntKind.wrap .u8 n=n:=by
 simp only[IntKind.wrap,IntKind.signed,IntKind.bits];simp;omega
end Go.Sh
namespace Go.Sh
open Go.RowKit
theorem kept_of{W w':World}(hos:w'.os=W.os)(ho:Out W w')(hx:Ext W.heap w'.heap)(may:MemPlace→Prop):W.keptBut w' may:=by
 have h0:W.keptBut w' (fun _=>False):=by
  refine⟨hos,ho.output,fun i hi=>?_⟩
  obtain⟨o,h⟩: ∃o,W.heap[i]?=some o:=⟨_,Array.getElem?_eq_getElem hi⟩
  rw[hx i o h,h]
  cases o with
  |cells c t fr=>exact⟨rfl,rfl,rfl,fun _ _=>rfl⟩
  |map es k=>exact .inr ⟨rfl,rfl⟩
  |_=>rfl
 exact World.keptBut_mono (fun _ f=>f.elim) h0
end Go.Sh
namespace Go.Sh
open Go.RowKit Go.ChangeShapes Go.WideShapes Go.ChangeAt
section
variable {H:Type} {enc:TypeId×Value→H} {P:Program} {W W':World}
theorem same_of(hx:Ext W.heap W'.heap){p:MemPlace}(hp:p.block<W.heap.size):W.sameAt W' p:=by
 have h:W'.heap[p.block]?=W.heap[p.block]?:=by
  obtain⟨o,h⟩: ∃o,W.heap[p.block]?=some o:=⟨_,Array.getElem?_eq_getElem hp⟩
  rw[hx _ o h,h]
 cases p with
 |cell b o=>exact World.cell?_of_block (w:=W) h
 |map b=>exact h
theorem trodAll_ext (hl : laidOutB P = true) (hx : Ext W.heap W'.heap) {sp : Nat → Bool} : ∀ {ts : List TypeId} {vs : List Value} {ds : List (DataW H)} {ps : List MemPlace}, (ts.all fun t => P.readableRec t && decide (t < P.types.size)) = true →
    DataW.TrodAll enc P W 0 (fun _ => true) true ts vs ds ps → (∀ x ∈ ps, x.block < W.heap.size) → (∀ x ∈ ps, sp x.block = true) → DataW.TrodAll enc P W' 0 sp true ts vs ds ps
  | [], vs, ds, ps, _, h, _, _ => by
    obtain ⟨rfl, rfl, rfl⟩ := trodAll_nil h
    exact trodAll_mk0
  | t :: ts, vs, ds, ps, hr, h, hlt, hs => by
    obtain ⟨v, vs1, d, ds1, a, b, rfl, rfl, rfl, h1, h2⟩ := trodAll_cons h
    simp only [List.all_cons, Bool.and_eq_true, decide_eq_true_eq] at hr
    exact trodAll_cons_mk (WideElems.Trod_stays hl hr.1.1 hr.1.2 h1 (fun x hx' => same_of hx (hlt x (List.mem_append_left _ hx'))) (fun x hx' => hs x (List.mem_append_left _ hx')))
      (trodAll_ext hl hx (by simpa using hr.2) h2 (fun x hx' => hlt x (List.mem_append_right _ hx')) (fun x hx' => hs x (List.mem_append_right _ hx')))
theorem post_same{f:Func}{s:ChangeSpec}{apart fresh handsOn again:Bool}{args:Array Value}{v:Value}{ds gs:List (DataW H)}{before pa pv:List MemPlace}
 (hW:DataW.Whole enc P f.params.toList s.vars apart W args.toList ds gs before)
 (hres: ∀(b:Nat) (sp:Nat→Bool) (hd:Bool),DataW.TrodAll enc P W' b sp hd f.resultTypes.toList (v.resultList f.resultTypes.size) (s.fn H (ds++gs)).results [])
 (hargs: ∀sp:Nat→Bool,(∀p∈before,sp p.block=true)→DataW.TrodAll enc P W' 0 sp true f.params.toList args.toList (s.fn H (ds++gs)).args pa)
 (hvars: ∀sp:Nat→Bool,(∀p∈before,sp p.block=true)→DataW.TrodVars enc P W' sp s.vars (s.fn H (ds++gs)).vars pv)
 (hps:before=pa++pv)(hk:W.keptBut W' (· ∈before))(hfz: ∀a,a.block<W.heap.size→W'.frozen? a=W.frozen? a)
 (hok: ∀(j:Nat) (t:TypeId) (r:Value),f.resultTypes[j]?=some t→(v.resultList f.resultTypes.size)[j]?=some r→Value.okWide P W' .any 0 t r):
 s.post enc P f apart fresh handsOn again W args v W':=by
 have hold: ∀p∈before,(fun b=>decide (b<W.heap.size)) p.block=true:=fun p hp=>by simpa using hW.lt p hp
 have hlt:=hW.lt
 refine⟨ds,gs,before,[],pa,pv,hW,hres _ _ _,hargs _ hold,hvars _ hold,World.keptBut_mono (fun p hp=>⟨hp,?_⟩) hk,fun _=>?_⟩
 ·rw[hps,List.mem_append] at hp
  exact Or.inr hp
 ·obtain⟨_,_,_,_,_,hz,hn⟩:=hW
  refine⟨hok,_,_,([]++pa)++pv,⟨[]++pa,pv,trodAll_append (hargs _ (fun _ _=>rfl)) (hres _ _ _),hvars _ (fun _ _=>rfl),rfl,?_,?_⟩,?_⟩
  ·intro b off hp
   have hp':(MemPlace.cell b off)∈before:=by rw[hps];simpa using hp
   rw[hfz _ (hlt _ hp')]
   exact hz b off hp'
  ·intro ha
   have:=hn ha
   rw[hps] at this
   simpa using this
  ·intro p hp _
   rw[hps]
   simpa using hp
theorem wf_range{a:Int}(h:(Lit.int .i64 a).wf=true): -9223372036854775808≤a∧a≤9223372036854775807:=by
 simpa[Lit.wf,IntKind.min,IntKind.max,IntKind.signed,IntKind.bits] using h
end
end Go.Sh
namespace Go.Sh
def ints(l:List Int):List Value:=l.map (Value.int .i64)
theorem ints_get{l:List Int}{i:Nat}{v:Int}(h:l[i]?=some v):(ints l)[i]?=some (Value.int .i64 v):=by simp[ints,h]
theorem ints_len(l:List Int):(ints l).length=l.length:=by simp[ints]
theorem ints_append(a b:List Int):ints (a++b)=ints a++ints b:=by simp[ints]
theorem ints_set(l:List Int)(i:Nat)(v:Int):(ints l).set i (.int .i64 v)=ints (l.set i v):=by simp[ints]
theorem ints_one(l:List Int): ∀v∈ints l,v.oneCell'=true:=fun v hv=>by
 obtain⟨x,_,rfl⟩:=List.mem_map.1 hv;rfl
structure RS(H:Heap)(p:Option Addr)(l:Nat)(el:TypeId)(k:Nat)(fs:List Value):Prop where
 len:fs.length=l*k
 one: ∀v∈fs,v.oneCell'=true
 at_:l=0∨ ∃blk cs,p=some ⟨blk,0,none⟩∧H[blk]?=some (.cells cs el)∧ ∀(i:Nat) v,fs[i]?=some v→cs[i]?=some v
structure FS(n0:Nat)(H:Heap)(p:Option Addr)(l c:Nat)(el:TypeId)(k:Nat)(fs:List Value):Prop where
 len:fs.length=l*k
 le:l≤c
 one: ∀v∈fs,v.oneCell'=true
 at_:(p=none∧c=0)∨ ∃blk cs,p=some ⟨blk,0,none⟩∧n0≤blk∧H[blk]?=some (.cells cs el)∧cs.size=c*k∧ ∀(i:Nat) v,fs[i]?=some v→cs[i]?=some v
theorem FS.rs{n0:Nat}{H:Heap}{p:Option Addr}{l c:Nat}{el:TypeId}{k:Nat}{fs:List Value}(h:FS n0 H p l c el k fs):RS H p l el k fs:=by
 refine⟨h.len,h.one,?_⟩
 rcases h.at_ with ⟨_,h2⟩|⟨blk,cs,h1,_,h3,_,h5⟩
 ·left;have:=h.le;omega
 ·exact .inr ⟨blk,cs,h1,h3,h5⟩
theorem RS.keep{H H':Heap}{p:Option Addr}{l:Nat}{el:TypeId}{k:Nat}{fs:List Value}(h:RS H p l el k fs)(hk: ∀b cs,p=some ⟨b,0,none⟩→H[b]?=some (.cells cs el)→H'[b]?=some (.cells cs el)):RS H' p l el k fs:=by
 refine⟨h.len,h.one,?_⟩
 rcases h.at_ with h1|⟨blk,cs,h1,h3,h5⟩
 ·exact .inl h1
 ·exact .inr ⟨blk,cs,h1,hk _ _ h1 h3,h5⟩
theorem RS.ext{H H':Heap}{p:Option Addr}{l:Nat}{el:TypeId}{k:Nat}{fs:List Value}(h:RS H p l el k fs)(he:Ext H H'):RS H' p l el k fs:=h.keep fun b cs _ hb=>he _ _ hb
theorem FS.keep{n0:Nat}{H H':Heap}{p:Option Addr}{l c:Nat}{el:TypeId}{k:Nat}{fs:List Value}(h:FS n0 H p l c el k fs)(hk: ∀b cs,p=some ⟨b,0,none⟩→H[b]?=some (.cells cs el)→H'[b]?=some (.cells cs el)):FS n0 H' p l c el k fs:=by
 refine⟨h.len,h.le,h.one,?_⟩
 rcases h.at_ with h1|⟨blk,cs,h1,h2,h3,h5⟩
 ·exact .inl h1
 ·exact .inr ⟨blk,cs,h1,h2,hk _ _ h1 h3,h5⟩
theorem FS.ext{n0:Nat}{H H':Heap}{p:Option Addr}{l c:Nat}{el:TypeId}{k:Nat}{fs:List Value}(h:FS n0 H p l c el k fs)(he:Ext H H'):FS n0 H' p l c el k fs:=h.keep fun b cs _ hb=>he _ _ hb
theorem FS.lower{n0 n1:Nat}{H:Heap}{p:Option Addr}{l c:Nat}{el:TypeId}{k:Nat}{fs:List Value}(h:FS n0 H p l c el k fs)(hn:n1≤n0):FS n1 H p l c el k fs:=by
 refine⟨h.len,h.le,h.one,?_⟩
 rcases h.at_ with h1|⟨blk,cs,h1,h2,h3,h5⟩
 ·exact .inl h1
 ·exact .inr ⟨blk,cs,h1,by omega,h3,h5⟩
theorem FS.nil(n0:Nat)(H:Heap)(el:TypeId)(k:Nat):FS n0 H none 0 0 el k []:=⟨by simp,Nat.le_refl _,by simp,.inl ⟨rfl,rfl⟩⟩
theorem RS.nil(H:Heap)(p:Option Addr)(el:TypeId)(k:Nat):RS H p 0 el k []:=⟨by simp,by simp,.inl rfl⟩
theorem FS.whole{n0:Nat}{H:Heap}{b l k:Nat}{el:TypeId}{cs:Array Value}(hb:n0≤b)(h:H[b]?=some (.cells cs el))(hs:cs.size=l*k)(ho: ∀v∈cs.toList,v.oneCell'=true):FS n0 H (some ⟨b,0,none⟩) l l el k cs.toList:=
 ⟨by simpa using hs,Nat.le_refl _,ho,.inr ⟨b,cs,rfl,hb,h,hs,fun i v hv=>by simpa using hv⟩⟩
theorem RS.cell{H:Heap}{p:Option Addr}{l:Nat}{el:TypeId}{k:Nat}{fs:List Value}(h:RS H p l el k fs){i:Nat}{v:Value}(hv:fs[i]?=some v): ∃blk,p=some ⟨blk,0,none⟩∧Go.Sh.cell H ⟨blk,i,none⟩=some v:=by
 rcases h.at_ with h1|⟨blk,cs,h1,h3,h5⟩
 ·have:=(List.getElem?_eq_some_iff.1 hv).1
  have:=h.len
  rw[h1] at this
  omega
 ·exact⟨blk,h1,cell_get h3 (h5 i v hv)⟩
theorem RS.row{H:Heap}{p:Option Addr}{l:Nat}{el:TypeId}{k:Nat}{fs:List Value}(h:RS H p l el k fs){i:Nat}(hi:i<l)(hk:0<k){xs:Array Value}(hx: ∀(j:Nat) v,xs[j]?=some v→fs[i*k+j]?=some v): ∃blk,p=some ⟨blk,0,none⟩∧rowIn H ⟨blk,i*k,none⟩ xs:=by
 rcases h.at_ with h1|⟨blk,cs,h1,h3,h5⟩
 ·omega
 ·exact⟨blk,h1,rowIn_block h3 fun j v hv=>h5 _ _ (hx j v hv)⟩
structure IS(H:Heap)(p:Option Addr)(l:Nat)(fs:List Value):Prop where
 len:fs.length=l
 get: ∀(i:Nat) v,fs[i]?=some v→ ∃a,p=some a∧Go.Sh.cell H (a.add i)=some v
theorem IS.ext{H H':Heap}{p:Option Addr}{l:Nat}{fs:List Value}(h:IS H p l fs)(he:Ext H H'):IS H' p l fs:=⟨h.len,fun i v hv=>let ⟨a,h1,h2⟩:=h.get i v hv;⟨a,h1,he.cell h2⟩⟩
theorem IS.cell{H:Heap}{p:Option Addr}{l:Nat}{fs:List Value}(h:IS H p l fs){i:Nat}{v:Value}(hv:fs[i]?=some v): ∃a,p=some a∧Go.Sh.cell H (a.add i)=some v:=h.get i v hv
theorem RS.is{H:Heap}{p:Option Addr}{l:Nat}{el:TypeId}{fs:List Value}(h:RS H p l el 1 fs):IS H p l fs:=
 ⟨by have:=h.len;omega,fun i v hv=>let ⟨blk,h1,h2⟩:=h.cell hv;⟨_,h1,by simpa using h2⟩⟩
theorem RS.rowOf{H:Heap}{p:Option Addr}{l:Nat}{el:TypeId}{k:Nat}{fs:List Value}(h:RS H p l el k fs):rowOf H p (l*k) fs.toArray:=by
 rcases h.at_ with h1|⟨blk,cs,h1,h3,h5⟩
 ·have:=h.len
  rw[h1,Nat.zero_mul] at this
  have:fs=[]:=List.length_eq_zero_iff.1 this
  subst this
  subst h1
  cases p with
  |none=>rfl
  |some a=>exact⟨by simp,fun j v hv=>by simp at hv⟩
 ·subst h1
  refine⟨by simp[h.len],rowIn_block h3 fun j v hv=>?_⟩
  rw[Nat.zero_add]
  exact h5 j v (by simpa using hv)
theorem setL_get{c vs:List Value}{i:Nat}(h:i+vs.length≤c.length)(j:Nat):(setL c i vs)[j]?=if i≤j∧j<i+vs.length then vs[j-i]? else c[j]?:=by
 unfold setL
 by_cases h1:j<i
 ·rw[if_neg (by omega),List.append_assoc,List.getElem?_append_left (by simp;omega),List.getElem?_take_of_lt h1]
 ·by_cases h2:j<i+vs.length
  ·rw[if_pos ⟨by omega,h2⟩,List.append_assoc,List.getElem?_append_right (by simp;omega),List.getElem?_append_left (by simp;omega)]
   congr 1
   simp;omega
  ·rw[if_neg (by omega),List.getElem?_append_right (by simp;omega),List.getElem?_drop]
   congr 1
   simp;omega
theorem setL_len{c vs:List Value}{i:Nat}(h:i+vs.length≤c.length):(setL c i vs).length=c.length:=by unfold setL;simp;omega
theorem stAt_some{H:Heap}{b i:Nat}{c:Array Value}{t:TypeId}{vs:List Value}{f:Heap→Prop}(h:H[b]?=some (.cells c t (0,0)))(hl:i+vs.length≤c.size)(ho: ∀v∈vs,v.oneCell'=true)
 (hf: ∀c':Array Value,c'.size=c.size→(∀j:Nat,c'[j]?=if i≤j∧j<i+vs.length then vs[j-i]? else c[j]?)→f (H.setIfInBounds b (.cells c' t (0,0)))):stAt H ⟨b,i,none⟩ vs f:=by
 have hl':i+vs.length≤c.toList.length:=by simpa using hl
 refine⟨c,t,h,rfl,hl,ho,?_⟩
 refine hf (setL c.toList i vs).toArray (by simp[setL_len hl']) fun j=>?_
 rw[List.getElem?_toArray,setL_get hl' j,Array.getElem?_toList (xs:=c)]
theorem FS.app'{n0:Nat}{H:Heap}{p q:Option Addr}{l c n:Nat}{el:TypeId}{k bytes:Nat}{zero:Array Value}{fs gs:List Value}(h:FS n0 H p l c el k fs)(hrow:Go.Sh.rowOf H q (n*k) gs.toArray)(hgl:gs.length=n*k)(hgo: ∀v∈gs,v.oneCell'=true)(hk:0<k)(hn:n0≤H.size)(hz:zero.size=k)
 (hb:(l+n)*bytes≤70368744177664)(hm:l+n≤1000000000000){K:Option Addr→Nat→Nat→Heap→Prop}
 (hK: ∀p' c' H',FS n0 H' p' (l+n) c' el k (fs++gs)→(∀(b:Nat) (o:Obj),H[b]?=some o→p≠some ⟨b,0,none⟩→H'[b]?=some o)→H.size≤H'.size→K p' (l+n) c' H'):appQ k bytes zero H p l c q n el K:=by
 have hfl:=h.len
 have hlen:(fs++gs).length=(l+n)*k:=by rw[List.length_append,hfl,hgl,Nat.add_mul]
 have hone: ∀v∈fs++gs,v.oneCell'=true:=fun v hv=>(List.mem_append.1 hv).elim (h.one v) (hgo v)
 refine⟨hb,by omega,gs.toArray,hrow,fun hle=>?_,fun hlt=>?_⟩
 ·rcases h.at_ with ⟨rfl,hc0⟩|⟨blk,cs,rfl,h2,h3,h4,h5⟩
  ·refine hK none c H ⟨hlen,hle,hone,.inl ⟨rfl,hc0⟩⟩ (fun b o hb _=>hb) (Nat.le_refl _)
  ·simp only[add_none,Nat.zero_add]
   have hcap:(l+n)*k≤c*k:=Nat.mul_le_mul_right k hle
   rw[Nat.add_mul] at hcap
   refine stAt_some h3 (by show l*k+gs.length≤cs.size;omega) (by simpa using hgo) fun c' hc' hg=>?_
   refine hK _ _ _ ⟨hlen,hle,hone,.inr ⟨blk,c',rfl,h2,get_set_self h3,by omega,fun i v hv=>?_⟩⟩ (fun b o hb hne=>get_set_ne (fun hh=>hne (by rw[hh])) hb) (by simp)
   rw[hg]
   by_cases hi:i<fs.length
   ·rw[if_neg (by omega)]
    rw[List.getElem?_append_left hi] at hv
    exact h5 i v hv
   ·rw[List.getElem?_append_right (by omega)] at hv
    have hlt:=(List.getElem?_eq_some_iff.1 hv).1
    rw[if_pos ⟨by omega,by show i<l*k+gs.length;omega⟩]
    rw[←hfl]
    simpa using hv
 ·have hrow: ∃ys,Go.Sh.rowOf H p (l*k) ys∧ys.toList=fs:=⟨fs.toArray,h.rs.rowOf,by simp⟩
  obtain⟨ys,hy,hvs⟩:=hrow
  refine⟨ys,hy,fun c' hc'=>?_⟩
  rw[zeroCells_eq _ _ (by omega)]
  have hcap:(l+n)*k≤c'*k:=Nat.mul_le_mul_right k hc'
  have hys:ys.size=l*k:=by rw[←Array.length_toList,hvs,hfl]
  refine hK _ _ _ ⟨hlen,hc',hone,.inr ⟨H.size,_,rfl,hn,get_push_self _ _,?_,fun i v hv=>?_⟩⟩ (fun b o hb _=>get_push hb) (by simp)
  ·simp only[Array.size_append,hys,List.size_toArray,reps_length,Array.length_toList,hz,hgl]
   rw[Nat.sub_mul]
   rw[Nat.add_mul] at hcap ⊢
   omega
  ·have hi:=(List.getElem?_eq_some_iff.1 hv).1
   rw[Array.getElem?_append_left (by simp[hys,hgl];rw[hlen,Nat.add_mul] at hi;omega)]
   have:(ys++gs.toArray).toList=fs++gs:=by simp[hvs]
   rw[←Array.getElem?_toList,this]
   exact hv
theorem FS.app{n0:Nat}{H:Heap}{p q:Option Addr}{l c n:Nat}{el:TypeId}{k bytes:Nat}{zero:Array Value}{fs gs:List Value}(h:FS n0 H p l c el k fs)(hs:RS H q n el k gs)(hk:0<k)(hn:n0≤H.size)(hz:zero.size=k)
 (hb:(l+n)*bytes≤70368744177664)(hm:l+n≤1000000000000){K:Option Addr→Nat→Nat→Heap→Prop}
 (hK: ∀p' c' H',FS n0 H' p' (l+n) c' el k (fs++gs)→(∀(b:Nat) (o:Obj),H[b]?=some o→p≠some ⟨b,0,none⟩→H'[b]?=some o)→H.size≤H'.size→K p' (l+n) c' H'):appQ k bytes zero H p l c q n el K:=
 h.app' hs.rowOf hs.len hs.one hk hn hz hb hm hK
theorem FS.set{n0:Nat}{H:Heap}{b l c:Nat}{el:TypeId}{k:Nat}{fs:List Value}{i:Nat}{v:Value}{f:Heap→Prop}(h:FS n0 H (some ⟨b,0,none⟩) l c el k fs)(hi:i<fs.length)(ho:v.oneCell'=true)
 (hf: ∀H',FS n0 H' (some ⟨b,0,none⟩) l c el k (fs.set i v)→(∀(b':Nat) (o:Obj),H[b']?=some o→b'≠b→H'[b']?=some o)→H'.size=H.size→f H'):stAt H ⟨b,i,none⟩ [v] f:=by
 have hlen:=h.len
 rcases h.at_ with ⟨h1,_⟩|⟨blk,cs,h1,h2,h3,h4,h5⟩
 ·cases h1
 ·cases h1
  have hics:i<cs.size:=by
   have:=h5 i fs[i] (List.getElem?_eq_getElem hi)
   exact(Array.getElem?_eq_some_iff.1 this).1
  refine stAt_one h3 hics ho ?_
  refine hf _ ⟨by simpa using hlen,h.le,fun u hu=>?_,.inr ⟨b,cs.setIfInBounds i v,rfl,h2,get_set_self h3,by simpa using h4,fun j u hu=>?_⟩⟩ (fun b' o hb' hne=>get_set_ne (Ne.symm hne) hb') (by simp)
  ·rcases List.mem_or_eq_of_mem_set hu with hu|rfl
   ·exact h.one u hu
   ·exact ho
  ·rw[List.getElem?_set] at hu
   rw[Array.getElem?_setIfInBounds]
   by_cases hij:i=j
   ·subst hij
    rw[if_pos rfl,if_pos hi] at hu
    rw[if_pos rfl,if_pos hics]
    exact hu
   ·rw[if_neg hij] at hu
    rw[if_neg hij]
    exact h5 j u hu
end Go.Sh
namespace Go.Sh
structure Rs where
 at_:Heap→List Nat→Prop
 loc: ∀{H H':Heap} {fp:List Nat},at_ H fp→(∀b∈fp,∀o,H[b]?=some o→H'[b]?=some o)→at_ H' fp
 has: ∀{H:Heap} {fp:List Nat},at_ H fp→ ∀b∈fp,b<H.size
def Rs.cell(b:Nat)(cs:Array Value)(ty:TypeId):Rs where
 at_ H fp:=fp=[b]∧H[b]?=some (.cells cs ty)
 loc h hk:=⟨h.1,hk _ (by rw[h.1];exact List.mem_singleton.2 rfl) _ h.2⟩
 has h b hb:=by rw[h.1,List.mem_singleton] at hb;subst hb;exact lt_of_get h.2
def Rs.sl(p:Option Addr)(l c:Nat)(el:TypeId)(k:Nat)(fs:List Value):Rs where
 at_ H fp:=FS 0 H p l c el k fs∧((p=none∧fp=[])∨ ∃blk,p=some ⟨blk,0,none⟩∧fp=[blk])
 loc h hk:=by
  refine⟨h.1.keep fun b cs hp hb=>hk b ?_ _ hb,h.2⟩
  rcases h.2 with ⟨h1,_⟩|⟨blk,h1,h2⟩
  ·rw[h1] at hp;cases hp
  ·rw[h1] at hp;cases hp;rw[h2];exact List.mem_singleton.2 rfl
 has h b hb:=by
  rcases h.2 with ⟨_,h2⟩|⟨blk,h1,h2⟩
  ·rw[h2] at hb;cases hb
  ·rw[h2,List.mem_singleton] at hb
   subst hb
   rcases h.1.at_ with ⟨h3,_⟩|⟨blk',cs,h3,_,h4,_⟩
   ·rw[h1] at h3;cases h3
   ·rw[h1] at h3;cases h3;exact lt_of_get h4
def Rs.star(r s:Rs):Rs where
 at_ H fp:= ∃a b,fp=a++b∧r.at_ H a∧s.at_ H b
 loc:=fun⟨a,b,e,h1,h2⟩ hk=>⟨a,b,e,r.loc h1 fun x hx=>hk x (by rw[e];exact List.mem_append_left _ hx),s.loc h2 fun x hx=>hk x (by rw[e];exact List.mem_append_right _ hx)⟩
 has:=fun⟨a,b,e,h1,h2⟩ x hx=>by
  rw[e] at hx
  rcases List.mem_append.1 hx with hx|hx
  ·exact r.has h1 x hx
  ·exact s.has h2 x hx
def Rs.ex{α:Type}(f:α→Rs):Rs where
 at_ H fp:= ∃a,(f a).at_ H fp
 loc:=fun⟨a,h⟩ hk=>⟨a,(f a).loc h hk⟩
 has:=fun⟨a,h⟩=>(f a).has h
def Rs.pu(q:Prop)(r:Rs):Rs where
 at_ H fp:=q∧r.at_ H fp
 loc:=fun⟨a,h⟩ hk=>⟨a,r.loc h hk⟩
 has:=fun⟨a,h⟩=>r.has h
def Rs.emp:Rs where
 at_ H fp:=fp=[]
 loc h _:=h
 has h b hb:=by rw[h] at hb;cases hb
def Lie(H:Heap):List Rs→List (List Nat)→Prop
 |[],[]=>True
 |r::σ,fp::fps=>r.at_ H fp∧Lie H σ fps
 |_,_=>False
theorem Lie.get{H:Heap}: ∀{σ:List Rs} {fps:List (List Nat)},Lie H σ fps→ ∀{i:Nat} {r:Rs},σ[i]?=some r→ ∃fp,fps[i]?=some fp∧r.at_ H fp
 |[],[],_,i,r,h=>by simp at h
 |r::σ,fp::fps,hl,0,s,h=>by simp at h;subst h;exact⟨fp,rfl,hl.1⟩
 |r::σ,fp::fps,hl,i+1,s,h=>by
  simp only[List.getElem?_cons_succ] at h ⊢
  exact Lie.get hl.2 h
theorem Lie.has{H:Heap}: ∀{σ:List Rs} {fps:List (List Nat)},Lie H σ fps→ ∀b∈fps.flatten,b<H.size
 |[],[],_,b,hb=>by simp at hb
 |r::σ,fp::fps,hl,b,hb=>by
  simp only[List.flatten_cons,List.mem_append] at hb
  rcases hb with hb|hb
  ·exact r.has hl.1 b hb
  ·exact Lie.has hl.2 b hb
theorem Lie.loc{H H':Heap}: ∀{σ:List Rs} {fps:List (List Nat)},Lie H σ fps→(∀b∈fps.flatten,∀o,H[b]?=some o→H'[b]?=some o)→Lie H' σ fps
 |[],[],_,_=>trivial
 |r::σ,fp::fps,hl,hk=>by
  simp only[List.flatten_cons,List.mem_append] at hk
  exact⟨r.loc hl.1 fun b hb=>hk b (.inl hb),Lie.loc hl.2 fun b hb=>hk b (.inr hb)⟩
theorem Lie.set {H H' : Heap} : ∀ {σ : List Rs} {fps : List (List Nat)} {i : Nat} {fp fp' : List Nat} {r' : Rs}, Lie H σ fps → fps.flatten.Nodup → fps[i]? = some fp → r'.at_ H' fp' → fp'.Nodup → (∀ b ∈ fp', b ∈ fp ∨ H.size ≤ b) →
    (∀ b o, H[b]? = some o → b ∉ fp → H'[b]? = some o) → Lie H' (σ.set i r') (fps.set i fp') ∧ (fps.set i fp').flatten.Nodup
  | [], [], i, fp, fp', r', hl, hn, hi, h, hn', hf, hk => by simp at hi
  | r :: σ, g :: fps, 0, fp, fp', r', hl, hn, hi, h, hn', hf, hk => by
    simp at hi; subst hi
    simp only [List.flatten_cons, List.nodup_append] at hn
    refine ⟨⟨h, hl.2.loc fun b hb o ho => hk b o ho fun hg => hn.2.2 b hg b hb rfl⟩, ?_⟩
    simp only [List.set_cons_zero, List.flatten_cons, List.nodup_append]
    refine ⟨hn', hn.2.1, fun a ha b hb hab => ?_⟩
    subst hab
    rcases hf a ha with h1 | h1
    · exact hn.2.2 a h1 a hb rfl
    · have := Lie.has hl.2 a hb; omega
  | r :: σ, g :: fps, i + 1, fp, fp', r', hl, hn, hi, h, hn', hf, hk => by
    simp only [List.getElem?_cons_succ] at hi
    simp only [List.flatten_cons, List.nodup_append] at hn
    obtain ⟨h1, h2⟩ := Lie.set hl.2 hn.2.1 hi h hn' hf hk
    have hmem : ∀ b ∈ fp, b ∈ fps.flatten := fun b hb => List.mem_flatten.2 ⟨fp, List.mem_of_getElem? hi, hb⟩
    refine ⟨⟨r.loc hl.1 fun b hb o ho => hk b o ho fun hg => hn.2.2 b hb b (hmem b hg) rfl, h1⟩, ?_⟩
    simp only [List.set_cons_succ, List.flatten_cons, List.nodup_append]
    refine ⟨hn.1, h2, fun a ha b hb hab => ?_⟩
    subst hab
    obtain ⟨f, hf1, hf2⟩ := List.mem_flatten.1 hb
    rcases List.mem_or_eq_of_mem_set hf1 with hf1 | rfl
    · exact hn.2.2 a ha a (List.mem_flatten.2 ⟨f, hf1, hf2⟩) rfl
    · rcases hf a hf2 with h3 | h3
      · exact hn.2.2 a ha a (hmem a h3) rfl
      · have := r.has hl.1 a ha; omega
structure St(H0 H:Heap)(σ:List Rs):Prop where
 ext:Ext H0 H
 own: ∃fps,Lie H σ fps∧fps.flatten.Nodup∧ ∀b∈fps.flatten,H0.size≤b
theorem St.nil(H:Heap):St H H []:=⟨Ext.refl H,[],trivial,by simp,by simp⟩
theorem St.of_ext{H0 H:Heap}(h:Ext H0 H):St H0 H []:=⟨h,[],trivial,by simp,by simp⟩
variable {H0 H H':Heap} {σ τ:List Rs}
theorem nodup_mem: ∀{fps:List (List Nat)},fps.flatten.Nodup→ ∀fp∈fps,fp.Nodup
 |[],_,fp,h=>by cases h
 |g::r,hn,fp,h=>by
  rw[List.flatten_cons,List.nodup_append] at hn
  rcases List.mem_cons.1 h with rfl|h
  ·exact hn.1
  ·exact nodup_mem hn.2.1 fp h
theorem St.upd(hs:St H0 H σ){i:Nat}{r r':Rs}(hi:σ[i]?=some r)
 (h: ∀fp,r.at_ H fp→fp.Nodup→(∀b∈fp,H0.size≤b)→ ∃fp',r'.at_ H' fp'∧fp'.Nodup∧(∀b∈fp',b∈fp∨H.size≤b)∧ ∀b o,H[b]?=some o→b∉fp→H'[b]?=some o):St H0 H' (σ.set i r'):=by
 obtain⟨he,fps,hl,hn,hb⟩:=hs
 obtain⟨fp,hfp,hat⟩:=hl.get hi
 have hmem: ∀b∈fp,b∈fps.flatten:=fun b hb=>List.mem_flatten.2 ⟨fp,List.mem_of_getElem? hfp,hb⟩
 have hfn:fp.Nodup:=nodup_mem hn _ (List.mem_of_getElem? hfp)
 obtain⟨fp',h1,h2,h3,h4⟩:=h fp hat hfn fun b hb'=>hb b (hmem b hb')
 obtain⟨h5,h6⟩:=hl.set hn hfp h1 h2 h3 h4
 refine⟨fun b o ho=>h4 b o (he b o ho) fun hf=>?_,_,h5,h6,fun b hb'=>?_⟩
 ·have:=hb b (hmem b hf);have:=lt_of_get ho;omega
 ·obtain⟨f,hf1,hf2⟩:=List.mem_flatten.1 hb'
  rcases List.mem_or_eq_of_mem_set hf1 with hf1|rfl
  ·exact hb b (List.mem_flatten.2 ⟨f,hf1,hf2⟩)
  ·rcases h3 b hf2 with h7|h7
   ·exact hb b (hmem b h7)
   ·have:=he.size;omega
theorem St.as(hs:St H0 H σ)(i:Nat){r r':Rs}(hi:σ[i]?=some r)(h: ∀fp,r.at_ H fp→r'.at_ H fp):St H0 H (σ.set i r'):=
 hs.upd hi fun fp h1 h2 _=>⟨fp,h fp h1,h2,fun b hb=> .inl hb,fun b o ho _=>ho⟩
theorem St.step(hs:St H0 H σ)(he:Ext H H'):St H0 H' σ:=by
 obtain⟨h1,fps,hl,hn,hb⟩:=hs
 exact⟨h1.trans he,fps,hl.loc fun b _ o ho=>he b o ho,hn,hb⟩
theorem Lie.append{H:Heap}: ∀{σ τ:List Rs} {f g:List (List Nat)},Lie H σ f→Lie H τ g→Lie H (σ++τ) (f++g)
 |[],_,[],_,_,h=>h
 |_::_,_,_::_,_,h,h'=>⟨h.1,Lie.append h.2 h'⟩
theorem Lie.split{H:Heap}: ∀{σ τ:List Rs} {f:List (List Nat)},Lie H (σ++τ) f→ ∃a b,f=a++b∧Lie H σ a∧Lie H τ b
 |[],_,f,h=>⟨[],f,rfl,trivial,h⟩
 |r::σ,τ,[],h=>h.elim
 |r::σ,τ,g::f,h=>let ⟨a,b,e,h1,h2⟩:=Lie.split h.2;⟨g::a,b,by rw[e];rfl,⟨h.1,h1⟩,h2⟩
theorem St.call(hs:St H0 H σ)(ht:St H H' τ):St H0 H' (τ++σ):=by
 obtain⟨h1,fps,hl,hn,hb⟩:=hs
 obtain⟨h2,gps,hl2,hn2,hb2⟩:=ht
 refine⟨h1.trans h2,gps++fps,hl2.append (hl.loc fun b _ o ho=>h2 b o ho),?_,fun b h=>?_⟩
 ·rw[List.flatten_append,List.nodup_append]
  refine⟨hn2,hn,fun a ha b hb' hab=>?_⟩
  subst hab
  have:=hb2 a ha;have:=hl.has a hb';omega
 ·rw[List.flatten_append,List.mem_append] at h
  rcases h with h|h
  ·have:=hb2 b h;have:=h1.size;omega
  ·exact hb b h
theorem St.perm(hs:St H0 H σ)(hp:σ.Perm τ):St H0 H τ:=by
 obtain⟨he,fps,hl,hn,hb⟩:=hs
 have: ∀{σ τ:List Rs},σ.Perm τ→ ∀fps,Lie H σ fps→ ∃gps,Lie H τ gps∧fps.Perm gps:=by
  intro σ τ hp
  induction hp with
  |nil=>intro fps h;exact⟨fps,h,List.Perm.refl _⟩
  |cons x _ ih=>
   intro fps h
   match fps,h with
   |f::fps,h=>obtain⟨g,h1,h2⟩:=ih fps h.2;exact⟨f::g,⟨h.1,h1⟩,h2.cons f⟩
  |swap x y l=>
   intro fps h
   match fps,h with
   |f::g::fps,h=>exact⟨g::f::fps,⟨h.2.1,h.1,h.2.2⟩,List.Perm.swap _ _ _⟩
  |trans _ _ ih1 ih2=>
   intro fps h
   obtain⟨g,h1,h2⟩:=ih1 fps h
   obtain⟨k,h3,h4⟩:=ih2 g h1
   exact⟨k,h3,h2.trans h4⟩
 obtain⟨gps,h1,h2⟩:=this hp fps hl
 exact⟨he,gps,h1,(h2.flatten.nodup_iff).1 hn,fun b h=>hb b ((h2.flatten.mem_iff).2 h)⟩
theorem St.app(hs:St H0 H (σ++τ)):St H0 H σ∧St H0 H τ:=by
 obtain⟨he,fps,hl,hn,hb⟩:=hs
 obtain⟨a,b,rfl,h1,h2⟩:=hl.split
 rw[List.flatten_append,List.nodup_append] at hn
 rw[List.flatten_append] at hb
 exact⟨⟨he,a,h1,hn.1,fun x hx=>hb x (List.mem_append_left _ hx)⟩,⟨he,b,h2,hn.2.1,fun x hx=>hb x (List.mem_append_right _ hx)⟩⟩
theorem St.tail{r:Rs}(hs:St H0 H (r::σ)):St H0 H σ:=(St.app (σ:=[r]) hs).2
theorem St.drop(hs:St H0 H σ)(n:Nat):St H0 H (σ.drop n):=by
 rw[←List.take_append_drop n σ] at hs
 exact hs.app.2
theorem St.take(hs:St H0 H σ)(n:Nat):St H0 H (σ.take n):=by
 rw[←List.take_append_drop n σ] at hs
 exact hs.app.1
theorem St.swap{r s:Rs}(hs:St H0 H (r::s::σ)):St H0 H (s::r::σ):=hs.perm (List.Perm.swap _ _ _)
theorem St.front(hs:St H0 H σ)(i:Nat){r:Rs}(hi:σ[i]?=some r):St H0 H (r::σ.eraseIdx i):=by
 refine hs.perm ?_
 have: ∀(l:List Rs) (i:Nat),l[i]?=some r→l.Perm (r::l.eraseIdx i):=by
  intro l
  induction l with
  |nil=>intro i h;simp at h
  |cons x l ih=>
   intro i h
   cases i with
   |zero=>simp at h;subst h;exact List.Perm.refl _
   |succ i=>exact((ih i (by simpa using h)).cons x).trans (List.Perm.swap _ _ _)
 exact this σ i hi
theorem St.back{r r':Rs}{i:Nat}(hi:σ[i]?=some r)(hs:St H0 H (r'::σ.eraseIdx i)):St H0 H (σ.set i r'):=by
 refine hs.perm ?_
 have: ∀(l:List Rs) (i:Nat),l[i]?=some r→(r'::l.eraseIdx i).Perm (l.set i r'):=by
  intro l
  induction l with
  |nil=>intro i h;simp at h
  |cons x l ih=>
   intro i h
   cases i with
   |zero=>exact List.Perm.refl _
   |succ i=>exact(List.Perm.swap _ _ _).trans ((ih i (by simpa using h)).cons x)
 exact this σ i hi
theorem St.del(hs:St H0 H σ)(i:Nat):St H0 H (σ.eraseIdx i):=by
 rcases Nat.lt_or_ge i σ.length with h|h
 ·exact(hs.front i (List.getElem?_eq_getElem h)).tail
 ·rw[List.eraseIdx_of_length_le h];exact hs
theorem St.cat{r s:Rs}(hs:St H0 H (r::s::σ)):St H0 H (.star r s::σ):=by
 obtain⟨he,fps,hl,hn,hb⟩:=hs
 match fps,hl with
 |f::g::fps,hl=>exact⟨he,(f++g)::fps,⟨⟨f,g,rfl,hl.1,hl.2.1⟩,hl.2.2⟩,by simpa using hn,fun b h=>hb b (by simpa using h)⟩
theorem St.cut{r s:Rs}(hs:St H0 H (.star r s::σ)):St H0 H (r::s::σ):=by
 obtain⟨he,fps,hl,hn,hb⟩:=hs
 match fps,hl with
 |_::fps,⟨⟨f,g,rfl,h1,h2⟩,h3⟩=>exact⟨he,f::g::fps,⟨h1,h2,h3⟩,by simpa using hn,fun b h=>hb b (by simpa using h)⟩
theorem St.unex{α:Type}{f:α→Rs}(hs:St H0 H (.ex f::σ)): ∃a,St H0 H (f a::σ):=by
 obtain⟨he,fps,hl,hn,hb⟩:=hs
 match fps,hl with
 |g::fps,⟨⟨a,h1⟩,h3⟩=>exact⟨a,he,g::fps,⟨h1,h3⟩,hn,hb⟩
theorem St.inex{α:Type}{f:α→Rs}(a:α)(hs:St H0 H (f a::σ)):St H0 H (.ex f::σ):=by
 obtain⟨he,fps,hl,hn,hb⟩:=hs
 match fps,hl with
 |g::fps,⟨h1,h3⟩=>exact⟨he,g::fps,⟨⟨a,h1⟩,h3⟩,hn,hb⟩
theorem St.fact{q:Prop}{r:Rs}(hs:St H0 H (.pu q r::σ)):q∧St H0 H (r::σ):=by
 obtain⟨he,fps,hl,hn,hb⟩:=hs
 match fps,hl with
 |g::fps,⟨⟨a,h1⟩,h3⟩=>exact⟨a,he,g::fps,⟨h1,h3⟩,hn,hb⟩
theorem St.with{q:Prop}{r:Rs}(hq:q)(hs:St H0 H (r::σ)):St H0 H (.pu q r::σ):=by
 obtain⟨he,fps,hl,hn,hb⟩:=hs
 match fps,hl with
 |g::fps,⟨h1,h3⟩=>exact⟨he,g::fps,⟨⟨hq,h1⟩,h3⟩,hn,hb⟩
theorem St.new(hs:St H0 H σ){r:Rs}{fp:List Nat}(he:Ext H H')(h:r.at_ H' fp)(hn:fp.Nodup)(hb: ∀b∈fp,H.size≤b):St H0 H' (r::σ):=
 St.call (τ:=[r]) hs ⟨he,[fp],⟨h,trivial⟩,by simpa using hn,by simpa using hb⟩
theorem St.block(hs:St H0 H σ)(i:Nat){b:Nat}{cs:Array Value}{ty:TypeId}(hi:σ[i]?=some (.cell b cs ty)):H[b]?=some (.cells cs ty):=by
 obtain⟨_,fps,hl,_⟩:=hs
 obtain⟨fp,_,h⟩:=hl.get hi
 exact h.2
theorem St.get(hs:St H0 H σ)(i:Nat){b j:Nat}{cs:Array Value}{ty:TypeId}{v:Value}(hi:σ[i]?=some (.cell b cs ty))(hj:cs[j]?=some v):Sh.cell H ⟨b,j,none⟩=some v:=
 cell_get (hs.block i hi) hj
theorem St.alc(hs:St H0 H σ){cs:Array Value}{ty:TypeId}{K:Nat→Heap→Prop}(hK: ∀b H',St H0 H' (.cell b cs ty::σ)→K b H'):Sh.alc H (.cells cs ty) K:=
 hK _ _ (hs.new (Ext.push _ _) (fp:=[H.size]) ⟨rfl,get_push_self _ _⟩ (by simp) (by simp))
theorem St.alcE(hs:St H0 H σ){cs:Array Value}{ty:TypeId}{K:Nat→Heap→Prop}(hK: ∀b H',Ext H H'→St H0 H' (.cell b cs ty::σ)→K b H'):Sh.alc H (.cells cs ty) K:=
 hK _ _ (Ext.push _ _) (hs.new (Ext.push _ _) (fp:=[H.size]) ⟨rfl,get_push_self _ _⟩ (by simp) (by simp))
theorem St.put(hs:St H0 H σ)(i:Nat){b j:Nat}{cs:Array Value}{ty:TypeId}{v:Value}{f:Heap→Prop}(hi:σ[i]?=some (.cell b cs ty))(hj:j<cs.size)(ho:v.oneCell'=true)
 (hK: ∀H',St H0 H' (σ.set i (.cell b (cs.setIfInBounds j v) ty))→f H'):stAt H ⟨b,j,none⟩ [v] f:=
 stAt_one (hs.block i hi) hj ho (hK _ (hs.upd hi fun fp h1 _ _=>⟨[b],⟨rfl,get_set_self h1.2⟩,by simp,fun x hx=> .inl (h1.1▸hx),fun x o ho hx=>get_set_ne (fun he=>hx (by rw[h1.1,he];exact List.mem_singleton.2 rfl)) ho⟩))
theorem St.putAll(hs:St H0 H σ)(i:Nat){b:Nat}{cs:Array Value}{ty:TypeId}{vs:List Value}{f:Heap→Prop}(hi:σ[i]?=some (.cell b cs ty))(hl:vs.length=cs.size)(ho: ∀v∈vs,v.oneCell'=true)
 (hK: ∀H',St H0 H' (σ.set i (.cell b vs.toArray ty))→f H'):stAt H ⟨b,0,none⟩ vs f:=
 stAt_whole (hs.block i hi) hl ho (hK _ (hs.upd hi fun fp h1 _ _=>⟨[b],⟨rfl,get_set_self h1.2⟩,by simp,fun x hx=> .inl (h1.1▸hx),fun x o ho hx=>get_set_ne (fun he=>hx (by rw[h1.1,he];exact List.mem_singleton.2 rfl)) ho⟩))
theorem St.putRow(hs:St H0 H σ)(i:Nat){b j:Nat}{cs:Array Value}{ty:TypeId}{vs:List Value}{f:Heap→Prop}(hi:σ[i]?=some (.cell b cs ty))(hl:j+vs.length≤cs.size)(ho: ∀v∈vs,v.oneCell'=true)
 (hK: ∀H',St H0 H' (σ.set i (.cell b (setL cs.toList j vs).toArray ty))→f H'):stAt H ⟨b,j,none⟩ vs f:=
 ⟨cs,ty,hs.block i hi,rfl,hl,ho,hK _ (hs.upd hi fun fp h1 _ _=>⟨[b],⟨rfl,get_set_self h1.2⟩,by simp,fun x hx=> .inl (h1.1▸hx),fun x o ho hx=>get_set_ne (fun he=>hx (by rw[h1.1];exact List.mem_singleton.2 he.symm)) ho⟩)⟩
theorem St.fs(hs:St H0 H σ)(i:Nat){p:Option Addr}{l c k:Nat}{el:TypeId}{fs:List Value}(hi:σ[i]?=some (.sl p l c el k fs)):FS 0 H p l c el k fs:=by
 obtain⟨_,fps,hl,_⟩:=hs
 obtain⟨fp,_,h⟩:=hl.get hi
 exact h.1
theorem St.rs(hs:St H0 H σ)(i:Nat){p:Option Addr}{l c k:Nat}{el:TypeId}{fs:List Value}(hi:σ[i]?=some (.sl p l c el k fs)):RS H p l el k fs:=(hs.fs i hi).rs
theorem St.is(hs:St H0 H σ)(i:Nat){p:Option Addr}{l c:Nat}{el:TypeId}{fs:List Value}(hi:σ[i]?=some (.sl p l c el 1 fs)):IS H p l fs:=(hs.rs i hi).is
theorem FS.resrc{n0:Nat}{H:Heap}{p:Option Addr}{l c k:Nat}{el:TypeId}{fs:List Value}(h:FS n0 H p l c el k fs): ∃fp,(Rs.sl p l c el k fs).at_ H fp∧fp.Nodup∧(∀b∈fp,n0≤b)∧ ∀b∈fp,p=some ⟨b,0,none⟩:=by
 rcases h.at_ with ⟨h1,h2⟩|⟨blk,cs,h1,h2,h3,h4,h5⟩
 ·exact⟨[],⟨h.lower (Nat.zero_le _),.inl ⟨h1,rfl⟩⟩,by simp,by simp,by simp⟩
 ·exact⟨[blk],⟨h.lower (Nat.zero_le _),.inr ⟨blk,h1,rfl⟩⟩,by simp,by simpa using h2,by simpa using h1⟩
theorem St.newSl(hs:St H0 H σ){p:Option Addr}{l c k:Nat}{el:TypeId}{fs:List Value}(he:Ext H H')(h:FS H.size H' p l c el k fs):St H0 H' (.sl p l c el k fs::σ):=by
 obtain⟨fp,h1,h2,h3,_⟩:=h.resrc
 exact hs.new he h1 h2 h3
theorem St.nilSl(hs:St H0 H σ)(el:TypeId)(k:Nat):St H0 H (.sl none 0 0 el k []::σ):=hs.newSl (Ext.refl _) (FS.nil _ _ _ _)
theorem St.toSl(hs:St H0 H σ)(i:Nat){b l k:Nat}{cs:Array Value}{ty:TypeId}{fs:List Value}(hi:σ[i]?=some (.cell b cs ty))(hl:cs.size=l*k)(hf:cs.toList=fs)(ho: ∀v∈fs,v.oneCell'=true):
 St H0 H (σ.set i (.sl (some ⟨b,0,none⟩) l l ty k fs)):=
 hs.as i hi fun fp h=>⟨⟨by rw[←hf];simpa using hl,Nat.le_refl _,ho,.inr ⟨b,cs,rfl,Nat.zero_le _,h.2,hl,fun j v hv=>by rw[←hf] at hv;simpa using hv⟩⟩,.inr ⟨b,rfl,h.1⟩⟩
theorem FS.app2{n0:Nat}{H:Heap}{p q:Option Addr}{l c n:Nat}{el:TypeId}{k bytes:Nat}{zero:Array Value}{fs gs:List Value}(h:FS n0 H p l c el k fs)(hrow:Go.Sh.rowOf H q (n*k) gs.toArray)(hgl:gs.length=n*k)(hgo: ∀v∈gs,v.oneCell'=true)(hk:0<k)(hn:n0≤H.size)(hz:zero.size=k)
 (hb:(l+n)*bytes≤70368744177664)(hm:l+n≤1000000000000){K:Option Addr→Nat→Nat→Heap→Prop}
 (hK: ∀p' c' H',FS n0 H' p' (l+n) c' el k (fs++gs)→(∀(b:Nat) (o:Obj),H[b]?=some o→p≠some ⟨b,0,none⟩→H'[b]?=some o)→(p'=p∨p'=some ⟨H.size,0,none⟩)→K p' (l+n) c' H'):appQ k bytes zero H p l c q n el K:=by
 by_cases hle:l+n≤c
 ·obtain⟨g1,g2,xs,g3,g4,_⟩:=h.app' (K:=fun p' l' c' H'=>p'=p→K p' l' c' H') hrow hgl hgo hk hn hz hb hm fun p' c' H' h1 h2 h3 hp=>hK p' c' H' h1 h2 (.inl hp)
  refine⟨g1,g2,xs,g3,fun hle=>?_,fun hlt=>by omega⟩
  have:=g4 hle
  cases p with
  |none=>exact this rfl
  |some a=>
   obtain⟨cs,T,a1,a2,a3,a4,a5⟩:=this
   exact⟨cs,T,a1,a2,a3,a4,a5 rfl⟩
 ·obtain⟨g1,g2,xs,g3,_,g4⟩:=h.app' (K:=fun p' l' c' H'=>p'=some ⟨H.size,0,none⟩→K p' l' c' H') hrow hgl hgo hk hn hz hb hm fun p' c' H' h1 h2 h3 hp=>hK p' c' H' h1 h2 (.inr hp)
  refine⟨g1,g2,xs,g3,fun hle'=>by omega,fun hlt=>?_⟩
  obtain⟨ys,b1,b2⟩:=g4 hlt
  exact⟨ys,b1,fun c' hc'=>b2 c' hc' rfl⟩
theorem Rs.sl_at{H:Heap}{p:Option Addr}{l c k:Nat}{el:TypeId}{fs:List Value}{fp:List Nat}(h:(Rs.sl p l c el k fs).at_ H fp){b:Nat}(hp:p=some ⟨b,0,none⟩):fp=[b]:=by
 rcases h.2 with ⟨h1,_⟩|⟨blk,h1,h2⟩
 ·rw[hp] at h1;cases h1
 ·rw[hp] at h1;cases h1;exact h2
theorem St.slSet(hs:St H0 H σ){i:Nat}{p p':Option Addr}{l c l' c' k:Nat}{el:TypeId}{fs fs':List Value}(hi:σ[i]?=some (.sl p l c el k fs))(h:FS 0 H' p' l' c' el k fs')
 (hk: ∀(b:Nat) (o:Obj),H[b]?=some o→p≠some ⟨b,0,none⟩→H'[b]?=some o)(hp:p'=p∨p'=some ⟨H.size,0,none⟩):St H0 H' (σ.set i (.sl p' l' c' el k fs')):=by
 refine hs.upd hi fun fp h1 h2 h3=>?_
 obtain⟨fp',g1,g2,_,g4⟩:=h.resrc
 refine⟨fp',g1,g2,fun b hb=>?_,fun b o ho hb=>hk b o ho fun he=>hb (by rw[Rs.sl_at h1 he];exact List.mem_singleton.2 rfl)⟩
 have:=g4 b hb
 rcases hp with rfl|hp
 ·left;rw[Rs.sl_at h1 this];exact List.mem_singleton.2 rfl
 ·rw[this] at hp;cases hp;exact .inr (Nat.le_refl _)
theorem St.appS(hs:St H0 H σ)(i:Nat){p q:Option Addr}{l c n k bytes:Nat}{el:TypeId}{zero:Array Value}{fs gs:List Value}(hi:σ[i]?=some (.sl p l c el k fs))(hrow:Go.Sh.rowOf H q (n*k) gs.toArray)(hgl:gs.length=n*k)
 (hgo: ∀v∈gs,v.oneCell'=true)(hk:0<k)(hz:zero.size=k)(hb:(l+n)*bytes≤70368744177664)(hm:l+n≤1000000000000){K:Option Addr→Nat→Nat→Heap→Prop}
 (hK: ∀p' c' H',St H0 H' (σ.set i (.sl p' (l+n) c' el k (fs++gs)))→K p' (l+n) c' H'):appQ k bytes zero H p l c q n el K:=
 (hs.fs i hi).app2 hrow hgl hgo hk (Nat.zero_le _) hz hb hm fun p' c' H' h1 h2 h3=>hK p' c' H' (hs.slSet hi h1 h2 h3)
theorem St.appC(hs:St H0 H σ)(i m:Nat){p:Option Addr}{b l c n k bytes:Nat}{el ty:TypeId}{zero cs:Array Value}{fs:List Value}(hi:σ[i]?=some (.sl p l c el k fs))(hm':σ[m]?=some (.cell b cs ty))(hgl:cs.size=n*k)
 (hgo: ∀v∈cs.toList,v.oneCell'=true)(hk:0<k)(hz:zero.size=k)(hb:(l+n)*bytes≤70368744177664)(hm:l+n≤1000000000000){K:Option Addr→Nat→Nat→Heap→Prop}
 (hK: ∀p' c' H',St H0 H' (σ.set i (.sl p' (l+n) c' el k (fs++cs.toList)))→K p' (l+n) c' H'):appQ k bytes zero H p l c (some ⟨b,0,none⟩) n el K:=
 hs.appS i hi (gs:=cs.toList) (show Go.Sh.rowOf H (Option.some ⟨b,0,none⟩) (n*k) cs.toList.toArray from⟨by simpa using hgl,by simpa using rowIn_whole (hs.block m hm')⟩) (by simpa using hgl) hgo hk hz hb hm hK
theorem IS.rowOf{H:Heap}{p:Option Addr}{l:Nat}{fs:List Value}(h:IS H p l fs):Go.Sh.rowOf H p (l*1) fs.toArray:=by
 cases p with
 |none=>
  have:fs=[]:=List.eq_nil_iff_forall_not_mem.2 fun v hv=>by
   obtain⟨i,hi⟩:=List.getElem?_of_mem hv
   obtain⟨a,h1,_⟩:=h.get i v hi
   cases h1
  subst this;rfl
 |some a=>
  refine⟨by simp[h.len],fun j v hv=>?_⟩
  obtain⟨a',h1,h2⟩:=h.get j v (by simpa using hv)
  cases h1;exact h2
theorem St.appI(hs:St H0 H σ)(i:Nat){p q:Option Addr}{l c n bytes:Nat}{el:TypeId}{zero:Array Value}{fs gs:List Value}(hi:σ[i]?=some (.sl p l c el 1 fs))(hr:IS H q n gs)(ho: ∀v∈gs,v.oneCell'=true)(hz:zero.size=1)
 (hb:(l+n)*bytes≤70368744177664)(hm:l+n≤1000000000000){K:Option Addr→Nat→Nat→Heap→Prop}
 (hK: ∀p' c' H',St H0 H' (σ.set i (.sl p' (l+n) c' el 1 (fs++gs)))→K p' (l+n) c' H'):appQ 1 bytes zero H p l c q n el K:=
 hs.appS i hi hr.rowOf (by simp[hr.len]) ho (by decide) hz hb hm hK
theorem St.slPut(hs:St H0 H σ)(i:Nat){b l c k j:Nat}{el:TypeId}{fs:List Value}{v:Value}{f:Heap→Prop}(hi:σ[i]?=some (.sl (some ⟨b,0,none⟩) l c el k fs))(hj:j<fs.length)(ho:v.oneCell'=true)
 (hK: ∀H',St H0 H' (σ.set i (.sl (some ⟨b,0,none⟩) l c el k (fs.set j v)))→f H'):stAt H ⟨b,j,none⟩ [v] f:=
 (hs.fs i hi).set hj ho fun H' h1 h2 h3=>hK H' (hs.slSet hi h1 (fun b' o ho hne=>h2 b' o ho fun he=>hne (by rw[he])) (.inl rfl))
theorem St.slSome(hs:St H0 H σ)(i:Nat){p:Option Addr}{l c k j:Nat}{el:TypeId}{fs:List Value}(hi:σ[i]?=some (.sl p l c el k fs))(hj:j<fs.length): ∃b,p=some ⟨b,0,none⟩:=by
 obtain⟨b,h,_⟩:=(hs.rs i hi).cell (List.getElem?_eq_getElem hj)
 exact⟨b,h⟩
def kints(k:IntKind)(l:List Int):List Value:=l.map (Value.int k)
theorem kints_get{k:IntKind}{l:List Int}{i:Nat}{v:Int}(h:l[i]?=some v):(kints k l)[i]?=some (Value.int k v):=by simp[kints,h]
theorem kints_len(k:IntKind)(l:List Int):(kints k l).length=l.length:=by simp[kints]
theorem kints_set(k:IntKind)(l:List Int)(i:Nat)(v:Int):(kints k l).set i (.int k v)=kints k (l.set i v):=by simp[kints]
theorem kints_one(k:IntKind)(l:List Int): ∀v∈kints k l,v.oneCell'=true:=fun v hv=>by
 obtain⟨x,_,rfl⟩:=List.mem_map.1 hv;rfl
theorem IS.rd{H:Heap}{p:Option Addr}{l:Nat}{k:IntKind}{ls:List Int}(h:IS H p l (kints k ls)){i x:Int}(h0:0≤i)(h1:i<l)(hx:ls[i.toNat]?=some x){K:Int→Prop}(hK:K x):
 ∃a:Addr,p=some a∧0≤i∧i<((l:Nat):Int)∧ ∃v:Int,Sh.cell H (Addr.add a (Int.toNat i*1))=some (.int k v)∧K v:=by
 obtain⟨a,hp,hc⟩:=h.get _ _ (kints_get hx)
 exact⟨a,hp,h0,h1,x,by simpa using hc,hK⟩
theorem IS.length{H:Heap}{p:Option Addr}{l:Nat}{k:IntKind}{ls:List Int}(h:IS H p l (kints k ls)):ls.length=l:=by have:=h.len;rwa [kints_len] at this
theorem add_add(a:Addr)(i j:Nat):(a.add i).add j=a.add (i+j):=by
 obtain⟨b,o,s⟩:=a
 unfold Addr.add
 cases s<;>simp<;>split<;>split<;>simp_all<;>omega
theorem IS.part{H:Heap}{a:Addr}{l:Nat}{fs:List Value}(h:IS H (some a) l fs){i n:Nat}(hi:i+n≤l):IS H (some (a.add i)) n ((fs.drop i).take n):=by
 refine⟨by have:=h.len;simp;omega,fun j v hv=>?_⟩
 rw[List.getElem?_take] at hv
 split at hv
 ·rw[List.getElem?_drop] at hv
  obtain⟨a',h1,h2⟩:=h.get _ _ hv
  cases h1
  refine⟨_,rfl,?_⟩
  rw[show(a.add i).add j=a.add (i+j) from add_add a i j]
  exact h2
 ·cases hv
theorem upto{n:Nat}{Q:Nat→Prop}(h: ∀i,i≤n→(i<n→Q (i+1))→Q i): ∀i,i≤n→Q i:=by
 have: ∀m i,n-i=m→i≤n→Q i:=by
  intro m
  induction m with
  |zero=>intro i hm hi;exact h i hi fun hlt=>by omega
  |succ m ih=>intro i hm hi;exact h i hi fun hlt=>ih (i+1) (by omega) (by omega)
 exact fun i hi=>this (n-i) i rfl hi
end Go.Sh
namespace Go.Sh
variable {H0 H:Heap} {σ:List Rs}
theorem intsA_size(l:List Int):(ints l).toArray.size=l.length:=by simp[ints]
theorem St.rdA(hs:St H0 H σ)(i:Nat){b j:Nat}{l:List Int}{ty:TypeId}{x:Int}(hi:σ[i]?=some (.cell b (ints l).toArray ty))(hx:l[j]?=some x):Sh.cell H ⟨b,j,none⟩=some (.int .i64 x):=
 hs.get i hi (by rw[List.getElem?_toArray];exact ints_get hx)
theorem St.putA(hs:St H0 H σ)(i:Nat){b j:Nat}{l:List Int}{ty:TypeId}{x:Int}{f:Heap→Prop}(hi:σ[i]?=some (.cell b (ints l).toArray ty))(hj:j<l.length)
 (hK: ∀H',St H0 H' (σ.set i (.cell b (ints (l.set j x)).toArray ty))→f H'):stAt H ⟨b,j,none⟩ [.int .i64 x] f:=
 hs.put i hi (by rw[intsA_size];exact hj) rfl fun H' hs'=>hK H' (by
  have e:(ints l).toArray.setIfInBounds j (Value.int .i64 x)=(ints (l.set j x)).toArray:=by rw[←ints_set];simp
  rw[←e];exact hs')
theorem St.putAllA(hs:St H0 H σ)(i:Nat){b:Nat}{cs:Array Value}{l:List Int}{ty:TypeId}{f:Heap→Prop}(hi:σ[i]?=some (.cell b cs ty))(hl:l.length=cs.size)
 (hK: ∀H',St H0 H' (σ.set i (.cell b (ints l).toArray ty))→f H'):stAt H ⟨b,0,none⟩ (Array.toList (ints l).toArray) f:=
 hs.putAll i hi (by simpa[ints] using hl) (fun v hv=>ints_one l v (by simpa using hv)) fun H' hs'=>hK H' (by simpa using hs')
theorem reps_rep(v:Value): ∀n,reps n [v]=List.replicate n v
 |0=>rfl
 |n+1=>by rw[reps,reps_rep v n,List.replicate_succ];rfl
theorem repsA(n:Nat):(reps n (Array.toList #[Value.int .i64 0])).toArray=(ints (List.replicate n 0)).toArray:=by
 show(reps n [Value.int .i64 0]).toArray=_
 rw[reps_rep];simp[ints]
theorem St.isA(hs:St H0 H σ)(i:Nat){b n:Nat}{l:List Int}{ty:TypeId}(hi:σ[i]?=some (.cell b (ints l).toArray ty))(hn:l.length=n):IS H (some ⟨b,0,none⟩) n (ints l):=
 ⟨by rw[ints_len];exact hn,fun j v hv=>⟨_,rfl,by rw[add_none,Nat.zero_add];exact hs.get i hi (by rw[List.getElem?_toArray];exact hv)⟩⟩
theorem getD_some{α:Type}(a:List α)(d:α){i:Nat}(h:i<a.length):a[i]?=some (a.getD i d):=by rw[List.getD_eq_getElem?_getD,List.getElem?_eq_getElem h];rfl
def fillA(L:List Int)(s:Nat):List Int:=L.take s++List.replicate (L.length-s) 0
theorem fillA_len{L:List Int}{s:Nat}(h:s≤L.length):(fillA L s).length=L.length:=by unfold fillA;simp;omega
theorem fillA_zero(L:List Int):fillA L 0=List.replicate L.length 0:=by simp[fillA]
theorem fillA_all(L:List Int):fillA L L.length=L:=by simp[fillA]
theorem fillA_set{L:List Int}{s:Nat}(h:s<L.length):(fillA L s).set s (L.getD s 0)=fillA L (s+1):=by
 unfold fillA
 have ht:L.take (s+1)=L.take s++[L.getD s 0]:=by rw[List.take_add_one,getD_some L 0 h];rfl
 rw[ht,List.set_append_right _ _ (by rw[List.length_take];omega),List.length_take,Nat.min_eq_left (by omega),Nat.sub_self,show L.length-s=(L.length-(s+1))+1 from by omega,List.replicate_succ,List.set_cons_zero,List.append_assoc]
 rfl
theorem fillA_at{L:List Int}{s:Nat}(h:s<L.length):(fillA L s)[s]?=some 0:=by
 unfold fillA
 rw[List.getElem?_append_right (by rw[List.length_take];omega),List.length_take,Nat.min_eq_left (by omega),Nat.sub_self,show L.length-s=(L.length-(s+1))+1 from by omega,List.replicate_succ]
 rfl
theorem fillA_set0{L:List Int}{s:Nat}(h:s<L.length):(fillA L s).set s 0=fillA L s:=by
 have h1:=fillA_at h
 obtain⟨h2,h3⟩:=List.getElem?_eq_some_iff.1 h1
 rw[←h3,List.set_getElem_self]
theorem tab_getD{n:Nat}{f:Nat→Int}{i:Nat}(h:i<n):((List.range n).map f).getD i 0=f i:=by simp[List.getD_eq_getElem?_getD,h]
theorem tab_get{n:Nat}{f:Nat→Int}{i:Nat}(h:i<n):((List.range n).map f)[i]?=some (f i):=by simp[h]
theorem mul_bd{x y A B:Int}(hx: -A≤x∧x≤A)(hy: -B≤y∧y≤B): -(A*B)≤x*y∧x*y≤A*B:=by
 have h1:x.natAbs≤A.toNat:=by omega
 have h2:y.natAbs≤B.toNat:=by omega
 have h3:=Nat.mul_le_mul h1 h2
 rw[←Int.natAbs_mul] at h3
 have h4:((A.toNat*B.toNat:Nat):Int)=A*B:=by
  rw[Int.natCast_mul,Int.toNat_of_nonneg (by omega),Int.toNat_of_nonneg (by omega)]
 omega
end Go.Sh
namespace Go.Proofs
open Go.Sh
structure M6 where
 a:Int
 b:Int
 c:Int
 d:Int
 e:Int
 f:Int
 deriving DecidableEq
def M6.l(m:M6):List Int:=[m.a,m.b,m.c,m.d,m.e,m.f]
structure LayF where
 id:Int
 kind:Int
 hidden:Bool
 opacity:Int
 mode:Int
 w:Int
 h:Int
 p:List Int
 mask:List Int
 map:M6
 smooth:Bool
 table:Int
 params:List Int
 deriving DecidableEq
inductive Lay where
 |mk (f:LayF) (kids:List Lay)
def Lay.f:Lay→LayF
 | .mk f _=>f
def Lay.kids:Lay→List Lay
 | .mk _ k=>k
structure Sl3 where
 p:Option Addr
 l:Nat
 c:Nat
def Sl3.v(s:Sl3):Value:= .slice s.p s.l s.c
def Sl3.nil:Sl3:=⟨none,0,0⟩
inductive T where
 |mk (f:LayF) (P M A K:Sl3) (kids:List T)
def T.f:T→LayF
 | .mk f _ _ _ _ _=>f
def T.K:T→Sl3
 | .mk _ _ _ _ K _=>K
def T.P':T→Sl3
 | .mk _ P _ _ _ _=>P
def T.M':T→Sl3
 | .mk _ _ M _ _ _=>M
def T.A':T→Sl3
 | .mk _ _ _ A _ _=>A
def T.kids:T→List T
 | .mk _ _ _ _ _ k=>k
def cellsL(f:LayF)(P M A K:Value):List Value:=
 [.int .i64 f.id,.int .i64 f.kind,.bool f.hidden,.int .i64 f.opacity,.int .i64 f.mode,.int .i64 f.w,.int .i64 f.h,P,M,
  .int .i64 f.map.a,.int .i64 f.map.b,.int .i64 f.map.c,.int .i64 f.map.d,.int .i64 f.map.e,.int .i64 f.map.f,.bool f.smooth,.int .i64 f.table,A,K]
def cellsT:T→List Value
 | .mk f P M A K _=>cellsL f P.v M.v A.v K.v
def cellsKs(ts:List T):List Value:=(ts.map cellsT).flatten
theorem cellsT_len(t:T):(cellsT t).length=19:=by cases t;rfl
theorem cellsKs_len(ts:List T):(cellsKs ts).length=ts.length*19:=by
 unfold cellsKs
 induction ts with
 |nil=>rfl
 |cons t ts ih=>rw[List.map_cons,List.flatten_cons,List.length_append,ih,cellsT_len,List.length_cons];omega
theorem cellsT_one(t:T): ∀v∈cellsT t,v.oneCell'=true:=by
 cases t with|mk f P M A K ks=>
 show ∀v∈cellsL f P.v M.v A.v K.v,v.oneCell'=true
 unfold cellsL
 simp only[List.forall_mem_cons]
 exact⟨rfl,rfl,rfl,rfl,rfl,rfl,rfl,rfl,rfl,rfl,rfl,rfl,rfl,rfl,rfl,rfl,rfl,rfl,rfl,fun _ h=>by cases h⟩
theorem cellsL_one(f:LayF)(P M A K:Sl3): ∀v∈cellsL f P.v M.v A.v K.v,v.oneCell'=true:=cellsT_one (.mk f P M A K [])
theorem cellsKs_app(a b:List T):cellsKs (a++b)=cellsKs a++cellsKs b:=by simp[cellsKs]
theorem cellsKs_one(t:T):cellsKs [t]=cellsT t:=by simp[cellsKs]
theorem cellsKs_cons(t:T)(ts:List T):cellsKs (t::ts)=cellsT t++cellsKs ts:=by simp[cellsKs]
theorem cellsKs_get{ts:List T}{i:Nat}{t:T}(h:ts[i]?=some t){j:Nat}{v:Value}(hv:(cellsT t)[j]?=some v):(cellsKs ts)[i*19+j]?=some v:=by
 have hj:j<19:=by have:=(List.getElem?_eq_some_iff.1 hv).1;rw[cellsT_len] at this;exact this
 induction ts generalizing i with
 |nil=>simp at h
 |cons x ts ih=>
  rw[cellsKs_cons]
  cases i with
  |zero=>
   simp at h;subst h
   rw[Nat.zero_mul,Nat.zero_add,List.getElem?_append_left (by rw[cellsT_len];exact hj)];exact hv
  |succ i=>
   rw[List.getElem?_append_right (by rw[cellsT_len];omega),cellsT_len,show(i+1)*19+j-19=i*19+j from by omega]
   exact ih (by simpa using h)
mutual
def layT:T→Lay
 | .mk f _ _ _ _ ks=> .mk f (layKs ks)
def layKs:List T→List Lay
 |[]=>[]
 |t::ts=>layT t::layKs ts
end
theorem layKs_map(ts:List T):layKs ts=ts.map layT:=by
 induction ts with
 |nil=>rfl
 |cons t ts ih=>rw[layKs,ih];rfl
theorem layKs_len(ts:List T):(layKs ts).length=ts.length:=by rw[layKs_map,List.length_map]
theorem layKs_app(a b:List T):layKs (a++b)=layKs a++layKs b:=by simp[layKs_map]
theorem layT_f(t:T):(layT t).f=t.f:=by cases t;rfl
theorem T.ind{Q:T→Prop}(h: ∀f P M A K ks,(∀t∈ks,Q t)→Q (.mk f P M A K ks)): ∀t,Q t:=
 fun t=>T.rec (motive_1:=Q) (motive_2:=fun ts=> ∀t∈ts,Q t) (fun f P M A K ks ih=>h f P M A K ks ih) (fun _ h=>by cases h)
  (fun t ts h1 h2 u hu=>by
   rcases List.mem_cons.1 hu with rfl|hu
   ·exact h1
   ·exact h2 u hu) t
theorem Lay.ind{Q:Lay→Prop}(h: ∀f ks,(∀t∈ks,Q t)→Q (.mk f ks)): ∀t,Q t:=
 fun t=>Lay.rec (motive_1:=Q) (motive_2:=fun ts=> ∀t∈ts,Q t) (fun f ks ih=>h f ks ih) (fun _ h=>by cases h)
  (fun t ts h1 h2 u hu=>by
   rcases List.mem_cons.1 hu with rfl|hu
   ·exact h1
   ·exact h2 u hu) t
def rowsK(H:Heap)(K:Sl3)(ks:List T):Prop:=K.l=ks.length∧ ∀(i:Nat) t,ks[i]?=some t→ ∃a,K.p=some a∧rowIn H (a.add (i*19)) (cellsT t).toArray
mutual
def rdT(H:Heap):T→Prop
 | .mk f P M A K ks=>IS H P.p P.l (ints f.p)∧IS H M.p M.l (kints .u8 f.mask)∧IS H A.p A.l (ints f.params)∧rowsK H K ks∧rdKs H ks
def rdKs(H:Heap):List T→Prop
 |[]=>True
 |t::ts=>rdT H t∧rdKs H ts
end
def grp(H:Heap)(K:Sl3)(ks:List T):Prop:=rowsK H K ks∧rdKs H ks
theorem rdKs_iff{H:Heap}: ∀{ts:List T},rdKs H ts↔ ∀t∈ts,rdT H t
 |[]=>⟨fun _ _ h=>(by cases h),fun _=>trivial⟩
 |t::ts=>by
  rw[rdKs,rdKs_iff]
  simp only[List.forall_mem_cons]
theorem rowsK.ext{H H':Heap}{K:Sl3}{ks:List T}(h:rowsK H K ks)(he:Ext H H'):rowsK H' K ks:=
 ⟨h.1,fun i t ht=>let ⟨a,h1,h2⟩:=h.2 i t ht;⟨a,h1,rowAt_ext he h2⟩⟩
theorem rdT.ext{H H':Heap}(he:Ext H H'): ∀t,rdT H t→rdT H' t:=by
 refine T.ind fun f P M A K ks ih h=>?_
 rw[rdT] at h ⊢
 exact⟨h.1.ext he,h.2.1.ext he,h.2.2.1.ext he,h.2.2.2.1.ext he,rdKs_iff.2 fun t ht=>ih t ht (rdKs_iff.1 h.2.2.2.2 t ht)⟩
theorem grp.ext{H H':Heap}{K:Sl3}{ks:List T}(h:grp H K ks)(he:Ext H H'):grp H' K ks:=
 ⟨h.1.ext he,rdKs_iff.2 fun t ht=>rdT.ext he t (rdKs_iff.1 h.2 t ht)⟩
theorem grp.get{H:Heap}{K:Sl3}{ks:List T}(h:grp H K ks){i:Nat}{t:T}(ht:ks[i]?=some t): ∃a,K.p=some a∧rowIn H (a.add (i*19)) (cellsT t).toArray∧rdT H t:=
 let ⟨a,h1,h2⟩:=h.1.2 i t ht
 ⟨a,h1,h2,rdKs_iff.1 h.2 t (List.mem_of_getElem? ht)⟩
theorem grp.nil(H:Heap):grp H .nil []:=⟨⟨rfl,fun i t h=>by simp at h⟩,trivial⟩
theorem rdT.grp{H:Heap}{t:T}(h:rdT H t):grp H t.K t.kids:=by
 cases t with|mk f P M A K ks=>
 rw[rdT] at h
 exact⟨h.2.2.2.1,h.2.2.2.2⟩
mutual
def resT:T→List Rs
 | .mk f P M A K ks=> .sl P.p P.l P.c 3 1 (ints f.p):: .sl M.p M.l M.c 5 1 (kints .u8 f.mask):: .sl A.p A.l A.c 3 1 (ints f.params):: .sl K.p K.l K.c 70 19 (cellsKs ks)::resKs ks
def resKs:List T→List Rs
 |[]=>[]
 |t::ts=>resT t++resKs ts
end
def resG(K:Sl3)(ks:List T):List Rs:= .sl K.p K.l K.c 70 19 (cellsKs ks)::resKs ks
theorem resKs_app(a b:List T):resKs (a++b)=resKs a++resKs b:=by
 induction a with
 |nil=>rfl
 |cons t a ih=>rw[List.cons_append,resKs,ih,resKs,List.append_assoc]
theorem resKs_one(t:T):resKs [t]=resT t:=by rw[resKs,resKs,List.append_nil]
theorem resKs_cons(t:T)(ts:List T):resKs (t::ts)=resT t++resKs ts:=by rw[resKs]
theorem resT_mk(f:LayF)(P M A K:Sl3)(ks:List T):resT (.mk f P M A K ks)= .sl P.p P.l P.c 3 1 (ints f.p):: .sl M.p M.l M.c 5 1 (kints .u8 f.mask):: .sl A.p A.l A.c 3 1 (ints f.params)::resG K ks:=by rw[resT];rfl
end Go.Proofs
namespace Go.Sh
open Go.Proofs
variable {H0 H H':Heap} {σ τ:List Rs}
theorem RS.rowsK{H:Heap}{K:Sl3}{ks:List T}{el:TypeId}(h:RS H K.p K.l el 19 (cellsKs ks)):Go.Proofs.rowsK H K ks:=by
 have hl:K.l=ks.length:=by have:=h.len;rw[cellsKs_len] at this;omega
 refine⟨hl,fun i t ht=>?_⟩
 have hi:i<ks.length:=(List.getElem?_eq_some_iff.1 ht).1
 obtain⟨blk,h1,h2⟩:=h.row (i:=i) (by omega) (by decide) (xs:=(cellsT t).toArray) fun j v hv=>cellsKs_get ht (by simpa using hv)
 exact⟨_,h1,by rw[add_none,Nat.zero_add];exact h2⟩
theorem St.rdKs_of: ∀{ks:List T},(∀t∈ks,∀{σ:List Rs},St H0 H (resT t++σ)→Go.Proofs.rdT H t)→St H0 H (resKs ks++σ)→Go.Proofs.rdKs H ks
 |[],_,_=>trivial
 |t::ts,h,hs=>by
  rw[resKs,List.append_assoc] at hs
  exact⟨h t List.mem_cons_self hs,St.rdKs_of (fun t ht=>h t (List.mem_cons_of_mem _ ht)) hs.app.2⟩
theorem St.rdT: ∀(t:T) {σ:List Rs},St H0 H (resT t++σ)→Go.Proofs.rdT H t:=by
 refine T.ind fun f P M A K ks ih σ hs=>?_
 rw[resT] at hs
 rw[Go.Proofs.rdT]
 refine⟨hs.is 0 rfl,hs.is 1 rfl,hs.is 2 rfl,RS.rowsK (hs.rs 3 rfl),St.rdKs_of (fun t ht _ hs=>ih t ht hs) (σ:=σ) ?_⟩
 exact hs.drop 4
theorem St.grp{K:Sl3}{ks:List T}(hs:St H0 H (resG K ks++σ)):Go.Proofs.grp H K ks:=
 ⟨RS.rowsK (hs.rs 0 rfl),St.rdKs_of (fun t ht _ hs=>St.rdT t hs) (σ:=σ) hs.tail⟩
theorem St.callR(hs:St H0 H σ)(ht:St H H' τ):St H0 H' (σ++τ):=(hs.call ht).perm List.perm_append_comm
end Go.Sh
namespace Go.Proofs
open Go.Sh
def Tryz.i0:TI:=⟨.tuple [],1,0,Value.tuple #[]⟩
theorem Tryz.tok0:TIok Tryz.prog 0 Tryz.i0:=⟨by kernel_rfl,by kernel_rfl⟩
def Tryz.i3:TI:=⟨.int .i64,1,8,Value.int .i64 0⟩
theorem Tryz.tok3:TIok Tryz.prog 3 Tryz.i3:=⟨by kernel_rfl,by kernel_rfl⟩
def Tryz.i4:TI:=⟨.bool,1,1,Value.bool false⟩
theorem Tryz.tok4:TIok Tryz.prog 4 Tryz.i4:=⟨by kernel_rfl,by kernel_rfl⟩
def Tryz.i5:TI:=⟨.int .u8,1,1,Value.int .u8 0⟩
theorem Tryz.tok5:TIok Tryz.prog 5 Tryz.i5:=⟨by kernel_rfl,by kernel_rfl⟩
def Tryz.i9:TI:=⟨.str,1,16,Value.string ByteArray.empty⟩
theorem Tryz.tok9:TIok Tryz.prog 9 Tryz.i9:=⟨by kernel_rfl,by kernel_rfl⟩
def Tryz.i22:TI:=⟨.sl 46,1,24,Value.slice none 0 0⟩
theorem Tryz.tok22:TIok Tryz.prog 22 Tryz.i22:=⟨by kernel_rfl,by kernel_rfl⟩
def Tryz.i24:TI:=⟨.sl 70,1,24,Value.slice none 0 0⟩
theorem Tryz.tok24:TIok Tryz.prog 24 Tryz.i24:=⟨by kernel_rfl,by kernel_rfl⟩
def Tryz.i26:TI:=⟨.struct [(0,3),(1,3),(2,3),(3,24)],4,48,Value.agg #[Value.int .i64 0,Value.int .i64 0,Value.int .i64 0,Value.slice none 0 0]⟩
theorem Tryz.tok26:TIok Tryz.prog 26 Tryz.i26:=⟨by kernel_rfl,by kernel_rfl⟩
def Tryz.i27:TI:=⟨.int .i64,1,8,Value.int .i64 0⟩
theorem Tryz.tok27:TIok Tryz.prog 27 Tryz.i27:=⟨by kernel_rfl,by kernel_rfl⟩
def Tryz.i28:TI:=⟨.tuple [26,27],1,0,Value.tuple #[Value.agg #[Value.int .i64 0,Value.int .i64 0,Value.int .i64 0,Value.slice none 0 0],Value.int .i64 0]⟩
theorem Tryz.tok28:TIok Tryz.prog 28 Tryz.i28:=⟨by kernel_rfl,by kernel_rfl⟩
def Tryz.i30:TI:=⟨.sl 82,1,24,Value.slice none 0 0⟩
theorem Tryz.tok30:TIok Tryz.prog 30 Tryz.i30:=⟨by kernel_rfl,by kernel_rfl⟩
def Tryz.i32:TI:=⟨.struct [(0,3),(1,3),(2,3),(3,30)],4,48,Value.agg #[Value.int .i64 0,Value.int .i64 0,Value.int .i64 0,Value.slice none 0 0]⟩
theorem Tryz.tok32:TIok Tryz.prog 32 Tryz.i32:=⟨by kernel_rfl,by kernel_rfl⟩
def Tryz.i33:TI:=⟨.tuple [32,3],1,0,Value.tuple #[Value.agg #[Value.int .i64 0,Value.int .i64 0,Value.int .i64 0,Value.slice none 0 0],Value.int .i64 0]⟩
theorem Tryz.tok33:TIok Tryz.prog 33 Tryz.i33:=⟨by kernel_rfl,by kernel_rfl⟩
def Tryz.i35:TI:=⟨.ptr 74,1,8,Value.pointer none⟩
theorem Tryz.tok35:TIok Tryz.prog 35 Tryz.i35:=⟨by kernel_rfl,by kernel_rfl⟩
def Tryz.i37:TI:=⟨.sl 26,1,24,Value.slice none 0 0⟩
theorem Tryz.tok37:TIok Tryz.prog 37 Tryz.i37:=⟨by kernel_rfl,by kernel_rfl⟩
def Tryz.i38:TI:=⟨.sl 32,1,24,Value.slice none 0 0⟩
theorem Tryz.tok38:TIok Tryz.prog 38 Tryz.i38:=⟨by kernel_rfl,by kernel_rfl⟩
def Tryz.i39:TI:=⟨.sl 3,1,24,Value.slice none 0 0⟩
theorem Tryz.tok39:TIok Tryz.prog 39 Tryz.i39:=⟨by kernel_rfl,by kernel_rfl⟩
def Tryz.i40:TI:=⟨.sl 86,1,24,Value.slice none 0 0⟩
theorem Tryz.tok40:TIok Tryz.prog 40 Tryz.i40:=⟨by kernel_rfl,by kernel_rfl⟩
def Tryz.i42:TI:=⟨.arr 6 3,6,48,Value.agg #[Value.int .i64 0,Value.int .i64 0,Value.int .i64 0,Value.int .i64 0,Value.int .i64 0,Value.int .i64 0]⟩
theorem Tryz.tok42:TIok Tryz.prog 42 Tryz.i42:=⟨by kernel_rfl,by kernel_rfl⟩
def Tryz.i44:TI:=⟨.struct [(0,3),(1,3),(2,3),(3,3),(4,3),(5,3),(6,3),(7,3),(8,3),(9,3),(10,39),(11,40),(12,42),(18,39)],19,200,Value.agg #[Value.int .i64 0,Value.int .i64 0,Value.int .i64 0,Value.int .i64 0,Value.int .i64 0,Value.int .i64 0,Value.int .i64 0,Value.int .i64 0,Value.int .i64 0,Value.int .i64 0,Value.slice none 0 0,Value.slice none 0 0,Value.int .i64 0,Value.int .i64 0,Value.int .i64 0,Value.int .i64 0,Value.int .i64 0,Value.int .i64 0,Value.slice none 0 0]⟩
theorem Tryz.tok44:TIok Tryz.prog 44 Tryz.i44:=⟨by kernel_rfl,by kernel_rfl⟩
def Tryz.i46:TI:=⟨.struct [(0,44),(19,4),(20,4),(21,3),(22,3),(23,3),(24,3),(25,3)],26,248,Value.agg #[Value.int .i64 0,Value.int .i64 0,Value.int .i64 0,Value.int .i64 0,Value.int .i64 0,Value.int .i64 0,Value.int .i64 0,Value.int .i64 0,Value.int .i64 0,Value.int .i64 0,Value.slice none 0 0,Value.slice none 0 0,Value.int .i64 0,Value.int .i64 0,Value.int .i64 0,Value.int .i64 0,Value.int .i64 0,Value.int .i64 0,Value.slice none 0 0,Value.bool false,Value.bool false,Value.int .i64 0,Value.int .i64 0,Value.int .i64 0,Value.int .i64 0,Value.int .i64 0]⟩
theorem Tryz.tok46:TIok Tryz.prog 46 Tryz.i46:=⟨by kernel_rfl,by kernel_rfl⟩
def Tryz.i48:TI:=⟨.sl 44,1,24,Value.slice none 0 0⟩
theorem Tryz.tok48:TIok Tryz.prog 48 Tryz.i48:=⟨by kernel_rfl,by kernel_rfl⟩
def Tryz.i50:TI:=⟨.tuple [39,27],1,0,Value.tuple #[Value.slice none 0 0,Value.int .i64 0]⟩
theorem Tryz.tok50:TIok Tryz.prog 50 Tryz.i50:=⟨by kernel_rfl,by kernel_rfl⟩
def Tryz.i52:TI:=⟨.tuple [39,3],1,0,Value.tuple #[Value.slice none 0 0,Value.int .i64 0]⟩
theorem Tryz.tok52:TIok Tryz.prog 52 Tryz.i52:=⟨by kernel_rfl,by kernel_rfl⟩
def Tryz.i58:TI:=⟨.sl 87,1,24,Value.slice none 0 0⟩
theorem Tryz.tok58:TIok Tryz.prog 58 Tryz.i58:=⟨by kernel_rfl,by kernel_rfl⟩
def Tryz.i59:TI:=⟨.arr 6 3,6,48,Value.agg #[Value.int .i64 0,Value.int .i64 0,Value.int .i64 0,Value.int .i64 0,Value.int .i64 0,Value.int .i64 0]⟩
theorem Tryz.tok59:TIok Tryz.prog 59 Tryz.i59:=⟨by kernel_rfl,by kernel_rfl⟩
def Tryz.i61:TI:=⟨.struct [(0,3),(1,3),(2,3),(3,3),(4,3),(5,3),(6,3),(7,3),(8,3),(9,3),(10,39),(11,58),(12,59),(18,39)],19,200,Value.agg #[Value.int .i64 0,Value.int .i64 0,Value.int .i64 0,Value.int .i64 0,Value.int .i64 0,Value.int .i64 0,Value.int .i64 0,Value.int .i64 0,Value.int .i64 0,Value.int .i64 0,Value.slice none 0 0,Value.slice none 0 0,Value.int .i64 0,Value.int .i64 0,Value.int .i64 0,Value.int .i64 0,Value.int .i64 0,Value.int .i64 0,Value.slice none 0 0]⟩
theorem Tryz.tok61:TIok Tryz.prog 61 Tryz.i61:=⟨by kernel_rfl,by kernel_rfl⟩
def Tryz.i68:TI:=⟨.sl 5,1,24,Value.slice none 0 0⟩
theorem Tryz.tok68:TIok Tryz.prog 68 Tryz.i68:=⟨by kernel_rfl,by kernel_rfl⟩
def Tryz.i70:TI:=⟨.struct [(0,3),(1,3),(2,4),(3,3),(4,3),(5,3),(6,3),(7,39),(8,68),(9,42),(15,4),(16,3),(17,39),(18,24)],19,216,Value.agg #[Value.int .i64 0,Value.int .i64 0,Value.bool false,Value.int .i64 0,Value.int .i64 0,Value.int .i64 0,Value.int .i64 0,Value.slice none 0 0,Value.slice none 0 0,Value.int .i64 0,Value.int .i64 0,Value.int .i64 0,Value.int .i64 0,Value.int .i64 0,Value.int .i64 0,Value.bool false,Value.int .i64 0,Value.slice none 0 0,Value.slice none 0 0]⟩
theorem Tryz.tok70:TIok Tryz.prog 70 Tryz.i70:=⟨by kernel_rfl,by kernel_rfl⟩
def Tryz.i72:TI:=⟨.map 93 39,1,8,Value.map none⟩
theorem Tryz.tok72:TIok Tryz.prog 72 Tryz.i72:=⟨by kernel_rfl,by kernel_rfl⟩
def Tryz.i74:TI:=⟨.struct [(0,26),(4,72),(5,3)],6,64,Value.agg #[Value.int .i64 0,Value.int .i64 0,Value.int .i64 0,Value.slice none 0 0,Value.map none,Value.int .i64 0]⟩
theorem Tryz.tok74:TIok Tryz.prog 74 Tryz.i74:=⟨by kernel_rfl,by kernel_rfl⟩
def Tryz.i79:TI:=⟨.tuple [30,30],1,0,Value.tuple #[Value.slice none 0 0,Value.slice none 0 0]⟩
theorem Tryz.tok79:TIok Tryz.prog 79 Tryz.i79:=⟨by kernel_rfl,by kernel_rfl⟩
def Tryz.i82:TI:=⟨.struct [(0,3),(1,3),(2,3),(3,4),(4,3),(5,3),(6,3),(7,3),(8,39),(9,68),(10,59),(16,4),(17,3),(18,39)],19,200,Value.agg #[Value.int .i64 0,Value.int .i64 0,Value.int .i64 0,Value.bool false,Value.int .i64 0,Value.int .i64 0,Value.int .i64 0,Value.int .i64 0,Value.slice none 0 0,Value.slice none 0 0,Value.int .i64 0,Value.int .i64 0,Value.int .i64 0,Value.int .i64 0,Value.int .i64 0,Value.int .i64 0,Value.bool false,Value.int .i64 0,Value.slice none 0 0]⟩
theorem Tryz.tok82:TIok Tryz.prog 82 Tryz.i82:=⟨by kernel_rfl,by kernel_rfl⟩
def Tryz.i83:TI:=⟨.tuple [82,3],1,0,Value.tuple #[Value.agg #[Value.int .i64 0,Value.int .i64 0,Value.int .i64 0,Value.bool false,Value.int .i64 0,Value.int .i64 0,Value.int .i64 0,Value.int .i64 0,Value.slice none 0 0,Value.slice none 0 0,Value.int .i64 0,Value.int .i64 0,Value.int .i64 0,Value.int .i64 0,Value.int .i64 0,Value.int .i64 0,Value.bool false,Value.int .i64 0,Value.slice none 0 0],Value.int .i64 0]⟩
theorem Tryz.tok83:TIok Tryz.prog 83 Tryz.i83:=⟨by kernel_rfl,by kernel_rfl⟩
def Tryz.i86:TI:=⟨.struct [(0,3),(1,3)],2,16,Value.agg #[Value.int .i64 0,Value.int .i64 0]⟩
theorem Tryz.tok86:TIok Tryz.prog 86 Tryz.i86:=⟨by kernel_rfl,by kernel_rfl⟩
def Tryz.i87:TI:=⟨.struct [(0,3),(1,3)],2,16,Value.agg #[Value.int .i64 0,Value.int .i64 0]⟩
theorem Tryz.tok87:TIok Tryz.prog 87 Tryz.i87:=⟨by kernel_rfl,by kernel_rfl⟩
def Tryz.i89:TI:=⟨.tuple [70,4],1,0,Value.tuple #[Value.agg #[Value.int .i64 0,Value.int .i64 0,Value.bool false,Value.int .i64 0,Value.int .i64 0,Value.int .i64 0,Value.int .i64 0,Value.slice none 0 0,Value.slice none 0 0,Value.int .i64 0,Value.int .i64 0,Value.int .i64 0,Value.int .i64 0,Value.int .i64 0,Value.int .i64 0,Value.bool false,Value.int .i64 0,Value.slice none 0 0,Value.slice none 0 0],Value.bool false]⟩
theorem Tryz.tok89:TIok Tryz.prog 89 Tryz.i89:=⟨by kernel_rfl,by kernel_rfl⟩
def Tryz.i93:TI:=⟨.arr 2 3,2,16,Value.agg #[Value.int .i64 0,Value.int .i64 0]⟩
theorem Tryz.tok93:TIok Tryz.prog 93 Tryz.i93:=⟨by kernel_rfl,by kernel_rfl⟩
def Tryz.i96:TI:=⟨.ptr 70,1,8,Value.pointer none⟩
theorem Tryz.tok96:TIok Tryz.prog 96 Tryz.i96:=⟨by kernel_rfl,by kernel_rfl⟩
def Tryz.i98:TI:=⟨.ptr 26,1,8,Value.pointer none⟩
theorem Tryz.tok98:TIok Tryz.prog 98 Tryz.i98:=⟨by kernel_rfl,by kernel_rfl⟩
def Tryz.i100:TI:=⟨.struct [(0,96),(1,98),(2,44)],21,216,Value.agg #[Value.pointer none,Value.pointer none,Value.int .i64 0,Value.int .i64 0,Value.int .i64 0,Value.int .i64 0,Value.int .i64 0,Value.int .i64 0,Value.int .i64 0,Value.int .i64 0,Value.int .i64 0,Value.int .i64 0,Value.slice none 0 0,Value.slice none 0 0,Value.int .i64 0,Value.int .i64 0,Value.int .i64 0,Value.int .i64 0,Value.int .i64 0,Value.int .i64 0,Value.slice none 0 0]⟩
theorem Tryz.tok100:TIok Tryz.prog 100 Tryz.i100:=⟨by kernel_rfl,by kernel_rfl⟩
def Tryz.i101:TI:=⟨.fn,1,8,Value.nilFunc⟩
theorem Tryz.tok101:TIok Tryz.prog 101 Tryz.i101:=⟨by kernel_rfl,by kernel_rfl⟩
def Tryz.i103:TI:=⟨.sl 101,1,24,Value.slice none 0 0⟩
theorem Tryz.tok103:TIok Tryz.prog 103 Tryz.i103:=⟨by kernel_rfl,by kernel_rfl⟩
def Tryz.i104:TI:=⟨.tuple [39,4],1,0,Value.tuple #[Value.slice none 0 0,Value.bool false]⟩
theorem Tryz.tok104:TIok Tryz.prog 104 Tryz.i104:=⟨by kernel_rfl,by kernel_rfl⟩
def Tryz.i106:TI:=⟨.arr 4 3,4,32,Value.agg #[Value.int .i64 0,Value.int .i64 0,Value.int .i64 0,Value.int .i64 0]⟩
theorem Tryz.tok106:TIok Tryz.prog 106 Tryz.i106:=⟨by kernel_rfl,by kernel_rfl⟩
def Tryz.i116:TI:=⟨.tuple [59,3],1,0,Value.tuple #[Value.agg #[Value.int .i64 0,Value.int .i64 0,Value.int .i64 0,Value.int .i64 0,Value.int .i64 0,Value.int .i64 0],Value.int .i64 0]⟩
theorem Tryz.tok116:TIok Tryz.prog 116 Tryz.i116:=⟨by kernel_rfl,by kernel_rfl⟩
def Tryz.i119:TI:=⟨.tuple [96,96,3],1,0,Value.tuple #[Value.pointer none,Value.pointer none,Value.int .i64 0]⟩
theorem Tryz.tok119:TIok Tryz.prog 119 Tryz.i119:=⟨by kernel_rfl,by kernel_rfl⟩
def Tryz.i122:TI:=⟨.tuple [3,3,4],1,0,Value.tuple #[Value.int .i64 0,Value.int .i64 0,Value.bool false]⟩
theorem Tryz.tok122:TIok Tryz.prog 122 Tryz.i122:=⟨by kernel_rfl,by kernel_rfl⟩
def Tryz.i125:TI:=⟨.tuple [96,27],1,0,Value.tuple #[Value.pointer none,Value.int .i64 0]⟩
theorem Tryz.tok125:TIok Tryz.prog 125 Tryz.i125:=⟨by kernel_rfl,by kernel_rfl⟩
def Tryz.i131:TI:=⟨.fn,1,8,Value.nilFunc⟩
theorem Tryz.tok131:TIok Tryz.prog 131 Tryz.i131:=⟨by kernel_rfl,by kernel_rfl⟩
def Tryz.i132:TI:=⟨.tuple [68,27],1,0,Value.tuple #[Value.slice none 0 0,Value.int .i64 0]⟩
theorem Tryz.tok132:TIok Tryz.prog 132 Tryz.i132:=⟨by kernel_rfl,by kernel_rfl⟩
def Tryz.i134:TI:=⟨.tuple [42,27],1,0,Value.tuple #[Value.agg #[Value.int .i64 0,Value.int .i64 0,Value.int .i64 0,Value.int .i64 0,Value.int .i64 0,Value.int .i64 0],Value.int .i64 0]⟩
theorem Tryz.tok134:TIok Tryz.prog 134 Tryz.i134:=⟨by kernel_rfl,by kernel_rfl⟩
def Tryz.i138:TI:=⟨.struct [(0,26),(4,3),(5,3),(6,3),(7,3)],8,80,Value.agg #[Value.int .i64 0,Value.int .i64 0,Value.int .i64 0,Value.slice none 0 0,Value.int .i64 0,Value.int .i64 0,Value.int .i64 0,Value.int .i64 0]⟩
theorem Tryz.tok138:TIok Tryz.prog 138 Tryz.i138:=⟨by kernel_rfl,by kernel_rfl⟩
def Tryz.i141:TI:=⟨.struct [(0,3),(1,3),(2,39)],3,40,Value.agg #[Value.int .i64 0,Value.int .i64 0,Value.slice none 0 0]⟩
theorem Tryz.tok141:TIok Tryz.prog 141 Tryz.i141:=⟨by kernel_rfl,by kernel_rfl⟩
def Tryz.i158:TI:=⟨.fn,1,8,Value.nilFunc⟩
theorem Tryz.tok158:TIok Tryz.prog 158 Tryz.i158:=⟨by kernel_rfl,by kernel_rfl⟩
def Tryz.i162:TI:=⟨.sl 40,1,24,Value.slice none 0 0⟩
theorem Tryz.tok162:TIok Tryz.prog 162 Tryz.i162:=⟨by kernel_rfl,by kernel_rfl⟩
def Tryz.i163:TI:=⟨.cpl .f64,1,16,Value.complex .f64 0 0⟩
theorem Tryz.tok163:TIok Tryz.prog 163 Tryz.i163:=⟨by kernel_rfl,by kernel_rfl⟩
def Tryz.i164:TI:=⟨.flt .f64,1,8,Value.float .f64 0⟩
theorem Tryz.tok164:TIok Tryz.prog 164 Tryz.i164:=⟨by kernel_rfl,by kernel_rfl⟩
def Tryz.i168:TI:=⟨.struct [(0,3),(1,3),(2,39)],3,40,Value.agg #[Value.int .i64 0,Value.int .i64 0,Value.slice none 0 0]⟩
theorem Tryz.tok168:TIok Tryz.prog 168 Tryz.i168:=⟨by kernel_rfl,by kernel_rfl⟩
def Tryz.i171:TI:=⟨.arr 4 106,16,128,Value.agg #[Value.int .i64 0,Value.int .i64 0,Value.int .i64 0,Value.int .i64 0,Value.int .i64 0,Value.int .i64 0,Value.int .i64 0,Value.int .i64 0,Value.int .i64 0,Value.int .i64 0,Value.int .i64 0,Value.int .i64 0,Value.int .i64 0,Value.int .i64 0,Value.int .i64 0,Value.int .i64 0]⟩
theorem Tryz.tok171:TIok Tryz.prog 171 Tryz.i171:=⟨by kernel_rfl,by kernel_rfl⟩
def Tryz.tab:Tab:=[(0,Tryz.i0),(3,Tryz.i3),(4,Tryz.i4),(5,Tryz.i5),(9,Tryz.i9),(22,Tryz.i22),(24,Tryz.i24),(26,Tryz.i26),(27,Tryz.i27),(28,Tryz.i28),(30,Tryz.i30),(32,Tryz.i32),(33,Tryz.i33),(35,Tryz.i35),(37,Tryz.i37),(38,Tryz.i38),(39,Tryz.i39),(40,Tryz.i40),(42,Tryz.i42),(44,Tryz.i44),(46,Tryz.i46),(48,Tryz.i48),(50,Tryz.i50),(52,Tryz.i52),(58,Tryz.i58),(59,Tryz.i59),(61,Tryz.i61),(68,Tryz.i68),(70,Tryz.i70),(72,Tryz.i72),(74,Tryz.i74),(79,Tryz.i79),(82,Tryz.i82),(83,Tryz.i83),(86,Tryz.i86),(87,Tryz.i87),(89,Tryz.i89),(93,Tryz.i93),(96,Tryz.i96),(98,Tryz.i98),(100,Tryz.i100),(101,Tryz.i101),(103,Tryz.i103),(104,Tryz.i104),(106,Tryz.i106),(116,Tryz.i116),(119,Tryz.i119),(122,Tryz.i122),(125,Tryz.i125),(131,Tryz.i131),(132,Tryz.i132),(134,Tryz.i134),(138,Tryz.i138),(141,Tryz.i141),(158,Tryz.i158),(162,Tryz.i162),(163,Tryz.i163),(164,Tryz.i164),(168,Tryz.i168),(171,Tryz.i171)]
theorem Tryz.tab_ok:TabOk Tryz.prog Tryz.tab:=by
 unfold TabOk Tryz.tab
 simp only[List.forall_mem_cons]
 exact⟨Tryz.tok0,Tryz.tok3,Tryz.tok4,Tryz.tok5,Tryz.tok9,Tryz.tok22,Tryz.tok24,Tryz.tok26,Tryz.tok27,Tryz.tok28,Tryz.tok30,Tryz.tok32,Tryz.tok33,Tryz.tok35,Tryz.tok37,Tryz.tok38,Tryz.tok39,Tryz.tok40,Tryz.tok42,Tryz.tok44,Tryz.tok46,Tryz.tok48,Tryz.tok50,Tryz.tok52,Tryz.tok58,Tryz.tok59,Tryz.tok61,Tryz.tok68,Tryz.tok70,Tryz.tok72,Tryz.tok74,Tryz.tok79,Tryz.tok82,Tryz.tok83,Tryz.tok86,Tryz.tok87,Tryz.tok89,Tryz.tok93,Tryz.tok96,Tryz.tok98,Tryz.tok100,Tryz.tok101,Tryz.tok103,Tryz.tok104,Tryz.tok106,Tryz.tok116,Tryz.tok119,Tryz.tok122,Tryz.tok125,Tryz.tok131,Tryz.tok132,Tryz.tok134,Tryz.tok138,Tryz.tok141,Tryz.tok158,Tryz.tok162,Tryz.tok163,Tryz.tok164,Tryz.tok168,Tryz.tok171,fun _ h=>by cases h⟩
abbrev Tryz.C:=CallsH Tryz.prog
theorem Tryz.mixed:Tryz.prog.follows .mixedOrders=true:=by kernel_rfl
theorem Tryz.cal3:callable Tryz.prog 3:=⟨Tryz.f3,Tryz.func3,by kernel_rfl,by kernel_rfl⟩
theorem Tryz.cal4:callable Tryz.prog 4:=⟨Tryz.f4,Tryz.func4,by kernel_rfl,by kernel_rfl⟩
theorem Tryz.cal5:callable Tryz.prog 5:=⟨Tryz.f5,Tryz.func5,by kernel_rfl,by kernel_rfl⟩
theorem Tryz.cal6:callable Tryz.prog 6:=⟨Tryz.f6,Tryz.func6,by kernel_rfl,by kernel_rfl⟩
theorem Tryz.cal7:callable Tryz.prog 7:=⟨Tryz.f7,Tryz.func7,by kernel_rfl,by kernel_rfl⟩
theorem Tryz.cal8:callable Tryz.prog 8:=⟨Tryz.f8,Tryz.func8,by kernel_rfl,by kernel_rfl⟩
theorem Tryz.cal9:callable Tryz.prog 9:=⟨Tryz.f9,Tryz.func9,by kernel_rfl,by kernel_rfl⟩
theorem Tryz.cal10:callable Tryz.prog 10:=⟨Tryz.f10,Tryz.func10,by kernel_rfl,by kernel_rfl⟩
theorem Tryz.cal11:callable Tryz.prog 11:=⟨Tryz.f11,Tryz.func11,by kernel_rfl,by kernel_rfl⟩
theorem Tryz.cal12:callable Tryz.prog 12:=⟨Tryz.f12,Tryz.func12,by kernel_rfl,by kernel_rfl⟩
theorem Tryz.cal13:callable Tryz.prog 13:=⟨Tryz.f13,Tryz.func13,by kernel_rfl,by kernel_rfl⟩
theorem Tryz.cal14:callable Tryz.prog 14:=⟨Tryz.f14,Tryz.func14,by kernel_rfl,by kernel_rfl⟩
theorem Tryz.cal15:callable Tryz.prog 15:=⟨Tryz.f15,Tryz.func15,by kernel_rfl,by kernel_rfl⟩
theorem Tryz.cal16:callable Tryz.prog 16:=⟨Tryz.f16,Tryz.func16,by kernel_rfl,by kernel_rfl⟩
theorem Tryz.cal17:callable Tryz.prog 17:=⟨Tryz.f17,Tryz.func17,by kernel_rfl,by kernel_rfl⟩
theorem Tryz.cal18:callable Tryz.prog 18:=⟨Tryz.f18,Tryz.func18,by kernel_rfl,by kernel_rfl⟩
theorem Tryz.cal19:callable Tryz.prog 19:=⟨Tryz.f19,Tryz.func19,by kernel_rfl,by kernel_rfl⟩
theorem Tryz.cal20:callable Tryz.prog 20:=⟨Tryz.f20,Tryz.func20,by kernel_rfl,by kernel_rfl⟩
theorem Tryz.cal21:callable Tryz.prog 21:=⟨Tryz.f21,Tryz.func21,by kernel_rfl,by kernel_rfl⟩
theorem Tryz.cal22:callable Tryz.prog 22:=⟨Tryz.f22,Tryz.func22,by kernel_rfl,by kernel_rfl⟩
theorem Tryz.cal23:callable Tryz.prog 23:=⟨Tryz.f23,Tryz.func23,by kernel_rfl,by kernel_rfl⟩
theorem Tryz.cal24:callable Tryz.prog 24:=⟨Tryz.f24,Tryz.func24,by kernel_rfl,by kernel_rfl⟩
theorem Tryz.cal25:callable Tryz.prog 25:=⟨Tryz.f25,Tryz.func25,by kernel_rfl,by kernel_rfl⟩
theorem Tryz.cal26:callable Tryz.prog 26:=⟨Tryz.f26,Tryz.func26,by kernel_rfl,by kernel_rfl⟩
theorem Tryz.cal27:callable Tryz.prog 27:=⟨Tryz.f27,Tryz.func27,by kernel_rfl,by kernel_rfl⟩
theorem Tryz.cal28:callable Tryz.prog 28:=⟨Tryz.f28,Tryz.func28,by kernel_rfl,by kernel_rfl⟩
theorem Tryz.cal29:callable Tryz.prog 29:=⟨Tryz.f29,Tryz.func29,by kernel_rfl,by kernel_rfl⟩
theorem Tryz.cal30:callable Tryz.prog 30:=⟨Tryz.f30,Tryz.func30,by kernel_rfl,by kernel_rfl⟩
theorem Tryz.cal31:callable Tryz.prog 31:=⟨Tryz.f31,Tryz.func31,by kernel_rfl,by kernel_rfl⟩
theorem Tryz.cal32:callable Tryz.prog 32:=⟨Tryz.f32,Tryz.func32,by kernel_rfl,by kernel_rfl⟩
theorem Tryz.cal33:callable Tryz.prog 33:=⟨Tryz.f33,Tryz.func33,by kernel_rfl,by kernel_rfl⟩
theorem Tryz.cal34:callable Tryz.prog 34:=⟨Tryz.f34,Tryz.func34,by kernel_rfl,by kernel_rfl⟩
theorem Tryz.cal35:callable Tryz.prog 35:=⟨Tryz.f35,Tryz.func35,by kernel_rfl,by kernel_rfl⟩
theorem Tryz.cal36:callable Tryz.prog 36:=⟨Tryz.f36,Tryz.func36,by kernel_rfl,by kernel_rfl⟩
theorem Tryz.cal37:callable Tryz.prog 37:=⟨Tryz.f37,Tryz.func37,by kernel_rfl,by kernel_rfl⟩
theorem Tryz.cal38:callable Tryz.prog 38:=⟨Tryz.f38,Tryz.func38,by kernel_rfl,by kernel_rfl⟩
theorem Tryz.cal39:callable Tryz.prog 39:=⟨Tryz.f39,Tryz.func39,by kernel_rfl,by kernel_rfl⟩
theorem Tryz.cal40:callable Tryz.prog 40:=⟨Tryz.f40,Tryz.func40,by kernel_rfl,by kernel_rfl⟩
theorem Tryz.cal41:callable Tryz.prog 41:=⟨Tryz.f41,Tryz.func41,by kernel_rfl,by kernel_rfl⟩
theorem Tryz.cal42:callable Tryz.prog 42:=⟨Tryz.f42,Tryz.func42,by kernel_rfl,by kernel_rfl⟩
theorem Tryz.cal43:callable Tryz.prog 43:=⟨Tryz.f43,Tryz.func43,by kernel_rfl,by kernel_rfl⟩
theorem Tryz.cal44:callable Tryz.prog 44:=⟨Tryz.f44,Tryz.func44,by kernel_rfl,by kernel_rfl⟩
theorem Tryz.cal45:callable Tryz.prog 45:=⟨Tryz.f45,Tryz.func45,by kernel_rfl,by kernel_rfl⟩
theorem Tryz.cal46:callable Tryz.prog 46:=⟨Tryz.f46,Tryz.func46,by kernel_rfl,by kernel_rfl⟩
theorem Tryz.cal47:callable Tryz.prog 47:=⟨Tryz.f47,Tryz.func47,by kernel_rfl,by kernel_rfl⟩
theorem Tryz.cal48:callable Tryz.prog 48:=⟨Tryz.f48,Tryz.func48,by kernel_rfl,by kernel_rfl⟩
theorem Tryz.cal49:callable Tryz.prog 49:=⟨Tryz.f49,Tryz.func49,by kernel_rfl,by kernel_rfl⟩
theorem Tryz.cal50:callable Tryz.prog 50:=⟨Tryz.f50,Tryz.func50,by kernel_rfl,by kernel_rfl⟩
theorem Tryz.cal51:callable Tryz.prog 51:=⟨Tryz.f51,Tryz.func51,by kernel_rfl,by kernel_rfl⟩
theorem Tryz.cal52:callable Tryz.prog 52:=⟨Tryz.f52,Tryz.func52,by kernel_rfl,by kernel_rfl⟩
theorem Tryz.cal53:callable Tryz.prog 53:=⟨Tryz.f53,Tryz.func53,by kernel_rfl,by kernel_rfl⟩
theorem Tryz.cal54:callable Tryz.prog 54:=⟨Tryz.f54,Tryz.func54,by kernel_rfl,by kernel_rfl⟩
theorem Tryz.cal55:callable Tryz.prog 55:=⟨Tryz.f55,Tryz.func55,by kernel_rfl,by kernel_rfl⟩
theorem Tryz.cal56:callable Tryz.prog 56:=⟨Tryz.f56,Tryz.func56,by kernel_rfl,by kernel_rfl⟩
theorem Tryz.cal57:callable Tryz.prog 57:=⟨Tryz.f57,Tryz.func57,by kernel_rfl,by kernel_rfl⟩
theorem Tryz.cal58:callable Tryz.prog 58:=⟨Tryz.f58,Tryz.func58,by kernel_rfl,by kernel_rfl⟩
theorem Tryz.cal59:callable Tryz.prog 59:=⟨Tryz.f59,Tryz.func59,by kernel_rfl,by kernel_rfl⟩
theorem Tryz.cal60:callable Tryz.prog 60:=⟨Tryz.f60,Tryz.func60,by kernel_rfl,by kernel_rfl⟩
theorem Tryz.cal61:callable Tryz.prog 61:=⟨Tryz.f61,Tryz.func61,by kernel_rfl,by kernel_rfl⟩
theorem Tryz.cal62:callable Tryz.prog 62:=⟨Tryz.f62,Tryz.func62,by kernel_rfl,by kernel_rfl⟩
theorem Tryz.cal63:callable Tryz.prog 63:=⟨Tryz.f63,Tryz.func63,by kernel_rfl,by kernel_rfl⟩
theorem Tryz.cal64:callable Tryz.prog 64:=⟨Tryz.f64,Tryz.func64,by kernel_rfl,by kernel_rfl⟩
theorem Tryz.cal65:callable Tryz.prog 65:=⟨Tryz.f65,Tryz.func65,by kernel_rfl,by kernel_rfl⟩
theorem Tryz.cal66:callable Tryz.prog 66:=⟨Tryz.f66,Tryz.func66,by kernel_rfl,by kernel_rfl⟩
theorem Tryz.cal67:callable Tryz.prog 67:=⟨Tryz.f67,Tryz.func67,by kernel_rfl,by kernel_rfl⟩
theorem Tryz.cal68:callable Tryz.prog 68:=⟨Tryz.f68,Tryz.func68,by kernel_rfl,by kernel_rfl⟩
theorem Tryz.cal69:callable Tryz.prog 69:=⟨Tryz.f69,Tryz.func69,by kernel_rfl,by kernel_rfl⟩
theorem Tryz.cal70:callable Tryz.prog 70:=⟨Tryz.f70,Tryz.func70,by kernel_rfl,by kernel_rfl⟩
theorem Tryz.cal71:callable Tryz.prog 71:=⟨Tryz.f71,Tryz.func71,by kernel_rfl,by kernel_rfl⟩
theorem Tryz.cal72:callable Tryz.prog 72:=⟨Tryz.f72,Tryz.func72,by kernel_rfl,by kernel_rfl⟩
theorem Tryz.cal73:callable Tryz.prog 73:=⟨Tryz.f73,Tryz.func73,by kernel_rfl,by kernel_rfl⟩
theorem Tryz.cal74:callable Tryz.prog 74:=⟨Tryz.f74,Tryz.func74,by kernel_rfl,by kernel_rfl⟩
theorem Tryz.cal75:callable Tryz.prog 75:=⟨Tryz.f75,Tryz.func75,by kernel_rfl,by kernel_rfl⟩
theorem Tryz.cal76:callable Tryz.prog 76:=⟨Tryz.f76,Tryz.func76,by kernel_rfl,by kernel_rfl⟩
theorem Tryz.cal77:callable Tryz.prog 77:=⟨Tryz.f77,Tryz.func77,by kernel_rfl,by kernel_rfl⟩
theorem Tryz.cal78:callable Tryz.prog 78:=⟨Tryz.f78,Tryz.func78,by kernel_rfl,by kernel_rfl⟩
theorem Tryz.cal79:callable Tryz.prog 79:=⟨Tryz.f79,Tryz.func79,by kernel_rfl,by kernel_rfl⟩
theorem Tryz.cal80:callable Tryz.prog 80:=⟨Tryz.f80,Tryz.func80,by kernel_rfl,by kernel_rfl⟩
theorem Tryz.cal81:callable Tryz.prog 81:=⟨Tryz.f81,Tryz.func81,by kernel_rfl,by kernel_rfl⟩
theorem Tryz.cal82:callable Tryz.prog 82:=⟨Tryz.f82,Tryz.func82,by kernel_rfl,by kernel_rfl⟩
theorem Tryz.cal83:callable Tryz.prog 83:=⟨Tryz.f83,Tryz.func83,by kernel_rfl,by kernel_rfl⟩
theorem Tryz.cal84:callable Tryz.prog 84:=⟨Tryz.f84,Tryz.func84,by kernel_rfl,by kernel_rfl⟩
theorem Tryz.cal85:callable Tryz.prog 85:=⟨Tryz.f85,Tryz.func85,by kernel_rfl,by kernel_rfl⟩
theorem Tryz.cal86:callable Tryz.prog 86:=⟨Tryz.f86,Tryz.func86,by kernel_rfl,by kernel_rfl⟩
theorem Tryz.cal87:callable Tryz.prog 87:=⟨Tryz.f87,Tryz.func87,by kernel_rfl,by kernel_rfl⟩
theorem Tryz.cal88:callable Tryz.prog 88:=⟨Tryz.f88,Tryz.func88,by kernel_rfl,by kernel_rfl⟩
theorem Tryz.cal89:callable Tryz.prog 89:=⟨Tryz.f89,Tryz.func89,by kernel_rfl,by kernel_rfl⟩
theorem Tryz.cal90:callable Tryz.prog 90:=⟨Tryz.f90,Tryz.func90,by kernel_rfl,by kernel_rfl⟩
theorem Tryz.cal91:callable Tryz.prog 91:=⟨Tryz.f91,Tryz.func91,by kernel_rfl,by kernel_rfl⟩
theorem Tryz.cal92:callable Tryz.prog 92:=⟨Tryz.f92,Tryz.func92,by kernel_rfl,by kernel_rfl⟩
theorem Tryz.cal93:callable Tryz.prog 93:=⟨Tryz.f93,Tryz.func93,by kernel_rfl,by kernel_rfl⟩
theorem Tryz.cal94:callable Tryz.prog 94:=⟨Tryz.f94,Tryz.func94,by kernel_rfl,by kernel_rfl⟩
theorem Tryz.cal95:callable Tryz.prog 95:=⟨Tryz.f95,Tryz.func95,by kernel_rfl,by kernel_rfl⟩
theorem Tryz.cal96:callable Tryz.prog 96:=⟨Tryz.f96,Tryz.func96,by kernel_rfl,by kernel_rfl⟩
theorem Tryz.cal97:callable Tryz.prog 97:=⟨Tryz.f97,Tryz.func97,by kernel_rfl,by kernel_rfl⟩
theorem Tryz.cal98:callable Tryz.prog 98:=⟨Tryz.f98,Tryz.func98,by kernel_rfl,by kernel_rfl⟩
theorem Tryz.cal99:callable Tryz.prog 99:=⟨Tryz.f99,Tryz.func99,by kernel_rfl,by kernel_rfl⟩
theorem Tryz.cal100:callable Tryz.prog 100:=⟨Tryz.f100,Tryz.func100,by kernel_rfl,by kernel_rfl⟩
theorem Tryz.cal101:callable Tryz.prog 101:=⟨Tryz.f101,Tryz.func101,by kernel_rfl,by kernel_rfl⟩
theorem Tryz.cal102:callable Tryz.prog 102:=⟨Tryz.f102,Tryz.func102,by kernel_rfl,by kernel_rfl⟩
theorem Tryz.cal103:callable Tryz.prog 103:=⟨Tryz.f103,Tryz.func103,by kernel_rfl,by kernel_rfl⟩
theorem Tryz.cal104:callable Tryz.prog 104:=⟨Tryz.f104,Tryz.func104,by kernel_rfl,by kernel_rfl⟩
theorem Tryz.cal105:callable Tryz.prog 105:=⟨Tryz.f105,Tryz.func105,by kernel_rfl,by kernel_rfl⟩
theorem Tryz.cal106:callable Tryz.prog 106:=⟨Tryz.f106,Tryz.func106,by kernel_rfl,by kernel_rfl⟩
theorem Tryz.cal107:callable Tryz.prog 107:=⟨Tryz.f107,Tryz.func107,by kernel_rfl,by kernel_rfl⟩
theorem Tryz.cal108:callable Tryz.prog 108:=⟨Tryz.f108,Tryz.func108,by kernel_rfl,by kernel_rfl⟩
theorem Tryz.cal109:callable Tryz.prog 109:=⟨Tryz.f109,Tryz.func109,by kernel_rfl,by kernel_rfl⟩
theorem Tryz.cal110:callable Tryz.prog 110:=⟨Tryz.f110,Tryz.func110,by kernel_rfl,by kernel_rfl⟩
theorem Tryz.cal111:callable Tryz.prog 111:=⟨Tryz.f111,Tryz.func111,by kernel_rfl,by kernel_rfl⟩
theorem Tryz.cal112:callable Tryz.prog 112:=⟨Tryz.f112,Tryz.func112,by kernel_rfl,by kernel_rfl⟩
theorem Tryz.cal113:callable Tryz.prog 113:=⟨Tryz.f113,Tryz.func113,by kernel_rfl,by kernel_rfl⟩
theorem Tryz.cal114:callable Tryz.prog 114:=⟨Tryz.f114,Tryz.func114,by kernel_rfl,by kernel_rfl⟩
theorem Tryz.cal115:callable Tryz.prog 115:=⟨Tryz.f115,Tryz.func115,by kernel_rfl,by kernel_rfl⟩
theorem Tryz.cal116:callable Tryz.prog 116:=⟨Tryz.f116,Tryz.func116,by kernel_rfl,by kernel_rfl⟩
theorem Tryz.cal117:callable Tryz.prog 117:=⟨Tryz.f117,Tryz.func117,by kernel_rfl,by kernel_rfl⟩
theorem Tryz.cal118:callable Tryz.prog 118:=⟨Tryz.f118,Tryz.func118,by kernel_rfl,by kernel_rfl⟩
theorem Tryz.cal119:callable Tryz.prog 119:=⟨Tryz.f119,Tryz.func119,by kernel_rfl,by kernel_rfl⟩
theorem Tryz.cal120:callable Tryz.prog 120:=⟨Tryz.f120,Tryz.func120,by kernel_rfl,by kernel_rfl⟩
theorem Tryz.cal123:callable Tryz.prog 123:=⟨Tryz.f123,Tryz.func123,by kernel_rfl,by kernel_rfl⟩
theorem Tryz.cal124:callable Tryz.prog 124:=⟨Tryz.f124,Tryz.func124,by kernel_rfl,by kernel_rfl⟩
theorem Tryz.cal125:callable Tryz.prog 125:=⟨Tryz.f125,Tryz.func125,by kernel_rfl,by kernel_rfl⟩
theorem Tryz.cal126:callable Tryz.prog 126:=⟨Tryz.f126,Tryz.func126,by kernel_rfl,by kernel_rfl⟩
theorem Tryz.cal127:callable Tryz.prog 127:=⟨Tryz.f127,Tryz.func127,by kernel_rfl,by kernel_rfl⟩
theorem Tryz.cal128:callable Tryz.prog 128:=⟨Tryz.f128,Tryz.func128,by kernel_rfl,by kernel_rfl⟩
theorem Tryz.cal129:callable Tryz.prog 129:=⟨Tryz.f129,Tryz.func129,by kernel_rfl,by kernel_rfl⟩
theorem Tryz.cal130:callable Tryz.prog 130:=⟨Tryz.f130,Tryz.func130,by kernel_rfl,by kernel_rfl⟩
theorem Tryz.cal131:callable Tryz.prog 131:=⟨Tryz.f131,Tryz.func131,by kernel_rfl,by kernel_rfl⟩
theorem Tryz.cal132:callable Tryz.prog 132:=⟨Tryz.f132,Tryz.func132,by kernel_rfl,by kernel_rfl⟩
theorem Tryz.cal133:callable Tryz.prog 133:=⟨Tryz.f133,Tryz.func133,by kernel_rfl,by kernel_rfl⟩
theorem Tryz.cal135:callable Tryz.prog 135:=⟨Tryz.f135,Tryz.func135,by kernel_rfl,by kernel_rfl⟩
theorem Tryz.cal136:callable Tryz.prog 136:=⟨Tryz.f136,Tryz.func136,by kernel_rfl,by kernel_rfl⟩
theorem Tryz.cal137:callable Tryz.prog 137:=⟨Tryz.f137,Tryz.func137,by kernel_rfl,by kernel_rfl⟩
theorem Tryz.cal138:callable Tryz.prog 138:=⟨Tryz.f138,Tryz.func138,by kernel_rfl,by kernel_rfl⟩
end Go.Proofs
namespace Go.Proofs
open Go.Sh Go.Sh.Plan
open Go.IntKind (wrap)
open Int (toNat)
def Tryz.S3(w1 h2:Int)(st3p:OA)(st3l st3c:Nat)(H:Heap)(R:Kv):Prop:=
 Tryz.C 5 #[] H fun r4 H5=> ∃r6,r4= .bool r6∧br (!r6)
 (R (.bool false) H5)
 (Tryz.C 6 #[.int .i64 w1,.int .i64 h2] H5 fun r7 H8=> ∃r9 r10,r7= .tuple #[.agg r9,.int .i64 r10]∧alc H8 (.cells #[.int .i64 0,.int .i64 0,.int .i64 0,.slice none 0 0] 26) fun b11 H12=>r9.size=4∧stAt H12 ⟨b11,0,none⟩ r9.toList fun H13=>Tryz.C 7 #[.int .i64 w1,.int .i64 h2] H13 fun r14 H15=> ∃r16 r17,r14= .tuple #[.agg r16,.int .i64 r17]∧alc H15 (.cells #[.int .i64 0,.int .i64 0,.int .i64 0,.slice none 0 0] 32) fun b18 H19=>r16.size=4∧stAt H19 ⟨b18,0,none⟩ r16.toList fun H20=> ∀J21:Kl,(∀H22,(∃v23,v23.size=4∧rowIn H22 ⟨b11,0,none⟩ v23∧Tryz.C 8 #[.agg v23] H22 fun r24 H25=> ∃l26,r24= .pointer l26∧br (Option.isNone l26) (R (.bool false) H25) (∀J27:Kl,(∀(pa28p:OA) (pa28l pa28c:Nat) (bo29p:OA) (bo29l bo29c:Nat) H30,(∀X31:Kl,(∀(pa32p:OA) (pa32l pa32c:Nat) (bo33p:OA) (bo33l bo33c:Nat) (t34:Int) H35,(br (decide (t34<(st3l:Int))) (∀J36:Kl,(∀(pa37p:OA) (pa37l pa37c:Nat) (bo38p:OA) (bo38l bo38c:Nat) H39,(X31 [.slice pa37p pa37l pa37c,.slice bo38p bo38l bo38c,.int .i64 (wrap .i64 (t34+1))] H39)→J36 [.slice pa37p pa37l pa37c,.slice bo38p bo38l bo38c] H39)→ ∃a40,st3p=some a40∧0≤t34∧t34<(st3l:Int)∧ ∃v41,v41.size=26∧rowIn H35 (.add a40 (toNat t34*26)) v41∧alc H35 (.cells #[.int .i64 0,.int .i64 0,.int .i64 0,.int .i64 0,.int .i64 0,.int .i64 0,.int .i64 0,.int .i64 0,.int .i64 0,.int .i64 0,.slice none 0 0,.slice none 0 0,.int .i64 0,.int .i64 0,.int .i64 0,.int .i64 0,.int .i64 0,.int .i64 0,.slice none 0 0,.bool false,.bool false,.int .i64 0,.int .i64 0,.int .i64 0,.int .i64 0,.int .i64 0] 46) fun b42 H43=>v41.size=26∧stAt H43 ⟨b42,0,none⟩ v41.toList fun H44=> ∃Ed45,Ed45.size=19∧rowIn H44 (.add ⟨b42,0,none⟩ 0) Ed45∧Ed45.size=19∧0+19≤19∧alc H44 (.cells (List.toArray (setL [.int .i64 0,.int .i64 0,.int .i64 0,.int .i64 0,.int .i64 0,.int .i64 0,.int .i64 0,.int .i64 0,.int .i64 0,.int .i64 0,.slice none 0 0,.slice none 0 0,.int .i64 0,.int .i64 0,.int .i64 0,.int .i64 0,.int .i64 0,.int .i64 0,.slice none 0 0] 0 Ed45.toList)) 44) fun b46 H47=>Tryz.C 9 #[.slice (some ⟨b46,0,none⟩) 1 1,.int .i64 1] H47 fun r48 H49=> ∃r50,r48= .bool r50∧br (!r50) (R (.bool true) H49) (∀J51:Kl,(∀H52,(∃v53,v53.size=4∧rowIn H52 ⟨b18,0,none⟩ v53∧Tryz.C 20 #[.pointer l26] H52 fun r54 H55=> ∃r56,r54= .agg r56∧(Ext H52 H55∨(∃v100,v100.size=4∧rowIn H55 ⟨b18,0,none⟩ v100∧Value.agg v100= .agg v53))∧Tryz.C 19 #[.agg r56,.agg v53] H55 fun r57 H58=> ∃r59,r57= .bool r59∧br (!r59) (R (.bool false) H58) (∃v60,v60.size=4∧rowIn H58 ⟨b18,0,none⟩ v60∧(Tryz.C 20 #[.pointer l26] H58 fun r61 H62=> ∃r63,r61= .agg r63∧(Ext H58 H62∨(∃v88,v88.size=4∧rowIn H62 ⟨b18,0,none⟩ v88∧Value.agg v88= .agg v60))∧(r63.size=4∧0+4≤4∧alc H62 (.cells (List.toArray (setL [.int .i64 0,.int .i64 0,.int .i64 0,.slice none 0 0] 0 r63.toList)) 26) fun b64 H65=>(Ext H62 H65∨(∃v79,v79.size=4∧rowIn H65 ⟨b18,0,none⟩ v79∧Value.agg v79= .agg v60))∧(appQ 4 48 #[.int .i64 0,.int .i64 0,.int .i64 0,.slice none 0 0] H65 pa32p pa32l pa32c (some ⟨b64,0,none⟩) 1 26 fun pa66p pa66l pa66c H67=>(Ext H65 H67∨(∃v72,v72.size=4∧rowIn H67 ⟨b18,0,none⟩ v72∧Value.agg v72= .agg v60))∧v60.size=4∧0+4≤4∧alc H67 (.cells (List.toArray (setL [.int .i64 0,.int .i64 0,.int .i64 0,.slice none 0 0] 0 v60.toList)) 32) fun b68 H69=>appQ 4 48 #[.int .i64 0,.int .i64 0,.int .i64 0,.slice none 0 0] H69 bo33p bo33l bo33c (some ⟨b68,0,none⟩) 1 32 fun bo70p bo70l bo70c H71=>J36 [.slice pa66p pa66l pa66c,.slice bo70p bo70l bo70c] H71)∧(v60.size=4∧0+4≤4∧alc H65 (.cells (List.toArray (setL [.int .i64 0,.int .i64 0,.int .i64 0,.slice none 0 0] 0 v60.toList)) 32) fun b73 H74=>appQ 4 48 #[.int .i64 0,.int .i64 0,.int .i64 0,.slice none 0 0] H74 pa32p pa32l pa32c (some ⟨b64,0,none⟩) 1 26 fun pa75p pa75l pa75c H76=>appQ 4 48 #[.int .i64 0,.int .i64 0,.int .i64 0,.slice none 0 0] H76 bo33p bo33l bo33c (some ⟨b73,0,none⟩) 1 32 fun bo77p bo77l bo77c H78=>J36 [.slice pa75p pa75l pa75c,.slice bo77p bo77l bo77c] H78))∧(v60.size=4∧0+4≤4∧alc H62 (.cells (List.toArray (setL [.int .i64 0,.int .i64 0,.int .i64 0,.slice none 0 0] 0 v60.toList)) 32) fun b80 H81=>r63.size=4∧0+4≤4∧alc H81 (.cells (List.toArray (setL [.int .i64 0,.int .i64 0,.int .i64 0,.slice none 0 0] 0 r63.toList)) 26) fun b82 H83=>appQ 4 48 #[.int .i64 0,.int .i64 0,.int .i64 0,.slice none 0 0] H83 pa32p pa32l pa32c (some ⟨b82,0,none⟩) 1 26 fun pa84p pa84l pa84c H85=>appQ 4 48 #[.int .i64 0,.int .i64 0,.int .i64 0,.slice none 0 0] H85 bo33p bo33l bo33c (some ⟨b80,0,none⟩) 1 32 fun bo86p bo86l bo86c H87=>J36 [.slice pa84p pa84l pa84c,.slice bo86p bo86l bo86c] H87))∧(v60.size=4∧0+4≤4∧alc H58 (.cells (List.toArray (setL [.int .i64 0,.int .i64 0,.int .i64 0,.slice none 0 0] 0 v60.toList)) 32) fun b89 H90=>Tryz.C 20 #[.pointer l26] H90 fun r91 H92=> ∃r93,r91= .agg r93∧r93.size=4∧0+4≤4∧alc H92 (.cells (List.toArray (setL [.int .i64 0,.int .i64 0,.int .i64 0,.slice none 0 0] 0 r93.toList)) 26) fun b94 H95=>appQ 4 48 #[.int .i64 0,.int .i64 0,.int .i64 0,.slice none 0 0] H95 pa32p pa32l pa32c (some ⟨b94,0,none⟩) 1 26 fun pa96p pa96l pa96c H97=>appQ 4 48 #[.int .i64 0,.int .i64 0,.int .i64 0,.slice none 0 0] H97 bo33p bo33l bo33c (some ⟨b89,0,none⟩) 1 32 fun bo98p bo98l bo98c H99=>J36 [.slice pa96p pa96l pa96c,.slice bo98p bo98l bo98c] H99)))→J51 [] H52)→ ∃Re101,cell H49 (.add ⟨b42,0,none⟩ 19)=some (.bool Re101)∧br Re101 (Tryz.C 10 #[.pointer l26] H49 fun r102 H103=> ∃wa104,r102= .int .i64 wa104∧ ∃X105,cell H103 (.add ⟨b42,0,none⟩ 21)=some (.int .i64 X105)∧ ∃Y106,cell H103 (.add ⟨b42,0,none⟩ 22)=some (.int .i64 Y106)∧ ∃W107,cell H103 (.add ⟨b42,0,none⟩ 23)=some (.int .i64 W107)∧ ∃H108,cell H103 (.add ⟨b42,0,none⟩ 24)=some (.int .i64 H108)∧Tryz.C 11 #[.pointer l26,.int .i64 X105,.int .i64 Y106,.int .i64 W107,.int .i64 H108] H103 fun r109 H110=> ∃r111p r111l r111c r112,r109= .tuple #[.slice r111p r111l r111c,.int .i64 r112]∧ ∃v113,v113.size=4∧rowIn H110 ⟨b18,0,none⟩ v113∧ ∃X114,cell H110 (.add ⟨b42,0,none⟩ 21)=some (.int .i64 X114)∧ ∃Y115,cell H110 (.add ⟨b42,0,none⟩ 22)=some (.int .i64 Y115)∧ ∃W116,cell H110 (.add ⟨b42,0,none⟩ 23)=some (.int .i64 W116)∧ ∃H117,cell H110 (.add ⟨b42,0,none⟩ 24)=some (.int .i64 H117)∧Tryz.C 12 #[.agg v113,.int .i64 X114,.int .i64 Y115,.int .i64 W116,.int .i64 H117] H110 fun r118 H119=> ∃r120p r120l r120c r121,r118= .tuple #[.slice r120p r120l r120c,.int .i64 r121]∧ ∀J122:Kl,(∀H123,(∀J124:Kl,(∀H125,(Tryz.C 10 #[.pointer l26] H125 fun r126 H127=> ∃wa128,r126= .int .i64 wa128∧ ∃X129,cell H127 (.add ⟨b42,0,none⟩ 21)=some (.int .i64 X129)∧ ∃Y130,cell H127 (.add ⟨b42,0,none⟩ 22)=some (.int .i64 Y130)∧ ∃W131,cell H127 (.add ⟨b42,0,none⟩ 23)=some (.int .i64 W131)∧ ∃H132,cell H127 (.add ⟨b42,0,none⟩ 24)=some (.int .i64 H132)∧Tryz.C 11 #[.pointer l26,.int .i64 X129,.int .i64 Y130,.int .i64 W131,.int .i64 H132] H127 fun r133 H134=> ∃r135p r135l r135c r136,r133= .tuple #[.slice r135p r135l r135c,.int .i64 r136]∧Tryz.C 10 #[.pointer l26] H134 fun r137 H138=> ∃r139,r137= .int .i64 r139∧br (r139 != wa128) (R (.bool false) H138) (J51 [] H138))→J124 [] H125)→br (r112==0) (∃X140,cell H123 (.add ⟨b42,0,none⟩ 21)=some (.int .i64 X140)∧ ∃Y141,cell H123 (.add ⟨b42,0,none⟩ 22)=some (.int .i64 Y141)∧ ∃W142,cell H123 (.add ⟨b42,0,none⟩ 23)=some (.int .i64 W142)∧ ∃H143,cell H123 (.add ⟨b42,0,none⟩ 24)=some (.int .i64 H143)∧Tryz.C 10 #[.pointer l26] H123 fun r144 H145=> ∃r146,r144= .int .i64 r146∧(Ext H123 H145∨(∃H150,cell H145 (.add ⟨b42,0,none⟩ 24)=some (.int .i64 H150)∧Value.int .i64 H150= .int .i64 H143)∧(∃W151,cell H145 (.add ⟨b42,0,none⟩ 23)=some (.int .i64 W151)∧Value.int .i64 W151= .int .i64 W142)∧(∃Y152,cell H145 (.add ⟨b42,0,none⟩ 22)=some (.int .i64 Y152)∧Value.int .i64 Y152= .int .i64 Y141)∧(∃X153,cell H145 (.add ⟨b42,0,none⟩ 21)=some (.int .i64 X153)∧Value.int .i64 X153= .int .i64 X140))∧Tryz.C 14 #[.int .i64 X140,.int .i64 Y141,.int .i64 W142,.int .i64 H143] H145 fun r147 H148=> ∃r149,r147= .int .i64 r149∧br (decide (((wrap .i64 (r146-wa104)):Int)>r149)) (R (.bool false) H148) (J124 [] H148)) (J124 [] H123))→J122 [] H123)→br (r112 != r121) (R (.bool false) H119) (Tryz.C 13 #[.slice r111p r111l r111c,.slice r120p r120l r120c] H119 fun r154 H155=> ∃r156,r154= .bool r156∧br (!r156) (R (.bool false) H155) (J122 [] H155))) (∃Se157,cell H49 (.add ⟨b42,0,none⟩ 20)=some (.bool Se157)∧br Se157 (∀J158:Kl,(∀H159,(∃Ba160,cell H159 (.add ⟨b42,0,none⟩ 25)=some (.int .i64 Ba160)∧ ∃a161,pa32p=some a161∧0≤(wrap .i64 ((wrap .i64 ((pa32l:Int)-1))-Ba160))∧(wrap .i64 ((wrap .i64 ((pa32l:Int)-1))-Ba160))<(pa32l:Int)∧ ∃v162,v162.size=4∧rowIn H159 (.add a161 (toNat (wrap .i64 ((wrap .i64 ((pa32l:Int)-1))-Ba160))*4)) v162∧Tryz.C 15 #[.pointer l26,.agg v162] H159 fun r163 H164=>r163= .tuple #[]∧ ∃a165,bo33p=some a165∧0≤(wrap .i64 ((wrap .i64 ((pa32l:Int)-1))-Ba160))∧(wrap .i64 ((wrap .i64 ((pa32l:Int)-1))-Ba160))<(bo33l:Int)∧ ∃v166,v166.size=4∧rowIn H164 (.add a165 (toNat (wrap .i64 ((wrap .i64 ((pa32l:Int)-1))-Ba160))*4)) v166∧v166.size=4∧stAt H164 ⟨b18,0,none⟩ v166.toList fun H167=>J51 [] H167)→J158 [] H159)→ ∃Ba168,cell H49 (.add ⟨b42,0,none⟩ 25)=some (.int .i64 Ba168)∧br (decide (Ba168<0)) (J36 [.slice pa32p pa32l pa32c,.slice bo33p bo33l bo33c] H49) (∃Ba169,cell H49 (.add ⟨b42,0,none⟩ 25)=some (.int .i64 Ba169)∧br (decide (Ba169≥(pa32l:Int))) (J36 [.slice pa32p pa32l pa32c,.slice bo33p bo33l bo33c] H49) (J158 [] H49))) (∀J170:Kl,(∀(ne171:Addr) (f172:Int) H173,(∃Ed174,Ed174.size=19∧rowIn H173 (.add ⟨b42,0,none⟩ 0) Ed174∧Tryz.C 18 #[.pointer l26,.agg Ed174] H173 fun r175 H176=> ∃r177,r175= .int .i64 r177∧br (r177 != f172) (R (.bool false) H176) (br (f172==0) (∃v178,v178.size=4∧rowIn H176 ne171 v178∧v178.size=4∧stAt H176 ⟨b18,0,none⟩ v178.toList fun H179=>J51 [] H179) (J51 [] H176)))→J170 [.pointer (some ne171),.int .i64 f172] H173)→ ∃v180,v180.size=4∧rowIn H49 ⟨b18,0,none⟩ v180∧ ∃Ed181,Ed181.size=19∧rowIn H49 (.add ⟨b42,0,none⟩ 0) Ed181∧(Tryz.C 17 #[.agg Ed181] H49 fun r182 H183=> ∃r184,r182= .agg r184∧(Ext H49 H183∨(∃v200,v200.size=4∧rowIn H183 ⟨b18,0,none⟩ v200∧Value.agg v200= .agg v180))∧(Tryz.C 16 #[.agg v180,.agg r184] H183 fun r185 H186=> ∃r187 r188,r185= .tuple #[.agg r187,.int .i64 r188]∧alc H186 (.cells #[.int .i64 0,.int .i64 0,.int .i64 0,.slice none 0 0] 32) fun b189 H190=>r187.size=4∧stAt H190 ⟨b189,0,none⟩ r187.toList fun H191=>J170 [.pointer (some ⟨b189,0,none⟩),.int .i64 r188] H191)∧(alc H183 (.cells #[.int .i64 0,.int .i64 0,.int .i64 0,.slice none 0 0] 32) fun b192 H193=>(Ext H183 H193∨(∃v199,v199.size=4∧rowIn H193 ⟨b18,0,none⟩ v199∧Value.agg v199= .agg v180))∧Tryz.C 16 #[.agg v180,.agg r184] H193 fun r194 H195=> ∃r196 r197,r194= .tuple #[.agg r196,.int .i64 r197]∧r196.size=4∧stAt H195 ⟨b192,0,none⟩ r196.toList fun H198=>J170 [.pointer (some ⟨b192,0,none⟩),.int .i64 r197] H198))∧(alc H49 (.cells #[.int .i64 0,.int .i64 0,.int .i64 0,.slice none 0 0] 32) fun b201 H202=>(Ext H49 H202∨(∃Ed212,Ed212.size=19∧rowIn H202 (.add ⟨b42,0,none⟩ 0) Ed212∧Value.agg Ed212= .agg Ed181)∧(∃v213,v213.size=4∧rowIn H202 ⟨b18,0,none⟩ v213∧Value.agg v213= .agg v180))∧Tryz.C 17 #[.agg Ed181] H202 fun r203 H204=> ∃r205,r203= .agg r205∧(Ext H202 H204∨(∃v211,v211.size=4∧rowIn H204 ⟨b18,0,none⟩ v211∧Value.agg v211= .agg v180))∧Tryz.C 16 #[.agg v180,.agg r205] H204 fun r206 H207=> ∃r208 r209,r206= .tuple #[.agg r208,.int .i64 r209]∧r208.size=4∧stAt H207 ⟨b201,0,none⟩ r208.toList fun H210=>J170 [.pointer (some ⟨b201,0,none⟩),.int .i64 r209] H210))))) (R (.bool true) H35))→X31 [.slice pa32p pa32l pa32c,.slice bo33p bo33l bo33c,.int .i64 t34] H35)→X31 [.slice pa28p pa28l pa28c,.slice bo29p bo29l bo29c,.int .i64 0] H30)→J27 [.slice pa28p pa28l pa28c,.slice bo29p bo29l bo29c] H30)→ ∃v214,v214.size=4∧rowIn H25 ⟨b11,0,none⟩ v214∧ ∃v215,v215.size=4∧rowIn H25 ⟨b18,0,none⟩ v215∧(v214.size=4∧0+4≤4∧alc H25 (.cells (List.toArray (setL [.int .i64 0,.int .i64 0,.int .i64 0,.slice none 0 0] 0 v214.toList)) 26) fun b216 H217=>(Ext H25 H217∨(∃v220,v220.size=4∧rowIn H217 ⟨b18,0,none⟩ v220∧Value.agg v220= .agg v215))∧v215.size=4∧0+4≤4∧alc H217 (.cells (List.toArray (setL [.int .i64 0,.int .i64 0,.int .i64 0,.slice none 0 0] 0 v215.toList)) 32) fun b218 H219=>J27 [.slice (some ⟨b216,0,none⟩) 1 1,.slice (some ⟨b218,0,none⟩) 1 1] H219)∧(v215.size=4∧0+4≤4∧alc H25 (.cells (List.toArray (setL [.int .i64 0,.int .i64 0,.int .i64 0,.slice none 0 0] 0 v215.toList)) 32) fun b221 H222=>(Ext H25 H222∨(∃v225,v225.size=4∧rowIn H222 ⟨b11,0,none⟩ v225∧Value.agg v225= .agg v214))∧v214.size=4∧0+4≤4∧alc H222 (.cells (List.toArray (setL [.int .i64 0,.int .i64 0,.int .i64 0,.slice none 0 0] 0 v214.toList)) 26) fun b223 H224=>J27 [.slice (some ⟨b223,0,none⟩) 1 1,.slice (some ⟨b221,0,none⟩) 1 1] H224)))→J21 [] H22)→br (r10 != 0) (R (.bool true) H20) (br (decide (w1>40)) (R (.bool true) H20) (br (decide (h2>40)) (R (.bool true) H20) (br (decide (((wrap .i64 (w1*h2)):Int)>800)) (R (.bool true) H20) (br (decide (((st3l:Int):Int)>16)) (R (.bool true) H20) (J21 [] H20))))))
def Tryz.p3:Plan:=(tl (tg (tl (tl (two (join [] [2,7,9] g0) (tl (tg (two (join [(12,37),(13,38)] [2,9,11] leaf) (two (tl (one (loop [(12,37),(13,38),(69,3)] [9,11,67,68] (tl (two (tl leaf) (two (join [(12,37),(13,38)] [9,11,67,68,69] (one (tl (tg (two (join [] [9,11,12,13,67,68,69] (one (tl (two (tl (tl (tl (two (join [] [9,11,12,13,15,16,18,67,68,69] g0) (two (join [] [9,11,12,13,15,67,68,69] g0) (tl (tl g0))))))) (tl (two (two (join [] [9,11,12,13,15,67,68,69] (tl (tl leaf))) (tl (tl leaf))) (two (join [(22,999999),(23,3)] [9,11,12,13,15,67,68,69] leaf) (tg (tl (tl leaf)))))))))) (tg leaf)))))) leaf)))))) (tl leaf))))))))))
theorem Tryz.s3{w1 h2:Int}{st3p:OA}{st3l st3c:Nat}{H R}(h:Tryz.S3 w1 h2 st3p st3l st3c H R):Tryz.C 3 #[.int .i64 w1,.int .i64 h2,.slice st3p st3l st3c] H R:=vcs Tryz.tab_ok Tryz.mixed Tryz.func3 Tryz.cal3 Tryz.p3 h (by kernel_rfl)
def Tryz.S4(ed1p:OA)(ed1l ed1c:Nat)(v2:Int)(H:Heap)(R:Kv):Prop:=
 Tryz.C 5 #[] H fun r3 H4=> ∃r5,r3= .bool r5∧br (!r5)
 (R (.bool false) H4)
 (Tryz.C 9 #[.slice ed1p ed1l ed1c,.int .i64 12] H4 fun r6 H7=> ∃r8,r6= .bool r8∧br (!r8) (R (.bool true) H7) (Tryz.C 6 #[.int .i64 8,.int .i64 8] H7 fun r9 H10=> ∃r11 r12,r9= .tuple #[.agg r11,.int .i64 r12]∧alc H10 (.cells #[.int .i64 0,.int .i64 0,.int .i64 0,.slice none 0 0] 26) fun b13 H14=>r11.size=4∧stAt H14 ⟨b13,0,none⟩ r11.toList fun H15=>Tryz.C 7 #[.int .i64 8,.int .i64 8] H15 fun r16 H17=> ∃r18 r19,r16= .tuple #[.agg r18,.int .i64 r19]∧alc H17 (.cells #[.int .i64 0,.int .i64 0,.int .i64 0,.slice none 0 0] 32) fun b20 H21=>r18.size=4∧stAt H21 ⟨b20,0,none⟩ r18.toList fun H22=> ∀X23:Kl,(∀(t24:Int) H25,(br (decide (t24<(ed1l:Int))) (∃a26,ed1p=some a26∧0≤t24∧t24<(ed1l:Int)∧ ∃v27,v27.size=19∧rowIn H25 (.add a26 (toNat t24*19)) v27∧alc H25 (.cells #[.int .i64 0,.int .i64 0,.int .i64 0,.int .i64 0,.int .i64 0,.int .i64 0,.int .i64 0,.int .i64 0,.int .i64 0,.int .i64 0,.slice none 0 0,.slice none 0 0,.int .i64 0,.int .i64 0,.int .i64 0,.int .i64 0,.int .i64 0,.int .i64 0,.slice none 0 0] 44) fun b28 H29=>v27.size=19∧stAt H29 ⟨b28,0,none⟩ v27.toList fun H30=> ∀J31:Kl,(∀H32,(∃v33,v33.size=4∧rowIn H32 ⟨b20,0,none⟩ v33∧ ∃v34,v34.size=19∧rowIn H32 ⟨b28,0,none⟩ v34∧Tryz.C 17 #[.agg v34] H32 fun r35 H36=> ∃r37,r35= .agg r37∧(Ext H32 H36∨(∃v43,v43.size=4∧rowIn H36 ⟨b20,0,none⟩ v43∧Value.agg v43= .agg v33))∧Tryz.C 16 #[.agg v33,.agg r37] H36 fun r38 H39=> ∃r40 r41,r38= .tuple #[.agg r40,.int .i64 r41]∧r40.size=4∧stAt H39 ⟨b20,0,none⟩ r40.toList fun H42=>X23 [.int .i64 (wrap .i64 (t24+1))] H42)→J31 [] H32)→ ∃v44,v44.size=4∧rowIn H30 ⟨b13,0,none⟩ v44∧ ∃v45,v45.size=19∧rowIn H30 ⟨b28,0,none⟩ v45∧Tryz.C 21 #[.agg v44,.agg v45] H30 fun r46 H47=> ∃r48 r49,r46= .tuple #[.agg r48,.int .i64 r49]∧alc H47 (.cells #[.int .i64 0,.int .i64 0,.int .i64 0,.slice none 0 0] 26) fun b50 H51=>r48.size=4∧stAt H51 ⟨b50,0,none⟩ r48.toList fun H52=>br (r49==0) (∃v53,v53.size=4∧rowIn H52 ⟨b50,0,none⟩ v53∧v53.size=4∧stAt H52 ⟨b13,0,none⟩ v53.toList fun H54=>J31 [] H54) (J31 [] H52)) (∃v55,v55.size=4∧rowIn H25 ⟨b13,0,none⟩ v55∧Tryz.C 8 #[.agg v55] H25 fun r56 H57=> ∃l58,r56= .pointer l58∧br (Option.isNone l58) (R (.bool false) H57) (∃Ki59p Ki59l Ki59c,cell H57 (.add ⟨b13,0,none⟩ 3)=some (.slice Ki59p Ki59l Ki59c)∧ ∀X60:Kl,(∀(t61:Int) H62,(br (decide (t61<(Ki59l:Int))) (∃a63,Ki59p=some a63∧0≤t61∧t61<(Ki59l:Int)∧ ∃v64,v64.size=19∧rowIn H62 (.add a63 (toNat t61*19)) v64∧alc H62 (.cells #[.int .i64 0,.int .i64 0,.bool false,.int .i64 0,.int .i64 0,.int .i64 0,.int .i64 0,.slice none 0 0,.slice none 0 0,.int .i64 0,.int .i64 0,.int .i64 0,.int .i64 0,.int .i64 0,.int .i64 0,.bool false,.int .i64 0,.slice none 0 0,.slice none 0 0] 70) fun b65 H66=>v64.size=19∧stAt H66 ⟨b65,0,none⟩ v64.toList fun H67=> ∃P68p P68l P68c,cell H67 (.add ⟨b65,0,none⟩ 7)=some (.slice P68p P68l P68c)∧ ∀X69:Kl,(∀(i70:Int) H71,(br (decide (i70<(P68l:Int))) (∃P72p P72l P72c,cell H71 (.add ⟨b65,0,none⟩ 7)=some (.slice P72p P72l P72c)∧ ∃a73,P72p=some a73∧0≤i70∧i70<(P72l:Int)∧stAt H71 (.add a73 (toNat i70*1)) [.int .i64 (andI .i64 v2 255)] fun H74=>X69 [.int .i64 (wrap .i64 (i70+1))] H74) (X60 [.int .i64 (wrap .i64 (t61+1))] H71))→X69 [.int .i64 i70] H71)→X69 [.int .i64 0] H67) (∀X75:Kl,(∀(t76:Int) H77,(br (decide (t76<2)) (Tryz.C 11 #[.pointer l58,.int .i64 0,.int .i64 0,.int .i64 8,.int .i64 8] H77 fun r78 H79=> ∃r80p r80l r80c r81,r78= .tuple #[.slice r80p r80l r80c,.int .i64 r81]∧ ∃v82,v82.size=4∧rowIn H79 ⟨b20,0,none⟩ v82∧Tryz.C 12 #[.agg v82,.int .i64 0,.int .i64 0,.int .i64 8,.int .i64 8] H79 fun r83 H84=> ∃r85p r85l r85c r86,r83= .tuple #[.slice r85p r85l r85c,.int .i64 r86]∧ ∀J87:Kl,(∀H88,(∀X89:Kl,(∀(i90:Int) H91,(br (decide (i90<(r80l:Int))) (∃a92,r80p=some a92∧0≤i90∧i90<(r80l:Int)∧stAt H91 (.add a92 (toNat i90*1)) [.int .i64 v2] fun H93=>X89 [.int .i64 (wrap .i64 (i90+1))] H93) (Tryz.C 20 #[.pointer l58] H91 fun r94 H95=> ∃r96,r94= .agg r96∧alc H95 (.cells #[.int .i64 0,.int .i64 0,.int .i64 0,.slice none 0 0] 26) fun b97 H98=>r96.size=4∧stAt H98 ⟨b97,0,none⟩ r96.toList fun H99=> ∃Ki100p Ki100l Ki100c,cell H99 (.add ⟨b97,0,none⟩ 3)=some (.slice Ki100p Ki100l Ki100c)∧ ∀X101:Kl,(∀(t102:Int) H103,(br (decide (t102<(Ki100l:Int))) (∃a104,Ki100p=some a104∧0≤t102∧t102<(Ki100l:Int)∧ ∃v105,v105.size=19∧rowIn H103 (.add a104 (toNat t102*19)) v105∧alc H103 (.cells #[.int .i64 0,.int .i64 0,.bool false,.int .i64 0,.int .i64 0,.int .i64 0,.int .i64 0,.slice none 0 0,.slice none 0 0,.int .i64 0,.int .i64 0,.int .i64 0,.int .i64 0,.int .i64 0,.int .i64 0,.bool false,.int .i64 0,.slice none 0 0,.slice none 0 0] 70) fun b106 H107=>v105.size=19∧stAt H107 ⟨b106,0,none⟩ v105.toList fun H108=> ∃P109p P109l P109c,cell H108 (.add ⟨b106,0,none⟩ 7)=some (.slice P109p P109l P109c)∧ ∀X110:Kl,(∀(i111:Int) H112,(br (decide (i111<(P109l:Int))) (∃P113p P113l P113c,cell H112 (.add ⟨b106,0,none⟩ 7)=some (.slice P113p P113l P113c)∧ ∃a114,P113p=some a114∧0≤i111∧i111<(P113l:Int)∧stAt H112 (.add a114 (toNat i111*1)) [.int .i64 (andI .i64 v2 255)] fun H115=>X110 [.int .i64 (wrap .i64 (i111+1))] H115) (X101 [.int .i64 (wrap .i64 (t102+1))] H112))→X110 [.int .i64 i111] H112)→X110 [.int .i64 0] H108) (X75 [.int .i64 (wrap .i64 (t76+1))] H103))→X101 [.int .i64 t102] H103)→X101 [.int .i64 0] H99))→X89 [.int .i64 i90] H91)→X89 [.int .i64 0] H88)→J87 [] H88)→br (r81 != 0) (R (.bool false) H84) (Tryz.C 13 #[.slice r80p r80l r80c,.slice r85p r85l r85c] H84 fun r116 H117=> ∃r118,r116= .bool r118∧br (!r118) (R (.bool false) H117) (J87 [] H117))) (∃v119,v119.size=4∧rowIn H77 ⟨b20,0,none⟩ v119∧Tryz.C 20 #[.pointer l58] H77 fun r120 H121=> ∃r122,r120= .agg r122∧(Ext H77 H121∨(∃v126,v126.size=4∧rowIn H121 ⟨b20,0,none⟩ v126∧Value.agg v126= .agg v119))∧Tryz.C 19 #[.agg r122,.agg v119] H121 fun r123 H124=> ∃r125,r123= .bool r125∧R (.bool r125) H124))→X75 [.int .i64 t76] H77)→X75 [.int .i64 0] H62))→X60 [.int .i64 t61] H62)→X60 [.int .i64 0] H57)))→X23 [.int .i64 t24] H25)→X23 [.int .i64 0] H22))
def Tryz.p4:Plan:=(tl (tg (tg (tl (tl (two (tl (one (loop [(41,3)] [1,5,7,39,40] (tl (two (tl leaf) (two (one (tl (two (join [] [1,5,7,10,39,40,41] (tl (tl (tl leaf)))) leaf))) leaf)))))) (tl (tg (two (tl (one (loop [(69,3)] [1,7,13,67,68] (tl (two (tl leaf) (two (one (tl (tl (one (loop [(76,3)] [1,7,13,15,67,68,69,75] (tl (two (tl leaf) (two (one (tl leaf)) leaf)))))))) leaf)))))) (two (tl (one (loop [(87,3)] [1,7,13] (tl (two (tl leaf) (two (one (tl (tl (two (join [] [1,7,13,17,87] g0) (two (tl (one (loop [(109,3)] [1,7,13,17,87,108] (tl (two (tl leaf) (two (one (tl leaf)) leaf)))))) (tl (tl (one (loop [(122,3)] [1,7,13,87,120,121] (tl (two (tl leaf) (two (one (tl (tl (one (loop [(129,3)] [1,7,13,24,87,120,121,122,128] (tl (two (tl leaf) (two (one (tl leaf)) leaf)))))))) leaf)))))))))))) leaf)))))) (tl leaf)))))))))))
theorem Tryz.s4{ed1p:OA}{ed1l ed1c:Nat}{v2:Int}{H R}(h:Tryz.S4 ed1p ed1l ed1c v2 H R):Tryz.C 4 #[.slice ed1p ed1l ed1c,.int .i64 v2] H R:=vcs Tryz.tab_ok Tryz.mixed Tryz.func4 Tryz.cal4 Tryz.p4 h (by kernel_rfl)
def Tryz.S5(H:Heap)(R:Kv):Prop:=
 Tryz.C 6 #[.int .i64 40,.int .i64 40] H fun r1 H2=> ∃r3 r4,r1= .tuple #[.agg r3,.int .i64 r4]∧alc H2 (.cells #[.int .i64 0,.int .i64 0,.int .i64 0,.slice none 0 0] 26) fun b5 H6=>r3.size=4∧stAt H6 ⟨b5,0,none⟩ r3.toList fun H7=> ∃v8,v8.size=4∧rowIn H7 ⟨b5,0,none⟩ v8∧Tryz.C 21 #[.agg v8,.agg #[.int .i64 1,.int .i64 0,.int .i64 0,.int .i64 (-1:Int),.int .i64 0,.int .i64 0,.int .i64 0,.int .i64 0,.int .i64 40,.int .i64 40,.slice none 0 0,.slice none 0 0,.int .i64 0,.int .i64 0,.int .i64 0,.int .i64 0,.int .i64 0,.int .i64 0,.slice none 0 0]] H7 fun r9 H10=> ∃r11 r12,r9= .tuple #[.agg r11,.int .i64 r12]∧r11.size=4∧stAt H10 ⟨b5,0,none⟩ r11.toList fun H13=> ∃v14,v14.size=4∧rowIn H13 ⟨b5,0,none⟩ v14∧Tryz.C 8 #[.agg v14] H13 fun r15 H16=> ∃l17,r15= .pointer l17∧br (Option.isNone l17)
 (R (.bool false) H16)
 (Tryz.C 11 #[.pointer l17,.int .i64 0,.int .i64 0,.int .i64 40,.int .i64 40] H16 fun r18 H19=> ∃r20p r20l r20c r21,r18= .tuple #[.slice r20p r20l r20c,.int .i64 r21]∧Tryz.C 10 #[.pointer l17] H19 fun r22 H23=> ∃a24,r22= .int .i64 a24∧Tryz.C 11 #[.pointer l17,.int .i64 0,.int .i64 0,.int .i64 40,.int .i64 40] H23 fun r25 H26=> ∃r27p r27l r27c r28,r25= .tuple #[.slice r27p r27l r27c,.int .i64 r28]∧Tryz.C 10 #[.pointer l17] H26 fun r29 H30=> ∃b31,r29= .int .i64 b31∧alc H30 (.cells #[.int .i64 255] 3) fun b32 H33=>Tryz.C 18 #[.pointer l17,.agg #[.int .i64 4,.int .i64 1,.int .i64 0,.int .i64 0,.int .i64 0,.int .i64 0,.int .i64 3,.int .i64 3,.int .i64 1,.int .i64 1,.slice (some ⟨b32,0,none⟩) 1 1,.slice none 0 0,.int .i64 0,.int .i64 0,.int .i64 0,.int .i64 0,.int .i64 0,.int .i64 0,.slice none 0 0]] H33 fun r34 H35=> ∃e36,r34= .int .i64 e36∧Tryz.C 11 #[.pointer l17,.int .i64 0,.int .i64 0,.int .i64 40,.int .i64 40] H35 fun r37 H38=> ∃r39p r39l r39c r40,r37= .tuple #[.slice r39p r39l r39c,.int .i64 r40]∧br (a24==9) (br (b31==9) (br (e36==0) (br (r40==0) (Tryz.C 10 #[.pointer l17] H38 fun r41 H42=> ∃r43,r41= .int .i64 r43∧br (r43==10) (br (((r39l:Int):Int)==1600) (∃a44,r39p=some a44∧0≤(123:Int)∧(123:Int)<(r39l:Int)∧ ∃v45,cell H42 (.add a44 (toNat (123:Int)*1))=some (.int .i64 v45)∧R (.bool (v45==255)) H42) (R (.bool false) H42)) (R (.bool false) H42)) (R (.bool false) H38)) (R (.bool false) H38)) (R (.bool false) H38)) (R (.bool false) H38))
def Tryz.p5:Plan:=(tl (tl (tl (tl (tg (tl (tl (tl (tl (tl (tl (tl leaf))))))))))))
theorem Tryz.s5{_u:Unit}{H R}(h:Tryz.S5 H R):Tryz.C 5 #[] H R:=vcs Tryz.tab_ok Tryz.mixed Tryz.func5 Tryz.cal5 Tryz.p5 h (by kernel_rfl)
def Tryz.S6(w1 h2:Int)(H:Heap)(R:Kv):Prop:=
 alc H (.cells #[.int .i64 0,.int .i64 0,.int .i64 0,.slice none 0 0] 26) fun b3 H4=> ∀J5:Kl,(∀H6,(#[Value.int .i64 w1,Value.int .i64 h2,Value.int .i64 1,Value.slice none 0 0].size=4∧stAt H6 ⟨b3,0,none⟩ (Array.toList #[.int .i64 w1,.int .i64 h2,.int .i64 1,.slice none 0 0]) fun H7=> ∃re8,re8.size=4∧rowIn H7 ⟨b3,0,none⟩ re8∧R (.tuple #[.agg re8,.int .i64 0]) H7)→J5 [] H6)→
 br (decide (w1<1)) (#[Value.int .i64 0,Value.int .i64 0,Value.int .i64 0,Value.slice none 0 0].size=4∧stAt H4 ⟨b3,0,none⟩ (Array.toList #[.int .i64 0,.int .i64 0,.int .i64 0,.slice none 0 0]) fun H9=> ∃re10,re10.size=4∧rowIn H9 ⟨b3,0,none⟩ re10∧R (.tuple #[.agg re10,.int .i64 31]) H9) (br (decide (h2<1)) (#[Value.int .i64 0,Value.int .i64 0,Value.int .i64 0,Value.slice none 0 0].size=4∧stAt H4 ⟨b3,0,none⟩ (Array.toList #[.int .i64 0,.int .i64 0,.int .i64 0,.slice none 0 0]) fun H11=> ∃re12,re12.size=4∧rowIn H11 ⟨b3,0,none⟩ re12∧R (.tuple #[.agg re12,.int .i64 31]) H11) (br (decide (w1>32768)) (#[Value.int .i64 0,Value.int .i64 0,Value.int .i64 0,Value.slice none 0 0].size=4∧stAt H4 ⟨b3,0,none⟩ (Array.toList #[.int .i64 0,.int .i64 0,.int .i64 0,.slice none 0 0]) fun H13=> ∃re14,re14.size=4∧rowIn H13 ⟨b3,0,none⟩ re14∧R (.tuple #[.agg re14,.int .i64 31]) H13) (br (decide (h2>32768)) (#[Value.int .i64 0,Value.int .i64 0,Value.int .i64 0,Value.slice none 0 0].size=4∧stAt H4 ⟨b3,0,none⟩ (Array.toList #[.int .i64 0,.int .i64 0,.int .i64 0,.slice none 0 0]) fun H15=> ∃re16,re16.size=4∧rowIn H15 ⟨b3,0,none⟩ re16∧R (.tuple #[.agg re16,.int .i64 31]) H15) (br (decide (((wrap .i64 (w1*h2)):Int)>4194304)) (#[Value.int .i64 0,Value.int .i64 0,Value.int .i64 0,Value.slice none 0 0].size=4∧stAt H4 ⟨b3,0,none⟩ (Array.toList #[.int .i64 0,.int .i64 0,.int .i64 0,.slice none 0 0]) fun H17=> ∃re18,re18.size=4∧rowIn H17 ⟨b3,0,none⟩ re18∧R (.tuple #[.agg re18,.int .i64 31]) H17) (J5 [] H4)))))
def Tryz.p6:Plan:=(tl (two (join [] [0,1,4] g0) (tl leaf)))
theorem Tryz.s6{w1 h2:Int}{H R}(h:Tryz.S6 w1 h2 H R):Tryz.C 6 #[.int .i64 w1,.int .i64 h2] H R:=vcs Tryz.tab_ok Tryz.mixed Tryz.func6 Tryz.cal6 Tryz.p6 h (by kernel_rfl)
def Tryz.S7(w1 h2:Int)(H:Heap)(R:Kv):Prop:=
 alc H (.cells #[.int .i64 0,.int .i64 0,.int .i64 0,.slice none 0 0] 32) fun b3 H4=>Tryz.C 22 #[.int .i64 w1,.int .i64 h2] H4 fun r5 H6=> ∃r7,r5= .bool r7∧br (!r7)
 (#[Value.int .i64 0,Value.int .i64 0,Value.int .i64 0,Value.slice none 0 0].size=4∧stAt H6 ⟨b3,0,none⟩ (Array.toList #[.int .i64 0,.int .i64 0,.int .i64 0,.slice none 0 0]) fun H8=> ∃re9,re9.size=4∧rowIn H8 ⟨b3,0,none⟩ re9∧R (.tuple #[.agg re9,.int .i64 31]) H8)
 (#[Value.int .i64 w1,Value.int .i64 h2,Value.int .i64 1,Value.slice none 0 0].size=4∧stAt H6 ⟨b3,0,none⟩ (Array.toList #[.int .i64 w1,.int .i64 h2,.int .i64 1,.slice none 0 0]) fun H10=> ∃re11,re11.size=4∧rowIn H10 ⟨b3,0,none⟩ re11∧R (.tuple #[.agg re11,.int .i64 0]) H10)
def Tryz.p7:Plan:=(tl (tg (tl leaf)))
theorem Tryz.s7{w1 h2:Int}{H R}(h:Tryz.S7 w1 h2 H R):Tryz.C 7 #[.int .i64 w1,.int .i64 h2] H R:=vcs Tryz.tab_ok Tryz.mixed Tryz.func7 Tryz.cal7 Tryz.p7 h (by kernel_rfl)
def Tryz.S8(d1:AV)(H:Heap)(R:Kv):Prop:=
 alc H (.cells d1 26) fun b2 H3=>alc H3 (.cells #[.int .i64 0,.int .i64 0,.int .i64 0,.slice none 0 0,.map none,.int .i64 0] 74) fun b4 H5=> ∃v6,v6.size=4∧rowIn H5 ⟨b2,0,none⟩ v6∧Tryz.C 15 #[.pointer (some ⟨b4,0,none⟩),.agg v6] H5 fun r7 H8=>r7= .tuple #[]∧R (.pointer (some ⟨b4,0,none⟩)) H8
def Tryz.p8:Plan:=(tl (tl (tl (tl leaf))))
theorem Tryz.s8{d1:AV}{H R}(h:Tryz.S8 d1 H R):Tryz.C 8 #[.agg d1] H R:=vcs Tryz.tab_ok Tryz.mixed Tryz.func8 Tryz.cal8 Tryz.p8 h (by kernel_rfl)
def Tryz.S9(li1p:OA)(li1l li1c:Nat)(mo2:Int)(H:Heap)(R:Kv):Prop:=
 br (decide (((li1l:Int):Int)>mo2))
 (R (.bool false) H)
 (∀X3:Kl,(∀(t4:Int) H5,(br (decide (t4<(li1l:Int))) (∀J6:Kl,(∀H7,(X3 [.int .i64 (wrap .i64 (t4+1))] H7)→J6 [] H7)→ ∃a8,li1p=some a8∧0≤t4∧t4<(li1l:Int)∧ ∃v9,v9.size=19∧rowIn H5 (.add a8 (toNat t4*19)) v9∧alc H5 (.cells #[.int .i64 0,.int .i64 0,.int .i64 0,.int .i64 0,.int .i64 0,.int .i64 0,.int .i64 0,.int .i64 0,.int .i64 0,.int .i64 0,.slice none 0 0,.slice none 0 0,.int .i64 0,.int .i64 0,.int .i64 0,.int .i64 0,.int .i64 0,.int .i64 0,.slice none 0 0] 44) fun b10 H11=>v9.size=19∧stAt H11 ⟨b10,0,none⟩ v9.toList fun H12=> ∃P13p P13l P13c,cell H12 (.add ⟨b10,0,none⟩ 10)=some (.slice P13p P13l P13c)∧br (decide (((P13l:Int):Int)>600)) (R (.bool false) H12) (∃Sh14p Sh14l Sh14c,cell H12 (.add ⟨b10,0,none⟩ 11)=some (.slice Sh14p Sh14l Sh14c)∧br (decide (((Sh14l:Int):Int)>300)) (R (.bool false) H12) (∃Pa15p Pa15l Pa15c,cell H12 (.add ⟨b10,0,none⟩ 18)=some (.slice Pa15p Pa15l Pa15c)∧br (decide (((Pa15l:Int):Int)>100)) (R (.bool false) H12) (∃Ki16,cell H12 (.add ⟨b10,0,none⟩ 0)=some (.int .i64 Ki16)∧br (Ki16==1) (∃N17,cell H12 (.add ⟨b10,0,none⟩ 4)=some (.int .i64 N17)∧br (N17==0) (∃W18,cell H12 (.add ⟨b10,0,none⟩ 8)=some (.int .i64 W18)∧ ∃H19,cell H12 (.add ⟨b10,0,none⟩ 9)=some (.int .i64 H19)∧Tryz.C 22 #[.int .i64 W18,.int .i64 H19] H12 fun r20 H21=> ∃r22,r20= .bool r22∧br r22 (∃W23,cell H21 (.add ⟨b10,0,none⟩ 8)=some (.int .i64 W23)∧ ∃H24,cell H21 (.add ⟨b10,0,none⟩ 9)=some (.int .i64 H24)∧br (decide (((wrap .i64 (W23*H24)):Int)>600)) (R (.bool false) H21) (J6 [] H21)) (J6 [] H21)) (J6 [] H12)) (J6 [] H12))))) (R (.bool true) H5))→X3 [.int .i64 t4] H5)→X3 [.int .i64 0] H)
def Tryz.p9:Plan:=(tl (tg (two (tl (one (loop [(13,3)] [11,12] (tl (two (tl leaf) (two (join [] [11,12,13] (one (tl g0))) leaf)))))) (tl leaf))))
theorem Tryz.s9{li1p:OA}{li1l li1c:Nat}{mo2:Int}{H R}(h:Tryz.S9 li1p li1l li1c mo2 H R):Tryz.C 9 #[.slice li1p li1l li1c,.int .i64 mo2] H R:=vcs Tryz.tab_ok Tryz.mixed Tryz.func9 Tryz.cal9 Tryz.p9 h (by kernel_rfl)
def Tryz.S10(l1:OA)(H:Heap)(R:Kv):Prop:=
 ∃a2,l1=some a2∧ ∃la3,cell H (.add a2 5)=some (.int .i64 la3)∧R (.int .i64 la3) H
def Tryz.p10:Plan:=(tl (tl leaf))
theorem Tryz.s10{l1:OA}{H R}(h:Tryz.S10 l1 H R):Tryz.C 10 #[.pointer l1] H R:=vcs Tryz.tab_ok Tryz.mixed Tryz.func10 Tryz.cal10 Tryz.p10 h (by kernel_rfl)
def Tryz.S11(l1:OA)(x2 y3 w4 h5:Int)(H:Heap)(R:Kv):Prop:=
 ∀J6:Kl,(∀H7,(0≤(wrap .i64 (w4*h5))∧(wrap .i64 (w4*h5))≤(wrap .i64 (w4*h5))∧((8:Nat):Int)*(wrap .i64 (w4*h5))≤281474976710656∧(wrap .i64 (w4*h5))≤281474976710656∧alc H7 (.cells (List.toArray (reps (toNat (wrap .i64 (w4*h5))) (Array.toList #[.int .i64 0]))) 3) fun b8 H9=> ∀X10:Kl,(∀(i11:Int) H12,(br (decide (i11<(((toNat (wrap .i64 (w4*h5))):Nat):Int))) (w4≠0∧w4≠0∧(16:Int)≠0∧(16:Int)≠0∧Tryz.C 23 #[.pointer l1,.int .i64 (wrap .i64 (Int.tdiv (wrap .i64 (x2+(Int.tmod i11 w4))) 16)),.int .i64 (wrap .i64 (Int.tdiv (wrap .i64 (y3+(wrap .i64 (Int.tdiv i11 w4)))) 16))] H12 fun r13 H14=> ∃t15p t15l t15c,r13= .slice t15p t15l t15c∧ ∃a16,l1=some a16∧ ∃W17,cell H14 (.add (.add a16 0) 0)=some (.int .i64 W17)∧(16:Int)≠0∧(16:Int)≠0∧(16:Int)≠0∧ ∃a18,t15p=some a18∧0≤(wrap .i64 ((wrap .i64 ((Int.tmod (wrap .i64 (y3+(wrap .i64 (Int.tdiv i11 w4)))) 16)*(min 16 (wrap .i64 (W17-(wrap .i64 ((wrap .i64 (Int.tdiv (wrap .i64 (x2+(Int.tmod i11 w4))) 16))*16)))))))+(Int.tmod (wrap .i64 (x2+(Int.tmod i11 w4))) 16)))∧(wrap .i64 ((wrap .i64 ((Int.tmod (wrap .i64 (y3+(wrap .i64 (Int.tdiv i11 w4)))) 16)*(min 16 (wrap .i64 (W17-(wrap .i64 ((wrap .i64 (Int.tdiv (wrap .i64 (x2+(Int.tmod i11 w4))) 16))*16)))))))+(Int.tmod (wrap .i64 (x2+(Int.tmod i11 w4))) 16)))<(t15l:Int)∧ ∃v19,cell H14 (.add a18 (toNat (wrap .i64 ((wrap .i64 ((Int.tmod (wrap .i64 (y3+(wrap .i64 (Int.tdiv i11 w4)))) 16)*(min 16 (wrap .i64 (W17-(wrap .i64 ((wrap .i64 (Int.tdiv (wrap .i64 (x2+(Int.tmod i11 w4))) 16))*16)))))))+(Int.tmod (wrap .i64 (x2+(Int.tmod i11 w4))) 16)))*1))=some (.int .i64 v19)∧ ∃a20,(some ⟨b8,0,none⟩)=some a20∧0≤i11∧i11<(((toNat (wrap .i64 (w4*h5))):Nat):Int)∧stAt H14 (.add a20 (toNat i11*1)) [.int .i64 v19] fun H21=>X10 [.int .i64 (wrap .i64 (i11+1))] H21) (R (.tuple #[.slice (some ⟨b8,0,none⟩) (toNat (wrap .i64 (w4*h5))) (toNat (wrap .i64 (w4*h5))),.int .i64 0]) H12))→X10 [.int .i64 i11] H12)→X10 [.int .i64 0] H9)→J6 [] H7)→
 br (decide (x2<0)) (R (.tuple #[.slice none 0 0,.int .i64 12]) H) (br (decide (y3<0)) (R (.tuple #[.slice none 0 0,.int .i64 12]) H) (br (decide (w4<0)) (R (.tuple #[.slice none 0 0,.int .i64 12]) H) (br (decide (h5<0)) (R (.tuple #[.slice none 0 0,.int .i64 12]) H) (∃a22,l1=some a22∧ ∃W23,cell H (.add (.add a22 0) 0)=some (.int .i64 W23)∧br (decide (x2>W23)) (R (.tuple #[.slice none 0 0,.int .i64 12]) H) (∃a24,l1=some a24∧ ∃H25,cell H (.add (.add a24 0) 1)=some (.int .i64 H25)∧br (decide (y3>H25)) (R (.tuple #[.slice none 0 0,.int .i64 12]) H) (∃a26,l1=some a26∧ ∃W27,cell H (.add (.add a26 0) 0)=some (.int .i64 W27)∧br (decide (w4>(wrap .i64 (W27-x2)))) (R (.tuple #[.slice none 0 0,.int .i64 12]) H) (∃a28,l1=some a28∧ ∃H29,cell H (.add (.add a28 0) 1)=some (.int .i64 H29)∧br (decide (h5>(wrap .i64 (H29-y3)))) (R (.tuple #[.slice none 0 0,.int .i64 12]) H) (J6 [] H))))))))
def Tryz.p11:Plan:=(tl (two (join [] [0,1,2,3,4] g0) (tl (two (tl (one (loop [(78,3)] [0,1,2,3,12,77] (tl (two (tl leaf) (two (one (tl (tl (tl (tl leaf))))) leaf)))))) (tl leaf)))))
theorem Tryz.s11{l1:OA}{x2 y3 w4 h5:Int}{H R}(h:Tryz.S11 l1 x2 y3 w4 h5 H R):Tryz.C 11 #[.pointer l1,.int .i64 x2,.int .i64 y3,.int .i64 w4,.int .i64 h5] H R:=vcs Tryz.tab_ok Tryz.mixed Tryz.func11 Tryz.cal11 Tryz.p11 h (by kernel_rfl)
def Tryz.S12(d1:AV)(x2 y3 w4 h5:Int)(H:Heap)(R:Kv):Prop:=
 alc H (.cells d1 32) fun b6 H7=> ∀J8:Kl,(∀H9,(∀X10:Kl,(∀(ou11p:OA) (ou11l ou11c:Nat) (j12:Int) H13,(br (decide (j12<h5)) (∀X14:Kl,(∀(ou15p:OA) (ou15l ou15c:Nat) (i16:Int) H17,(br (decide (i16<w4)) (∃v18,v18.size=4∧rowIn H17 ⟨b6,0,none⟩ v18∧Tryz.C 24 #[.agg v18,.int .i64 0,.int .i64 (wrap .i64 (x2+i16)),.int .i64 (wrap .i64 (y3+j12))] H17 fun r19 H20=> ∃r21,r19= .int .i64 r21∧alc H20 (.cells #[.int .i64 r21] 3) fun b22 H23=>appQ 1 8 #[.int .i64 0] H23 ou15p ou15l ou15c (some ⟨b22,0,none⟩) 1 3 fun ou24p ou24l ou24c H25=>X14 [.slice ou24p ou24l ou24c,.int .i64 (wrap .i64 (i16+1))] H25) (X10 [.slice ou15p ou15l ou15c,.int .i64 (wrap .i64 (j12+1))] H17))→X14 [.slice ou15p ou15l ou15c,.int .i64 i16] H17)→X14 [.slice ou11p ou11l ou11c,.int .i64 0] H13) (R (.tuple #[.slice ou11p ou11l ou11c,.int .i64 0]) H13))→X10 [.slice ou11p ou11l ou11c,.int .i64 j12] H13)→X10 [.slice none 0 0,.int .i64 0] H9)→J8 [] H9)→
 br (decide (x2<0)) (R (.tuple #[.slice none 0 0,.int .i64 12]) H7) (br (decide (y3<0)) (R (.tuple #[.slice none 0 0,.int .i64 12]) H7) (br (decide (w4<0)) (R (.tuple #[.slice none 0 0,.int .i64 12]) H7) (br (decide (h5<0)) (R (.tuple #[.slice none 0 0,.int .i64 12]) H7) (∃W26,cell H7 (.add ⟨b6,0,none⟩ 0)=some (.int .i64 W26)∧br (decide (x2>W26)) (R (.tuple #[.slice none 0 0,.int .i64 12]) H7) (∃H27,cell H7 (.add ⟨b6,0,none⟩ 1)=some (.int .i64 H27)∧br (decide (y3>H27)) (R (.tuple #[.slice none 0 0,.int .i64 12]) H7) (∃W28,cell H7 (.add ⟨b6,0,none⟩ 0)=some (.int .i64 W28)∧br (decide (w4>(wrap .i64 (W28-x2)))) (R (.tuple #[.slice none 0 0,.int .i64 12]) H7) (∃H29,cell H7 (.add ⟨b6,0,none⟩ 1)=some (.int .i64 H29)∧br (decide (h5>(wrap .i64 (H29-y3)))) (R (.tuple #[.slice none 0 0,.int .i64 12]) H7) (J8 [] H7))))))))
def Tryz.p12:Plan:=(tl (two (join [] [1,2,3,4,5] g0) (tl (two (tl (one (loop [(12,39),(13,3)] [1,2,3,4,5] (two (tl (tl leaf)) (two (one (tl (one (loop [(12,39),(14,3)] [1,2,3,4,5,13] (two (tl (tl leaf)) (two (one leaf) leaf)))))) leaf))))) (tl leaf)))))
theorem Tryz.s12{d1:AV}{x2 y3 w4 h5:Int}{H R}(h:Tryz.S12 d1 x2 y3 w4 h5 H R):Tryz.C 12 #[.agg d1,.int .i64 x2,.int .i64 y3,.int .i64 w4,.int .i64 h5] H R:=vcs Tryz.tab_ok Tryz.mixed Tryz.func12 Tryz.cal12 Tryz.p12 h (by kernel_rfl)
def Tryz.S13(a1p:OA)(a1l a1c:Nat)(b2p:OA)(b2l b2c:Nat)(H:Heap)(R:Kv):Prop:=
 br (((a1l:Int):Int) != (b2l:Int))
 (R (.bool false) H)
 (∀X3:Kl,(∀(i4:Int) H5,(br (decide (i4<(a1l:Int))) (∃a6,a1p=some a6∧0≤i4∧i4<(a1l:Int)∧ ∃v7,cell H5 (.add a6 (toNat i4*1))=some (.int .i64 v7)∧ ∃a8,b2p=some a8∧0≤i4∧i4<(b2l:Int)∧ ∃v9,cell H5 (.add a8 (toNat i4*1))=some (.int .i64 v9)∧br (v7 != v9) (R (.bool false) H5) (X3 [.int .i64 (wrap .i64 (i4+1))] H5)) (R (.bool true) H5))→X3 [.int .i64 i4] H5)→X3 [.int .i64 0] H)
def Tryz.p13:Plan:=(tl (tg (two (tl (one (loop [(14,3)] [1,12,13] (tl (two (tl leaf) (two (one (tl g0)) leaf)))))) (tl leaf))))
theorem Tryz.s13{a1p:OA}{a1l a1c:Nat}{b2p:OA}{b2l b2c:Nat}{H R}(h:Tryz.S13 a1p a1l a1c b2p b2l b2c H R):Tryz.C 13 #[.slice a1p a1l a1c,.slice b2p b2l b2c] H R:=vcs Tryz.tab_ok Tryz.mixed Tryz.func13 Tryz.cal13 Tryz.p13 h (by kernel_rfl)
def Tryz.S14(x1 y2 w3 h4:Int)(H:Heap)(R:Kv):Prop:=
 ∀J5:Kl,(∀H6,((16:Int)≠0∧(16:Int)≠0∧(16:Int)≠0∧(16:Int)≠0∧R (.int .i64 (wrap .i64 ((wrap .i64 ((wrap .i64 ((wrap .i64 (Int.tdiv (wrap .i64 ((wrap .i64 (x1+w3))-1)) 16))-(wrap .i64 (Int.tdiv x1 16))))+1))*(wrap .i64 ((wrap .i64 ((wrap .i64 (Int.tdiv (wrap .i64 ((wrap .i64 (y2+h4))-1)) 16))-(wrap .i64 (Int.tdiv y2 16))))+1))))) H6)→J5 [] H6)→
 br (decide (w3<1)) (R (.int .i64 0) H) (br (decide (h4<1)) (R (.int .i64 0) H) (J5 [] H))
def Tryz.p14:Plan:=(tl (two (join [] [0,1,2,3] g0) (tl leaf)))
theorem Tryz.s14{x1 y2 w3 h4:Int}{H R}(h:Tryz.S14 x1 y2 w3 h4 H R):Tryz.C 14 #[.int .i64 x1,.int .i64 y2,.int .i64 w3,.int .i64 h4] H R:=vcs Tryz.tab_ok Tryz.mixed Tryz.func14 Tryz.cal14 Tryz.p14 h (by kernel_rfl)
def Tryz.S15(l1:OA)(d2:AV)(H:Heap)(R:Kv):Prop:=
 alc H (.cells d2 26) fun b3 H4=> ∃v5,v5.size=4∧rowIn H4 ⟨b3,0,none⟩ v5∧Tryz.C 25 #[.agg v5] H4 fun r6 H7=> ∃r8,r6= .agg r8∧alc H7 (.map #[] 0) fun b9 H10=> ∃a11,l1=some a11∧r8.size=4∧stAt H10 (.add a11 0) r8.toList fun H12=> ∃a13,l1=some a13∧stAt H12 (.add a13 4) [.map (some b9)] fun H14=>R (.tuple #[]) H14
def Tryz.p15:Plan:=(tl leaf)
theorem Tryz.s15{l1:OA}{d2:AV}{H R}(h:Tryz.S15 l1 d2 H R):Tryz.C 15 #[.pointer l1,.agg d2] H R:=vcs Tryz.tab_ok Tryz.mixed Tryz.func15 Tryz.cal15 Tryz.p15 h (by kernel_rfl)
def Tryz.S16(d1 e2:AV)(H:Heap)(R:Kv):Prop:=
 alc H (.cells d1 32) fun b3 H4=>alc H4 (.cells e2 61) fun b5 H6=>alc H6 (.cells #[.int .i64 0,.int .i64 0,.int .i64 0,.slice none 0 0] 32) fun b7 H8=> ∃Ki9,cell H8 (.add ⟨b5,0,none⟩ 0)=some (.int .i64 Ki9)∧br (Ki9==1)
 (∃v10,v10.size=4∧rowIn H8 ⟨b3,0,none⟩ v10∧ ∃v11,v11.size=19∧rowIn H8 ⟨b5,0,none⟩ v11∧Tryz.C 26 #[.agg v10,.agg v11] H8 fun r12 H13=> ∃r14 r15,r12= .tuple #[.agg r14,.int .i64 r15]∧r14.size=4∧stAt H13 ⟨b7,0,none⟩ r14.toList fun H16=> ∃re17,re17.size=4∧rowIn H16 ⟨b7,0,none⟩ re17∧R (.tuple #[.agg re17,.int .i64 r15]) H16)
 (br (Ki9==2) (∃v18,v18.size=4∧rowIn H8 ⟨b3,0,none⟩ v18∧ ∃ID19,cell H8 (.add ⟨b5,0,none⟩ 1)=some (.int .i64 ID19)∧Tryz.C 27 #[.agg v18,.int .i64 ID19] H8 fun r20 H21=> ∃r22,r20= .int .i64 r22∧br (decide (r22<0)) (∃v23,v23.size=4∧rowIn H21 ⟨b3,0,none⟩ v23∧v23.size=4∧stAt H21 ⟨b7,0,none⟩ v23.toList fun H24=> ∃re25,re25.size=4∧rowIn H24 ⟨b7,0,none⟩ re25∧R (.tuple #[.agg re25,.int .i64 40]) H24) (∃v26,v26.size=4∧rowIn H21 ⟨b3,0,none⟩ v26∧ ∃ID27,cell H21 (.add ⟨b5,0,none⟩ 1)=some (.int .i64 ID27)∧Tryz.C 28 #[.agg v26,.int .i64 ID27] H21 fun r28 H29=> ∃r30p r30l r30c r31p r31l r31c,r28= .tuple #[.slice r30p r30l r30c,.slice r31p r31l r31c]∧stAt H29 (.add ⟨b3,0,none⟩ 3) [.slice r30p r30l r30c] fun H32=> ∃v33,v33.size=4∧rowIn H32 ⟨b3,0,none⟩ v33∧v33.size=4∧stAt H32 ⟨b7,0,none⟩ v33.toList fun H34=> ∃re35,re35.size=4∧rowIn H34 ⟨b7,0,none⟩ re35∧R (.tuple #[.agg re35,.int .i64 0]) H34)) (br (Ki9==3) (∃v36,v36.size=4∧rowIn H8 ⟨b3,0,none⟩ v36∧ ∃v37,v37.size=19∧rowIn H8 ⟨b5,0,none⟩ v37∧Tryz.C 29 #[.agg v36,.agg v37] H8 fun r38 H39=> ∃r40 r41,r38= .tuple #[.agg r40,.int .i64 r41]∧r40.size=4∧stAt H39 ⟨b7,0,none⟩ r40.toList fun H42=> ∃re43,re43.size=4∧rowIn H42 ⟨b7,0,none⟩ re43∧R (.tuple #[.agg re43,.int .i64 r41]) H42) (∀J44:Kl,(∀H45,(∃v46,v46.size=4∧rowIn H45 ⟨b3,0,none⟩ v46∧ ∃ID47,cell H45 (.add ⟨b5,0,none⟩ 1)=some (.int .i64 ID47)∧Tryz.C 27 #[.agg v46,.int .i64 ID47] H45 fun r48 H49=> ∃i50,r48= .int .i64 i50∧br (decide (i50<0)) (∃v51,v51.size=4∧rowIn H49 ⟨b3,0,none⟩ v51∧v51.size=4∧stAt H49 ⟨b7,0,none⟩ v51.toList fun H52=> ∃re53,re53.size=4∧rowIn H52 ⟨b7,0,none⟩ re53∧R (.tuple #[.agg re53,.int .i64 40]) H52) (∀J54:Kl,(∀(l55:Addr) (f56:Int) H57,(br (f56 != 0) (∃v58,v58.size=4∧rowIn H57 ⟨b3,0,none⟩ v58∧v58.size=4∧stAt H57 ⟨b7,0,none⟩ v58.toList fun H59=> ∃re60,re60.size=4∧rowIn H59 ⟨b7,0,none⟩ re60∧R (.tuple #[.agg re60,.int .i64 f56]) H59) (alc H57 (.cells #[] 82) fun b61 H62=> ∃L63p L63l L63c,cell H62 (.add ⟨b3,0,none⟩ 3)=some (.slice L63p L63l L63c)∧appQ 19 200 #[.int .i64 0,.int .i64 0,.int .i64 0,.bool false,.int .i64 0,.int .i64 0,.int .i64 0,.int .i64 0,.slice none 0 0,.slice none 0 0,.int .i64 0,.int .i64 0,.int .i64 0,.int .i64 0,.int .i64 0,.int .i64 0,.bool false,.int .i64 0,.slice none 0 0] H62 (some ⟨b61,0,none⟩) 0 0 L63p L63l 82 fun ap64p ap64l ap64c H65=>stAt H65 (.add ⟨b3,0,none⟩ 3) [.slice ap64p ap64l ap64c] fun H66=> ∃L67p L67l L67c,cell H66 (.add ⟨b3,0,none⟩ 3)=some (.slice L67p L67l L67c)∧ ∃v68,v68.size=19∧rowIn H66 l55 v68∧ ∃a69,L67p=some a69∧0≤i50∧i50<(L67l:Int)∧v68.size=19∧stAt H66 (.add a69 (toNat i50*19)) v68.toList fun H70=> ∃v71,v71.size=4∧rowIn H70 ⟨b3,0,none⟩ v71∧v71.size=4∧stAt H70 ⟨b7,0,none⟩ v71.toList fun H72=> ∃re73,re73.size=4∧rowIn H72 ⟨b7,0,none⟩ re73∧R (.tuple #[.agg re73,.int .i64 0]) H72))→J54 [.pointer (some l55),.int .i64 f56] H57)→ ∃v74,v74.size=4∧rowIn H49 ⟨b3,0,none⟩ v74∧ ∃L75p L75l L75c,cell H49 (.add ⟨b3,0,none⟩ 3)=some (.slice L75p L75l L75c)∧ ∃a76,L75p=some a76∧0≤i50∧i50<(L75l:Int)∧ ∃v77,v77.size=19∧rowIn H49 (.add a76 (toNat i50*19)) v77∧ ∃v78,v78.size=19∧rowIn H49 ⟨b5,0,none⟩ v78∧(Tryz.C 30 #[.agg v74,.agg v77,.agg v78] H49 fun r79 H80=> ∃r81 r82,r79= .tuple #[.agg r81,.int .i64 r82]∧alc H80 (.cells #[.int .i64 0,.int .i64 0,.int .i64 0,.bool false,.int .i64 0,.int .i64 0,.int .i64 0,.int .i64 0,.slice none 0 0,.slice none 0 0,.int .i64 0,.int .i64 0,.int .i64 0,.int .i64 0,.int .i64 0,.int .i64 0,.bool false,.int .i64 0,.slice none 0 0] 82) fun b83 H84=>r81.size=19∧stAt H84 ⟨b83,0,none⟩ r81.toList fun H85=>J54 [.pointer (some ⟨b83,0,none⟩),.int .i64 r82] H85)∧(alc H49 (.cells #[.int .i64 0,.int .i64 0,.int .i64 0,.bool false,.int .i64 0,.int .i64 0,.int .i64 0,.int .i64 0,.slice none 0 0,.slice none 0 0,.int .i64 0,.int .i64 0,.int .i64 0,.int .i64 0,.int .i64 0,.int .i64 0,.bool false,.int .i64 0,.slice none 0 0] 82) fun b86 H87=>(Ext H49 H87∨(∃v93,v93.size=19∧rowIn H87 ⟨b5,0,none⟩ v93∧Value.agg v93= .agg v78)∧(∃v94,v94.size=19∧rowIn H87 (.add a76 (toNat i50*19)) v94∧Value.agg v94= .agg v77)∧(∃L95p L95l L95c,cell H87 (.add ⟨b3,0,none⟩ 3)=some (.slice L95p L95l L95c)∧Value.slice L95p L95l L95c= .slice L75p L75l L75c)∧(∃v96,v96.size=4∧rowIn H87 ⟨b3,0,none⟩ v96∧Value.agg v96= .agg v74))∧Tryz.C 30 #[.agg v74,.agg v77,.agg v78] H87 fun r88 H89=> ∃r90 r91,r88= .tuple #[.agg r90,.int .i64 r91]∧r90.size=19∧stAt H89 ⟨b86,0,none⟩ r90.toList fun H92=>J54 [.pointer (some ⟨b86,0,none⟩),.int .i64 r91] H92)))→J44 [] H45)→ ∃Ki97,cell H8 (.add ⟨b5,0,none⟩ 0)=some (.int .i64 Ki97)∧br (decide (Ki97<4)) (∃v98,v98.size=4∧rowIn H8 ⟨b3,0,none⟩ v98∧v98.size=4∧stAt H8 ⟨b7,0,none⟩ v98.toList fun H99=> ∃re100,re100.size=4∧rowIn H99 ⟨b7,0,none⟩ re100∧R (.tuple #[.agg re100,.int .i64 41]) H99) (∃Ki101,cell H8 (.add ⟨b5,0,none⟩ 0)=some (.int .i64 Ki101)∧br (decide (Ki101>9)) (∃v102,v102.size=4∧rowIn H8 ⟨b3,0,none⟩ v102∧v102.size=4∧stAt H8 ⟨b7,0,none⟩ v102.toList fun H103=> ∃re104,re104.size=4∧rowIn H103 ⟨b7,0,none⟩ re104∧R (.tuple #[.agg re104,.int .i64 41]) H103) (J44 [] H8)))))
def Tryz.p16:Plan:=(tl (two (tl (one (tl (two (tl leaf) (tl (two (tg (tl (tl (tl leaf)))) g0)))))) (two (join [] [2,3,4] g0) (tl (tg (two (join [(9,999999),(10,3)] [2,4,8] leaf) (tg (tl (tl (tl leaf))))))))))
theorem Tryz.s16{d1 e2:AV}{H R}(h:Tryz.S16 d1 e2 H R):Tryz.C 16 #[.agg d1,.agg e2] H R:=vcs Tryz.tab_ok Tryz.mixed Tryz.func16 Tryz.cal16 Tryz.p16 h (by kernel_rfl)
end Go.Proofs
namespace Go.Proofs
open Go.Sh Go.Sh.Plan
open Go.IntKind (wrap)
open Int (toNat)
def Tryz.S17(e1:AV)(H:Heap)(R:Kv):Prop:=
 alc H (.cells e1 44) fun b2 H3=>alc H3 (.cells #[.int .i64 0,.int .i64 0,.int .i64 0,.int .i64 0,.int .i64 0,.int .i64 0,.int .i64 0,.int .i64 0,.int .i64 0,.int .i64 0,.slice none 0 0,.slice none 0 0,.int .i64 0,.int .i64 0,.int .i64 0,.int .i64 0,.int .i64 0,.int .i64 0,.slice none 0 0] 61) fun b4 H5=> ∃Ki6,cell H5 (.add ⟨b2,0,none⟩ 0)=some (.int .i64 Ki6)∧ ∃ID7,cell H5 (.add ⟨b2,0,none⟩ 1)=some (.int .i64 ID7)∧ ∃To8,cell H5 (.add ⟨b2,0,none⟩ 2)=some (.int .i64 To8)∧ ∃At9,cell H5 (.add ⟨b2,0,none⟩ 3)=some (.int .i64 At9)∧ ∃N10,cell H5 (.add ⟨b2,0,none⟩ 4)=some (.int .i64 N10)∧ ∃M11,cell H5 (.add ⟨b2,0,none⟩ 5)=some (.int .i64 M11)∧ ∃X12,cell H5 (.add ⟨b2,0,none⟩ 6)=some (.int .i64 X12)∧ ∃Y13,cell H5 (.add ⟨b2,0,none⟩ 7)=some (.int .i64 Y13)∧ ∃W14,cell H5 (.add ⟨b2,0,none⟩ 8)=some (.int .i64 W14)∧ ∃H15,cell H5 (.add ⟨b2,0,none⟩ 9)=some (.int .i64 H15)∧ ∃P16p P16l P16c,cell H5 (.add ⟨b2,0,none⟩ 10)=some (.slice P16p P16l P16c)∧ ∃Ma17,Ma17.size=6∧rowIn H5 (.add ⟨b2,0,none⟩ 12) Ma17∧ ∃Pa18p Pa18l Pa18c,cell H5 (.add ⟨b2,0,none⟩ 18)=some (.slice Pa18p Pa18l Pa18c)∧Ma17.size=6∧12+6≤19∧alc H5 (.cells #[.int .i64 0,.int .i64 0,.int .i64 0,.int .i64 0,.int .i64 0,.int .i64 0,.int .i64 0,.int .i64 0,.int .i64 0,.int .i64 0,.slice none 0 0,.slice none 0 0,.int .i64 0,.int .i64 0,.int .i64 0,.int .i64 0,.int .i64 0,.int .i64 0,.slice none 0 0] 61) fun b19 H20=>(List.toArray (List.set (setL [.int .i64 Ki6,.int .i64 ID7,.int .i64 To8,.int .i64 At9,.int .i64 N10,.int .i64 M11,.int .i64 X12,.int .i64 Y13,.int .i64 W14,.int .i64 H15,.slice P16p P16l P16c,.slice none 0 0,.int .i64 0,.int .i64 0,.int .i64 0,.int .i64 0,.int .i64 0,.int .i64 0,.slice none 0 0] 12 Ma17.toList) 18 (.slice Pa18p Pa18l Pa18c))).size=19∧stAt H20 ⟨b19,0,none⟩ (Array.toList (List.toArray (List.set (setL [.int .i64 Ki6,.int .i64 ID7,.int .i64 To8,.int .i64 At9,.int .i64 N10,.int .i64 M11,.int .i64 X12,.int .i64 Y13,.int .i64 W14,.int .i64 H15,.slice P16p P16l P16c,.slice none 0 0,.int .i64 0,.int .i64 0,.int .i64 0,.int .i64 0,.int .i64 0,.int .i64 0,.slice none 0 0] 12 Ma17.toList) 18 (.slice Pa18p Pa18l Pa18c)))) fun H21=> ∃Sh22p Sh22l Sh22c,cell H21 (.add ⟨b2,0,none⟩ 11)=some (.slice Sh22p Sh22l Sh22c)∧ ∀X23:Kl,(∀(t24:Int) H25,(br (decide (t24<(Sh22l:Int))) (∃a26,Sh22p=some a26∧0≤t24∧t24<(Sh22l:Int)∧ ∃v27,v27.size=2∧rowIn H25 (.add a26 (toNat t24*2)) v27∧alc H25 (.cells #[.int .i64 0,.int .i64 0] 86) fun b28 H29=>v27.size=2∧stAt H29 ⟨b28,0,none⟩ v27.toList fun H30=> ∃Sh31p Sh31l Sh31c,cell H30 (.add ⟨b19,0,none⟩ 11)=some (.slice Sh31p Sh31l Sh31c)∧ ∃X32,cell H30 (.add ⟨b28,0,none⟩ 0)=some (.int .i64 X32)∧ ∃Y33,cell H30 (.add ⟨b28,0,none⟩ 1)=some (.int .i64 Y33)∧#[Value.int .i64 X32,Value.int .i64 Y33].size=2∧0+2≤2∧alc H30 (.cells (List.toArray (setL [.int .i64 0,.int .i64 0] 0 (Array.toList #[.int .i64 X32,.int .i64 Y33]))) 87) fun b34 H35=>appQ 2 16 #[.int .i64 0,.int .i64 0] H35 Sh31p Sh31l Sh31c (some ⟨b34,0,none⟩) 1 87 fun ap36p ap36l ap36c H37=>stAt H37 (.add ⟨b19,0,none⟩ 11) [.slice ap36p ap36l ap36c] fun H38=>X23 [.int .i64 (wrap .i64 (t24+1))] H38) (∃v39,v39.size=19∧rowIn H25 ⟨b19,0,none⟩ v39∧v39.size=19∧stAt H25 ⟨b4,0,none⟩ v39.toList fun H40=> ∃re41,re41.size=19∧rowIn H40 ⟨b4,0,none⟩ re41∧R (.agg re41) H40))→X23 [.int .i64 t24] H25)→X23 [.int .i64 0] H21
def Tryz.p17:Plan:=(tl (tl (two (tl (one (loop [(36,3)] [2,3,34,35] (tl (two (tl leaf) (two (one (tl leaf)) leaf)))))) (tl leaf))))
theorem Tryz.s17{e1:AV}{H R}(h:Tryz.S17 e1 H R):Tryz.C 17 #[.agg e1] H R:=vcs Tryz.tab_ok Tryz.mixed Tryz.func17 Tryz.cal17 Tryz.p17 h (by kernel_rfl)
def Tryz.S18(l1:OA)(e2:AV)(H:Heap)(R:Kv):Prop:=
 alc H (.cells e2 44) fun b3 H4=> ∀J5:Kl,(∀(d6:Addr) (er7:Int) H8,(br (er7 != 0) (R (.int .i64 er7) H8) (∃a9,l1=some a9∧ ∃d10,d10.size=4∧rowIn H8 (.add a9 0) d10∧alc H8 (.cells #[.int .i64 0,.int .i64 0,.int .i64 0,.slice none 0 0] 26) fun b11 H12=>d10.size=4∧stAt H12 ⟨b11,0,none⟩ d10.toList fun H13=> ∃v14,v14.size=4∧rowIn H13 d6 v14∧ ∃a15,l1=some a15∧v14.size=4∧stAt H13 (.add a15 0) v14.toList fun H16=> ∃v17,v17.size=19∧rowIn H16 ⟨b3,0,none⟩ v17∧ ∃v18,v18.size=4∧rowIn H16 d6 v18∧Tryz.C 31 #[.agg v17,.agg v18] H16 fun r19 H20=> ∃id21,r19= .int .i64 id21∧ ∃v22,v22.size=4∧rowIn H20 ⟨b11,0,none⟩ v22∧Tryz.C 32 #[.agg v22,.int .i64 id21] H20 fun r23 H24=> ∃r25 r26,r23= .tuple #[.agg r25,.bool r26]∧alc H24 (.cells #[.int .i64 0,.int .i64 0,.bool false,.int .i64 0,.int .i64 0,.int .i64 0,.int .i64 0,.slice none 0 0,.slice none 0 0,.int .i64 0,.int .i64 0,.int .i64 0,.int .i64 0,.int .i64 0,.int .i64 0,.bool false,.int .i64 0,.slice none 0 0,.slice none 0 0] 70) fun b27 H28=>r25.size=19∧stAt H28 ⟨b27,0,none⟩ r25.toList fun H29=> ∃v30,v30.size=4∧rowIn H29 d6 v30∧Tryz.C 32 #[.agg v30,.int .i64 id21] H29 fun r31 H32=> ∃r33 r34,r31= .tuple #[.agg r33,.bool r34]∧alc H32 (.cells #[.int .i64 0,.int .i64 0,.bool false,.int .i64 0,.int .i64 0,.int .i64 0,.int .i64 0,.slice none 0 0,.slice none 0 0,.int .i64 0,.int .i64 0,.int .i64 0,.int .i64 0,.int .i64 0,.int .i64 0,.bool false,.int .i64 0,.slice none 0 0,.slice none 0 0] 70) fun b35 H36=>r33.size=19∧stAt H36 ⟨b35,0,none⟩ r33.toList fun H37=> ∀J38:Kl,(∀H39,(∃v40,v40.size=4∧rowIn H39 d6 v40∧Tryz.C 32 #[.agg v40,.int .i64 id21] H39 fun r41 H42=> ∃r43 r44,r41= .tuple #[.agg r43,.bool r44]∧alc H42 (.cells #[.int .i64 0,.int .i64 0,.bool false,.int .i64 0,.int .i64 0,.int .i64 0,.int .i64 0,.slice none 0 0,.slice none 0 0,.int .i64 0,.int .i64 0,.int .i64 0,.int .i64 0,.int .i64 0,.int .i64 0,.bool false,.int .i64 0,.slice none 0 0,.slice none 0 0] 70) fun b45 H46=>r43.size=19∧stAt H46 ⟨b45,0,none⟩ r43.toList fun H47=> ∀J48:Kl,(∀H49,(∃X50,cell H49 (.add ⟨b3,0,none⟩ 6)=some (.int .i64 X50)∧ ∃Y51,cell H49 (.add ⟨b3,0,none⟩ 7)=some (.int .i64 Y51)∧ ∃X52,cell H49 (.add ⟨b3,0,none⟩ 6)=some (.int .i64 X52)∧ ∃W53,cell H49 (.add ⟨b3,0,none⟩ 8)=some (.int .i64 W53)∧ ∃W54,cell H49 (.add ⟨b45,0,none⟩ 5)=some (.int .i64 W54)∧ ∃W55,cell H49 (.add d6 0)=some (.int .i64 W55)∧ ∃Y56,cell H49 (.add ⟨b3,0,none⟩ 7)=some (.int .i64 Y56)∧ ∃H57,cell H49 (.add ⟨b3,0,none⟩ 9)=some (.int .i64 H57)∧ ∃H58,cell H49 (.add ⟨b45,0,none⟩ 6)=some (.int .i64 H58)∧ ∃H59,cell H49 (.add d6 1)=some (.int .i64 H59)∧br (decide (((max 0 X50):Int)≥(min (min (wrap .i64 (X52+W53)) W54) W55))) (R (.int .i64 0) H49) ((16:Int)≠0∧ ∀X60:Kl,(∀(y61:Int) H62,(∀J63:Kl,(∀H64,((16:Int)≠0∧ ∀X65:Kl,(∀(x66:Int) H67,(br (decide (((wrap .i64 (x66*16)):Int)<(min (min (wrap .i64 (X52+W53)) W54) W55))) (∃a68,l1=some a68∧ ∃ti69,cell H67 (.add a68 4)=some (.map ti69)∧delQ (.arr 2 3) (.int .i64) (.map ti69) (.agg #[.int .i64 x66,.int .i64 y61]) H67 fun H70=>X65 [.int .i64 (wrap .i64 (x66+1))] H70) (X60 [.int .i64 (wrap .i64 (y61+1))] H67))→X65 [.int .i64 x66] H67)→X65 [.int .i64 (wrap .i64 (Int.tdiv (max 0 X50) 16))] H64)→J63 [] H64)→br (decide (((max 0 Y51):Int)<(min (min (wrap .i64 (Y56+H57)) H58) H59))) (br (decide (((wrap .i64 (y61*16)):Int)<(min (min (wrap .i64 (Y56+H57)) H58) H59))) (J63 [] H62) (R (.int .i64 0) H62)) (R (.int .i64 0) H62))→X60 [.int .i64 y61] H62)→X60 [.int .i64 (wrap .i64 (Int.tdiv (max 0 Y51) 16))] H49))→J48 [] H49)→ ∃Ki71,cell H47 (.add ⟨b3,0,none⟩ 0)=some (.int .i64 Ki71)∧br (Ki71 != 4) (∃a72,l1=some a72∧ ∃ti73,cell H47 (.add a72 4)=some (.map ti73)∧ ∃r74,ti73=some r74∧ ∃(es75:Array MapEntry) (c76:Nat),H47[r74]?=some (.map es75 c76)∧sto H47 r74 (.map #[] c76) fun H77=>R (.int .i64 0) H77) (∃Ma78,Ma78.size=6∧rowIn H47 (.add ⟨b45,0,none⟩ 9) Ma78∧Tryz.C 34 #[] H47 fun r79 H80=> ∃r81,r79= .agg r81∧(Ext H47 H80∨(∃Ma90,Ma90.size=6∧rowIn H80 (.add ⟨b45,0,none⟩ 9) Ma90∧Value.agg Ma90= .agg Ma78))∧(1=1∧ ∃as_82 bs83:List Int,as_82.length=6∧bs83.length=6∧Ma78=(as_82.map (Value.int .i64)).toArray∧r81=(bs83.map (Value.int .i64)).toArray∧br (!(decide (as_82=bs83))) (∃a84,l1=some a84∧ ∃ti85,cell H80 (.add a84 4)=some (.map ti85)∧ ∃r86,ti85=some r86∧ ∃(es87:Array MapEntry) (c88:Nat),H80[r86]?=some (.map es87 c88)∧sto H80 r86 (.map #[] c88) fun H89=>R (.int .i64 0) H89) (J48 [] H80))))→J38 [] H39)→br (!r26) (br (!r34) (R (.int .i64 0) H37) (∃v91,v91.size=4∧rowIn H37 d6 v91∧Tryz.C 33 #[.agg v91,.int .i64 id21] H37 fun r92 H93=> ∃r94,r92= .bool r94∧br r94 (R (.int .i64 0) H93) (J38 [] H93))) (∃v95,v95.size=4∧rowIn H37 ⟨b11,0,none⟩ v95∧Tryz.C 33 #[.agg v95,.int .i64 id21] H37 fun r96 H97=> ∃r98,r96= .bool r98∧br r98 (br (!r34) (R (.int .i64 0) H97) (∃v99,v99.size=4∧rowIn H97 d6 v99∧Tryz.C 33 #[.agg v99,.int .i64 id21] H97 fun r100 H101=> ∃r102,r100= .bool r102∧br r102 (R (.int .i64 0) H101) (J38 [] H101))) (J38 [] H97))))→J5 [.pointer (some d6),.int .i64 er7] H8)→
 ∃a103,l1=some a103∧ ∃d104,d104.size=4∧rowIn H4 (.add a103 0) d104∧ ∃v105,v105.size=19∧rowIn H4 ⟨b3,0,none⟩ v105∧(Tryz.C 21 #[.agg d104,.agg v105] H4 fun r106 H107=> ∃r108 r109,r106= .tuple #[.agg r108,.int .i64 r109]∧alc H107 (.cells #[.int .i64 0,.int .i64 0,.int .i64 0,.slice none 0 0] 26) fun b110 H111=>r108.size=4∧stAt H111 ⟨b110,0,none⟩ r108.toList fun H112=>J5 [.pointer (some ⟨b110,0,none⟩),.int .i64 r109] H112)∧(alc H4 (.cells #[.int .i64 0,.int .i64 0,.int .i64 0,.slice none 0 0] 26) fun b113 H114=>(Ext H4 H114∨(∃v120,v120.size=19∧rowIn H114 ⟨b3,0,none⟩ v120∧Value.agg v120= .agg v105)∧(∃d121,d121.size=4∧rowIn H114 (.add a103 0) d121∧Value.agg d121= .agg d104))∧Tryz.C 21 #[.agg d104,.agg v105] H114 fun r115 H116=> ∃r117 r118,r115= .tuple #[.agg r117,.int .i64 r118]∧r117.size=4∧stAt H116 ⟨b113,0,none⟩ r117.toList fun H119=>J5 [.pointer (some ⟨b113,0,none⟩),.int .i64 r118] H119)
def Tryz.p18:Plan:=(tl (two (join [(5,999999),(6,27)] [0,3] leaf) (tg (tl (tl (tl (tl (tl (two (join [] [0,3,5,8] g0) (tl (two (join [] [0,3,5,13] (tl (two (tl (tl leaf)) leaf))) (tl (tl (tg (two (tl (one (loop [(19,3)] [0,15,16,17,18] (two (join [] [0,15,16,17,18,19] (tl (tl leaf))) (two (one (tl (one (loop [(20,3)] [0,15,16,17,18,19] (two (tl (tl leaf)) (two (one leaf) leaf)))))) leaf))))) (tl leaf))))))))))))))))
theorem Tryz.s18{l1:OA}{e2:AV}{H R}(h:Tryz.S18 l1 e2 H R):Tryz.C 18 #[.pointer l1,.agg e2] H R:=vcs Tryz.tab_ok Tryz.mixed Tryz.func18 Tryz.cal18 Tryz.p18 h (by kernel_rfl)
def Tryz.S19(a1 b2:AV)(H:Heap)(R:Kv):Prop:=
 alc H (.cells a1 26) fun b3 H4=>alc H4 (.cells b2 32) fun b5 H6=> ∃W7,cell H6 (.add ⟨b3,0,none⟩ 0)=some (.int .i64 W7)∧ ∃W8,cell H6 (.add ⟨b5,0,none⟩ 0)=some (.int .i64 W8)∧br (W7==W8) (∃H9,cell H6 (.add ⟨b3,0,none⟩ 1)=some (.int .i64 H9)∧ ∃H10,cell H6 (.add ⟨b5,0,none⟩ 1)=some (.int .i64 H10)∧br (H9==H10) (∃Ne11,cell H6 (.add ⟨b3,0,none⟩ 2)=some (.int .i64 Ne11)∧ ∃Ne12,cell H6 (.add ⟨b5,0,none⟩ 2)=some (.int .i64 Ne12)∧br (Ne11==Ne12) (∃Ki13p Ki13l Ki13c,cell H6 (.add ⟨b3,0,none⟩ 3)=some (.slice Ki13p Ki13l Ki13c)∧ ∃v14,v14.size=4∧rowIn H6 ⟨b5,0,none⟩ v14∧Tryz.C 35 #[.slice Ki13p Ki13l Ki13c,.agg v14,.int .i64 0] H6 fun r15 H16=> ∃r17,r15= .bool r17∧R (.bool r17) H16) (R (.bool false) H6)) (R (.bool false) H6)) (R (.bool false) H6)
def Tryz.p19:Plan:=(tl (tl leaf))
theorem Tryz.s19{a1 b2:AV}{H R}(h:Tryz.S19 a1 b2 H R):Tryz.C 19 #[.agg a1,.agg b2] H R:=vcs Tryz.tab_ok Tryz.mixed Tryz.func19 Tryz.cal19 Tryz.p19 h (by kernel_rfl)
def Tryz.S20(l1:OA)(H:Heap)(R:Kv):Prop:=
 alc H (.cells #[.int .i64 0,.int .i64 0,.int .i64 0,.slice none 0 0] 26) fun b2 H3=> ∃a4,l1=some a4∧ ∃d5,d5.size=4∧rowIn H3 (.add a4 0) d5∧Tryz.C 25 #[.agg d5] H3 fun r6 H7=> ∃r8,r6= .agg r8∧r8.size=4∧stAt H7 ⟨b2,0,none⟩ r8.toList fun H9=> ∃re10,re10.size=4∧rowIn H9 ⟨b2,0,none⟩ re10∧R (.agg re10) H9
def Tryz.p20:Plan:=(tl (tl leaf))
theorem Tryz.s20{l1:OA}{H R}(h:Tryz.S20 l1 H R):Tryz.C 20 #[.pointer l1] H R:=vcs Tryz.tab_ok Tryz.mixed Tryz.func20 Tryz.cal20 Tryz.p20 h (by kernel_rfl)
def Tryz.S21(d1 e2:AV)(H:Heap)(R:Kv):Prop:=
 alc H (.cells d1 26) fun b3 H4=>alc H4 (.cells e2 44) fun b5 H6=>alc H6 (.cells #[.int .i64 0,.int .i64 0,.int .i64 0,.slice none 0 0] 26) fun b7 H8=> ∀J9:Kl,(∀(ou10:Addr) H11,(∀J12:Kl,(∀(w13:Addr) H14,(alc H14 (.cells #[.func (.func 38) #[] #[],.func (.func 39) #[] #[],.func (.func 40) #[] #[],.func (.func 41) #[] #[],.func (.func 42) #[] #[],.func (.func 43) #[] #[],.func (.func 44) #[] #[],.func (.func 45) #[] #[],.func (.func 46) #[] #[]] 101) fun b15 H16=> ∀J17:Kl,(∀H18,(∃Ki19,cell H18 (.add ⟨b5,0,none⟩ 0)=some (.int .i64 Ki19)∧ ∃a20,(some ⟨b15,0,none⟩)=some a20∧0≤(wrap .i64 (Ki19-1))∧(wrap .i64 (Ki19-1))<((9:Nat):Int)∧ ∃v21g v21x v21y,cell H18 (.add a20 (toNat (wrap .i64 (Ki19-1))*1))=some (.func (.func v21g) v21x v21y)∧ ∃v22,v22.size=21∧rowIn H18 w13 v22∧Tryz.C v21g (List.toArray (Array.toList v21x++[Value.agg v22]++Array.toList v21y)) H18 fun r23 H24=> ∃e25,r23= .int .i64 e25∧br (e25 != 0) (#[Value.int .i64 0,Value.int .i64 0,Value.int .i64 0,Value.slice none 0 0].size=4∧stAt H24 ⟨b7,0,none⟩ (Array.toList #[.int .i64 0,.int .i64 0,.int .i64 0,.slice none 0 0]) fun H26=> ∃re27,re27.size=4∧rowIn H26 ⟨b7,0,none⟩ re27∧R (.tuple #[.agg re27,.int .i64 e25]) H26) (∃ro28,cell H24 (.add w13 0)=some (.pointer ro28)∧ ∃a29,ro28=some a29∧ ∃Ki30p Ki30l Ki30c,cell H24 (.add a29 18)=some (.slice Ki30p Ki30l Ki30c)∧stAt H24 (.add ou10 3) [.slice Ki30p Ki30l Ki30c] fun H31=> ∃v32,v32.size=4∧rowIn H31 ou10 v32∧v32.size=4∧stAt H31 ⟨b7,0,none⟩ v32.toList fun H33=> ∃re34,re34.size=4∧rowIn H33 ⟨b7,0,none⟩ re34∧R (.tuple #[.agg re34,.int .i64 0]) H33))→J17 [] H18)→ ∃Ki35,cell H16 (.add ⟨b5,0,none⟩ 0)=some (.int .i64 Ki35)∧br (decide (Ki35<1)) (#[Value.int .i64 0,Value.int .i64 0,Value.int .i64 0,Value.slice none 0 0].size=4∧stAt H16 ⟨b7,0,none⟩ (Array.toList #[.int .i64 0,.int .i64 0,.int .i64 0,.slice none 0 0]) fun H36=> ∃re37,re37.size=4∧rowIn H36 ⟨b7,0,none⟩ re37∧R (.tuple #[.agg re37,.int .i64 41]) H36) (∃Ki38,cell H16 (.add ⟨b5,0,none⟩ 0)=some (.int .i64 Ki38)∧br (decide (Ki38>((9:Nat):Int))) (#[Value.int .i64 0,Value.int .i64 0,Value.int .i64 0,Value.slice none 0 0].size=4∧stAt H16 ⟨b7,0,none⟩ (Array.toList #[.int .i64 0,.int .i64 0,.int .i64 0,.slice none 0 0]) fun H39=> ∃re40,re40.size=4∧rowIn H39 ⟨b7,0,none⟩ re40∧R (.tuple #[.agg re40,.int .i64 41]) H39) (J17 [] H16)))→J12 [.pointer (some w13)] H14)→ ∃v41,v41.size=19∧rowIn H11 ⟨b5,0,none⟩ v41∧(Tryz.C 37 #[.pointer (some ou10)] H11 fun r42 H43=> ∃r44,r42= .pointer r44∧(Ext H11 H43∨(∃v49,v49.size=19∧rowIn H43 ⟨b5,0,none⟩ v49∧Value.agg v49= .agg v41))∧v41.size=19∧2+19≤21∧alc H43 (.cells #[.pointer none,.pointer none,.int .i64 0,.int .i64 0,.int .i64 0,.int .i64 0,.int .i64 0,.int .i64 0,.int .i64 0,.int .i64 0,.int .i64 0,.int .i64 0,.slice none 0 0,.slice none 0 0,.int .i64 0,.int .i64 0,.int .i64 0,.int .i64 0,.int .i64 0,.int .i64 0,.slice none 0 0] 100) fun b45 H46=>(Ext H43 H46∨(∃v48,v48.size=19∧rowIn H46 ⟨b5,0,none⟩ v48∧Value.agg v48= .agg v41))∧(List.toArray (setL [.pointer r44,.pointer (some ou10),.int .i64 0,.int .i64 0,.int .i64 0,.int .i64 0,.int .i64 0,.int .i64 0,.int .i64 0,.int .i64 0,.int .i64 0,.int .i64 0,.slice none 0 0,.slice none 0 0,.int .i64 0,.int .i64 0,.int .i64 0,.int .i64 0,.int .i64 0,.int .i64 0,.slice none 0 0] 2 v41.toList)).size=21∧stAt H46 ⟨b45,0,none⟩ (Array.toList (List.toArray (setL [.pointer r44,.pointer (some ou10),.int .i64 0,.int .i64 0,.int .i64 0,.int .i64 0,.int .i64 0,.int .i64 0,.int .i64 0,.int .i64 0,.int .i64 0,.int .i64 0,.slice none 0 0,.slice none 0 0,.int .i64 0,.int .i64 0,.int .i64 0,.int .i64 0,.int .i64 0,.int .i64 0,.slice none 0 0] 2 v41.toList))) fun H47=>J12 [.pointer (some ⟨b45,0,none⟩)] H47)∧(alc H11 (.cells #[.pointer none,.pointer none,.int .i64 0,.int .i64 0,.int .i64 0,.int .i64 0,.int .i64 0,.int .i64 0,.int .i64 0,.int .i64 0,.int .i64 0,.int .i64 0,.slice none 0 0,.slice none 0 0,.int .i64 0,.int .i64 0,.int .i64 0,.int .i64 0,.int .i64 0,.int .i64 0,.slice none 0 0] 100) fun b50 H51=>(Ext H11 H51∨(∃v57,v57.size=19∧rowIn H51 ⟨b5,0,none⟩ v57∧Value.agg v57= .agg v41))∧Tryz.C 37 #[.pointer (some ou10)] H51 fun r52 H53=> ∃r54,r52= .pointer r54∧(Ext H51 H53∨(∃v56,v56.size=19∧rowIn H53 ⟨b5,0,none⟩ v56∧Value.agg v56= .agg v41))∧v41.size=19∧2+19≤21∧(List.toArray (setL [.pointer r54,.pointer (some ou10),.int .i64 0,.int .i64 0,.int .i64 0,.int .i64 0,.int .i64 0,.int .i64 0,.int .i64 0,.int .i64 0,.int .i64 0,.int .i64 0,.slice none 0 0,.slice none 0 0,.int .i64 0,.int .i64 0,.int .i64 0,.int .i64 0,.int .i64 0,.int .i64 0,.slice none 0 0] 2 v41.toList)).size=21∧stAt H53 ⟨b50,0,none⟩ (Array.toList (List.toArray (setL [.pointer r54,.pointer (some ou10),.int .i64 0,.int .i64 0,.int .i64 0,.int .i64 0,.int .i64 0,.int .i64 0,.int .i64 0,.int .i64 0,.int .i64 0,.int .i64 0,.slice none 0 0,.slice none 0 0,.int .i64 0,.int .i64 0,.int .i64 0,.int .i64 0,.int .i64 0,.int .i64 0,.slice none 0 0] 2 v41.toList))) fun H55=>J12 [.pointer (some ⟨b50,0,none⟩)] H55))→J9 [.pointer (some ou10)] H11)→
 ∃W58,cell H8 (.add ⟨b3,0,none⟩ 0)=some (.int .i64 W58)∧ ∃H59,cell H8 (.add ⟨b3,0,none⟩ 1)=some (.int .i64 H59)∧ ∃Ne60,cell H8 (.add ⟨b3,0,none⟩ 2)=some (.int .i64 Ne60)∧ ∃Ki61p Ki61l Ki61c,cell H8 (.add ⟨b3,0,none⟩ 3)=some (.slice Ki61p Ki61l Ki61c)∧(Tryz.C 36 #[.slice Ki61p Ki61l Ki61c] H8 fun r62 H63=> ∃r64p r64l r64c,r62= .slice r64p r64l r64c∧(Ext H8 H63∨(∃Ne71,cell H63 (.add ⟨b3,0,none⟩ 2)=some (.int .i64 Ne71)∧Value.int .i64 Ne71= .int .i64 Ne60)∧(∃H72,cell H63 (.add ⟨b3,0,none⟩ 1)=some (.int .i64 H72)∧Value.int .i64 H72= .int .i64 H59)∧(∃W73,cell H63 (.add ⟨b3,0,none⟩ 0)=some (.int .i64 W73)∧Value.int .i64 W73= .int .i64 W58))∧alc H63 (.cells #[.int .i64 0,.int .i64 0,.int .i64 0,.slice none 0 0] 26) fun b65 H66=>(Ext H63 H66∨(∃Ne68,cell H66 (.add ⟨b3,0,none⟩ 2)=some (.int .i64 Ne68)∧Value.int .i64 Ne68= .int .i64 Ne60)∧(∃H69,cell H66 (.add ⟨b3,0,none⟩ 1)=some (.int .i64 H69)∧Value.int .i64 H69= .int .i64 H59)∧(∃W70,cell H66 (.add ⟨b3,0,none⟩ 0)=some (.int .i64 W70)∧Value.int .i64 W70= .int .i64 W58))∧#[Value.int .i64 W58,Value.int .i64 H59,Value.int .i64 Ne60,Value.slice r64p r64l r64c].size=4∧stAt H66 ⟨b65,0,none⟩ (Array.toList #[.int .i64 W58,.int .i64 H59,.int .i64 Ne60,.slice r64p r64l r64c]) fun H67=>J9 [.pointer (some ⟨b65,0,none⟩)] H67)∧(alc H8 (.cells #[.int .i64 0,.int .i64 0,.int .i64 0,.slice none 0 0] 26) fun b74 H75=>(Ext H8 H75∨(∃Ki83p Ki83l Ki83c,cell H75 (.add ⟨b3,0,none⟩ 3)=some (.slice Ki83p Ki83l Ki83c)∧Value.slice Ki83p Ki83l Ki83c= .slice Ki61p Ki61l Ki61c)∧(∃Ne84,cell H75 (.add ⟨b3,0,none⟩ 2)=some (.int .i64 Ne84)∧Value.int .i64 Ne84= .int .i64 Ne60)∧(∃H85,cell H75 (.add ⟨b3,0,none⟩ 1)=some (.int .i64 H85)∧Value.int .i64 H85= .int .i64 H59)∧(∃W86,cell H75 (.add ⟨b3,0,none⟩ 0)=some (.int .i64 W86)∧Value.int .i64 W86= .int .i64 W58))∧Tryz.C 36 #[.slice Ki61p Ki61l Ki61c] H75 fun r76 H77=> ∃r78p r78l r78c,r76= .slice r78p r78l r78c∧(Ext H75 H77∨(∃Ne80,cell H77 (.add ⟨b3,0,none⟩ 2)=some (.int .i64 Ne80)∧Value.int .i64 Ne80= .int .i64 Ne60)∧(∃H81,cell H77 (.add ⟨b3,0,none⟩ 1)=some (.int .i64 H81)∧Value.int .i64 H81= .int .i64 H59)∧(∃W82,cell H77 (.add ⟨b3,0,none⟩ 0)=some (.int .i64 W82)∧Value.int .i64 W82= .int .i64 W58))∧#[Value.int .i64 W58,Value.int .i64 H59,Value.int .i64 Ne60,Value.slice r78p r78l r78c].size=4∧stAt H77 ⟨b74,0,none⟩ (Array.toList #[.int .i64 W58,.int .i64 H59,.int .i64 Ne60,.slice r78p r78l r78c]) fun H79=>J9 [.pointer (some ⟨b74,0,none⟩)] H79)
def Tryz.p21:Plan:=(tl (two (join [(6,999999)] [3,4] leaf) (two (join [(7,999999)] [3,4,6] leaf) (tl (two (join [] [3,4,6,7,8] g0) (two (tl g0) (tl (tl leaf))))))))
theorem Tryz.s21{d1 e2:AV}{H R}(h:Tryz.S21 d1 e2 H R):Tryz.C 21 #[.agg d1,.agg e2] H R:=vcs Tryz.tab_ok Tryz.mixed Tryz.func21 Tryz.cal21 Tryz.p21 h (by kernel_rfl)
def Tryz.S22(w1 h2:Int)(H:Heap)(R:Kv):Prop:=
 br (decide (w1≥1)) (br (decide (h2≥1)) (br (decide (w1≤32768)) (br (decide (h2≤32768)) (R (.bool (decide (((wrap .i64 (w1*h2)):Int)≤4194304))) H) (R (.bool false) H)) (R (.bool false) H)) (R (.bool false) H)) (R (.bool false) H)
def Tryz.p22:Plan:=(tl (tl leaf))
theorem Tryz.s22{w1 h2:Int}{H R}(h:Tryz.S22 w1 h2 H R):Tryz.C 22 #[.int .i64 w1,.int .i64 h2] H R:=vcs Tryz.tab_ok Tryz.mixed Tryz.func22 Tryz.cal22 Tryz.p22 h (by kernel_rfl)
def Tryz.S23(l1:OA)(x2 y3:Int)(H:Heap)(R:Kv):Prop:=
 alc H (.cells #[.int .i64 0,.int .i64 0] 93) fun b4 H5=>#[Value.int .i64 x2,Value.int .i64 y3].size=2∧stAt H5 ⟨b4,0,none⟩ (Array.toList #[.int .i64 x2,.int .i64 y3]) fun H6=> ∃a7,l1=some a7∧ ∃ti8,cell H6 (.add a7 4)=some (.map ti8)∧ ∃v9,v9.size=2∧rowIn H6 ⟨b4,0,none⟩ v9∧ ∃r10,ti8=some r10∧ ∃(es11:Array MapEntry) (c12:Nat),H6[r10]?=some (.map es11 c12)∧kForm (.arr 2 3) (.int .i64) (.agg v9)∧(∀e∈es11.toList,kForm (.arr 2 3) (.int .i64) e.key)∧ ∃v13p v13l v13c,lookV (.agg v9) es11.toList (.slice none 0 0)= .slice v13p v13l v13c∧br (!(Option.isSome (findE (.agg v9) es11.toList 0)))
 (∃a14,l1=some a14∧ ∃W15,cell H6 (.add (.add a14 0) 0)=some (.int .i64 W15)∧ ∃a16,l1=some a16∧ ∃H17,cell H6 (.add (.add a16 0) 1)=some (.int .i64 H17)∧ ∃a18,l1=some a18∧ ∃d19,d19.size=4∧rowIn H6 (.add a18 0) d19∧Tryz.C 47 #[.agg d19,.int .i64 (wrap .i64 (x2*16)),.int .i64 (wrap .i64 (y3*16)),.int .i64 (min 16 (wrap .i64 (W15-(wrap .i64 (x2*16))))),.int .i64 (min 16 (wrap .i64 (H17-(wrap .i64 (y3*16)))))] H6 fun r20 H21=> ∃r22p r22l r22c r23,r20= .tuple #[.slice r22p r22l r22c,.int .i64 r23]∧ ∃a24,l1=some a24∧ ∃ti25,cell H21 (.add a24 4)=some (.map ti25)∧ ∃v26,v26.size=2∧rowIn H21 ⟨b4,0,none⟩ v26∧updQ (.arr 2 3) (.int .i64) (.map ti25) (.agg v26) (.slice r22p r22l r22c) H21 fun H27=> ∃a28,l1=some a28∧ ∃la29,cell H27 (.add a28 5)=some (.int .i64 la29)∧ ∃a30,l1=some a30∧stAt H27 (.add a30 5) [.int .i64 (wrap .i64 (la29+1))] fun H31=>R (.slice r22p r22l r22c) H31)
 (R (.slice v13p v13l v13c) H6)
def Tryz.p23:Plan:=(tl (tl (tl (two (tl (two (tl (tl (tl leaf))) leaf)) (tl leaf)))))
theorem Tryz.s23{l1:OA}{x2 y3:Int}{H R}(h:Tryz.S23 l1 x2 y3 H R):Tryz.C 23 #[.pointer l1,.int .i64 x2,.int .i64 y3] H R:=vcs Tryz.tab_ok Tryz.mixed Tryz.func23 Tryz.cal23 Tryz.p23 h (by kernel_rfl)
def Tryz.S24(d1:AV)(to2 x3 y4:Int)(H:Heap)(R:Kv):Prop:=
 alc H (.cells d1 32) fun b5 H6=>alc H6 (.cells #[.int .i64 0,.int .i64 0,.int .i64 0,.int .i64 0] 106) fun b7 H8=> ∃v9,v9.size=4∧rowIn H8 ⟨b5,0,none⟩ v9∧Tryz.C 48 #[.agg v9,.int .i64 to2] H8 fun r10 H11=> ∃k12p k12l k12c,r10= .slice k12p k12l k12c∧ ∀X13:Kl,(∀(i14:Int) H15,(br (decide (i14<(k12l:Int))) (∃L16p L16l L16c,cell H15 (.add ⟨b5,0,none⟩ 3)=some (.slice L16p L16l L16c)∧ ∃a17,k12p=some a17∧0≤i14∧i14<(k12l:Int)∧ ∃v18,cell H15 (.add a17 (toNat i14*1))=some (.int .i64 v18)∧ ∃a19,L16p=some a19∧0≤v18∧v18<(L16l:Int)∧ ∃v20,v20.size=19∧rowIn H15 (.add a19 (toNat v18*19)) v20∧alc H15 (.cells #[.int .i64 0,.int .i64 0,.int .i64 0,.bool false,.int .i64 0,.int .i64 0,.int .i64 0,.int .i64 0,.slice none 0 0,.slice none 0 0,.int .i64 0,.int .i64 0,.int .i64 0,.int .i64 0,.int .i64 0,.int .i64 0,.bool false,.int .i64 0,.slice none 0 0] 82) fun b21 H22=>(Ext H15 H22∨(∃v66,v66.size=19∧rowIn H22 (.add a19 (toNat v18*19)) v66∧Value.agg v66= .agg v20)∧(∃v67,cell H22 (.add a17 (toNat i14*1))=some (.int .i64 v67)∧Value.int .i64 v67= .int .i64 v18)∧(∃L68p L68l L68c,cell H22 (.add ⟨b5,0,none⟩ 3)=some (.slice L68p L68l L68c)∧Value.slice L68p L68l L68c= .slice L16p L16l L16c))∧v20.size=19∧stAt H22 ⟨b21,0,none⟩ v20.toList fun H23=> ∃Hi24,cell H23 (.add ⟨b21,0,none⟩ 3)=some (.bool Hi24)∧br Hi24 (X13 [.int .i64 (wrap .i64 (i14+1))] H23) (∃v25,v25.size=19∧rowIn H23 ⟨b21,0,none⟩ v25∧ ∃W26,cell H23 (.add ⟨b5,0,none⟩ 0)=some (.int .i64 W26)∧Tryz.C 49 #[.agg v25,.int .i64 (wrap .i64 ((wrap .i64 (y4*W26))+x3))] H23 fun r27 H28=> ∃f29,r27= .int .i64 f29∧ ∃Ki30,cell H28 (.add ⟨b21,0,none⟩ 1)=some (.int .i64 Ki30)∧br (Ki30==2) (∃v31,v31.size=19∧rowIn H28 ⟨b21,0,none⟩ v31∧ ∃v32,v32.size=4∧rowIn H28 ⟨b7,0,none⟩ v32∧Tryz.C 50 #[.agg v31,.agg v32,.int .i64 f29] H28 fun r33 H34=> ∃r35,r33= .agg r35∧r35.size=4∧stAt H34 ⟨b7,0,none⟩ r35.toList fun H36=>X13 [.int .i64 (wrap .i64 (i14+1))] H36) (∀J37:Kl,(∀(s38:Int) H39,(∃Mo40,cell H39 (.add ⟨b21,0,none⟩ 5)=some (.int .i64 Mo40)∧ ∃v41,v41.size=4∧rowIn H39 ⟨b7,0,none⟩ v41∧Tryz.C 54 #[.int .i64 s38,.int .i64 f29] H39 fun r42 H43=> ∃r44,r42= .int .i64 r44∧(Ext H39 H43∨(∃v54,v54.size=4∧rowIn H43 ⟨b7,0,none⟩ v54∧Value.agg v54= .agg v41)∧(∃Mo55,cell H43 (.add ⟨b21,0,none⟩ 5)=some (.int .i64 Mo55)∧Value.int .i64 Mo55= .int .i64 Mo40))∧Tryz.C 53 #[.int .i64 r44] H43 fun r45 H46=> ∃r47,r45= .agg r47∧(Ext H43 H46∨(∃v52,v52.size=4∧rowIn H46 ⟨b7,0,none⟩ v52∧Value.agg v52= .agg v41)∧(∃Mo53,cell H46 (.add ⟨b21,0,none⟩ 5)=some (.int .i64 Mo53)∧Value.int .i64 Mo53= .int .i64 Mo40))∧Tryz.C 52 #[.int .i64 Mo40,.agg r47,.agg v41] H46 fun r48 H49=> ∃r50,r48= .agg r50∧r50.size=4∧stAt H49 ⟨b7,0,none⟩ r50.toList fun H51=>X13 [.int .i64 (wrap .i64 (i14+1))] H51)→J37 [.int .i64 s38] H39)→ ∃Ki56,cell H28 (.add ⟨b21,0,none⟩ 1)=some (.int .i64 Ki56)∧br (Ki56==0) (∃v57,v57.size=19∧rowIn H28 ⟨b21,0,none⟩ v57∧Tryz.C 51 #[.agg v57,.int .i64 x3,.int .i64 y4] H28 fun r58 H59=> ∃s60,r58= .int .i64 s60∧J37 [.int .i64 s60] H59) (∃v61,v61.size=4∧rowIn H28 ⟨b5,0,none⟩ v61∧ ∃ID62,cell H28 (.add ⟨b21,0,none⟩ 0)=some (.int .i64 ID62)∧Tryz.C 24 #[.agg v61,.int .i64 ID62,.int .i64 x3,.int .i64 y4] H28 fun r63 H64=> ∃s65,r63= .int .i64 s65∧J37 [.int .i64 s65] H64)))) (∃v69,v69.size=4∧rowIn H15 ⟨b7,0,none⟩ v69∧Tryz.C 55 #[.agg v69] H15 fun r70 H71=> ∃r72,r70= .int .i64 r72∧R (.int .i64 r72) H71))→X13 [.int .i64 i14] H15)→X13 [.int .i64 0] H11
def Tryz.p24:Plan:=(tl (tl (tl (two (tl (one (loop [(11,3)] [2,3,4,9,10] (two (tl (tl leaf)) (two (one (tl (two (tl (tl leaf)) (tl (tg (tl (two (join [(14,3)] [2,3,4,9,10,11,12,13] (tl (tl leaf))) leaf))))))) leaf))))) (tl leaf)))))
theorem Tryz.s24{d1:AV}{to2 x3 y4:Int}{H R}(h:Tryz.S24 d1 to2 x3 y4 H R):Tryz.C 24 #[.agg d1,.int .i64 to2,.int .i64 x3,.int .i64 y4] H R:=vcs Tryz.tab_ok Tryz.mixed Tryz.func24 Tryz.cal24 Tryz.p24 h (by kernel_rfl)
def Tryz.S25(d1:AV)(H:Heap)(R:Kv):Prop:=
 alc H (.cells d1 26) fun b2 H3=>alc H3 (.cells #[.int .i64 0,.int .i64 0,.int .i64 0,.slice none 0 0] 26) fun b4 H5=> ∃W6,cell H5 (.add ⟨b2,0,none⟩ 0)=some (.int .i64 W6)∧ ∃H7,cell H5 (.add ⟨b2,0,none⟩ 1)=some (.int .i64 H7)∧ ∃Ne8,cell H5 (.add ⟨b2,0,none⟩ 2)=some (.int .i64 Ne8)∧alc H5 (.cells #[.int .i64 0,.int .i64 0,.int .i64 0,.slice none 0 0] 26) fun b9 H10=>#[Value.int .i64 W6,Value.int .i64 H7,Value.int .i64 Ne8,Value.slice none 0 0].size=4∧stAt H10 ⟨b9,0,none⟩ (Array.toList #[.int .i64 W6,.int .i64 H7,.int .i64 Ne8,.slice none 0 0]) fun H11=> ∃Ki12p Ki12l Ki12c,cell H11 (.add ⟨b2,0,none⟩ 3)=some (.slice Ki12p Ki12l Ki12c)∧ ∀X13:Kl,(∀(t14:Int) H15,(br (decide (t14<(Ki12l:Int))) (∃a16,Ki12p=some a16∧0≤t14∧t14<(Ki12l:Int)∧ ∃v17,v17.size=19∧rowIn H15 (.add a16 (toNat t14*19)) v17∧alc H15 (.cells #[.int .i64 0,.int .i64 0,.bool false,.int .i64 0,.int .i64 0,.int .i64 0,.int .i64 0,.slice none 0 0,.slice none 0 0,.int .i64 0,.int .i64 0,.int .i64 0,.int .i64 0,.int .i64 0,.int .i64 0,.bool false,.int .i64 0,.slice none 0 0,.slice none 0 0] 70) fun b18 H19=>v17.size=19∧stAt H19 ⟨b18,0,none⟩ v17.toList fun H20=> ∃v21,v21.size=4∧rowIn H20 ⟨b2,0,none⟩ v21∧ ∃ID22,cell H20 (.add ⟨b18,0,none⟩ 0)=some (.int .i64 ID22)∧Tryz.C 32 #[.agg v21,.int .i64 ID22] H20 fun r23 H24=> ∃r25 r26,r23= .tuple #[.agg r25,.bool r26]∧alc H24 (.cells #[.int .i64 0,.int .i64 0,.bool false,.int .i64 0,.int .i64 0,.int .i64 0,.int .i64 0,.slice none 0 0,.slice none 0 0,.int .i64 0,.int .i64 0,.int .i64 0,.int .i64 0,.int .i64 0,.int .i64 0,.bool false,.int .i64 0,.slice none 0 0,.slice none 0 0] 70) fun b27 H28=>r25.size=19∧stAt H28 ⟨b27,0,none⟩ r25.toList fun H29=> ∃Ki30p Ki30l Ki30c,cell H29 (.add ⟨b9,0,none⟩ 3)=some (.slice Ki30p Ki30l Ki30c)∧ ∃v31,v31.size=19∧rowIn H29 ⟨b27,0,none⟩ v31∧v31.size=19∧0+19≤19∧alc H29 (.cells (List.toArray (setL [.int .i64 0,.int .i64 0,.bool false,.int .i64 0,.int .i64 0,.int .i64 0,.int .i64 0,.slice none 0 0,.slice none 0 0,.int .i64 0,.int .i64 0,.int .i64 0,.int .i64 0,.int .i64 0,.int .i64 0,.bool false,.int .i64 0,.slice none 0 0,.slice none 0 0] 0 v31.toList)) 70) fun b32 H33=>appQ 19 216 #[.int .i64 0,.int .i64 0,.bool false,.int .i64 0,.int .i64 0,.int .i64 0,.int .i64 0,.slice none 0 0,.slice none 0 0,.int .i64 0,.int .i64 0,.int .i64 0,.int .i64 0,.int .i64 0,.int .i64 0,.bool false,.int .i64 0,.slice none 0 0,.slice none 0 0] H33 Ki30p Ki30l Ki30c (some ⟨b32,0,none⟩) 1 70 fun ap34p ap34l ap34c H35=>stAt H35 (.add ⟨b9,0,none⟩ 3) [.slice ap34p ap34l ap34c] fun H36=>X13 [.int .i64 (wrap .i64 (t14+1))] H36) (∃v37,v37.size=4∧rowIn H15 ⟨b9,0,none⟩ v37∧v37.size=4∧stAt H15 ⟨b4,0,none⟩ v37.toList fun H38=> ∃re39,re39.size=4∧rowIn H38 ⟨b4,0,none⟩ re39∧R (.agg re39) H38))→X13 [.int .i64 t14] H15)→X13 [.int .i64 0] H11
def Tryz.p25:Plan:=(tl (tl (two (tl (one (loop [(18,3)] [1,2,3,16,17] (tl (two (tl leaf) (two (one (tl (tl leaf))) leaf)))))) (tl leaf))))
theorem Tryz.s25{d1:AV}{H R}(h:Tryz.S25 d1 H R):Tryz.C 25 #[.agg d1] H R:=vcs Tryz.tab_ok Tryz.mixed Tryz.func25 Tryz.cal25 Tryz.p25 h (by kernel_rfl)
def Tryz.S26(d1 e2:AV)(H:Heap)(R:Kv):Prop:=
 alc H (.cells d1 32) fun b3 H4=>alc H4 (.cells e2 61) fun b5 H6=>alc H6 (.cells #[.int .i64 0,.int .i64 0,.int .i64 0,.slice none 0 0] 32) fun b7 H8=> ∀J9:Kl,(∀H10,(∃Ne11,cell H10 (.add ⟨b3,0,none⟩ 2)=some (.int .i64 Ne11)∧ ∃N12,cell H10 (.add ⟨b5,0,none⟩ 4)=some (.int .i64 N12)∧ ∃To13,cell H10 (.add ⟨b5,0,none⟩ 2)=some (.int .i64 To13)∧#[Value.int .i64 65536,Value.int .i64 0,Value.int .i64 0,Value.int .i64 65536,Value.int .i64 0,Value.int .i64 0].size=6∧10+6≤19∧alc H10 (.cells #[.int .i64 0,.int .i64 0,.int .i64 0,.bool false,.int .i64 0,.int .i64 0,.int .i64 0,.int .i64 0,.slice none 0 0,.slice none 0 0,.int .i64 0,.int .i64 0,.int .i64 0,.int .i64 0,.int .i64 0,.int .i64 0,.bool false,.int .i64 0,.slice none 0 0] 82) fun b14 H15=>(List.toArray (List.set (setL [.int .i64 Ne11,.int .i64 N12,.int .i64 To13,.bool false,.int .i64 255,.int .i64 0,.int .i64 0,.int .i64 0,.slice none 0 0,.slice none 0 0,.int .i64 0,.int .i64 0,.int .i64 0,.int .i64 0,.int .i64 0,.int .i64 0,.bool false,.int .i64 0,.slice none 0 0] 10 (Array.toList #[.int .i64 65536,.int .i64 0,.int .i64 0,.int .i64 65536,.int .i64 0,.int .i64 0])) 17 (.int .i64 2))).size=19∧stAt H15 ⟨b14,0,none⟩ (Array.toList (List.toArray (List.set (setL [.int .i64 Ne11,.int .i64 N12,.int .i64 To13,.bool false,.int .i64 255,.int .i64 0,.int .i64 0,.int .i64 0,.slice none 0 0,.slice none 0 0,.int .i64 0,.int .i64 0,.int .i64 0,.int .i64 0,.int .i64 0,.int .i64 0,.bool false,.int .i64 0,.slice none 0 0] 10 (Array.toList #[.int .i64 65536,.int .i64 0,.int .i64 0,.int .i64 65536,.int .i64 0,.int .i64 0])) 17 (.int .i64 2)))) fun H16=> ∀J17:Kl,(∀H18,(∃v19,v19.size=4∧rowIn H18 ⟨b3,0,none⟩ v19∧ ∃To20,cell H18 (.add ⟨b5,0,none⟩ 2)=some (.int .i64 To20)∧Tryz.C 56 #[.agg v19,.int .i64 To20] H18 fun r21 H22=> ∃f23,r21= .int .i64 f23∧br (f23 != 0) (∃v24,v24.size=4∧rowIn H22 ⟨b3,0,none⟩ v24∧v24.size=4∧stAt H22 ⟨b7,0,none⟩ v24.toList fun H25=> ∃re26,re26.size=4∧rowIn H25 ⟨b7,0,none⟩ re26∧R (.tuple #[.agg re26,.int .i64 f23]) H25) (∃L27p L27l L27c,cell H22 (.add ⟨b3,0,none⟩ 3)=some (.slice L27p L27l L27c)∧ ∃v28,v28.size=4∧rowIn H22 ⟨b3,0,none⟩ v28∧ ∃v29,v29.size=19∧rowIn H22 ⟨b14,0,none⟩ v29∧ ∃At30,cell H22 (.add ⟨b5,0,none⟩ 3)=some (.int .i64 At30)∧Tryz.C 57 #[.agg v28,.agg v29,.int .i64 At30] H22 fun r31 H32=> ∃r33 r34,r31= .tuple #[.agg r33,.int .i64 r34]∧alc H32 (.cells #[.int .i64 0,.int .i64 0,.int .i64 0,.slice none 0 0] 32) fun b35 H36=>r33.size=4∧stAt H36 ⟨b35,0,none⟩ r33.toList fun H37=>br (r34 != 0) (∃v38,v38.size=4∧rowIn H37 ⟨b3,0,none⟩ v38∧v38.size=4∧stAt H37 ⟨b7,0,none⟩ v38.toList fun H39=> ∃re40,re40.size=4∧rowIn H39 ⟨b7,0,none⟩ re40∧R (.tuple #[.agg re40,.int .i64 r34]) H39) (∀J41:Kl,(∀H42,(∃Ne43,cell H42 (.add ⟨b35,0,none⟩ 2)=some (.int .i64 Ne43)∧stAt H42 (.add ⟨b35,0,none⟩ 2) [.int .i64 (wrap .i64 (Ne43+1))] fun H44=> ∃v45,v45.size=4∧rowIn H44 ⟨b35,0,none⟩ v45∧v45.size=4∧stAt H44 ⟨b7,0,none⟩ v45.toList fun H46=> ∃re47,re47.size=4∧rowIn H46 ⟨b7,0,none⟩ re47∧R (.tuple #[.agg re47,.int .i64 0]) H46)→J41 [] H42)→br (decide (((L27l:Int):Int)≥4096)) (∃v48,v48.size=4∧rowIn H37 ⟨b3,0,none⟩ v48∧v48.size=4∧stAt H37 ⟨b7,0,none⟩ v48.toList fun H49=> ∃re50,re50.size=4∧rowIn H49 ⟨b7,0,none⟩ re50∧R (.tuple #[.agg re50,.int .i64 31]) H49) (∃v51,v51.size=4∧rowIn H37 ⟨b3,0,none⟩ v51∧ ∃To52,cell H37 (.add ⟨b5,0,none⟩ 2)=some (.int .i64 To52)∧Tryz.C 58 #[.agg v51,.int .i64 To52] H37 fun r53 H54=> ∃r55,r53= .int .i64 r55∧br (decide (((wrap .i64 (r55+1)):Int)>64)) (∃v56,v56.size=4∧rowIn H54 ⟨b3,0,none⟩ v56∧v56.size=4∧stAt H54 ⟨b7,0,none⟩ v56.toList fun H57=> ∃re58,re58.size=4∧rowIn H57 ⟨b7,0,none⟩ re58∧R (.tuple #[.agg re58,.int .i64 31]) H57) (J41 [] H54)))))→J17 [] H18)→ ∃N59,cell H16 (.add ⟨b5,0,none⟩ 4)=some (.int .i64 N59)∧br (N59==0) (∃W60,cell H16 (.add ⟨b5,0,none⟩ 8)=some (.int .i64 W60)∧ ∃H61,cell H16 (.add ⟨b5,0,none⟩ 9)=some (.int .i64 H61)∧Tryz.C 22 #[.int .i64 W60,.int .i64 H61] H16 fun r62 H63=> ∃r64,r62= .bool r64∧br (!r64) (∃v65,v65.size=4∧rowIn H63 ⟨b3,0,none⟩ v65∧v65.size=4∧stAt H63 ⟨b7,0,none⟩ v65.toList fun H66=> ∃re67,re67.size=4∧rowIn H66 ⟨b7,0,none⟩ re67∧R (.tuple #[.agg re67,.int .i64 31]) H66) (∃W68,cell H63 (.add ⟨b5,0,none⟩ 8)=some (.int .i64 W68)∧stAt H63 (.add ⟨b14,0,none⟩ 6) [.int .i64 W68] fun H69=> ∃H70,cell H69 (.add ⟨b5,0,none⟩ 9)=some (.int .i64 H70)∧stAt H69 (.add ⟨b14,0,none⟩ 7) [.int .i64 H70] fun H71=> ∃W72,cell H71 (.add ⟨b5,0,none⟩ 8)=some (.int .i64 W72)∧ ∃H73,cell H71 (.add ⟨b5,0,none⟩ 9)=some (.int .i64 H73)∧0≤(wrap .i64 (W72*H73))∧(wrap .i64 (W72*H73))≤(wrap .i64 (W72*H73))∧((8:Nat):Int)*(wrap .i64 (W72*H73))≤281474976710656∧(wrap .i64 (W72*H73))≤281474976710656∧alc H71 (.cells (List.toArray (reps (toNat (wrap .i64 (W72*H73))) (Array.toList #[.int .i64 0]))) 3) fun b74 H75=>stAt H75 (.add ⟨b14,0,none⟩ 8) [.slice (some ⟨b74,0,none⟩) (toNat (wrap .i64 (W72*H73))) (toNat (wrap .i64 (W72*H73)))] fun H76=>J17 [] H76)) (J17 [] H16))→J9 [] H10)→
 ∃N77,cell H8 (.add ⟨b5,0,none⟩ 4)=some (.int .i64 N77)∧br (decide (N77<0)) (∃v78,v78.size=4∧rowIn H8 ⟨b3,0,none⟩ v78∧v78.size=4∧stAt H8 ⟨b7,0,none⟩ v78.toList fun H79=> ∃re80,re80.size=4∧rowIn H79 ⟨b7,0,none⟩ re80∧R (.tuple #[.agg re80,.int .i64 41]) H79) (∃N81,cell H8 (.add ⟨b5,0,none⟩ 4)=some (.int .i64 N81)∧br (decide (N81>2)) (∃v82,v82.size=4∧rowIn H8 ⟨b3,0,none⟩ v82∧v82.size=4∧stAt H8 ⟨b7,0,none⟩ v82.toList fun H83=> ∃re84,re84.size=4∧rowIn H83 ⟨b7,0,none⟩ re84∧R (.tuple #[.agg re84,.int .i64 41]) H83) (J9 [] H8))
def Tryz.p26:Plan:=(tl (two (join [] [2,3,4] g0) (tl (two (join [] [2,3,4,6] (tl (two (tg (tl (tl leaf))) leaf))) (tl (tg (tl (tl (tg (two (join [] [4,9] g0) (tl (tl leaf))))))))))))
theorem Tryz.s26{d1 e2:AV}{H R}(h:Tryz.S26 d1 e2 H R):Tryz.C 26 #[.agg d1,.agg e2] H R:=vcs Tryz.tab_ok Tryz.mixed Tryz.func26 Tryz.cal26 Tryz.p26 h (by kernel_rfl)
def Tryz.S27(d1:AV)(id2:Int)(H:Heap)(R:Kv):Prop:=
 alc H (.cells d1 32) fun b3 H4=> ∀X5:Kl,(∀(i6:Int) H7,(∃L8p L8l L8c,cell H7 (.add ⟨b3,0,none⟩ 3)=some (.slice L8p L8l L8c)∧br (decide (i6<(L8l:Int))) (∃L9p L9l L9c,cell H7 (.add ⟨b3,0,none⟩ 3)=some (.slice L9p L9l L9c)∧ ∃a10,L9p=some a10∧0≤i6∧i6<(L9l:Int)∧ ∃ID11,cell H7 (.add (.add a10 (toNat i6*19)) 0)=some (.int .i64 ID11)∧br (ID11==id2) (R (.int .i64 i6) H7) (X5 [.int .i64 (wrap .i64 (i6+1))] H7)) (R (.int .i64 (-1:Int)) H7))→X5 [.int .i64 i6] H7)→X5 [.int .i64 0] H4
def Tryz.p27:Plan:=(tl (two (tl (one (loop [(5,3)] [1,2] (two (tl (tl leaf)) (two (one g0) leaf))))) (tl leaf)))
theorem Tryz.s27{d1:AV}{id2:Int}{H R}(h:Tryz.S27 d1 id2 H R):Tryz.C 27 #[.agg d1,.int .i64 id2] H R:=vcs Tryz.tab_ok Tryz.mixed Tryz.func27 Tryz.cal27 Tryz.p27 h (by kernel_rfl)
def Tryz.S28(d1:AV)(id2:Int)(H:Heap)(R:Kv):Prop:=
 alc H (.cells d1 32) fun b3 H4=> ∀X5:Kl,(∀(ou6p:OA) (ou6l ou6c:Nat) (go7p:OA) (go7l go7c:Nat) (i8:Int) H9,(∃L10p L10l L10c,cell H9 (.add ⟨b3,0,none⟩ 3)=some (.slice L10p L10l L10c)∧br (decide (i8<(L10l:Int))) (∃v11,v11.size=4∧rowIn H9 ⟨b3,0,none⟩ v11∧ ∃L12p L12l L12c,cell H9 (.add ⟨b3,0,none⟩ 3)=some (.slice L12p L12l L12c)∧ ∃a13,L12p=some a13∧0≤i8∧i8<(L12l:Int)∧ ∃ID14,cell H9 (.add (.add a13 (toNat i8*19)) 0)=some (.int .i64 ID14)∧Tryz.C 59 #[.agg v11,.int .i64 ID14,.int .i64 id2] H9 fun r15 H16=> ∃r17,r15= .bool r17∧br r17 (∃L18p L18l L18c,cell H16 (.add ⟨b3,0,none⟩ 3)=some (.slice L18p L18l L18c)∧ ∃a19,L18p=some a19∧0≤i8∧i8<(L18l:Int)∧ ∃v20,v20.size=19∧rowIn H16 (.add a19 (toNat i8*19)) v20∧v20.size=19∧0+19≤19∧alc H16 (.cells (List.toArray (setL [.int .i64 0,.int .i64 0,.int .i64 0,.bool false,.int .i64 0,.int .i64 0,.int .i64 0,.int .i64 0,.slice none 0 0,.slice none 0 0,.int .i64 0,.int .i64 0,.int .i64 0,.int .i64 0,.int .i64 0,.int .i64 0,.bool false,.int .i64 0,.slice none 0 0] 0 v20.toList)) 82) fun b21 H22=>appQ 19 200 #[.int .i64 0,.int .i64 0,.int .i64 0,.bool false,.int .i64 0,.int .i64 0,.int .i64 0,.int .i64 0,.slice none 0 0,.slice none 0 0,.int .i64 0,.int .i64 0,.int .i64 0,.int .i64 0,.int .i64 0,.int .i64 0,.bool false,.int .i64 0,.slice none 0 0] H22 go7p go7l go7c (some ⟨b21,0,none⟩) 1 82 fun go23p go23l go23c H24=>X5 [.slice ou6p ou6l ou6c,.slice go23p go23l go23c,.int .i64 (wrap .i64 (i8+1))] H24) (∃L25p L25l L25c,cell H16 (.add ⟨b3,0,none⟩ 3)=some (.slice L25p L25l L25c)∧ ∃a26,L25p=some a26∧0≤i8∧i8<(L25l:Int)∧ ∃v27,v27.size=19∧rowIn H16 (.add a26 (toNat i8*19)) v27∧v27.size=19∧0+19≤19∧alc H16 (.cells (List.toArray (setL [.int .i64 0,.int .i64 0,.int .i64 0,.bool false,.int .i64 0,.int .i64 0,.int .i64 0,.int .i64 0,.slice none 0 0,.slice none 0 0,.int .i64 0,.int .i64 0,.int .i64 0,.int .i64 0,.int .i64 0,.int .i64 0,.bool false,.int .i64 0,.slice none 0 0] 0 v27.toList)) 82) fun b28 H29=>appQ 19 200 #[.int .i64 0,.int .i64 0,.int .i64 0,.bool false,.int .i64 0,.int .i64 0,.int .i64 0,.int .i64 0,.slice none 0 0,.slice none 0 0,.int .i64 0,.int .i64 0,.int .i64 0,.int .i64 0,.int .i64 0,.int .i64 0,.bool false,.int .i64 0,.slice none 0 0] H29 ou6p ou6l ou6c (some ⟨b28,0,none⟩) 1 82 fun ou30p ou30l ou30c H31=>X5 [.slice ou30p ou30l ou30c,.slice go7p go7l go7c,.int .i64 (wrap .i64 (i8+1))] H31)) (R (.tuple #[.slice ou6p ou6l ou6c,.slice go7p go7l go7c]) H9))→X5 [.slice ou6p ou6l ou6c,.slice go7p go7l go7c,.int .i64 i8] H9)→X5 [.slice none 0 0,.slice none 0 0,.int .i64 0] H4
def Tryz.p28:Plan:=(tl (tl (tl (two (tl (one (loop [(6,30),(7,30),(8,3)] [1,2] (two (tl (tl leaf)) (two (one (tl (tl leaf))) leaf))))) (tl leaf)))))
theorem Tryz.s28{d1:AV}{id2:Int}{H R}(h:Tryz.S28 d1 id2 H R):Tryz.C 28 #[.agg d1,.int .i64 id2] H R:=vcs Tryz.tab_ok Tryz.mixed Tryz.func28 Tryz.cal28 Tryz.p28 h (by kernel_rfl)
def Tryz.S29(d1 e2:AV)(H:Heap)(R:Kv):Prop:=
 alc H (.cells d1 32) fun b3 H4=>alc H4 (.cells e2 61) fun b5 H6=>alc H6 (.cells #[.int .i64 0,.int .i64 0,.int .i64 0,.slice none 0 0] 32) fun b7 H8=> ∃v9,v9.size=4∧rowIn H8 ⟨b3,0,none⟩ v9∧ ∃ID10,cell H8 (.add ⟨b5,0,none⟩ 1)=some (.int .i64 ID10)∧Tryz.C 27 #[.agg v9,.int .i64 ID10] H8 fun r11 H12=> ∃i13,r11= .int .i64 i13∧br (decide (i13<0))
 (∃v14,v14.size=4∧rowIn H12 ⟨b3,0,none⟩ v14∧v14.size=4∧stAt H12 ⟨b7,0,none⟩ v14.toList fun H15=> ∃re16,re16.size=4∧rowIn H15 ⟨b7,0,none⟩ re16∧R (.tuple #[.agg re16,.int .i64 40]) H15)
 (∃v17,v17.size=4∧rowIn H12 ⟨b3,0,none⟩ v17∧ ∃To18,cell H12 (.add ⟨b5,0,none⟩ 2)=some (.int .i64 To18)∧Tryz.C 56 #[.agg v17,.int .i64 To18] H12 fun r19 H20=> ∃f21,r19= .int .i64 f21∧br (f21 != 0) (∃v22,v22.size=4∧rowIn H20 ⟨b3,0,none⟩ v22∧v22.size=4∧stAt H20 ⟨b7,0,none⟩ v22.toList fun H23=> ∃re24,re24.size=4∧rowIn H23 ⟨b7,0,none⟩ re24∧R (.tuple #[.agg re24,.int .i64 f21]) H23) (∃v25,v25.size=4∧rowIn H20 ⟨b3,0,none⟩ v25∧ ∃To26,cell H20 (.add ⟨b5,0,none⟩ 2)=some (.int .i64 To26)∧ ∃ID27,cell H20 (.add ⟨b5,0,none⟩ 1)=some (.int .i64 ID27)∧Tryz.C 59 #[.agg v25,.int .i64 To26,.int .i64 ID27] H20 fun r28 H29=> ∃r30,r28= .bool r30∧br r30 (∃v31,v31.size=4∧rowIn H29 ⟨b3,0,none⟩ v31∧v31.size=4∧stAt H29 ⟨b7,0,none⟩ v31.toList fun H32=> ∃re33,re33.size=4∧rowIn H32 ⟨b7,0,none⟩ re33∧R (.tuple #[.agg re33,.int .i64 42]) H32) (∃L34p L34l L34c,cell H29 (.add ⟨b3,0,none⟩ 3)=some (.slice L34p L34l L34c)∧ ∃a35,L34p=some a35∧0≤i13∧i13<(L34l:Int)∧ ∃v36,v36.size=19∧rowIn H29 (.add a35 (toNat i13*19)) v36∧alc H29 (.cells #[.int .i64 0,.int .i64 0,.int .i64 0,.bool false,.int .i64 0,.int .i64 0,.int .i64 0,.int .i64 0,.slice none 0 0,.slice none 0 0,.int .i64 0,.int .i64 0,.int .i64 0,.int .i64 0,.int .i64 0,.int .i64 0,.bool false,.int .i64 0,.slice none 0 0] 82) fun b37 H38=>v36.size=19∧stAt H38 ⟨b37,0,none⟩ v36.toList fun H39=> ∃v40,v40.size=4∧rowIn H39 ⟨b3,0,none⟩ v40∧ ∃ID41,cell H39 (.add ⟨b5,0,none⟩ 1)=some (.int .i64 ID41)∧Tryz.C 28 #[.agg v40,.int .i64 ID41] H39 fun r42 H43=> ∃r44p r44l r44c r45p r45l r45c,r42= .tuple #[.slice r44p r44l r44c,.slice r45p r45l r45c]∧ ∃v46,v46.size=4∧rowIn H43 ⟨b3,0,none⟩ v46∧alc H43 (.cells #[.int .i64 0,.int .i64 0,.int .i64 0,.slice none 0 0] 32) fun b47 H48=>v46.size=4∧stAt H48 ⟨b47,0,none⟩ v46.toList fun H49=>stAt H49 (.add ⟨b47,0,none⟩ 3) [.slice r44p r44l r44c] fun H50=> ∃To51,cell H50 (.add ⟨b5,0,none⟩ 2)=some (.int .i64 To51)∧stAt H50 (.add ⟨b37,0,none⟩ 2) [.int .i64 To51] fun H52=> ∃v53,v53.size=4∧rowIn H52 ⟨b47,0,none⟩ v53∧ ∃v54,v54.size=19∧rowIn H52 ⟨b37,0,none⟩ v54∧ ∃At55,cell H52 (.add ⟨b5,0,none⟩ 3)=some (.int .i64 At55)∧Tryz.C 57 #[.agg v53,.agg v54,.int .i64 At55] H52 fun r56 H57=> ∃r58 r59,r56= .tuple #[.agg r58,.int .i64 r59]∧alc H57 (.cells #[.int .i64 0,.int .i64 0,.int .i64 0,.slice none 0 0] 32) fun b60 H61=>r58.size=4∧stAt H61 ⟨b60,0,none⟩ r58.toList fun H62=>br (r59 != 0) (∃v63,v63.size=4∧rowIn H62 ⟨b3,0,none⟩ v63∧v63.size=4∧stAt H62 ⟨b7,0,none⟩ v63.toList fun H64=> ∃re65,re65.size=4∧rowIn H64 ⟨b7,0,none⟩ re65∧R (.tuple #[.agg re65,.int .i64 r59]) H64) (∀X66:Kl,(∀(k67:Int) H68,(br (decide (k67<(r45l:Int))) (∃a69,r45p=some a69∧0≤k67∧k67<(r45l:Int)∧ ∃ID70,cell H68 (.add (.add a69 (toNat k67*19)) 0)=some (.int .i64 ID70)∧ ∃ID71,cell H68 (.add ⟨b5,0,none⟩ 1)=some (.int .i64 ID71)∧br (ID70 != ID71) (∃L72p L72l L72c,cell H68 (.add ⟨b60,0,none⟩ 3)=some (.slice L72p L72l L72c)∧ ∃a73,r45p=some a73∧0≤k67∧k67<(r45l:Int)∧ ∃v74,v74.size=19∧rowIn H68 (.add a73 (toNat k67*19)) v74∧v74.size=19∧0+19≤19∧alc H68 (.cells (List.toArray (setL [.int .i64 0,.int .i64 0,.int .i64 0,.bool false,.int .i64 0,.int .i64 0,.int .i64 0,.int .i64 0,.slice none 0 0,.slice none 0 0,.int .i64 0,.int .i64 0,.int .i64 0,.int .i64 0,.int .i64 0,.int .i64 0,.bool false,.int .i64 0,.slice none 0 0] 0 v74.toList)) 82) fun b75 H76=>(Ext H68 H76∨(∃L80p L80l L80c,cell H76 (.add ⟨b60,0,none⟩ 3)=some (.slice L80p L80l L80c)∧Value.slice L80p L80l L80c= .slice L72p L72l L72c))∧appQ 19 200 #[.int .i64 0,.int .i64 0,.int .i64 0,.bool false,.int .i64 0,.int .i64 0,.int .i64 0,.int .i64 0,.slice none 0 0,.slice none 0 0,.int .i64 0,.int .i64 0,.int .i64 0,.int .i64 0,.int .i64 0,.int .i64 0,.bool false,.int .i64 0,.slice none 0 0] H76 L72p L72l L72c (some ⟨b75,0,none⟩) 1 82 fun ap77p ap77l ap77c H78=>stAt H78 (.add ⟨b60,0,none⟩ 3) [.slice ap77p ap77l ap77c] fun H79=>X66 [.int .i64 (wrap .i64 (k67+1))] H79) (X66 [.int .i64 (wrap .i64 (k67+1))] H68)) (∃v81,v81.size=4∧rowIn H68 ⟨b60,0,none⟩ v81∧Tryz.C 60 #[.agg v81] H68 fun r82 H83=> ∃r84,r82= .int .i64 r84∧br (decide (r84>64)) (∃v85,v85.size=4∧rowIn H83 ⟨b3,0,none⟩ v85∧v85.size=4∧stAt H83 ⟨b7,0,none⟩ v85.toList fun H86=> ∃re87,re87.size=4∧rowIn H86 ⟨b7,0,none⟩ re87∧R (.tuple #[.agg re87,.int .i64 31]) H86) (∃v88,v88.size=4∧rowIn H83 ⟨b60,0,none⟩ v88∧v88.size=4∧stAt H83 ⟨b7,0,none⟩ v88.toList fun H89=> ∃re90,re90.size=4∧rowIn H89 ⟨b7,0,none⟩ re90∧R (.tuple #[.agg re90,.int .i64 0]) H89)))→X66 [.int .i64 k67] H68)→X66 [.int .i64 0] H62))))
def Tryz.p29:Plan:=(tl (tl (tg (tl (tg (tg (tl (tl (tl (tl (tl (tl (tg (two (tl (one (loop [(14,3)] [2,3,4,10,12] (two (tl (tl leaf)) (two (one (tl (tl leaf))) leaf))))) (tg (tl leaf))))))))))))))))
theorem Tryz.s29{d1 e2:AV}{H R}(h:Tryz.S29 d1 e2 H R):Tryz.C 29 #[.agg d1,.agg e2] H R:=vcs Tryz.tab_ok Tryz.mixed Tryz.func29 Tryz.cal29 Tryz.p29 h (by kernel_rfl)
end Go.Proofs
