/-
  OWN WORK. Several texts in one: ShP, ShL, TileW, TileStay, ShG, GTab, GFunA, GFunB, GFunC, GFunD, GFunE.
-/
import Derived.Test.YthigcnljndbmnaaGreatMgEditorGroupsA
import Derived.ProofKit
import Derived.OpenShut
import Derived.RangeFuncRecord
import Derived.Test.YthigcnljndbmnaaGreatProg
import Derived.KernelRfl

set_option linter.unusedSimpArgs false
set_option linter.unusedVariables false
set_option maxRecDepth 100000
namespace Go.Sh
def br(t:Bool)(A B:Prop):Prop:=(t=true→A)∧(t=false→B)
def alc(H:Heap)(o:Obj)(K:Nat→Heap→Prop):Prop:=K H.size (H.push o)
def sto(H:Heap)(r:Nat)(o:Obj)(K:Heap→Prop):Prop:=K (H.setIfInBounds r o)
abbrev OA:=Option Addr
abbrev AV:=Array Value
abbrev Kv:=Value→Heap→Prop
abbrev Kl:=List Value→Heap→Prop
namespace Plan
def tl(a:Plan):Plan:=two leaf a
def g0:Plan:=tl (two (tl leaf) leaf)
def tg(a:Plan):Plan:=two g0 a
end Plan
theorem vcs{P:Program}{T:Tab}(hT:TabOk P T)(hm:P.follows .mixedOrders=true){g:FuncId}{fn:Func}(hg:P.funcs[g]?=some fn)(hc:callable P g)(p:Plan){args:Array Value}{H:Heap}
 {R:Value→Heap→Prop}{A:Prop}(h:A)(e:A=vcFun P T fn p args.toList H R):CallsH P g args H R:=by
 have:=vcFun_sound hT hm hg hc (p:=p) (args:=args.toList) (H:=H) (R:=R) (Eq.mp e h)
 simpa using this
end Go.Sh
namespace Go.Sh
theorem br_i{t:Bool}{A B:Prop}(h:t=true→A)(h':t=false→B):br t A B:=⟨h,h'⟩
theorem br_dec{p:Prop}[Decidable p]{A B:Prop}(h:p→A)(h': ¬p→B):br (decide p) A B:=⟨fun e=>h (of_decide_eq_true e),fun e=>h' (of_decide_eq_false e)⟩
theorem br_eq{a b:Int}{A B:Prop}(h:a=b→A)(h':a≠b→B):br (a==b) A B:=⟨fun e=>h (by simpa using e),fun e=>h' (by simpa using e)⟩
theorem br_ne{a b:Int}{A B:Prop}(h:a≠b→A)(h':a=b→B):br (a != b) A B:=⟨fun e=>h (by simpa using e),fun e=>h' (by simpa using e)⟩
theorem br_not{t:Bool}{A B:Prop}(h:t=false→A)(h':t=true→B):br (!t) A B:=⟨fun e=>h (by simpa using e),fun e=>h' (by simpa using e)⟩
theorem br_true{A B:Prop}(h:A):br true A B:=⟨fun _=>h,fun e=>(by cases e)⟩
theorem br_false{A B:Prop}(h:B):br false A B:=⟨fun e=>(by cases e),fun _=>h⟩
theorem br_t{t:Bool}{A B:Prop}(ht:t=true)(h:A):br t A B:=by subst ht;exact br_true h
theorem br_f{t:Bool}{A B:Prop}(ht:t=false)(h:B):br t A B:=by subst ht;exact br_false h
theorem br_y{p:Prop}[Decidable p]{A B:Prop}(hp:p)(h:A):br (decide p) A B:=br_dec (fun _=>h) (fun n=>absurd hp n)
theorem br_n{p:Prop}[Decidable p]{A B:Prop}(hp: ¬p)(h:B):br (decide p) A B:=br_dec (fun y=>absurd y hp) (fun _=>h)
theorem br_none{α:Type}{p:Option α}{A B:Prop}(h:p=none→A)(h': ∀a,p=some a→B):br (Option.isNone p) A B:=by
 cases p with
 |none=>exact br_true (h rfl)
 |some a=>exact br_false (h' a rfl)
theorem lt_of_get{H:Heap}{b:Nat}{o:Obj}(h:H[b]?=some o):b<H.size:=(Array.getElem?_eq_some_iff.1 h).1
theorem get_push_self(H:Heap)(o:Obj):(H.push o)[H.size]?=some o:=by simp
theorem get_push{H:Heap}{b:Nat}{o x:Obj}(h:H[b]?=some x):(H.push o)[b]?=some x:=Ext.push H o b x h
theorem get_set_ne{H:Heap}{b r:Nat}{o x:Obj}(hne:r≠b)(h:H[b]?=some x):(H.setIfInBounds r o)[b]?=some x:=by
 rw[Array.getElem?_setIfInBounds_ne hne];exact h
theorem get_set_self{H:Heap}{r:Nat}{o x:Obj}(h:H[r]?=some x):(H.setIfInBounds r o)[r]?=some o:=by
 rw[Array.getElem?_setIfInBounds_self_of_lt (lt_of_get h)]
theorem ne_of_get{H:Heap}{b r:Nat}{x y:Obj}(h:H[b]?=some x)(h':H[r]?=some y)(hne:x≠y):b≠r:=fun e=>by
 subst e;rw[h] at h';exact hne (Option.some.inj h')
theorem ne_of_ty{H:Heap}{b r:Nat}{c d:Array Value}{t u:TypeId}{f g:Nat×Nat}(h:H[b]?=some (.cells c t f))(h':H[r]?=some (.cells d u g))(hne:t≠u):b≠r:=
 ne_of_get h h' (fun e=>by cases e;exact hne rfl)
theorem ne_of_map{H:Heap}{b r:Nat}{c:Array Value}{t:TypeId}{f:Nat×Nat}{es:Array MapEntry}{k:Nat}(h:H[b]?=some (.cells c t f))(h':H[r]?=some (.map es k)):b≠r:=
 ne_of_get h h' (fun e=>by cases e)
theorem ne_of_map'{H:Heap}{b r:Nat}{c:Array Value}{t:TypeId}{f:Nat×Nat}{es:Array MapEntry}{k:Nat}(h:H[b]?=some (.map es k))(h':H[r]?=some (.cells c t f)):b≠r:=
 ne_of_get h h' (fun e=>by cases e)
theorem cell_block{H:Heap}{b i:Nat}{c:Array Value}{t:TypeId}{f:Nat×Nat}(h:H[b]?=some (.cells c t f)):cell H ⟨b,i,none⟩=c[i]?:=by
 simp[cell,h]
theorem cell_get{H:Heap}{b i:Nat}{c:Array Value}{t:TypeId}{f:Nat×Nat}{v:Value}(h:H[b]?=some (.cells c t f))(hv:c[i]?=some v):cell H ⟨b,i,none⟩=some v:=by
 rw[cell_block h];exact hv
@[simp] theorem add_none(b i n:Nat):Addr.add ⟨b,i,none⟩ n=⟨b,i+n,none⟩:=by
 unfold Addr.add;split<;>simp_all
theorem rowIn_block{H:Heap}{b i:Nat}{c cs:Array Value}{t:TypeId}{f:Nat×Nat}(h:H[b]?=some (.cells c t f))(hc: ∀j v,cs[j]?=some v→c[i+j]?=some v):
 rowIn H ⟨b,i,none⟩ cs:=by
 intro j v hv
 rw[add_none,cell_block h]
 exact hc j v hv
theorem rowIn_whole{H:Heap}{b:Nat}{c:Array Value}{t:TypeId}{f:Nat×Nat}(h:H[b]?=some (.cells c t f)):rowIn H ⟨b,0,none⟩ c:=
 rowIn_block h fun j v hv=>by rw[Nat.zero_add];exact hv
theorem stAt_one{H:Heap}{b i:Nat}{c:Array Value}{t:TypeId}{v:Value}{f:Heap→Prop}(h:H[b]?=some (.cells c t (0,0)))(hi:i<c.size)(ho:v.oneCell'=true)
 (hf:f (H.setIfInBounds b (.cells (c.setIfInBounds i v) t (0,0)))):stAt H ⟨b,i,none⟩ [v] f:=by
 refine⟨c,t,h,rfl,(by simp;omega),by simpa using ho,?_⟩
 have:(setL c.toList i [v]).toArray=c.setIfInBounds i v:=by
  rw[setL_one (by simpa using hi)]
  apply Array.toList_inj.1
  simp
 simp only[this]
 exact hf
theorem stAt_whole{H:Heap}{b:Nat}{c:Array Value}{t:TypeId}{vs:List Value}{f:Heap→Prop}(h:H[b]?=some (.cells c t (0,0)))(hl:vs.length=c.size)(ho: ∀v∈vs,v.oneCell'=true)
 (hf:f (H.setIfInBounds b (.cells vs.toArray t (0,0)))):stAt H ⟨b,0,none⟩ vs f:=by
 refine⟨c,t,h,rfl,by simp;omega,ho,?_⟩
 have:setL c.toList 0 vs=vs:=by simp[setL,hl]
 simp only[this]
 exact hf
theorem wrap_id{n:Int}(h0: -9223372036854775808≤n)(h1:n≤9223372036854775807):IntKind.wrap .i64 n=n:=wrap_i64 h0 h1
theorem wrap_u32{n:Int}(h0:0≤n)(h1:n<4294967296):IntKind.wrap .u32 n=n:=by
 simp only[IntKind.wrap,IntKind.signed,IntKind.bits];simp;omega
theorem wrap_u8{n:Int}(h0:0≤n)(h1:n<256):IntKind.wrap .u8 n=n:=by
 simp only[IntKind.wrap,IntKind.signed,IntKind.bits];simp;omega
end Go.Sh
namespace Go.Sh
open Go.RowKit
theorem kept_of{W w':World}(hos:w'.os=W.os)(ho:Out W w')(hx:Ext W.heap w'.heap)(may:MemPlace→Prop):W.keptBut w' may:=by
 have h0:W.keptBut w' (fun _=>False):=by
  refine⟨hos,ho.output,fun i hi=>?_⟩
  obtain⟨o,h⟩: ∃o,W.heap[i]?=some o:=⟨_,Array.getElem?_eq_getElem hi⟩
  rw[hx i o h,h]
  cases o with
  |cells c t fr=>exact⟨rfl,rfl,rfl,fun _ _=>rfl⟩
  |map es k=>exact .inr ⟨rfl,rfl⟩
  |_=>rfl
 exact World.keptBut_mono (fun _ f=>f.elim) h0
end Go.Sh
namespace Go.Sh
open Go.RowKit Go.ChangeShapes Go.WideShapes Go.ChangeAt
section
variable {H:Type} {enc:TypeId×Value→H} {P:Program} {W W':World}
theorem same_of(hx:Ext W.heap W'.heap){p:MemPlace}(hp:p.block<W.heap.size):W.sameAt W' p:=by
 have h:W'.heap[p.block]?=W.heap[p.block]?:=by
  obtain⟨o,h⟩: ∃o,W.heap[p.block]?=some o:=⟨_,Array.getElem?_eq_getElem hp⟩
  rw[hx _ o h,h]
 cases p with
 |cell b o=>exact World.cell?_of_block (w:=W) h
 |map b=>exact h
theorem trodAll_ext (hl : laidOutB P = true) (hx : Ext W.heap W'.heap) {sp : Nat → Bool} : ∀ {ts : List TypeId} {vs : List Value} {ds : List (DataW H)} {ps : List MemPlace}, (ts.all fun t => P.readableRec t && decide (t < P.types.size)) = true →
    DataW.TrodAll enc P W 0 (fun _ => true) true ts vs ds ps → (∀ x ∈ ps, x.block < W.heap.size) → (∀ x ∈ ps, sp x.block = true) → DataW.TrodAll enc P W' 0 sp true ts vs ds ps
  | [], vs, ds, ps, _, h, _, _ => by
    obtain ⟨rfl, rfl, rfl⟩ := trodAll_nil h
    exact trodAll_mk0
  | t :: ts, vs, ds, ps, hr, h, hlt, hs => by
    obtain ⟨v, vs1, d, ds1, a, b, rfl, rfl, rfl, h1, h2⟩ := trodAll_cons h
    simp only [List.all_cons, Bool.and_eq_true, decide_eq_true_eq] at hr
    exact trodAll_cons_mk (WideElems.Trod_stays hl hr.1.1 hr.1.2 h1 (fun x hx' => same_of hx (hlt x (List.mem_append_left _ hx'))) (fun x hx' => hs x (List.mem_append_left _ hx')))
      (trodAll_ext hl hx (by simpa using hr.2) h2 (fun x hx' => hlt x (List.mem_append_right _ hx')) (fun x hx' => hs x (List.mem_append_right _ hx')))
theorem post_same{f:Func}{s:ChangeSpec}{apart fresh handsOn again:Bool}{args:Array Value}{v:Value}{ds gs:List (DataW H)}{before pa pv:List MemPlace}
 (hW:DataW.Whole enc P f.params.toList s.vars apart W args.toList ds gs before)
 (hres: ∀(b:Nat) (sp:Nat→Bool) (hd:Bool),DataW.TrodAll enc P W' b sp hd f.resultTypes.toList (v.resultList f.resultTypes.size) (s.fn H (ds++gs)).results [])
 (hargs: ∀sp:Nat→Bool,(∀p∈before,sp p.block=true)→DataW.TrodAll enc P W' 0 sp true f.params.toList args.toList (s.fn H (ds++gs)).args pa)
 (hvars: ∀sp:Nat→Bool,(∀p∈before,sp p.block=true)→DataW.TrodVars enc P W' sp s.vars (s.fn H (ds++gs)).vars pv)
 (hps:before=pa++pv)(hk:W.keptBut W' (· ∈before))(hfz: ∀a,a.block<W.heap.size→W'.frozen? a=W.frozen? a)
 (hok: ∀(j:Nat) (t:TypeId) (r:Value),f.resultTypes[j]?=some t→(v.resultList f.resultTypes.size)[j]?=some r→Value.okWide P W' .any 0 t r):
 s.post enc P f apart fresh handsOn again W args v W':=by
 have hold: ∀p∈before,(fun b=>decide (b<W.heap.size)) p.block=true:=fun p hp=>by simpa using hW.lt p hp
 have hlt:=hW.lt
 refine⟨ds,gs,before,[],pa,pv,hW,hres _ _ _,hargs _ hold,hvars _ hold,World.keptBut_mono (fun p hp=>⟨hp,?_⟩) hk,fun _=>?_⟩
 ·rw[hps,List.mem_append] at hp
  exact Or.inr hp
 ·obtain⟨_,_,_,_,_,hz,hn⟩:=hW
  refine⟨hok,_,_,([]++pa)++pv,⟨[]++pa,pv,trodAll_append (hargs _ (fun _ _=>rfl)) (hres _ _ _),hvars _ (fun _ _=>rfl),rfl,?_,?_⟩,?_⟩
  ·intro b off hp
   have hp':(MemPlace.cell b off)∈before:=by rw[hps];simpa using hp
   rw[hfz _ (hlt _ hp')]
   exact hz b off hp'
  ·intro ha
   have:=hn ha
   rw[hps] at this
   simpa using this
  ·intro p hp _
   rw[hps]
   simpa using hp
theorem wf_range{a:Int}(h:(Lit.int .i64 a).wf=true): -9223372036854775808≤a∧a≤9223372036854775807:=by
 simpa[Lit.wf,IntKind.min,IntKind.max,IntKind.signed,IntKind.bits] using h
end
end Go.Sh
namespace Go.Sh
variable {P:Program}
def Mk(m:Option Nat)(a:Act):Prop:=a.defers=match m with
 |none=>[]
 |some D=>[{target:= .collected D,args:=#[]}]
theorem Mk.put{m:Option Nat}{a:Act}(h:Mk m a)(d:Option Tmp)(v:Value):Mk m (a.put d v):=by
 unfold Mk at*;rw[put_defers];exact h
end Go.Sh
namespace Go.Proofs
open Go.Sh
def Tryz.i0:TI:=⟨.tuple [],1,0,Value.tuple #[]⟩
theorem Tryz.tok0:TIok Tryz.prog 0 Tryz.i0:=⟨by kernel_rfl,by kernel_rfl⟩
def Tryz.i3:TI:=⟨.int .i64,1,8,Value.int .i64 0⟩
theorem Tryz.tok3:TIok Tryz.prog 3 Tryz.i3:=⟨by kernel_rfl,by kernel_rfl⟩
def Tryz.i4:TI:=⟨.bool,1,1,Value.bool false⟩
theorem Tryz.tok4:TIok Tryz.prog 4 Tryz.i4:=⟨by kernel_rfl,by kernel_rfl⟩
def Tryz.i5:TI:=⟨.int .u8,1,1,Value.int .u8 0⟩
theorem Tryz.tok5:TIok Tryz.prog 5 Tryz.i5:=⟨by kernel_rfl,by kernel_rfl⟩
def Tryz.i9:TI:=⟨.str,1,16,Value.string ByteArray.empty⟩
theorem Tryz.tok9:TIok Tryz.prog 9 Tryz.i9:=⟨by kernel_rfl,by kernel_rfl⟩
def Tryz.i23:TI:=⟨.ptr 53,1,8,Value.pointer none⟩
theorem Tryz.tok23:TIok Tryz.prog 23 Tryz.i23:=⟨by kernel_rfl,by kernel_rfl⟩
def Tryz.i25:TI:=⟨.ptr 68,1,8,Value.pointer none⟩
theorem Tryz.tok25:TIok Tryz.prog 25 Tryz.i25:=⟨by kernel_rfl,by kernel_rfl⟩
def Tryz.i26:TI:=⟨.int .i64,1,8,Value.int .i64 0⟩
theorem Tryz.tok26:TIok Tryz.prog 26 Tryz.i26:=⟨by kernel_rfl,by kernel_rfl⟩
def Tryz.i27:TI:=⟨.tuple [25,26],1,0,Value.tuple #[Value.pointer none,Value.int .i64 0]⟩
theorem Tryz.tok27:TIok Tryz.prog 27 Tryz.i27:=⟨by kernel_rfl,by kernel_rfl⟩
def Tryz.i30:TI:=⟨.struct [(0,3),(1,3),(2,3)],3,24,Value.agg #[Value.int .i64 0,Value.int .i64 0,Value.int .i64 0]⟩
theorem Tryz.tok30:TIok Tryz.prog 30 Tryz.i30:=⟨by kernel_rfl,by kernel_rfl⟩
def Tryz.i31:TI:=⟨.sl 3,1,24,Value.slice none 0 0⟩
theorem Tryz.tok31:TIok Tryz.prog 31 Tryz.i31:=⟨by kernel_rfl,by kernel_rfl⟩
def Tryz.i32:TI:=⟨.sl 5,1,24,Value.slice none 0 0⟩
theorem Tryz.tok32:TIok Tryz.prog 32 Tryz.i32:=⟨by kernel_rfl,by kernel_rfl⟩
def Tryz.i34:TI:=⟨.struct [(0,26),(1,31),(2,32)],3,56,Value.agg #[Value.int .i64 0,Value.slice none 0 0,Value.slice none 0 0]⟩
theorem Tryz.tok34:TIok Tryz.prog 34 Tryz.i34:=⟨by kernel_rfl,by kernel_rfl⟩
def Tryz.i36:TI:=⟨.sl 146,1,24,Value.slice none 0 0⟩
theorem Tryz.tok36:TIok Tryz.prog 36 Tryz.i36:=⟨by kernel_rfl,by kernel_rfl⟩
def Tryz.i38:TI:=⟨.arr 6 3,6,48,Value.agg #[Value.int .i64 0,Value.int .i64 0,Value.int .i64 0,Value.int .i64 0,Value.int .i64 0,Value.int .i64 0]⟩
theorem Tryz.tok38:TIok Tryz.prog 38 Tryz.i38:=⟨by kernel_rfl,by kernel_rfl⟩
def Tryz.i40:TI:=⟨.struct [(0,3),(1,3),(2,3),(3,3),(4,3),(5,3),(6,3),(7,3),(8,3),(9,3),(10,31),(11,36),(12,38),(18,31)],19,200,Value.agg #[Value.int .i64 0,Value.int .i64 0,Value.int .i64 0,Value.int .i64 0,Value.int .i64 0,Value.int .i64 0,Value.int .i64 0,Value.int .i64 0,Value.int .i64 0,Value.int .i64 0,Value.slice none 0 0,Value.slice none 0 0,Value.int .i64 0,Value.int .i64 0,Value.int .i64 0,Value.int .i64 0,Value.int .i64 0,Value.int .i64 0,Value.slice none 0 0]⟩
theorem Tryz.tok40:TIok Tryz.prog 40 Tryz.i40:=⟨by kernel_rfl,by kernel_rfl⟩
def Tryz.i42:TI:=⟨.struct [(0,3),(1,40),(20,3),(21,3),(22,3),(23,3),(24,3),(25,4)],26,256,Value.agg #[Value.int .i64 0,Value.int .i64 0,Value.int .i64 0,Value.int .i64 0,Value.int .i64 0,Value.int .i64 0,Value.int .i64 0,Value.int .i64 0,Value.int .i64 0,Value.int .i64 0,Value.int .i64 0,Value.slice none 0 0,Value.slice none 0 0,Value.int .i64 0,Value.int .i64 0,Value.int .i64 0,Value.int .i64 0,Value.int .i64 0,Value.int .i64 0,Value.slice none 0 0,Value.int .i64 0,Value.int .i64 0,Value.int .i64 0,Value.int .i64 0,Value.int .i64 0,Value.bool false]⟩
theorem Tryz.tok42:TIok Tryz.prog 42 Tryz.i42:=⟨by kernel_rfl,by kernel_rfl⟩
def Tryz.i44:TI:=⟨.sl 118,1,24,Value.slice none 0 0⟩
theorem Tryz.tok44:TIok Tryz.prog 44 Tryz.i44:=⟨by kernel_rfl,by kernel_rfl⟩
def Tryz.i46:TI:=⟨.struct [(0,3),(1,3),(2,3),(3,44)],4,48,Value.agg #[Value.int .i64 0,Value.int .i64 0,Value.int .i64 0,Value.slice none 0 0]⟩
theorem Tryz.tok46:TIok Tryz.prog 46 Tryz.i46:=⟨by kernel_rfl,by kernel_rfl⟩
def Tryz.i47:TI:=⟨.sl 46,1,24,Value.slice none 0 0⟩
theorem Tryz.tok47:TIok Tryz.prog 47 Tryz.i47:=⟨by kernel_rfl,by kernel_rfl⟩
def Tryz.i49:TI:=⟨.struct [(0,46),(4,47),(5,47)],6,96,Value.agg #[Value.int .i64 0,Value.int .i64 0,Value.int .i64 0,Value.slice none 0 0,Value.slice none 0 0,Value.slice none 0 0]⟩
theorem Tryz.tok49:TIok Tryz.prog 49 Tryz.i49:=⟨by kernel_rfl,by kernel_rfl⟩
def Tryz.i53:TI:=⟨.struct [(0,32),(1,3),(2,3),(3,3),(4,4)],5,56,Value.agg #[Value.slice none 0 0,Value.int .i64 0,Value.int .i64 0,Value.int .i64 0,Value.bool false]⟩
theorem Tryz.tok53:TIok Tryz.prog 53 Tryz.i53:=⟨by kernel_rfl,by kernel_rfl⟩
def Tryz.i54:TI:=⟨.tuple [32,26],1,0,Value.tuple #[Value.slice none 0 0,Value.int .i64 0]⟩
theorem Tryz.tok54:TIok Tryz.prog 54 Tryz.i54:=⟨by kernel_rfl,by kernel_rfl⟩
def Tryz.i57:TI:=⟨.ptr 84,1,8,Value.pointer none⟩
theorem Tryz.tok57:TIok Tryz.prog 57 Tryz.i57:=⟨by kernel_rfl,by kernel_rfl⟩
def Tryz.i58:TI:=⟨.sl 32,1,24,Value.slice none 0 0⟩
theorem Tryz.tok58:TIok Tryz.prog 58 Tryz.i58:=⟨by kernel_rfl,by kernel_rfl⟩
def Tryz.i59:TI:=⟨.tuple [57,58,26],1,0,Value.tuple #[Value.pointer none,Value.slice none 0 0,Value.int .i64 0]⟩
theorem Tryz.tok59:TIok Tryz.prog 59 Tryz.i59:=⟨by kernel_rfl,by kernel_rfl⟩
def Tryz.i61:TI:=⟨.ptr 115,1,8,Value.pointer none⟩
theorem Tryz.tok61:TIok Tryz.prog 61 Tryz.i61:=⟨by kernel_rfl,by kernel_rfl⟩
def Tryz.i62:TI:=⟨.ptr 101,1,8,Value.pointer none⟩
theorem Tryz.tok62:TIok Tryz.prog 62 Tryz.i62:=⟨by kernel_rfl,by kernel_rfl⟩
def Tryz.i63:TI:=⟨.ptr 110,1,8,Value.pointer none⟩
theorem Tryz.tok63:TIok Tryz.prog 63 Tryz.i63:=⟨by kernel_rfl,by kernel_rfl⟩
def Tryz.i65:TI:=⟨.map 3 133,1,8,Value.map none⟩
theorem Tryz.tok65:TIok Tryz.prog 65 Tryz.i65:=⟨by kernel_rfl,by kernel_rfl⟩
def Tryz.i66:TI:=⟨.sl 65,1,24,Value.slice none 0 0⟩
theorem Tryz.tok66:TIok Tryz.prog 66 Tryz.i66:=⟨by kernel_rfl,by kernel_rfl⟩
def Tryz.i68:TI:=⟨.struct [(0,30),(3,61),(4,62),(5,57),(6,63),(7,65),(8,66),(9,66)],10,112,Value.agg #[Value.int .i64 0,Value.int .i64 0,Value.int .i64 0,Value.pointer none,Value.pointer none,Value.pointer none,Value.pointer none,Value.map none,Value.slice none 0 0,Value.slice none 0 0]⟩
theorem Tryz.tok68:TIok Tryz.prog 68 Tryz.i68:=⟨by kernel_rfl,by kernel_rfl⟩
def Tryz.i71:TI:=⟨.fn,1,8,Value.nilFunc⟩
theorem Tryz.tok71:TIok Tryz.prog 71 Tryz.i71:=⟨by kernel_rfl,by kernel_rfl⟩
def Tryz.i73:TI:=⟨.tuple [31,26],1,0,Value.tuple #[Value.slice none 0 0,Value.int .i64 0]⟩
theorem Tryz.tok73:TIok Tryz.prog 73 Tryz.i73:=⟨by kernel_rfl,by kernel_rfl⟩
def Tryz.i77:TI:=⟨.tuple [46,26],1,0,Value.tuple #[Value.agg #[Value.int .i64 0,Value.int .i64 0,Value.int .i64 0,Value.slice none 0 0],Value.int .i64 0]⟩
theorem Tryz.tok77:TIok Tryz.prog 77 Tryz.i77:=⟨by kernel_rfl,by kernel_rfl⟩
def Tryz.i80:TI:=⟨.tuple [58,3],1,0,Value.tuple #[Value.slice none 0 0,Value.int .i64 0]⟩
theorem Tryz.tok80:TIok Tryz.prog 80 Tryz.i80:=⟨by kernel_rfl,by kernel_rfl⟩
def Tryz.i84:TI:=⟨.struct [(0,23),(1,4)],2,16,Value.agg #[Value.pointer none,Value.bool false]⟩
theorem Tryz.tok84:TIok Tryz.prog 84 Tryz.i84:=⟨by kernel_rfl,by kernel_rfl⟩
def Tryz.i85:TI:=⟨.int .u64,1,8,Value.int .u64 0⟩
theorem Tryz.tok85:TIok Tryz.prog 85 Tryz.i85:=⟨by kernel_rfl,by kernel_rfl⟩
def Tryz.i90:TI:=⟨.tuple [65,4],1,0,Value.tuple #[Value.map none,Value.bool false]⟩
theorem Tryz.tok90:TIok Tryz.prog 90 Tryz.i90:=⟨by kernel_rfl,by kernel_rfl⟩
def Tryz.i96:TI:=⟨.ptr 66,1,8,Value.pointer none⟩
theorem Tryz.tok96:TIok Tryz.prog 96 Tryz.i96:=⟨by kernel_rfl,by kernel_rfl⟩
def Tryz.i99:TI:=⟨.map 153 31,1,8,Value.map none⟩
theorem Tryz.tok99:TIok Tryz.prog 99 Tryz.i99:=⟨by kernel_rfl,by kernel_rfl⟩
def Tryz.i101:TI:=⟨.struct [(0,46),(4,99),(5,3)],6,64,Value.agg #[Value.int .i64 0,Value.int .i64 0,Value.int .i64 0,Value.slice none 0 0,Value.map none,Value.int .i64 0]⟩
theorem Tryz.tok101:TIok Tryz.prog 101 Tryz.i101:=⟨by kernel_rfl,by kernel_rfl⟩
def Tryz.i104:TI:=⟨.struct [(0,3),(1,3),(2,31)],3,40,Value.agg #[Value.int .i64 0,Value.int .i64 0,Value.slice none 0 0]⟩
theorem Tryz.tok104:TIok Tryz.prog 104 Tryz.i104:=⟨by kernel_rfl,by kernel_rfl⟩
def Tryz.i110:TI:=⟨.struct [(0,3)],1,8,Value.agg #[Value.int .i64 0]⟩
theorem Tryz.tok110:TIok Tryz.prog 110 Tryz.i110:=⟨by kernel_rfl,by kernel_rfl⟩
def Tryz.i113:TI:=⟨.struct [(0,47)],1,24,Value.agg #[Value.slice none 0 0]⟩
theorem Tryz.tok113:TIok Tryz.prog 113 Tryz.i113:=⟨by kernel_rfl,by kernel_rfl⟩
def Tryz.i115:TI:=⟨.struct [(0,46),(4,113),(5,113)],6,96,Value.agg #[Value.int .i64 0,Value.int .i64 0,Value.int .i64 0,Value.slice none 0 0,Value.slice none 0 0,Value.slice none 0 0]⟩
theorem Tryz.tok115:TIok Tryz.prog 115 Tryz.i115:=⟨by kernel_rfl,by kernel_rfl⟩
def Tryz.i118:TI:=⟨.struct [(0,3),(1,3),(2,4),(3,3),(4,3),(5,3),(6,3),(7,31),(8,32),(9,38),(15,4),(16,3),(17,31),(18,44)],19,216,Value.agg #[Value.int .i64 0,Value.int .i64 0,Value.bool false,Value.int .i64 0,Value.int .i64 0,Value.int .i64 0,Value.int .i64 0,Value.slice none 0 0,Value.slice none 0 0,Value.int .i64 0,Value.int .i64 0,Value.int .i64 0,Value.int .i64 0,Value.int .i64 0,Value.int .i64 0,Value.bool false,Value.int .i64 0,Value.slice none 0 0,Value.slice none 0 0]⟩
theorem Tryz.tok118:TIok Tryz.prog 118 Tryz.i118:=⟨by kernel_rfl,by kernel_rfl⟩
def Tryz.i126:TI:=⟨.ptr 118,1,8,Value.pointer none⟩
theorem Tryz.tok126:TIok Tryz.prog 126 Tryz.i126:=⟨by kernel_rfl,by kernel_rfl⟩
def Tryz.i128:TI:=⟨.ptr 46,1,8,Value.pointer none⟩
theorem Tryz.tok128:TIok Tryz.prog 128 Tryz.i128:=⟨by kernel_rfl,by kernel_rfl⟩
def Tryz.i130:TI:=⟨.struct [(0,126),(1,128),(2,40)],21,216,Value.agg #[Value.pointer none,Value.pointer none,Value.int .i64 0,Value.int .i64 0,Value.int .i64 0,Value.int .i64 0,Value.int .i64 0,Value.int .i64 0,Value.int .i64 0,Value.int .i64 0,Value.int .i64 0,Value.int .i64 0,Value.slice none 0 0,Value.slice none 0 0,Value.int .i64 0,Value.int .i64 0,Value.int .i64 0,Value.int .i64 0,Value.int .i64 0,Value.int .i64 0,Value.slice none 0 0]⟩
theorem Tryz.tok130:TIok Tryz.prog 130 Tryz.i130:=⟨by kernel_rfl,by kernel_rfl⟩
def Tryz.i131:TI:=⟨.fn,1,8,Value.nilFunc⟩
theorem Tryz.tok131:TIok Tryz.prog 131 Tryz.i131:=⟨by kernel_rfl,by kernel_rfl⟩
def Tryz.i132:TI:=⟨.sl 131,1,24,Value.slice none 0 0⟩
theorem Tryz.tok132:TIok Tryz.prog 132 Tryz.i132:=⟨by kernel_rfl,by kernel_rfl⟩
def Tryz.i133:TI:=⟨.ptr 203,1,8,Value.pointer none⟩
theorem Tryz.tok133:TIok Tryz.prog 133 Tryz.i133:=⟨by kernel_rfl,by kernel_rfl⟩
def Tryz.i136:TI:=⟨.tuple [133,26],1,0,Value.tuple #[Value.pointer none,Value.int .i64 0]⟩
theorem Tryz.tok136:TIok Tryz.prog 136 Tryz.i136:=⟨by kernel_rfl,by kernel_rfl⟩
def Tryz.i139:TI:=⟨.fn,1,8,Value.nilFunc⟩
theorem Tryz.tok139:TIok Tryz.prog 139 Tryz.i139:=⟨by kernel_rfl,by kernel_rfl⟩
def Tryz.i140:TI:=⟨.ptr 142,1,8,Value.pointer none⟩
theorem Tryz.tok140:TIok Tryz.prog 140 Tryz.i140:=⟨by kernel_rfl,by kernel_rfl⟩
def Tryz.i142:TI:=⟨.struct [(0,32)],1,24,Value.agg #[Value.slice none 0 0]⟩
theorem Tryz.tok142:TIok Tryz.prog 142 Tryz.i142:=⟨by kernel_rfl,by kernel_rfl⟩
def Tryz.i146:TI:=⟨.struct [(0,3),(1,3)],2,16,Value.agg #[Value.int .i64 0,Value.int .i64 0]⟩
theorem Tryz.tok146:TIok Tryz.prog 146 Tryz.i146:=⟨by kernel_rfl,by kernel_rfl⟩
def Tryz.i149:TI:=⟨.tuple [118,4],1,0,Value.tuple #[Value.agg #[Value.int .i64 0,Value.int .i64 0,Value.bool false,Value.int .i64 0,Value.int .i64 0,Value.int .i64 0,Value.int .i64 0,Value.slice none 0 0,Value.slice none 0 0,Value.int .i64 0,Value.int .i64 0,Value.int .i64 0,Value.int .i64 0,Value.int .i64 0,Value.int .i64 0,Value.bool false,Value.int .i64 0,Value.slice none 0 0,Value.slice none 0 0],Value.bool false]⟩
theorem Tryz.tok149:TIok Tryz.prog 149 Tryz.i149:=⟨by kernel_rfl,by kernel_rfl⟩
def Tryz.i153:TI:=⟨.arr 2 3,2,16,Value.agg #[Value.int .i64 0,Value.int .i64 0]⟩
theorem Tryz.tok153:TIok Tryz.prog 153 Tryz.i153:=⟨by kernel_rfl,by kernel_rfl⟩
def Tryz.i155:TI:=⟨.ptr 113,1,8,Value.pointer none⟩
theorem Tryz.tok155:TIok Tryz.prog 155 Tryz.i155:=⟨by kernel_rfl,by kernel_rfl⟩
def Tryz.i157:TI:=⟨.tuple [31,4],1,0,Value.tuple #[Value.slice none 0 0,Value.bool false]⟩
theorem Tryz.tok157:TIok Tryz.prog 157 Tryz.i157:=⟨by kernel_rfl,by kernel_rfl⟩
def Tryz.i162:TI:=⟨.fn,1,8,Value.nilFunc⟩
theorem Tryz.tok162:TIok Tryz.prog 162 Tryz.i162:=⟨by kernel_rfl,by kernel_rfl⟩
def Tryz.i164:TI:=⟨.arr 4 3,4,32,Value.agg #[Value.int .i64 0,Value.int .i64 0,Value.int .i64 0,Value.int .i64 0]⟩
theorem Tryz.tok164:TIok Tryz.prog 164 Tryz.i164:=⟨by kernel_rfl,by kernel_rfl⟩
def Tryz.i167:TI:=⟨.sl 170,1,24,Value.slice none 0 0⟩
theorem Tryz.tok167:TIok Tryz.prog 167 Tryz.i167:=⟨by kernel_rfl,by kernel_rfl⟩
def Tryz.i168:TI:=⟨.tuple [167,26],1,0,Value.tuple #[Value.slice none 0 0,Value.int .i64 0]⟩
theorem Tryz.tok168:TIok Tryz.prog 168 Tryz.i168:=⟨by kernel_rfl,by kernel_rfl⟩
def Tryz.i170:TI:=⟨.arr 64 3,64,512,Value.agg (Array.replicate 64 (Value.int .i64 0))⟩
theorem Tryz.tok170:TIok Tryz.prog 170 Tryz.i170:=⟨by kernel_rfl,by kernel_rfl⟩
def Tryz.i172:TI:=⟨.tuple [170,4],1,0,Value.tuple #[Value.agg (Array.replicate 64 (Value.int .i64 0)),Value.bool false]⟩
theorem Tryz.tok172:TIok Tryz.prog 172 Tryz.i172:=⟨by kernel_rfl,by kernel_rfl⟩
def Tryz.i175:TI:=⟨.sl 179,1,24,Value.slice none 0 0⟩
theorem Tryz.tok175:TIok Tryz.prog 175 Tryz.i175:=⟨by kernel_rfl,by kernel_rfl⟩
def Tryz.i177:TI:=⟨.arr 4 31,4,96,Value.agg #[Value.slice none 0 0,Value.slice none 0 0,Value.slice none 0 0,Value.slice none 0 0]⟩
theorem Tryz.tok177:TIok Tryz.prog 177 Tryz.i177:=⟨by kernel_rfl,by kernel_rfl⟩
def Tryz.i179:TI:=⟨.struct [(0,3),(1,3),(2,3),(3,3)],4,32,Value.agg #[Value.int .i64 0,Value.int .i64 0,Value.int .i64 0,Value.int .i64 0]⟩
theorem Tryz.tok179:TIok Tryz.prog 179 Tryz.i179:=⟨by kernel_rfl,by kernel_rfl⟩
def Tryz.i180:TI:=⟨.tuple [32,31,31],1,0,Value.tuple #[Value.slice none 0 0,Value.slice none 0 0,Value.slice none 0 0]⟩
theorem Tryz.tok180:TIok Tryz.prog 180 Tryz.i180:=⟨by kernel_rfl,by kernel_rfl⟩
def Tryz.i182:TI:=⟨.ptr 252,1,8,Value.pointer none⟩
theorem Tryz.tok182:TIok Tryz.prog 182 Tryz.i182:=⟨by kernel_rfl,by kernel_rfl⟩
def Tryz.i188:TI:=⟨.tuple [126,26],1,0,Value.tuple #[Value.pointer none,Value.int .i64 0]⟩
theorem Tryz.tok188:TIok Tryz.prog 188 Tryz.i188:=⟨by kernel_rfl,by kernel_rfl⟩
def Tryz.i191:TI:=⟨.tuple [126,126,3],1,0,Value.tuple #[Value.pointer none,Value.pointer none,Value.int .i64 0]⟩
theorem Tryz.tok191:TIok Tryz.prog 191 Tryz.i191:=⟨by kernel_rfl,by kernel_rfl⟩
def Tryz.i195:TI:=⟨.fn,1,8,Value.nilFunc⟩
theorem Tryz.tok195:TIok Tryz.prog 195 Tryz.i195:=⟨by kernel_rfl,by kernel_rfl⟩
def Tryz.i197:TI:=⟨.tuple [38,26],1,0,Value.tuple #[Value.agg #[Value.int .i64 0,Value.int .i64 0,Value.int .i64 0,Value.int .i64 0,Value.int .i64 0,Value.int .i64 0],Value.int .i64 0]⟩
theorem Tryz.tok197:TIok Tryz.prog 197 Tryz.i197:=⟨by kernel_rfl,by kernel_rfl⟩
def Tryz.i201:TI:=⟨.map 153 204,1,8,Value.map none⟩
theorem Tryz.tok201:TIok Tryz.prog 201 Tryz.i201:=⟨by kernel_rfl,by kernel_rfl⟩
def Tryz.i203:TI:=⟨.struct [(0,63),(1,3),(2,3),(3,201)],4,32,Value.agg #[Value.pointer none,Value.int .i64 0,Value.int .i64 0,Value.map none]⟩
theorem Tryz.tok203:TIok Tryz.prog 203 Tryz.i203:=⟨by kernel_rfl,by kernel_rfl⟩
def Tryz.i204:TI:=⟨.ptr 208,1,8,Value.pointer none⟩
theorem Tryz.tok204:TIok Tryz.prog 204 Tryz.i204:=⟨by kernel_rfl,by kernel_rfl⟩
def Tryz.i205:TI:=⟨.int .u32,1,4,Value.int .u32 0⟩
theorem Tryz.tok205:TIok Tryz.prog 205 Tryz.i205:=⟨by kernel_rfl,by kernel_rfl⟩
def Tryz.i206:TI:=⟨.arr 256 205,256,1024,Value.agg (Array.replicate 256 (Value.int .u32 0))⟩
theorem Tryz.tok206:TIok Tryz.prog 206 Tryz.i206:=⟨by kernel_rfl,by kernel_rfl⟩
def Tryz.i208:TI:=⟨.struct [(0,206),(256,3)],257,1032,Value.agg (Array.replicate 256 (Value.int .u32 0)++#[Value.int .i64 0])⟩
theorem Tryz.tok208:TIok Tryz.prog 208 Tryz.i208:=⟨by kernel_rfl,by kernel_rfl⟩
def Tryz.i210:TI:=⟨.tuple [153,3],1,0,Value.tuple #[Value.agg #[Value.int .i64 0,Value.int .i64 0],Value.int .i64 0]⟩
theorem Tryz.tok210:TIok Tryz.prog 210 Tryz.i210:=⟨by kernel_rfl,by kernel_rfl⟩
def Tryz.i213:TI:=⟨.int .u64,1,8,Value.int .u64 0⟩
theorem Tryz.tok213:TIok Tryz.prog 213 Tryz.i213:=⟨by kernel_rfl,by kernel_rfl⟩
def Tryz.i214:TI:=⟨.tuple [3,3,4],1,0,Value.tuple #[Value.int .i64 0,Value.int .i64 0,Value.bool false]⟩
theorem Tryz.tok214:TIok Tryz.prog 214 Tryz.i214:=⟨by kernel_rfl,by kernel_rfl⟩
def Tryz.i216:TI:=⟨.tuple [46,4],1,0,Value.tuple #[Value.agg #[Value.int .i64 0,Value.int .i64 0,Value.int .i64 0,Value.slice none 0 0],Value.bool false]⟩
theorem Tryz.tok216:TIok Tryz.prog 216 Tryz.i216:=⟨by kernel_rfl,by kernel_rfl⟩
def Tryz.i219:TI:=⟨.sl 261,1,24,Value.slice none 0 0⟩
theorem Tryz.tok219:TIok Tryz.prog 219 Tryz.i219:=⟨by kernel_rfl,by kernel_rfl⟩
def Tryz.i222:TI:=⟨.struct [(0,182)],1,8,Value.agg #[Value.pointer none]⟩
theorem Tryz.tok222:TIok Tryz.prog 222 Tryz.i222:=⟨by kernel_rfl,by kernel_rfl⟩
def Tryz.i225:TI:=⟨.struct [(0,31),(1,31),(2,31),(3,31)],4,96,Value.agg #[Value.slice none 0 0,Value.slice none 0 0,Value.slice none 0 0,Value.slice none 0 0]⟩
theorem Tryz.tok225:TIok Tryz.prog 225 Tryz.i225:=⟨by kernel_rfl,by kernel_rfl⟩
def Tryz.i227:TI:=⟨.tuple [31,31],1,0,Value.tuple #[Value.slice none 0 0,Value.slice none 0 0]⟩
theorem Tryz.tok227:TIok Tryz.prog 227 Tryz.i227:=⟨by kernel_rfl,by kernel_rfl⟩
def Tryz.i231:TI:=⟨.struct [(0,46),(4,3),(5,3),(6,3),(7,3)],8,80,Value.agg #[Value.int .i64 0,Value.int .i64 0,Value.int .i64 0,Value.slice none 0 0,Value.int .i64 0,Value.int .i64 0,Value.int .i64 0,Value.int .i64 0]⟩
theorem Tryz.tok231:TIok Tryz.prog 231 Tryz.i231:=⟨by kernel_rfl,by kernel_rfl⟩
def Tryz.i237:TI:=⟨.struct [(0,3),(1,3),(2,31)],3,40,Value.agg #[Value.int .i64 0,Value.int .i64 0,Value.slice none 0 0]⟩
theorem Tryz.tok237:TIok Tryz.prog 237 Tryz.i237:=⟨by kernel_rfl,by kernel_rfl⟩
def Tryz.i238:TI:=⟨.arr 3 237,9,120,Value.agg #[Value.int .i64 0,Value.int .i64 0,Value.slice none 0 0,Value.int .i64 0,Value.int .i64 0,Value.slice none 0 0,Value.int .i64 0,Value.int .i64 0,Value.slice none 0 0]⟩
theorem Tryz.tok238:TIok Tryz.prog 238 Tryz.i238:=⟨by kernel_rfl,by kernel_rfl⟩
def Tryz.i240:TI:=⟨.sl 243,1,24,Value.slice none 0 0⟩
theorem Tryz.tok240:TIok Tryz.prog 240 Tryz.i240:=⟨by kernel_rfl,by kernel_rfl⟩
def Tryz.i243:TI:=⟨.struct [(0,3),(1,3),(2,3)],3,24,Value.agg #[Value.int .i64 0,Value.int .i64 0,Value.int .i64 0]⟩
theorem Tryz.tok243:TIok Tryz.prog 243 Tryz.i243:=⟨by kernel_rfl,by kernel_rfl⟩
def Tryz.i246:TI:=⟨.arr 3 3,3,24,Value.agg #[Value.int .i64 0,Value.int .i64 0,Value.int .i64 0]⟩
theorem Tryz.tok246:TIok Tryz.prog 246 Tryz.i246:=⟨by kernel_rfl,by kernel_rfl⟩
def Tryz.i247:TI:=⟨.tuple [3,3],1,0,Value.tuple #[Value.int .i64 0,Value.int .i64 0]⟩
theorem Tryz.tok247:TIok Tryz.prog 247 Tryz.i247:=⟨by kernel_rfl,by kernel_rfl⟩
def Tryz.i248:TI:=⟨.fn,1,8,Value.nilFunc⟩
theorem Tryz.tok248:TIok Tryz.prog 248 Tryz.i248:=⟨by kernel_rfl,by kernel_rfl⟩
def Tryz.i252:TI:=⟨.struct [(0,32),(1,3),(2,4)],3,40,Value.agg #[Value.slice none 0 0,Value.int .i64 0,Value.bool false]⟩
theorem Tryz.tok252:TIok Tryz.prog 252 Tryz.i252:=⟨by kernel_rfl,by kernel_rfl⟩
def Tryz.i261:TI:=⟨.struct [(0,3),(1,3),(2,5)],3,24,Value.agg #[Value.int .i64 0,Value.int .i64 0,Value.int .u8 0]⟩
theorem Tryz.tok261:TIok Tryz.prog 261 Tryz.i261:=⟨by kernel_rfl,by kernel_rfl⟩
def Tryz.i262:TI:=⟨.ptr 264,1,8,Value.pointer none⟩
theorem Tryz.tok262:TIok Tryz.prog 262 Tryz.i262:=⟨by kernel_rfl,by kernel_rfl⟩
def Tryz.i264:TI:=⟨.struct [(0,32),(1,31),(2,31)],3,72,Value.agg #[Value.slice none 0 0,Value.slice none 0 0,Value.slice none 0 0]⟩
theorem Tryz.tok264:TIok Tryz.prog 264 Tryz.i264:=⟨by kernel_rfl,by kernel_rfl⟩
def Tryz.i267:TI:=⟨.tuple [3,3,3],1,0,Value.tuple #[Value.int .i64 0,Value.int .i64 0,Value.int .i64 0]⟩
theorem Tryz.tok267:TIok Tryz.prog 267 Tryz.i267:=⟨by kernel_rfl,by kernel_rfl⟩
def Tryz.i280:TI:=⟨.fn,1,8,Value.nilFunc⟩
theorem Tryz.tok280:TIok Tryz.prog 280 Tryz.i280:=⟨by kernel_rfl,by kernel_rfl⟩
def Tryz.i284:TI:=⟨.arr 8 3,8,64,Value.agg #[Value.int .i64 0,Value.int .i64 0,Value.int .i64 0,Value.int .i64 0,Value.int .i64 0,Value.int .i64 0,Value.int .i64 0,Value.int .i64 0]⟩
theorem Tryz.tok284:TIok Tryz.prog 284 Tryz.i284:=⟨by kernel_rfl,by kernel_rfl⟩
def Tryz.i285:TI:=⟨.arr 8 284,64,512,Value.agg (Array.replicate 64 (Value.int .i64 0))⟩
theorem Tryz.tok285:TIok Tryz.prog 285 Tryz.i285:=⟨by kernel_rfl,by kernel_rfl⟩
def Tryz.i288:TI:=⟨.sl 31,1,24,Value.slice none 0 0⟩
theorem Tryz.tok288:TIok Tryz.prog 288 Tryz.i288:=⟨by kernel_rfl,by kernel_rfl⟩
def Tryz.i290:TI:=⟨.sl 292,1,24,Value.slice none 0 0⟩
theorem Tryz.tok290:TIok Tryz.prog 290 Tryz.i290:=⟨by kernel_rfl,by kernel_rfl⟩
def Tryz.i292:TI:=⟨.struct [(0,3),(1,31)],2,32,Value.agg #[Value.int .i64 0,Value.slice none 0 0]⟩
theorem Tryz.tok292:TIok Tryz.prog 292 Tryz.i292:=⟨by kernel_rfl,by kernel_rfl⟩
def Tryz.i294:TI:=⟨.fn,1,8,Value.nilFunc⟩
theorem Tryz.tok294:TIok Tryz.prog 294 Tryz.i294:=⟨by kernel_rfl,by kernel_rfl⟩
def Tryz.i297:TI:=⟨.tuple [3,4],1,0,Value.tuple #[Value.int .i64 0,Value.bool false]⟩
theorem Tryz.tok297:TIok Tryz.prog 297 Tryz.i297:=⟨by kernel_rfl,by kernel_rfl⟩
def Tryz.i302:TI:=⟨.sl 36,1,24,Value.slice none 0 0⟩
theorem Tryz.tok302:TIok Tryz.prog 302 Tryz.i302:=⟨by kernel_rfl,by kernel_rfl⟩
def Tryz.i303:TI:=⟨.cpl .f64,1,16,Value.complex .f64 0 0⟩
theorem Tryz.tok303:TIok Tryz.prog 303 Tryz.i303:=⟨by kernel_rfl,by kernel_rfl⟩
def Tryz.i304:TI:=⟨.flt .f64,1,8,Value.float .f64 0⟩
theorem Tryz.tok304:TIok Tryz.prog 304 Tryz.i304:=⟨by kernel_rfl,by kernel_rfl⟩
def Tryz.i312:TI:=⟨.tuple [85,85],1,0,Value.tuple #[Value.int .u64 0,Value.int .u64 0]⟩
theorem Tryz.tok312:TIok Tryz.prog 312 Tryz.i312:=⟨by kernel_rfl,by kernel_rfl⟩
def Tryz.i320:TI:=⟨.tuple [213,213],1,0,Value.tuple #[Value.int .u64 0,Value.int .u64 0]⟩
theorem Tryz.tok320:TIok Tryz.prog 320 Tryz.i320:=⟨by kernel_rfl,by kernel_rfl⟩
def Tryz.i324:TI:=⟨.sl 290,1,24,Value.slice none 0 0⟩
theorem Tryz.tok324:TIok Tryz.prog 324 Tryz.i324:=⟨by kernel_rfl,by kernel_rfl⟩
def Tryz.i326:TI:=⟨.arr 4 164,16,128,Value.agg #[Value.int .i64 0,Value.int .i64 0,Value.int .i64 0,Value.int .i64 0,Value.int .i64 0,Value.int .i64 0,Value.int .i64 0,Value.int .i64 0,Value.int .i64 0,Value.int .i64 0,Value.int .i64 0,Value.int .i64 0,Value.int .i64 0,Value.int .i64 0,Value.int .i64 0,Value.int .i64 0]⟩
theorem Tryz.tok326:TIok Tryz.prog 326 Tryz.i326:=⟨by kernel_rfl,by kernel_rfl⟩
def Tryz.i327:TI:=⟨.arr 9 3,9,72,Value.agg #[Value.int .i64 0,Value.int .i64 0,Value.int .i64 0,Value.int .i64 0,Value.int .i64 0,Value.int .i64 0,Value.int .i64 0,Value.int .i64 0,Value.int .i64 0]⟩
theorem Tryz.tok327:TIok Tryz.prog 327 Tryz.i327:=⟨by kernel_rfl,by kernel_rfl⟩
def Tryz.tab:Tab:=[(0,Tryz.i0),(3,Tryz.i3),(4,Tryz.i4),(5,Tryz.i5),(9,Tryz.i9),(23,Tryz.i23),(25,Tryz.i25),(26,Tryz.i26),(27,Tryz.i27),(30,Tryz.i30),(31,Tryz.i31),(32,Tryz.i32),(34,Tryz.i34),(36,Tryz.i36),(38,Tryz.i38),(40,Tryz.i40),(42,Tryz.i42),(44,Tryz.i44),(46,Tryz.i46),(47,Tryz.i47),(49,Tryz.i49),(53,Tryz.i53),(54,Tryz.i54),(57,Tryz.i57),(58,Tryz.i58),(59,Tryz.i59),(61,Tryz.i61),(62,Tryz.i62),(63,Tryz.i63),(65,Tryz.i65),(66,Tryz.i66),(68,Tryz.i68),(71,Tryz.i71),(73,Tryz.i73),(77,Tryz.i77),(80,Tryz.i80),(84,Tryz.i84),(85,Tryz.i85),(90,Tryz.i90),(96,Tryz.i96),(99,Tryz.i99),(101,Tryz.i101),(104,Tryz.i104),(110,Tryz.i110),(113,Tryz.i113),(115,Tryz.i115),(118,Tryz.i118),(126,Tryz.i126),(128,Tryz.i128),(130,Tryz.i130),(131,Tryz.i131),(132,Tryz.i132),(133,Tryz.i133),(136,Tryz.i136),(139,Tryz.i139),(140,Tryz.i140),(142,Tryz.i142),(146,Tryz.i146),(149,Tryz.i149),(153,Tryz.i153),(155,Tryz.i155),(157,Tryz.i157),(162,Tryz.i162),(164,Tryz.i164),(167,Tryz.i167),(168,Tryz.i168),(170,Tryz.i170),(172,Tryz.i172),(175,Tryz.i175),(177,Tryz.i177),(179,Tryz.i179),(180,Tryz.i180),(182,Tryz.i182),(188,Tryz.i188),(191,Tryz.i191),(195,Tryz.i195),(197,Tryz.i197),(201,Tryz.i201),(203,Tryz.i203),(204,Tryz.i204),(205,Tryz.i205),(206,Tryz.i206),(208,Tryz.i208),(210,Tryz.i210),(213,Tryz.i213),(214,Tryz.i214),(216,Tryz.i216),(219,Tryz.i219),(222,Tryz.i222),(225,Tryz.i225),(227,Tryz.i227),(231,Tryz.i231),(237,Tryz.i237),(238,Tryz.i238),(240,Tryz.i240),(243,Tryz.i243),(246,Tryz.i246),(247,Tryz.i247),(248,Tryz.i248),(252,Tryz.i252),(261,Tryz.i261),(262,Tryz.i262),(264,Tryz.i264),(267,Tryz.i267),(280,Tryz.i280),(284,Tryz.i284),(285,Tryz.i285),(288,Tryz.i288),(290,Tryz.i290),(292,Tryz.i292),(294,Tryz.i294),(297,Tryz.i297),(302,Tryz.i302),(303,Tryz.i303),(304,Tryz.i304),(312,Tryz.i312),(320,Tryz.i320),(324,Tryz.i324),(326,Tryz.i326),(327,Tryz.i327)]
theorem Tryz.tab_ok:TabOk Tryz.prog Tryz.tab:=by
 unfold TabOk Tryz.tab
 simp only[List.forall_mem_cons]
 exact⟨Tryz.tok0,Tryz.tok3,Tryz.tok4,Tryz.tok5,Tryz.tok9,Tryz.tok23,Tryz.tok25,Tryz.tok26,Tryz.tok27,Tryz.tok30,Tryz.tok31,Tryz.tok32,Tryz.tok34,Tryz.tok36,Tryz.tok38,Tryz.tok40,Tryz.tok42,Tryz.tok44,Tryz.tok46,Tryz.tok47,Tryz.tok49,Tryz.tok53,Tryz.tok54,Tryz.tok57,Tryz.tok58,Tryz.tok59,Tryz.tok61,Tryz.tok62,Tryz.tok63,Tryz.tok65,Tryz.tok66,Tryz.tok68,Tryz.tok71,Tryz.tok73,Tryz.tok77,Tryz.tok80,Tryz.tok84,Tryz.tok85,Tryz.tok90,Tryz.tok96,Tryz.tok99,Tryz.tok101,Tryz.tok104,Tryz.tok110,Tryz.tok113,Tryz.tok115,Tryz.tok118,Tryz.tok126,Tryz.tok128,Tryz.tok130,Tryz.tok131,Tryz.tok132,Tryz.tok133,Tryz.tok136,Tryz.tok139,Tryz.tok140,Tryz.tok142,Tryz.tok146,Tryz.tok149,Tryz.tok153,Tryz.tok155,Tryz.tok157,Tryz.tok162,Tryz.tok164,Tryz.tok167,Tryz.tok168,Tryz.tok170,Tryz.tok172,Tryz.tok175,Tryz.tok177,Tryz.tok179,Tryz.tok180,Tryz.tok182,Tryz.tok188,Tryz.tok191,Tryz.tok195,Tryz.tok197,Tryz.tok201,Tryz.tok203,Tryz.tok204,Tryz.tok205,Tryz.tok206,Tryz.tok208,Tryz.tok210,Tryz.tok213,Tryz.tok214,Tryz.tok216,Tryz.tok219,Tryz.tok222,Tryz.tok225,Tryz.tok227,Tryz.tok231,Tryz.tok237,Tryz.tok238,Tryz.tok240,Tryz.tok243,Tryz.tok246,Tryz.tok247,Tryz.tok248,Tryz.tok252,Tryz.tok261,Tryz.tok262,Tryz.tok264,Tryz.tok267,Tryz.tok280,Tryz.tok284,Tryz.tok285,Tryz.tok288,Tryz.tok290,Tryz.tok292,Tryz.tok294,Tryz.tok297,Tryz.tok302,Tryz.tok303,Tryz.tok304,Tryz.tok312,Tryz.tok320,Tryz.tok324,Tryz.tok326,Tryz.tok327,fun _ h=>by cases h⟩
abbrev Tryz.C:=CallsH Tryz.prog
theorem Tryz.mixed:Tryz.prog.follows .mixedOrders=true:=by kernel_rfl
theorem Tryz.cal3:callable Tryz.prog 3:=⟨Tryz.f3,Tryz.func3,by kernel_rfl,by kernel_rfl⟩
theorem Tryz.cal4:callable Tryz.prog 4:=⟨Tryz.f4,Tryz.func4,by kernel_rfl,by kernel_rfl⟩
theorem Tryz.cal5:callable Tryz.prog 5:=⟨Tryz.f5,Tryz.func5,by kernel_rfl,by kernel_rfl⟩
theorem Tryz.cal6:callable Tryz.prog 6:=⟨Tryz.f6,Tryz.func6,by kernel_rfl,by kernel_rfl⟩
theorem Tryz.cal7:callable Tryz.prog 7:=⟨Tryz.f7,Tryz.func7,by kernel_rfl,by kernel_rfl⟩
theorem Tryz.cal8:callable Tryz.prog 8:=⟨Tryz.f8,Tryz.func8,by kernel_rfl,by kernel_rfl⟩
theorem Tryz.cal9:callable Tryz.prog 9:=⟨Tryz.f9,Tryz.func9,by kernel_rfl,by kernel_rfl⟩
theorem Tryz.cal10:callable Tryz.prog 10:=⟨Tryz.f10,Tryz.func10,by kernel_rfl,by kernel_rfl⟩
theorem Tryz.cal11:callable Tryz.prog 11:=⟨Tryz.f11,Tryz.func11,by kernel_rfl,by kernel_rfl⟩
theorem Tryz.cal12:callable Tryz.prog 12:=⟨Tryz.f12,Tryz.func12,by kernel_rfl,by kernel_rfl⟩
theorem Tryz.cal13:callable Tryz.prog 13:=⟨Tryz.f13,Tryz.func13,by kernel_rfl,by kernel_rfl⟩
theorem Tryz.cal14:callable Tryz.prog 14:=⟨Tryz.f14,Tryz.func14,by kernel_rfl,by kernel_rfl⟩
theorem Tryz.cal15:callable Tryz.prog 15:=⟨Tryz.f15,Tryz.func15,by kernel_rfl,by kernel_rfl⟩
theorem Tryz.cal16:callable Tryz.prog 16:=⟨Tryz.f16,Tryz.func16,by kernel_rfl,by kernel_rfl⟩
theorem Tryz.cal17:callable Tryz.prog 17:=⟨Tryz.f17,Tryz.func17,by kernel_rfl,by kernel_rfl⟩
theorem Tryz.cal18:callable Tryz.prog 18:=⟨Tryz.f18,Tryz.func18,by kernel_rfl,by kernel_rfl⟩
theorem Tryz.cal19:callable Tryz.prog 19:=⟨Tryz.f19,Tryz.func19,by kernel_rfl,by kernel_rfl⟩
theorem Tryz.cal24:callable Tryz.prog 24:=⟨Tryz.f24,Tryz.func24,by kernel_rfl,by kernel_rfl⟩
theorem Tryz.cal25:callable Tryz.prog 25:=⟨Tryz.f25,Tryz.func25,by kernel_rfl,by kernel_rfl⟩
theorem Tryz.cal26:callable Tryz.prog 26:=⟨Tryz.f26,Tryz.func26,by kernel_rfl,by kernel_rfl⟩
theorem Tryz.cal27:callable Tryz.prog 27:=⟨Tryz.f27,Tryz.func27,by kernel_rfl,by kernel_rfl⟩
theorem Tryz.cal28:callable Tryz.prog 28:=⟨Tryz.f28,Tryz.func28,by kernel_rfl,by kernel_rfl⟩
theorem Tryz.cal29:callable Tryz.prog 29:=⟨Tryz.f29,Tryz.func29,by kernel_rfl,by kernel_rfl⟩
theorem Tryz.cal30:callable Tryz.prog 30:=⟨Tryz.f30,Tryz.func30,by kernel_rfl,by kernel_rfl⟩
theorem Tryz.cal32:callable Tryz.prog 32:=⟨Tryz.f32,Tryz.func32,by kernel_rfl,by kernel_rfl⟩
theorem Tryz.cal33:callable Tryz.prog 33:=⟨Tryz.f33,Tryz.func33,by kernel_rfl,by kernel_rfl⟩
theorem Tryz.cal34:callable Tryz.prog 34:=⟨Tryz.f34,Tryz.func34,by kernel_rfl,by kernel_rfl⟩
theorem Tryz.cal35:callable Tryz.prog 35:=⟨Tryz.f35,Tryz.func35,by kernel_rfl,by kernel_rfl⟩
theorem Tryz.cal36:callable Tryz.prog 36:=⟨Tryz.f36,Tryz.func36,by kernel_rfl,by kernel_rfl⟩
theorem Tryz.cal37:callable Tryz.prog 37:=⟨Tryz.f37,Tryz.func37,by kernel_rfl,by kernel_rfl⟩
theorem Tryz.cal38:callable Tryz.prog 38:=⟨Tryz.f38,Tryz.func38,by kernel_rfl,by kernel_rfl⟩
theorem Tryz.cal39:callable Tryz.prog 39:=⟨Tryz.f39,Tryz.func39,by kernel_rfl,by kernel_rfl⟩
theorem Tryz.cal40:callable Tryz.prog 40:=⟨Tryz.f40,Tryz.func40,by kernel_rfl,by kernel_rfl⟩
theorem Tryz.cal41:callable Tryz.prog 41:=⟨Tryz.f41,Tryz.func41,by kernel_rfl,by kernel_rfl⟩
theorem Tryz.cal42:callable Tryz.prog 42:=⟨Tryz.f42,Tryz.func42,by kernel_rfl,by kernel_rfl⟩
theorem Tryz.cal43:callable Tryz.prog 43:=⟨Tryz.f43,Tryz.func43,by kernel_rfl,by kernel_rfl⟩
theorem Tryz.cal44:callable Tryz.prog 44:=⟨Tryz.f44,Tryz.func44,by kernel_rfl,by kernel_rfl⟩
theorem Tryz.cal45:callable Tryz.prog 45:=⟨Tryz.f45,Tryz.func45,by kernel_rfl,by kernel_rfl⟩
theorem Tryz.cal46:callable Tryz.prog 46:=⟨Tryz.f46,Tryz.func46,by kernel_rfl,by kernel_rfl⟩
theorem Tryz.cal56:callable Tryz.prog 56:=⟨Tryz.f56,Tryz.func56,by kernel_rfl,by kernel_rfl⟩
theorem Tryz.cal57:callable Tryz.prog 57:=⟨Tryz.f57,Tryz.func57,by kernel_rfl,by kernel_rfl⟩
theorem Tryz.cal58:callable Tryz.prog 58:=⟨Tryz.f58,Tryz.func58,by kernel_rfl,by kernel_rfl⟩
theorem Tryz.cal59:callable Tryz.prog 59:=⟨Tryz.f59,Tryz.func59,by kernel_rfl,by kernel_rfl⟩
theorem Tryz.cal60:callable Tryz.prog 60:=⟨Tryz.f60,Tryz.func60,by kernel_rfl,by kernel_rfl⟩
theorem Tryz.cal62:callable Tryz.prog 62:=⟨Tryz.f62,Tryz.func62,by kernel_rfl,by kernel_rfl⟩
theorem Tryz.cal63:callable Tryz.prog 63:=⟨Tryz.f63,Tryz.func63,by kernel_rfl,by kernel_rfl⟩
theorem Tryz.cal64:callable Tryz.prog 64:=⟨Tryz.f64,Tryz.func64,by kernel_rfl,by kernel_rfl⟩
theorem Tryz.cal65:callable Tryz.prog 65:=⟨Tryz.f65,Tryz.func65,by kernel_rfl,by kernel_rfl⟩
theorem Tryz.cal66:callable Tryz.prog 66:=⟨Tryz.f66,Tryz.func66,by kernel_rfl,by kernel_rfl⟩
theorem Tryz.cal67:callable Tryz.prog 67:=⟨Tryz.f67,Tryz.func67,by kernel_rfl,by kernel_rfl⟩
theorem Tryz.cal68:callable Tryz.prog 68:=⟨Tryz.f68,Tryz.func68,by kernel_rfl,by kernel_rfl⟩
theorem Tryz.cal69:callable Tryz.prog 69:=⟨Tryz.f69,Tryz.func69,by kernel_rfl,by kernel_rfl⟩
theorem Tryz.cal70:callable Tryz.prog 70:=⟨Tryz.f70,Tryz.func70,by kernel_rfl,by kernel_rfl⟩
theorem Tryz.cal71:callable Tryz.prog 71:=⟨Tryz.f71,Tryz.func71,by kernel_rfl,by kernel_rfl⟩
theorem Tryz.cal72:callable Tryz.prog 72:=⟨Tryz.f72,Tryz.func72,by kernel_rfl,by kernel_rfl⟩
theorem Tryz.cal73:callable Tryz.prog 73:=⟨Tryz.f73,Tryz.func73,by kernel_rfl,by kernel_rfl⟩
theorem Tryz.cal74:callable Tryz.prog 74:=⟨Tryz.f74,Tryz.func74,by kernel_rfl,by kernel_rfl⟩
theorem Tryz.cal75:callable Tryz.prog 75:=⟨Tryz.f75,Tryz.func75,by kernel_rfl,by kernel_rfl⟩
theorem Tryz.cal76:callable Tryz.prog 76:=⟨Tryz.f76,Tryz.func76,by kernel_rfl,by kernel_rfl⟩
theorem Tryz.cal77:callable Tryz.prog 77:=⟨Tryz.f77,Tryz.func77,by kernel_rfl,by kernel_rfl⟩
theorem Tryz.cal78:callable Tryz.prog 78:=⟨Tryz.f78,Tryz.func78,by kernel_rfl,by kernel_rfl⟩
theorem Tryz.cal79:callable Tryz.prog 79:=⟨Tryz.f79,Tryz.func79,by kernel_rfl,by kernel_rfl⟩
theorem Tryz.cal80:callable Tryz.prog 80:=⟨Tryz.f80,Tryz.func80,by kernel_rfl,by kernel_rfl⟩
theorem Tryz.cal81:callable Tryz.prog 81:=⟨Tryz.f81,Tryz.func81,by kernel_rfl,by kernel_rfl⟩
theorem Tryz.cal82:callable Tryz.prog 82:=⟨Tryz.f82,Tryz.func82,by kernel_rfl,by kernel_rfl⟩
theorem Tryz.cal83:callable Tryz.prog 83:=⟨Tryz.f83,Tryz.func83,by kernel_rfl,by kernel_rfl⟩
theorem Tryz.cal84:callable Tryz.prog 84:=⟨Tryz.f84,Tryz.func84,by kernel_rfl,by kernel_rfl⟩
theorem Tryz.cal85:callable Tryz.prog 85:=⟨Tryz.f85,Tryz.func85,by kernel_rfl,by kernel_rfl⟩
theorem Tryz.cal86:callable Tryz.prog 86:=⟨Tryz.f86,Tryz.func86,by kernel_rfl,by kernel_rfl⟩
theorem Tryz.cal87:callable Tryz.prog 87:=⟨Tryz.f87,Tryz.func87,by kernel_rfl,by kernel_rfl⟩
theorem Tryz.cal88:callable Tryz.prog 88:=⟨Tryz.f88,Tryz.func88,by kernel_rfl,by kernel_rfl⟩
theorem Tryz.cal89:callable Tryz.prog 89:=⟨Tryz.f89,Tryz.func89,by kernel_rfl,by kernel_rfl⟩
theorem Tryz.cal90:callable Tryz.prog 90:=⟨Tryz.f90,Tryz.func90,by kernel_rfl,by kernel_rfl⟩
theorem Tryz.cal91:callable Tryz.prog 91:=⟨Tryz.f91,Tryz.func91,by kernel_rfl,by kernel_rfl⟩
theorem Tryz.cal103:callable Tryz.prog 103:=⟨Tryz.f103,Tryz.func103,by kernel_rfl,by kernel_rfl⟩
theorem Tryz.cal114:callable Tryz.prog 114:=⟨Tryz.f114,Tryz.func114,by kernel_rfl,by kernel_rfl⟩
theorem Tryz.cal115:callable Tryz.prog 115:=⟨Tryz.f115,Tryz.func115,by kernel_rfl,by kernel_rfl⟩
theorem Tryz.cal116:callable Tryz.prog 116:=⟨Tryz.f116,Tryz.func116,by kernel_rfl,by kernel_rfl⟩
theorem Tryz.cal117:callable Tryz.prog 117:=⟨Tryz.f117,Tryz.func117,by kernel_rfl,by kernel_rfl⟩
theorem Tryz.cal118:callable Tryz.prog 118:=⟨Tryz.f118,Tryz.func118,by kernel_rfl,by kernel_rfl⟩
theorem Tryz.cal119:callable Tryz.prog 119:=⟨Tryz.f119,Tryz.func119,by kernel_rfl,by kernel_rfl⟩
theorem Tryz.cal120:callable Tryz.prog 120:=⟨Tryz.f120,Tryz.func120,by kernel_rfl,by kernel_rfl⟩
theorem Tryz.cal121:callable Tryz.prog 121:=⟨Tryz.f121,Tryz.func121,by kernel_rfl,by kernel_rfl⟩
theorem Tryz.cal122:callable Tryz.prog 122:=⟨Tryz.f122,Tryz.func122,by kernel_rfl,by kernel_rfl⟩
theorem Tryz.cal123:callable Tryz.prog 123:=⟨Tryz.f123,Tryz.func123,by kernel_rfl,by kernel_rfl⟩
theorem Tryz.cal124:callable Tryz.prog 124:=⟨Tryz.f124,Tryz.func124,by kernel_rfl,by kernel_rfl⟩
theorem Tryz.cal125:callable Tryz.prog 125:=⟨Tryz.f125,Tryz.func125,by kernel_rfl,by kernel_rfl⟩
theorem Tryz.cal126:callable Tryz.prog 126:=⟨Tryz.f126,Tryz.func126,by kernel_rfl,by kernel_rfl⟩
theorem Tryz.cal127:callable Tryz.prog 127:=⟨Tryz.f127,Tryz.func127,by kernel_rfl,by kernel_rfl⟩
theorem Tryz.cal128:callable Tryz.prog 128:=⟨Tryz.f128,Tryz.func128,by kernel_rfl,by kernel_rfl⟩
theorem Tryz.cal129:callable Tryz.prog 129:=⟨Tryz.f129,Tryz.func129,by kernel_rfl,by kernel_rfl⟩
theorem Tryz.cal130:callable Tryz.prog 130:=⟨Tryz.f130,Tryz.func130,by kernel_rfl,by kernel_rfl⟩
theorem Tryz.cal131:callable Tryz.prog 131:=⟨Tryz.f131,Tryz.func131,by kernel_rfl,by kernel_rfl⟩
theorem Tryz.cal132:callable Tryz.prog 132:=⟨Tryz.f132,Tryz.func132,by kernel_rfl,by kernel_rfl⟩
theorem Tryz.cal133:callable Tryz.prog 133:=⟨Tryz.f133,Tryz.func133,by kernel_rfl,by kernel_rfl⟩
theorem Tryz.cal134:callable Tryz.prog 134:=⟨Tryz.f134,Tryz.func134,by kernel_rfl,by kernel_rfl⟩
theorem Tryz.cal135:callable Tryz.prog 135:=⟨Tryz.f135,Tryz.func135,by kernel_rfl,by kernel_rfl⟩
theorem Tryz.cal136:callable Tryz.prog 136:=⟨Tryz.f136,Tryz.func136,by kernel_rfl,by kernel_rfl⟩
theorem Tryz.cal162:callable Tryz.prog 162:=⟨Tryz.f162,Tryz.func162,by kernel_rfl,by kernel_rfl⟩
theorem Tryz.cal163:callable Tryz.prog 163:=⟨Tryz.f163,Tryz.func163,by kernel_rfl,by kernel_rfl⟩
theorem Tryz.cal164:callable Tryz.prog 164:=⟨Tryz.f164,Tryz.func164,by kernel_rfl,by kernel_rfl⟩
theorem Tryz.cal165:callable Tryz.prog 165:=⟨Tryz.f165,Tryz.func165,by kernel_rfl,by kernel_rfl⟩
theorem Tryz.cal166:callable Tryz.prog 166:=⟨Tryz.f166,Tryz.func166,by kernel_rfl,by kernel_rfl⟩
theorem Tryz.cal167:callable Tryz.prog 167:=⟨Tryz.f167,Tryz.func167,by kernel_rfl,by kernel_rfl⟩
theorem Tryz.cal168:callable Tryz.prog 168:=⟨Tryz.f168,Tryz.func168,by kernel_rfl,by kernel_rfl⟩
theorem Tryz.cal169:callable Tryz.prog 169:=⟨Tryz.f169,Tryz.func169,by kernel_rfl,by kernel_rfl⟩
theorem Tryz.cal170:callable Tryz.prog 170:=⟨Tryz.f170,Tryz.func170,by kernel_rfl,by kernel_rfl⟩
theorem Tryz.cal171:callable Tryz.prog 171:=⟨Tryz.f171,Tryz.func171,by kernel_rfl,by kernel_rfl⟩
theorem Tryz.cal207:callable Tryz.prog 207:=⟨Tryz.f207,Tryz.func207,by kernel_rfl,by kernel_rfl⟩
theorem Tryz.cal208:callable Tryz.prog 208:=⟨Tryz.f208,Tryz.func208,by kernel_rfl,by kernel_rfl⟩
theorem Tryz.cal209:callable Tryz.prog 209:=⟨Tryz.f209,Tryz.func209,by kernel_rfl,by kernel_rfl⟩
theorem Tryz.cal210:callable Tryz.prog 210:=⟨Tryz.f210,Tryz.func210,by kernel_rfl,by kernel_rfl⟩
end Go.Proofs
namespace Go.Proofs
open Go.Sh Go.Sh.Plan
open Go.IntKind (wrap)
open Int (toNat)
def Tryz.S3(n1 un2:Int)(H:Heap)(R:Kv):Prop:=
 Tryz.C 4 #[] H fun r3 H4=> ∃r5,r3= .bool r5∧br (!r5)
 (R (.bool false) H4)
 (∀J6:Kl,(∀H7,(Tryz.C 5 #[.int .i64 65536] H7 fun r8 H9=> ∃r10,r8= .pointer r10∧br (Option.isNone r10) (R (.bool false) H9) (Tryz.C 6 #[.pointer r10,.agg #[.int .i64 3,.int .i64 3,.int .i64 0]] H9 fun r11 H12=> ∃r13 r14,r11= .tuple #[.pointer r13,.int .i64 r14]∧ ∀J15:Kl,(∀H16,(∀X17:Kl,(∀(k18:Int) H19,(br (decide (k18<n1)) ((3:Int)≠0∧#[Value.int .i64 1,Value.int .i64 0,Value.int .i64 0,Value.int .i64 (-1:Int),Value.int .i64 (Int.tmod k18 3),Value.int .i64 0,Value.int .i64 0,Value.int .i64 0,Value.int .i64 20,Value.int .i64 20,Value.slice none 0 0,Value.slice none 0 0,Value.int .i64 0,Value.int .i64 0,Value.int .i64 0,Value.int .i64 0,Value.int .i64 0,Value.int .i64 0,Value.slice none 0 0].size=19∧1+19≤26∧Tryz.C 7 #[.pointer r13,.agg (List.toArray (setL [.int .i64 1,.int .i64 0,.int .i64 0,.int .i64 0,.int .i64 0,.int .i64 0,.int .i64 0,.int .i64 0,.int .i64 0,.int .i64 0,.int .i64 0,.slice none 0 0,.slice none 0 0,.int .i64 0,.int .i64 0,.int .i64 0,.int .i64 0,.int .i64 0,.int .i64 0,.slice none 0 0,.int .i64 0,.int .i64 0,.int .i64 0,.int .i64 0,.int .i64 0,.bool false] 1 (Array.toList #[.int .i64 1,.int .i64 0,.int .i64 0,.int .i64 (-1:Int),.int .i64 (Int.tmod k18 3),.int .i64 0,.int .i64 0,.int .i64 0,.int .i64 20,.int .i64 20,.slice none 0 0,.slice none 0 0,.int .i64 0,.int .i64 0,.int .i64 0,.int .i64 0,.int .i64 0,.int .i64 0,.slice none 0 0])))] H19 fun r20 H21=> ∃r22,r20= .agg r22∧ ∃E23,r22[0]?=some (.int .i64 E23)∧br (E23 != 0) (R (.bool false) H21) (X17 [.int .i64 (wrap .i64 (k18+1))] H21)) ((wrap .i64 (n1+1))≠0∧ ∀X24:Kl,(∀(t25:Int) H26,(br (decide (t25<(Int.tmod un2 (wrap .i64 (n1+1))))) (Tryz.C 7 #[.pointer r13,.agg #[.int .i64 2,.int .i64 0,.int .i64 0,.int .i64 0,.int .i64 0,.int .i64 0,.int .i64 0,.int .i64 0,.int .i64 0,.int .i64 0,.int .i64 0,.slice none 0 0,.slice none 0 0,.int .i64 0,.int .i64 0,.int .i64 0,.int .i64 0,.int .i64 0,.int .i64 0,.slice none 0 0,.int .i64 0,.int .i64 0,.int .i64 0,.int .i64 0,.int .i64 0,.bool false]] H26 fun r27 H28=> ∃r29,r27= .agg r29∧ ∃E30,r29[0]?=some (.int .i64 E30)∧br (E30 != 0) (R (.bool false) H28) (X24 [.int .i64 (wrap .i64 (t25+1))] H28)) (Tryz.C 8 #[.pointer r13] H26 fun r31 H32=> ∃r33,r31= .int .i64 r33∧br (r33==0) ((wrap .i64 (n1+1))≠0∧Tryz.C 9 #[.pointer r13] H32 fun r34 H35=> ∃r36,r34= .agg r36∧Tryz.C 10 #[.agg (Array.extract r36 0 (0+4))] H35 fun r37 H38=> ∃r39,r37= .int .i64 r39∧R (.bool (r39==(wrap .i64 (n1-(Int.tmod un2 (wrap .i64 (n1+1))))))) H38) (R (.bool false) H32)))→X24 [.int .i64 t25] H26)→X24 [.int .i64 0] H19))→X17 [.int .i64 k18] H19)→X17 [.int .i64 0] H16)→J15 [] H16)→br (r14 != 0) (R (.bool false) H12) (br (Option.isNone r13) (R (.bool false) H12) (J15 [] H12))))→J6 [] H7)→br (decide (n1<0)) (R (.bool true) H4) (br (decide (n1>12)) (R (.bool true) H4) (br (decide (un2<0)) (R (.bool true) H4) (J6 [] H4))))
def Tryz.p3:Plan:=(tl (tg (two (join [] [0,1] g0) (tl (tg (tl (two (join [] [0,1,6] g0) (two (tl (one (loop [(37,3)] [0,1,6,36] (tl (two (tl leaf) (two (one (tl g0)) leaf)))))) (two (tl (one (loop [(53,3)] [0,1,6,52] (tl (two (tl leaf) (two (one g0) leaf)))))) (tl leaf))))))))))
theorem Tryz.s3{n1 un2:Int}{H R}(h:Tryz.S3 n1 un2 H R):Tryz.C 3 #[.int .i64 n1,.int .i64 un2] H R:=vcs Tryz.tab_ok Tryz.mixed Tryz.func3 Tryz.cal3 Tryz.p3 h (by kernel_rfl)
def Tryz.S4(H:Heap)(R:Kv):Prop:=
 Tryz.C 5 #[.int .i64 1000] H fun r1 H2=> ∃r3,r1= .pointer r3∧br (Option.isNone r3)
 (R (.bool false) H2)
 (Tryz.C 6 #[.pointer r3,.agg #[.int .i64 4,.int .i64 4,.int .i64 1]] H2 fun r4 H5=> ∃r6 r7,r4= .tuple #[.pointer r6,.int .i64 r7]∧ ∀J8:Kl,(∀H9,(#[Value.int .i64 1,Value.int .i64 0,Value.int .i64 0,Value.int .i64 (-1:Int),Value.int .i64 0,Value.int .i64 0,Value.int .i64 0,Value.int .i64 0,Value.int .i64 4,Value.int .i64 4,Value.slice none 0 0,Value.slice none 0 0,Value.int .i64 0,Value.int .i64 0,Value.int .i64 0,Value.int .i64 0,Value.int .i64 0,Value.int .i64 0,Value.slice none 0 0].size=19∧1+19≤26∧Tryz.C 7 #[.pointer r6,.agg (List.toArray (setL [.int .i64 1,.int .i64 0,.int .i64 0,.int .i64 0,.int .i64 0,.int .i64 0,.int .i64 0,.int .i64 0,.int .i64 0,.int .i64 0,.int .i64 0,.slice none 0 0,.slice none 0 0,.int .i64 0,.int .i64 0,.int .i64 0,.int .i64 0,.int .i64 0,.int .i64 0,.slice none 0 0,.int .i64 0,.int .i64 0,.int .i64 0,.int .i64 0,.int .i64 0,.bool false] 1 (Array.toList #[.int .i64 1,.int .i64 0,.int .i64 0,.int .i64 (-1:Int),.int .i64 0,.int .i64 0,.int .i64 0,.int .i64 0,.int .i64 4,.int .i64 4,.slice none 0 0,.slice none 0 0,.int .i64 0,.int .i64 0,.int .i64 0,.int .i64 0,.int .i64 0,.int .i64 0,.slice none 0 0])))] H9 fun r10 H11=> ∃r12,r10= .agg r12∧alc H11 (.cells #[.int .i64 0,.slice none 0 0,.slice none 0 0] 34) fun b13 H14=>r12.size=3∧stAt H14 ⟨b13,0,none⟩ r12.toList fun H15=>alc H15 (.cells #[.int .i64 255] 3) fun b16 H17=>#[Value.int .i64 4,Value.int .i64 1,Value.int .i64 0,Value.int .i64 0,Value.int .i64 0,Value.int .i64 0,Value.int .i64 0,Value.int .i64 0,Value.int .i64 1,Value.int .i64 1,Value.slice (some ⟨b16,0,none⟩) 1 1,Value.slice none 0 0,Value.int .i64 0,Value.int .i64 0,Value.int .i64 0,Value.int .i64 0,Value.int .i64 0,Value.int .i64 0,Value.slice none 0 0].size=19∧1+19≤26∧Tryz.C 7 #[.pointer r6,.agg (List.toArray (setL [.int .i64 1,.int .i64 0,.int .i64 0,.int .i64 0,.int .i64 0,.int .i64 0,.int .i64 0,.int .i64 0,.int .i64 0,.int .i64 0,.int .i64 0,.slice none 0 0,.slice none 0 0,.int .i64 0,.int .i64 0,.int .i64 0,.int .i64 0,.int .i64 0,.int .i64 0,.slice none 0 0,.int .i64 0,.int .i64 0,.int .i64 0,.int .i64 0,.int .i64 0,.bool false] 1 (Array.toList #[.int .i64 4,.int .i64 1,.int .i64 0,.int .i64 0,.int .i64 0,.int .i64 0,.int .i64 0,.int .i64 0,.int .i64 1,.int .i64 1,.slice (some ⟨b16,0,none⟩) 1 1,.slice none 0 0,.int .i64 0,.int .i64 0,.int .i64 0,.int .i64 0,.int .i64 0,.int .i64 0,.slice none 0 0])))] H17 fun r18 H19=> ∃r20,r18= .agg r20∧alc H19 (.cells #[.int .i64 0,.slice none 0 0,.slice none 0 0] 34) fun b21 H22=>r20.size=3∧stAt H22 ⟨b21,0,none⟩ r20.toList fun H23=>alc H23 (.cells #[.int .i64 255] 3) fun b24 H25=>#[Value.int .i64 4,Value.int .i64 1,Value.int .i64 0,Value.int .i64 0,Value.int .i64 0,Value.int .i64 0,Value.int .i64 1,Value.int .i64 0,Value.int .i64 1,Value.int .i64 1,Value.slice (some ⟨b24,0,none⟩) 1 1,Value.slice none 0 0,Value.int .i64 0,Value.int .i64 0,Value.int .i64 0,Value.int .i64 0,Value.int .i64 0,Value.int .i64 0,Value.slice none 0 0].size=19∧1+19≤26∧Tryz.C 7 #[.pointer r6,.agg (List.toArray (setL [.int .i64 1,.int .i64 0,.int .i64 0,.int .i64 0,.int .i64 0,.int .i64 0,.int .i64 0,.int .i64 0,.int .i64 0,.int .i64 0,.int .i64 0,.slice none 0 0,.slice none 0 0,.int .i64 0,.int .i64 0,.int .i64 0,.int .i64 0,.int .i64 0,.int .i64 0,.slice none 0 0,.int .i64 0,.int .i64 0,.int .i64 0,.int .i64 0,.int .i64 0,.bool false] 1 (Array.toList #[.int .i64 4,.int .i64 1,.int .i64 0,.int .i64 0,.int .i64 0,.int .i64 0,.int .i64 1,.int .i64 0,.int .i64 1,.int .i64 1,.slice (some ⟨b24,0,none⟩) 1 1,.slice none 0 0,.int .i64 0,.int .i64 0,.int .i64 0,.int .i64 0,.int .i64 0,.int .i64 0,.slice none 0 0])))] H25 fun r26 H27=> ∃r28,r26= .agg r28∧alc H27 (.cells #[.int .i64 0,.slice none 0 0,.slice none 0 0] 34) fun b29 H30=>r28.size=3∧stAt H30 ⟨b29,0,none⟩ r28.toList fun H31=> ∃E32,cell H31 (.add ⟨b13,0,none⟩ 0)=some (.int .i64 E32)∧br (E32==0) (∃E33,cell H31 (.add ⟨b21,0,none⟩ 0)=some (.int .i64 E33)∧br (E33==0) (∃E34,cell H31 (.add ⟨b29,0,none⟩ 0)=some (.int .i64 E34)∧br (E34==30) (Tryz.C 8 #[.pointer r6] H31 fun r35 H36=> ∃r37,r35= .int .i64 r37∧R (.bool (r37==0)) H36) (R (.bool false) H31)) (R (.bool false) H31)) (R (.bool false) H31))→J8 [] H9)→br (r7 != 0) (R (.bool false) H5) (br (Option.isNone r6) (R (.bool false) H5) (J8 [] H5)))
def Tryz.p4:Plan:=(tl (tl (tg (tl (two (join [] [2] g0) (tl (tl (tl (tl leaf)))))))))
theorem Tryz.s4{_u:Unit}{H R}(h:Tryz.S4 H R):Tryz.C 4 #[] H R:=vcs Tryz.tab_ok Tryz.mixed Tryz.func4 Tryz.cal4 Tryz.p4 h (by kernel_rfl)
def Tryz.S5(ca1:Int)(H:Heap)(R:Kv):Prop:=
 br (decide (ca1<0)) (R (.pointer none) H) (br (decide (ca1>16777216)) (R (.pointer none) H) (alc H (.cells #[.slice none 0 0,.int .i64 ca1,.int .i64 0,.int .i64 (-1:Int),.bool false] 53) fun b2 H3=>R (.pointer (some ⟨b2,0,none⟩)) H3))
def Tryz.p5:Plan:=(tl (tg (tl leaf)))
theorem Tryz.s5{ca1:Int}{H R}(h:Tryz.S5 ca1 H R):Tryz.C 5 #[.int .i64 ca1] H R:=vcs Tryz.tab_ok Tryz.mixed Tryz.func5 Tryz.cal5 Tryz.p5 h (by kernel_rfl)
def Tryz.S6(r1:OA)(c2:AV)(H:Heap)(R:Kv):Prop:=
 alc H (.cells c2 30) fun b3 H4=>Tryz.C 11 #[.pointer r1,.int .i64 0,.int .i64 0] H4 fun r5 H6=> ∃r7p r7l r7c r8,r5= .tuple #[.slice r7p r7l r7c,.int .i64 r8]∧br (r8 != 0)
 (R (.tuple #[.pointer none,.int .i64 r8]) H6)
 (Tryz.C 12 #[.pointer r1] H6 fun r9 H10=> ∃r11,r9= .int .i64 r11∧br (decide (r11>0)) (R (.tuple #[.pointer none,.int .i64 25]) H10) (∃v12,v12.size=3∧rowIn H10 ⟨b3,0,none⟩ v12∧Tryz.C 13 #[.agg v12] H10 fun r13 H14=> ∃r15 r16,r13= .tuple #[.pointer r15,.int .i64 r16]∧br (r16 != 0) (R (.tuple #[.pointer none,.int .i64 r16]) H14) (Tryz.C 14 #[.pointer r1] H14 fun r17 H18=> ∃r19 r20p r20l r20c r21,r17= .tuple #[.pointer r19,.slice r20p r20l r20c,.int .i64 r21]∧ ∃a22,r15=some a22∧stAt H18 (.add a22 5) [.pointer r19] fun H23=>br (r21 != 0) (R (.tuple #[.pointer none,.int .i64 r21]) H23) (alc H23 (.cells #[.int .u8 0] 5) fun b24 H25=> ∃W26,cell H25 (.add ⟨b3,0,none⟩ 0)=some (.int .i64 W26)∧Tryz.C 15 #[.int .i64 W26] H25 fun r27 H28=> ∃r29p r29l r29c,r27= .slice r29p r29l r29c∧appQ 1 1 #[.int .u8 0] H28 (some ⟨b24,0,none⟩) 1 1 r29p r29l 5 fun fi30p fi30l fi30c H31=> ∃H32,cell H31 (.add ⟨b3,0,none⟩ 1)=some (.int .i64 H32)∧ ∃Ti33,cell H31 (.add ⟨b3,0,none⟩ 2)=some (.int .i64 Ti33)∧Tryz.C 15 #[.int .i64 H32] H31 fun r34 H35=> ∃r36p r36l r36c,r34= .slice r36p r36l r36c∧(Ext H31 H35∨(∃Ti55,cell H35 (.add ⟨b3,0,none⟩ 2)=some (.int .i64 Ti55)∧Value.int .i64 Ti55= .int .i64 Ti33))∧appQ 1 1 #[.int .u8 0] H35 fi30p fi30l fi30c r36p r36l 5 fun ap37p ap37l ap37c H38=>(Ext H35 H38∨(∃Ti54,cell H38 (.add ⟨b3,0,none⟩ 2)=some (.int .i64 Ti54)∧Value.int .i64 Ti54= .int .i64 Ti33))∧Tryz.C 15 #[.int .i64 Ti33] H38 fun r39 H40=> ∃r41p r41l r41c,r39= .slice r41p r41l r41c∧appQ 1 1 #[.int .u8 0] H40 ap37p ap37l ap37c r41p r41l 5 fun fi42p fi42l fi42c H43=> ∃a44,r15=some a44∧ ∃j45,cell H43 (.add a44 5)=some (.pointer j45)∧Tryz.C 16 #[.pointer j45,.slice fi42p fi42l fi42c] H43 fun r46 H47=> ∃e48,r46= .int .i64 e48∧br (e48 != 0) (R (.tuple #[.pointer none,.int .i64 e48]) H47) (∃a49,r15=some a49∧ ∃j50,cell H47 (.add a49 5)=some (.pointer j50)∧Tryz.C 17 #[.pointer j50] H47 fun r51 H52=> ∃e53,r51= .int .i64 e53∧br (e53 != 0) (R (.tuple #[.pointer none,.int .i64 e53]) H52) (R (.tuple #[.pointer r15,.int .i64 0]) H52))))))
def Tryz.p6:Plan:=(tl (two (tl g0) (tg (tl (tg (two (tl g0) (tl (tl (two (tl g0) (two (tl g0) (tl leaf)))))))))))
theorem Tryz.s6{r1:OA}{c2:AV}{H R}(h:Tryz.S6 r1 c2 H R):Tryz.C 6 #[.pointer r1,.agg c2] H R:=vcs Tryz.tab_ok Tryz.mixed Tryz.func6 Tryz.cal6 Tryz.p6 h (by kernel_rfl)
def Tryz.S7(x1:OA)(c2:AV)(H:Heap)(R:Kv):Prop:=
 alc H (.cells c2 42) fun b3 H4=>alc H4 (.cells #[.int .i64 0,.slice none 0 0,.slice none 0 0] 34) fun b5 H6=> ∃Ki7,cell H6 (.add ⟨b3,0,none⟩ 0)=some (.int .i64 Ki7)∧br (Ki7==1)
 (∃Ed8,Ed8.size=19∧rowIn H6 (.add ⟨b3,0,none⟩ 1) Ed8∧Tryz.C 18 #[.pointer x1,.agg Ed8] H6 fun r9 H10=> ∃r11,r9= .int .i64 r11∧#[Value.int .i64 r11,Value.slice none 0 0,Value.slice none 0 0].size=3∧stAt H10 ⟨b5,0,none⟩ (Array.toList #[.int .i64 r11,.slice none 0 0,.slice none 0 0]) fun H12=> ∃re13,re13.size=3∧rowIn H12 ⟨b5,0,none⟩ re13∧R (.agg re13) H12)
 (br (Ki7==2) (Tryz.C 19 #[.pointer x1] H6 fun r14 H15=> ∃r16,r14= .int .i64 r16∧#[Value.int .i64 r16,Value.slice none 0 0,Value.slice none 0 0].size=3∧stAt H15 ⟨b5,0,none⟩ (Array.toList #[.int .i64 r16,.slice none 0 0,.slice none 0 0]) fun H17=> ∃re18,re18.size=3∧rowIn H17 ⟨b5,0,none⟩ re18∧R (.agg re18) H17) (br (Ki7==3) (Tryz.C 20 #[.pointer x1] H6 fun r19 H20=> ∃r21,r19= .int .i64 r21∧#[Value.int .i64 r21,Value.slice none 0 0,Value.slice none 0 0].size=3∧stAt H20 ⟨b5,0,none⟩ (Array.toList #[.int .i64 r21,.slice none 0 0,.slice none 0 0]) fun H22=> ∃re23,re23.size=3∧rowIn H22 ⟨b5,0,none⟩ re23∧R (.agg re23) H22) (br (Ki7==4) (∃a24,x1=some a24∧ ∃j25,cell H6 (.add a24 5)=some (.pointer j25)∧Tryz.C 17 #[.pointer j25] H6 fun r26 H27=> ∃r28,r26= .int .i64 r28∧#[Value.int .i64 r28,Value.slice none 0 0,Value.slice none 0 0].size=3∧stAt H27 ⟨b5,0,none⟩ (Array.toList #[.int .i64 r28,.slice none 0 0,.slice none 0 0]) fun H29=> ∃re30,re30.size=3∧rowIn H29 ⟨b5,0,none⟩ re30∧R (.agg re30) H29) (br (Ki7==5) (Tryz.C 21 #[.pointer x1] H6 fun r31 H32=> ∃r33,r31= .int .i64 r33∧#[Value.int .i64 r33,Value.slice none 0 0,Value.slice none 0 0].size=3∧stAt H32 ⟨b5,0,none⟩ (Array.toList #[.int .i64 r33,.slice none 0 0,.slice none 0 0]) fun H34=> ∃re35,re35.size=3∧rowIn H34 ⟨b5,0,none⟩ re35∧R (.agg re35) H34) (br (Ki7==6) (∃a36,x1=some a36∧ ∃l37,cell H6 (.add a36 4)=some (.pointer l37)∧ ∃X38,cell H6 (.add ⟨b3,0,none⟩ 20)=some (.int .i64 X38)∧ ∃Y39,cell H6 (.add ⟨b3,0,none⟩ 21)=some (.int .i64 Y39)∧ ∃W40,cell H6 (.add ⟨b3,0,none⟩ 22)=some (.int .i64 W40)∧ ∃H41,cell H6 (.add ⟨b3,0,none⟩ 23)=some (.int .i64 H41)∧Tryz.C 22 #[.pointer l37,.int .i64 X38,.int .i64 Y39,.int .i64 W40,.int .i64 H41] H6 fun r42 H43=> ∃r44p r44l r44c r45,r42= .tuple #[.slice r44p r44l r44c,.int .i64 r45]∧#[Value.int .i64 r45,Value.slice r44p r44l r44c,Value.slice none 0 0].size=3∧stAt H43 ⟨b5,0,none⟩ (Array.toList #[.int .i64 r45,.slice r44p r44l r44c,.slice none 0 0]) fun H46=> ∃re47,re47.size=3∧rowIn H46 ⟨b5,0,none⟩ re47∧R (.agg re47) H46) (br (Ki7==7) (∃v48,v48.size=26∧rowIn H6 ⟨b3,0,none⟩ v48∧Tryz.C 23 #[.pointer x1,.agg v48] H6 fun r49 H50=> ∃r51,r49= .agg r51∧r51.size=3∧stAt H50 ⟨b5,0,none⟩ r51.toList fun H52=> ∃re53,re53.size=3∧rowIn H52 ⟨b5,0,none⟩ re53∧R (.agg re53) H52) (br (Ki7==8) (∃v54,v54.size=26∧rowIn H6 ⟨b3,0,none⟩ v54∧Tryz.C 23 #[.pointer x1,.agg v54] H6 fun r55 H56=> ∃r57,r55= .agg r57∧r57.size=3∧stAt H56 ⟨b5,0,none⟩ r57.toList fun H58=> ∃re59,re59.size=3∧rowIn H58 ⟨b5,0,none⟩ re59∧R (.agg re59) H58) (#[Value.int .i64 61,Value.slice none 0 0,Value.slice none 0 0].size=3∧stAt H6 ⟨b5,0,none⟩ (Array.toList #[.int .i64 61,.slice none 0 0,.slice none 0 0]) fun H60=> ∃re61,re61.size=3∧rowIn H60 ⟨b5,0,none⟩ re61∧R (.agg re61) H60))))))))
def Tryz.p7:Plan:=(tl (two (tl (one (tl (two (tl leaf) (tl (two (tl leaf) (tl (two (tl leaf) (tl (two (tl leaf) (tl (two (tl leaf) (tl (two (tl (tl leaf)) (two (tl (tl leaf)) (two (tl leaf) leaf)))))))))))))))) (tl leaf)))
theorem Tryz.s7{x1:OA}{c2:AV}{H R}(h:Tryz.S7 x1 c2 H R):Tryz.C 7 #[.pointer x1,.agg c2] H R:=vcs Tryz.tab_ok Tryz.mixed Tryz.func7 Tryz.cal7 Tryz.p7 h (by kernel_rfl)
def Tryz.S8(x1:OA)(H:Heap)(R:Kv):Prop:=
 ∃a2,x1=some a2∧ ∃ar3,cell H (.add a2 6)=some (.pointer ar3)∧Tryz.C 24 #[.pointer ar3] H fun r4 H5=> ∃r6,r4= .int .i64 r6∧R (.int .i64 r6) H5
def Tryz.p8:Plan:=(tl (tl leaf))
theorem Tryz.s8{x1:OA}{H R}(h:Tryz.S8 x1 H R):Tryz.C 8 #[.pointer x1] H R:=vcs Tryz.tab_ok Tryz.mixed Tryz.func8 Tryz.cal8 Tryz.p8 h (by kernel_rfl)
def Tryz.S9(x1:OA)(H:Heap)(R:Kv):Prop:=
 alc H (.cells #[.int .i64 0,.int .i64 0,.int .i64 0,.slice none 0 0,.slice none 0 0,.slice none 0 0] 49) fun b2 H3=> ∃a4,x1=some a4∧ ∃h5,cell H3 (.add a4 3)=some (.pointer h5)∧Tryz.C 25 #[.pointer h5] H3 fun r6 H7=> ∃r8,r6= .agg r8∧r8.size=6∧stAt H7 ⟨b2,0,none⟩ r8.toList fun H9=> ∃re10,re10.size=6∧rowIn H9 ⟨b2,0,none⟩ re10∧R (.agg re10) H9
def Tryz.p9:Plan:=(tl (tl leaf))
theorem Tryz.s9{x1:OA}{H R}(h:Tryz.S9 x1 H R):Tryz.C 9 #[.pointer x1] H R:=vcs Tryz.tab_ok Tryz.mixed Tryz.func9 Tryz.cal9 Tryz.p9 h (by kernel_rfl)
def Tryz.S10(d1:AV)(H:Heap)(R:Kv):Prop:=
 alc H (.cells d1 46) fun b2 H3=> ∃Ki4p Ki4l Ki4c,cell H3 (.add ⟨b2,0,none⟩ 3)=some (.slice Ki4p Ki4l Ki4c)∧Tryz.C 26 #[.slice Ki4p Ki4l Ki4c] H3 fun r5 H6=> ∃r7,r5= .int .i64 r7∧R (.int .i64 r7) H6
def Tryz.p10:Plan:=(tl (tl leaf))
theorem Tryz.s10{d1:AV}{H R}(h:Tryz.S10 d1 H R):Tryz.C 10 #[.agg d1] H R:=vcs Tryz.tab_ok Tryz.mixed Tryz.func10 Tryz.cal10 Tryz.p10 h (by kernel_rfl)
def Tryz.S11(r1:OA)(at_2 n3:Int)(H:Heap)(R:Kv):Prop:=
 ∀J4:Kl,(∀H5,(∃a6,r1=some a6∧ ∃b7p b7l b7c,cell H5 (.add a6 0)=some (.slice b7p b7l b7c)∧0≤(wrap .i64 (at_2+n3))∧(wrap .i64 (at_2+n3))≤(b7c:Int)∧0≤at_2∧at_2≤(wrap .i64 (at_2+n3))∧Tryz.C 27 #[.slice (if b7c=(toNat at_2) then b7p else Option.map (fun x=>Addr.add x ((toNat at_2)*1)) b7p) ((toNat (wrap .i64 (at_2+n3)))-(toNat at_2)) (b7c-(toNat at_2))] H5 fun r8 H9=> ∃r10p r10l r10c,r8= .slice r10p r10l r10c∧R (.tuple #[.slice r10p r10l r10c,.int .i64 0]) H9)→J4 [] H5)→
 ∃a11,r1=some a11∧ ∃do12,cell H (.add a11 4)=some (.bool do12)∧br do12
 (R (.tuple #[.slice none 0 0,.int .i64 11]) H)
 (br (decide (at_2<0)) (R (.tuple #[.slice none 0 0,.int .i64 12]) H) (br (decide (n3<0)) (R (.tuple #[.slice none 0 0,.int .i64 12]) H) (∃a13,r1=some a13∧ ∃b14p b14l b14c,cell H (.add a13 0)=some (.slice b14p b14l b14c)∧br (decide (at_2>(b14l:Int))) (R (.tuple #[.slice none 0 0,.int .i64 12]) H) (∃a15,r1=some a15∧ ∃b16p b16l b16c,cell H (.add a15 0)=some (.slice b16p b16l b16c)∧br (decide (n3>(wrap .i64 ((b16l:Int)-at_2)))) (R (.tuple #[.slice none 0 0,.int .i64 12]) H) (J4 [] H)))))
def Tryz.p11:Plan:=(tl (two (join [] [0,1,2] (one (tl (two (tl leaf) g0)))) (tl leaf)))
theorem Tryz.s11{r1:OA}{at_2 n3:Int}{H R}(h:Tryz.S11 r1 at_2 n3 H R):Tryz.C 11 #[.pointer r1,.int .i64 at_2,.int .i64 n3] H R:=vcs Tryz.tab_ok Tryz.mixed Tryz.func11 Tryz.cal11 Tryz.p11 h (by kernel_rfl)
def Tryz.S12(r1:OA)(H:Heap)(R:Kv):Prop:=
 ∃a2,r1=some a2∧ ∃b3p b3l b3c,cell H (.add a2 0)=some (.slice b3p b3l b3c)∧R (.int .i64 (b3l:Int)) H
def Tryz.p12:Plan:=(tl (tl leaf))
theorem Tryz.s12{r1:OA}{H R}(h:Tryz.S12 r1 H R):Tryz.C 12 #[.pointer r1] H R:=vcs Tryz.tab_ok Tryz.mixed Tryz.func12 Tryz.cal12 Tryz.p12 h (by kernel_rfl)
def Tryz.S13(c1:AV)(H:Heap)(R:Kv):Prop:=
 alc H (.cells c1 30) fun b2 H3=> ∃W4,cell H3 (.add ⟨b2,0,none⟩ 0)=some (.int .i64 W4)∧ ∃H5,cell H3 (.add ⟨b2,0,none⟩ 1)=some (.int .i64 H5)∧Tryz.C 28 #[.int .i64 W4,.int .i64 H5] H3 fun r6 H7=> ∃r8 r9,r6= .tuple #[.agg r8,.int .i64 r9]∧alc H7 (.cells #[.int .i64 0,.int .i64 0,.int .i64 0,.slice none 0 0] 46) fun b10 H11=>r8.size=4∧stAt H11 ⟨b10,0,none⟩ r8.toList fun H12=> ∀J13:Kl,(∀H14,(∃v15,v15.size=3∧rowIn H14 ⟨b2,0,none⟩ v15∧v15.size=3∧0+3≤10∧alc H14 (.cells (List.toArray (setL [.int .i64 0,.int .i64 0,.int .i64 0,.pointer none,.pointer none,.pointer none,.pointer none,.map none,.slice none 0 0,.slice none 0 0] 0 v15.toList)) 68) fun b16 H17=> ∃v18,v18.size=4∧rowIn H17 ⟨b10,0,none⟩ v18∧v18.size=4∧0+4≤6∧Tryz.C 29 #[.pointer (some ⟨b16,0,none⟩),.agg (List.toArray (setL [.int .i64 0,.int .i64 0,.int .i64 0,.slice none 0 0,.slice none 0 0,.slice none 0 0] 0 v18.toList))] H17 fun r19 H20=> ∃r21,r19= .bool r21∧R (.tuple #[.pointer (some ⟨b16,0,none⟩),.int .i64 0]) H20)→J13 [] H14)→
 br (r9 != 0)
 (R (.tuple #[.pointer none,.int .i64 r9]) H12)
 (∃Ti22,cell H12 (.add ⟨b2,0,none⟩ 2)=some (.int .i64 Ti22)∧br (decide (Ti22<0)) (R (.tuple #[.pointer none,.int .i64 30]) H12) (∃Ti23,cell H12 (.add ⟨b2,0,none⟩ 2)=some (.int .i64 Ti23)∧br (decide (Ti23>1048576)) (R (.tuple #[.pointer none,.int .i64 30]) H12) (J13 [] H12)))
def Tryz.p13:Plan:=(tl (tl (two (join [] [1,4] (one (tl (two (tl leaf) g0)))) (tl (tl (tl leaf))))))
theorem Tryz.s13{c1:AV}{H R}(h:Tryz.S13 c1 H R):Tryz.C 13 #[.agg c1] H R:=vcs Tryz.tab_ok Tryz.mixed Tryz.func13 Tryz.cal13 Tryz.p13 h (by kernel_rfl)
def Tryz.S14(r1:OA)(H:Heap)(R:Kv):Prop:=
 Tryz.C 12 #[.pointer r1] H fun r2 H3=> ∃r4,r2= .int .i64 r4∧Tryz.C 11 #[.pointer r1,.int .i64 0,.int .i64 r4] H3 fun r5 H6=> ∃r7p r7l r7c r8,r5= .tuple #[.slice r7p r7l r7c,.int .i64 r8]∧br (r8 != 0)
 (R (.tuple #[.pointer none,.slice none 0 0,.int .i64 r8]) H6)
 (Tryz.C 30 #[.slice r7p r7l r7c] H6 fun r9 H10=> ∃r11p r11l r11c r12,r9= .tuple #[.slice r11p r11l r11c,.int .i64 r12]∧ ∀J13:Kl,(∀H14,(Tryz.C 32 #[.pointer r1] H14 fun r15 H16=> ∃e17,r15= .int .i64 e17∧br (e17 != 0) (R (.tuple #[.pointer none,.slice none 0 0,.int .i64 e17]) H16) (alc H16 (.cells #[.pointer r1,.bool false] 84) fun b18 H19=>R (.tuple #[.pointer (some ⟨b18,0,none⟩),.slice r11p r11l r11c,.int .i64 0]) H19))→J13 [] H14)→br (decide (r12<(r7l:Int))) (Tryz.C 31 #[.pointer r1,.int .i64 r12] H10 fun r20 H21=> ∃e22,r20= .int .i64 e22∧br (e22 != 0) (R (.tuple #[.pointer none,.slice none 0 0,.int .i64 e22]) H21) (J13 [] H21)) (J13 [] H10))
def Tryz.p14:Plan:=(tl (tl (tg (tl (two (join [] [0,7] (tl (two (tl g0) leaf))) (two (tl g0) (tl leaf)))))))
theorem Tryz.s14{r1:OA}{H R}(h:Tryz.S14 r1 H R):Tryz.C 14 #[.pointer r1] H R:=vcs Tryz.tab_ok Tryz.mixed Tryz.func14 Tryz.cal14 Tryz.p14 h (by kernel_rfl)
def Tryz.S15(n1:Int)(H:Heap)(R:Kv):Prop:=
 0≤(24:Int)∧0≤(16:Int)∧0≤(8:Int)∧alc H (.cells #[.int .u8 (wrap .u8 (shrI .i64 n1 24)),.int .u8 (wrap .u8 (shrI .i64 n1 16)),.int .u8 (wrap .u8 (shrI .i64 n1 8)),.int .u8 (wrap .u8 n1)] 5) fun b2 H3=>R (.slice (some ⟨b2,0,none⟩) 4 4) H3
def Tryz.p15:Plan:=(tl (tl leaf))
theorem Tryz.s15{n1:Int}{H R}(h:Tryz.S15 n1 H R):Tryz.C 15 #[.int .i64 n1] H R:=vcs Tryz.tab_ok Tryz.mixed Tryz.func15 Tryz.cal15 Tryz.p15 h (by kernel_rfl)
def Tryz.S16(j1 pa2p:OA)(pa2l pa2c:Nat)(H:Heap)(R:Kv):Prop:=
 ∃a3,j1=some a3∧ ∃br4,cell H (.add a3 1)=some (.bool br4)∧br br4
 (R (.int .i64 60) H)
 (Tryz.C 33 #[.slice pa2p pa2l pa2c] H fun r5 H6=> ∃r7p r7l r7c r8,r5= .tuple #[.slice r7p r7l r7c,.int .i64 r8]∧br (r8 != 0) (R (.int .i64 r8) H6) (∃a9,j1=some a9∧ ∃r10,cell H6 (.add a9 0)=some (.pointer r10)∧Tryz.C 35 #[.pointer r10,.slice r7p r7l r7c] H6 fun r11 H12=> ∃r13,r11= .int .i64 r13∧Tryz.C 34 #[.pointer j1,.int .i64 r13] H12 fun r14 H15=> ∃r16,r14= .int .i64 r16∧R (.int .i64 r16) H15))
def Tryz.p16:Plan:=(tl (tg (tl (tg (tl leaf)))))
theorem Tryz.s16{j1 pa2p:OA}{pa2l pa2c:Nat}{H R}(h:Tryz.S16 j1 pa2p pa2l pa2c H R):Tryz.C 16 #[.pointer j1,.slice pa2p pa2l pa2c] H R:=vcs Tryz.tab_ok Tryz.mixed Tryz.func16 Tryz.cal16 Tryz.p16 h (by kernel_rfl)
def Tryz.S17(j1:OA)(H:Heap)(R:Kv):Prop:=
 ∃a2,j1=some a2∧ ∃br3,cell H (.add a2 1)=some (.bool br3)∧br br3
 (R (.int .i64 60) H)
 (∃a4,j1=some a4∧ ∃r5,cell H (.add a4 0)=some (.pointer r5)∧Tryz.C 32 #[.pointer r5] H fun r6 H7=> ∃r8,r6= .int .i64 r8∧Tryz.C 34 #[.pointer j1,.int .i64 r8] H7 fun r9 H10=> ∃r11,r9= .int .i64 r11∧R (.int .i64 r11) H10)
def Tryz.p17:Plan:=(tl (tg (tl leaf)))
theorem Tryz.s17{j1:OA}{H R}(h:Tryz.S17 j1 H R):Tryz.C 17 #[.pointer j1] H R:=vcs Tryz.tab_ok Tryz.mixed Tryz.func17 Tryz.cal17 Tryz.p17 h (by kernel_rfl)
def Tryz.S18(x1:OA)(e2:AV)(H:Heap)(R:Kv):Prop:=
 alc H (.cells e2 40) fun b3 H4=> ∀J5:Kl,(∀(d6:Addr) (er7:Int) H8,(br (er7 != 0) (R (.int .i64 er7) H8) (∃a9,x1=some a9∧ ∃fu10p fu10l fu10c,cell H8 (.add a9 9)=some (.slice fu10p fu10l fu10c)∧ ∀X11:Kl,(∀(t12:Int) H13,(br (decide (t12<(fu10l:Int))) (∃a14,fu10p=some a14∧0≤t12∧t12<(fu10l:Int)∧ ∃f15,cell H13 (.add a14 (toNat t12*1))=some (.map f15)∧Tryz.C 38 #[.map f15] H13 fun r16 H17=>r16= .tuple #[]∧X11 [.int .i64 (wrap .i64 (t12+1))] H17) (∃a18,x1=some a18∧stAt H13 (.add a18 9) [.slice none 0 0] fun H19=> ∃a20,x1=some a20∧ ∃no21,cell H19 (.add a20 7)=some (.map no21)∧ ∃v22,v22.size=4∧rowIn H19 d6 v22∧Tryz.C 39 #[.pointer x1,.map no21,.agg v22] H19 fun r23 H24=> ∃r25 r26,r23= .tuple #[.map r25,.bool r26]∧ ∀J27:Kl,(∀(er28:Int) H29,(br (er28 != 0) (Tryz.C 38 #[.map r25] H29 fun r30 H31=>r30= .tuple #[]∧ ∃a32,x1=some a32∧ ∃h33,cell H31 (.add a32 3)=some (.pointer h33)∧Tryz.C 25 #[.pointer h33] H31 fun r34 H35=> ∃r36,r34= .agg r36∧ ∃Fu37p Fu37l Fu37c,r36[5]?=some (.slice Fu37p Fu37l Fu37c)∧Tryz.C 42 #[.pointer x1,.slice Fu37p Fu37l Fu37c] H35 fun r38 H39=>r38= .tuple #[]∧R (.int .i64 er28) H39) (∃a40,x1=some a40∧ ∃h41,cell H29 (.add a40 3)=some (.pointer h41)∧ ∃v42,v42.size=19∧rowIn H29 ⟨b3,0,none⟩ v42∧Tryz.C 43 #[.pointer h41,.agg v42] H29 fun r43 H44=> ∃r45,r43= .int .i64 r45∧ ∃a46,x1=some a46∧ ∃l47,cell H44 (.add a46 4)=some (.pointer l47)∧ ∃v48,v48.size=19∧rowIn H44 ⟨b3,0,none⟩ v48∧Tryz.C 44 #[.pointer l47,.agg v48] H44 fun r49 H50=> ∃r51,r49= .int .i64 r51∧ ∃a52,x1=some a52∧ ∃pa53p pa53l pa53c,cell H50 (.add a52 8)=some (.slice pa53p pa53l pa53c)∧ ∃a54,x1=some a54∧ ∃no55,cell H50 (.add a54 7)=some (.map no55)∧alc H50 (.cells #[.map no55] 65) fun b56 H57=>(Ext H50 H57∨(∃pa64p pa64l pa64c,cell H57 (.add a52 8)=some (.slice pa64p pa64l pa64c)∧Value.slice pa64p pa64l pa64c= .slice pa53p pa53l pa53c))∧appQ 1 8 #[.map none] H57 pa53p pa53l pa53c (some ⟨b56,0,none⟩) 1 65 fun ap58p ap58l ap58c H59=> ∃a60,x1=some a60∧stAt H59 (.add a60 8) [.slice ap58p ap58l ap58c] fun H61=> ∃a62,x1=some a62∧stAt H61 (.add a62 7) [.map r25] fun H63=>R (.int .i64 0) H63))→J27 [.int .i64 er28] H29)→br r26 (∃v65,v65.size=19∧rowIn H24 ⟨b3,0,none⟩ v65∧Tryz.C 41 #[.agg v65] H24 fun r66 H67=> ∃r68p r68l r68c,r66= .slice r68p r68l r68c∧Tryz.C 40 #[.pointer x1,.int .u8 1,.slice r68p r68l r68c] H67 fun r69 H70=> ∃er71,r69= .int .i64 er71∧J27 [.int .i64 er71] H70) (J27 [.int .i64 30] H24)))→X11 [.int .i64 t12] H13)→X11 [.int .i64 0] H8))→J5 [.pointer (some d6),.int .i64 er7] H8)→
 ∃a72,x1=some a72∧ ∃h73,cell H4 (.add a72 3)=some (.pointer h73)∧ ∃v74,v74.size=19∧rowIn H4 ⟨b3,0,none⟩ v74∧(Tryz.C 36 #[.pointer h73] H4 fun r75 H76=> ∃r77,r75= .agg r77∧(Ext H4 H76∨(∃v93,v93.size=19∧rowIn H76 ⟨b3,0,none⟩ v93∧Value.agg v93= .agg v74))∧(Tryz.C 37 #[.agg r77,.agg v74] H76 fun r78 H79=> ∃r80 r81,r78= .tuple #[.agg r80,.int .i64 r81]∧alc H79 (.cells #[.int .i64 0,.int .i64 0,.int .i64 0,.slice none 0 0] 46) fun b82 H83=>r80.size=4∧stAt H83 ⟨b82,0,none⟩ r80.toList fun H84=>J5 [.pointer (some ⟨b82,0,none⟩),.int .i64 r81] H84)∧(alc H76 (.cells #[.int .i64 0,.int .i64 0,.int .i64 0,.slice none 0 0] 46) fun b85 H86=>(Ext H76 H86∨(∃v92,v92.size=19∧rowIn H86 ⟨b3,0,none⟩ v92∧Value.agg v92= .agg v74))∧Tryz.C 37 #[.agg r77,.agg v74] H86 fun r87 H88=> ∃r89 r90,r87= .tuple #[.agg r89,.int .i64 r90]∧r89.size=4∧stAt H88 ⟨b85,0,none⟩ r89.toList fun H91=>J5 [.pointer (some ⟨b85,0,none⟩),.int .i64 r90] H91))∧(alc H4 (.cells #[.int .i64 0,.int .i64 0,.int .i64 0,.slice none 0 0] 46) fun b94 H95=>(Ext H4 H95∨(∃v105,v105.size=19∧rowIn H95 ⟨b3,0,none⟩ v105∧Value.agg v105= .agg v74)∧(∃h106,cell H95 (.add a72 3)=some (.pointer h106)∧Value.pointer h106= .pointer h73))∧Tryz.C 36 #[.pointer h73] H95 fun r96 H97=> ∃r98,r96= .agg r98∧(Ext H95 H97∨(∃v104,v104.size=19∧rowIn H97 ⟨b3,0,none⟩ v104∧Value.agg v104= .agg v74))∧Tryz.C 37 #[.agg r98,.agg v74] H97 fun r99 H100=> ∃r101 r102,r99= .tuple #[.agg r101,.int .i64 r102]∧r101.size=4∧stAt H100 ⟨b94,0,none⟩ r101.toList fun H103=>J5 [.pointer (some ⟨b94,0,none⟩),.int .i64 r102] H103)
def Tryz.p18:Plan:=(tl (two (join [(5,999999),(6,26)] [0,3] leaf) (tg (two (tl (one (loop [(29,3)] [0,3,5,27,28] (tl (two (tl leaf) (two (one (tl leaf)) leaf)))))) (tl (tl (tl (two (join [(6,26)] [0,3,9] (tl (tl leaf))) (two (tl (two (tl (tl (tl leaf))) leaf)) (tl (tl (tl (tl leaf)))))))))))))
theorem Tryz.s18{x1:OA}{e2:AV}{H R}(h:Tryz.S18 x1 e2 H R):Tryz.C 18 #[.pointer x1,.agg e2] H R:=vcs Tryz.tab_ok Tryz.mixed Tryz.func18 Tryz.cal18 Tryz.p18 h (by kernel_rfl)
def Tryz.S19(x1:OA)(H:Heap)(R:Kv):Prop:=
 ∃a2,x1=some a2∧ ∃a3,x1=some a3∧ ∃a4,x1=some a4∧ ∃h5,cell H (.add a4 3)=some (.pointer h5)∧Tryz.C 45 #[.pointer x1,.int .u8 2,.pointer (some (.add a2 8)),.pointer (some (.add a3 9)),.func (.func 46) #[.pointer h5] #[]] H fun r6 H7=> ∃r8,r6= .int .i64 r8∧R (.int .i64 r8) H7
def Tryz.p19:Plan:=(tl (tl leaf))
theorem Tryz.s19{x1:OA}{H R}(h:Tryz.S19 x1 H R):Tryz.C 19 #[.pointer x1] H R:=vcs Tryz.tab_ok Tryz.mixed Tryz.func19 Tryz.cal19 Tryz.p19 h (by kernel_rfl)
def Tryz.S24(a1:OA)(H:Heap)(R:Kv):Prop:=
 ∃a2,a1=some a2∧ ∃fr3,cell H (.add a2 0)=some (.int .i64 fr3)∧R (.int .i64 fr3) H
def Tryz.p24:Plan:=(tl (tl leaf))
theorem Tryz.s24{a1:OA}{H R}(h:Tryz.S24 a1 H R):Tryz.C 24 #[.pointer a1] H R:=vcs Tryz.tab_ok Tryz.mixed Tryz.func24 Tryz.cal24 Tryz.p24 h (by kernel_rfl)
def Tryz.S25(h1:OA)(H:Heap)(R:Kv):Prop:=
 alc H (.cells #[.int .i64 0,.int .i64 0,.int .i64 0,.slice none 0 0,.slice none 0 0,.slice none 0 0] 49) fun b2 H3=> ∃a4,h1=some a4∧ ∃no5,no5.size=4∧rowIn H3 (.add a4 0) no5∧ ∃a6,h1=some a6∧ ∃li7p li7l li7c,cell H3 (.add (.add a6 4) 0)=some (.slice li7p li7l li7c)∧ ∃a8,h1=some a8∧ ∃li9p li9l li9c,cell H3 (.add (.add a8 5) 0)=some (.slice li9p li9l li9c)∧Tryz.C 56 #[.agg no5] H3 fun r10 H11=> ∃r12,r10= .agg r12∧(Ext H3 H11∨(∃li22p li22l li22c,cell H11 (.add (.add a8 5) 0)=some (.slice li22p li22l li22c)∧Value.slice li22p li22l li22c= .slice li9p li9l li9c)∧(∃li23p li23l li23c,cell H11 (.add (.add a6 4) 0)=some (.slice li23p li23l li23c)∧Value.slice li23p li23l li23c= .slice li7p li7l li7c))∧Tryz.C 57 #[.slice li7p li7l li7c] H11 fun r13 H14=> ∃r15p r15l r15c,r13= .slice r15p r15l r15c∧(Ext H11 H14∨(∃li21p li21l li21c,cell H14 (.add (.add a8 5) 0)=some (.slice li21p li21l li21c)∧Value.slice li21p li21l li21c= .slice li9p li9l li9c))∧Tryz.C 57 #[.slice li9p li9l li9c] H14 fun r16 H17=> ∃r18p r18l r18c,r16= .slice r18p r18l r18c∧r12.size=4∧0+4≤6∧(List.toArray (List.set (List.set (setL [.int .i64 0,.int .i64 0,.int .i64 0,.slice none 0 0,.slice none 0 0,.slice none 0 0] 0 r12.toList) 4 (.slice r15p r15l r15c)) 5 (.slice r18p r18l r18c))).size=6∧stAt H17 ⟨b2,0,none⟩ (Array.toList (List.toArray (List.set (List.set (setL [.int .i64 0,.int .i64 0,.int .i64 0,.slice none 0 0,.slice none 0 0,.slice none 0 0] 0 r12.toList) 4 (.slice r15p r15l r15c)) 5 (.slice r18p r18l r18c)))) fun H19=> ∃re20,re20.size=6∧rowIn H19 ⟨b2,0,none⟩ re20∧R (.agg re20) H19
def Tryz.p25:Plan:=(tl (tl leaf))
theorem Tryz.s25{h1:OA}{H R}(h:Tryz.S25 h1 H R):Tryz.C 25 #[.pointer h1] H R:=vcs Tryz.tab_ok Tryz.mixed Tryz.func25 Tryz.cal25 Tryz.p25 h (by kernel_rfl)
def Tryz.S26(li1p:OA)(li1l li1c:Nat)(H:Heap)(R:Kv):Prop:=
 ∀X2:Kl,(∀(n3 t4:Int) H5,(br (decide (t4<(li1l:Int))) (∃a6,li1p=some a6∧0≤t4∧t4<(li1l:Int)∧ ∃v7,v7.size=19∧rowIn H5 (.add a6 (toNat t4*19)) v7∧alc H5 (.cells #[.int .i64 0,.int .i64 0,.bool false,.int .i64 0,.int .i64 0,.int .i64 0,.int .i64 0,.slice none 0 0,.slice none 0 0,.int .i64 0,.int .i64 0,.int .i64 0,.int .i64 0,.int .i64 0,.int .i64 0,.bool false,.int .i64 0,.slice none 0 0,.slice none 0 0] 118) fun b8 H9=>v7.size=19∧stAt H9 ⟨b8,0,none⟩ v7.toList fun H10=> ∃Ki11p Ki11l Ki11c,cell H10 (.add ⟨b8,0,none⟩ 18)=some (.slice Ki11p Ki11l Ki11c)∧Tryz.C 26 #[.slice Ki11p Ki11l Ki11c] H10 fun r12 H13=> ∃r14,r12= .int .i64 r14∧X2 [.int .i64 (wrap .i64 (n3+r14)),.int .i64 (wrap .i64 (t4+1))] H13) (R (.int .i64 n3) H5))→X2 [.int .i64 n3,.int .i64 t4] H5)→X2 [.int .i64 (li1l:Int),.int .i64 0] H
def Tryz.p26:Plan:=(tl (tl (two (tl (one (loop [(3,3),(10,3)] [8,9] (tl (two (tl leaf) (two (one (tl leaf)) leaf)))))) (tl leaf))))
theorem Tryz.s26{li1p:OA}{li1l li1c:Nat}{H R}(h:Tryz.S26 li1p li1l li1c H R):Tryz.C 26 #[.slice li1p li1l li1c] H R:=vcs Tryz.tab_ok Tryz.mixed Tryz.func26 Tryz.cal26 Tryz.p26 h (by kernel_rfl)
def Tryz.S27(s1p:OA)(s1l s1c:Nat)(H:Heap)(R:Kv):Prop:=
 br (Option.isNone s1p)
 (R (.slice none 0 0) H)
 (alc H (.cells #[] 5) fun b2 H3=>appQ 1 1 #[.int .u8 0] H3 (some ⟨b2,0,none⟩) 0 0 s1p s1l 5 fun ap4p ap4l ap4c H5=>R (.slice ap4p ap4l ap4c) H5)
def Tryz.p27:Plan:=(tl (tg (tl leaf)))
theorem Tryz.s27{s1p:OA}{s1l s1c:Nat}{H R}(h:Tryz.S27 s1p s1l s1c H R):Tryz.C 27 #[.slice s1p s1l s1c] H R:=vcs Tryz.tab_ok Tryz.mixed Tryz.func27 Tryz.cal27 Tryz.p27 h (by kernel_rfl)
def Tryz.S28(w1 h2:Int)(H:Heap)(R:Kv):Prop:=
 alc H (.cells #[.int .i64 0,.int .i64 0,.int .i64 0,.slice none 0 0] 46) fun b3 H4=> ∀J5:Kl,(∀H6,(#[Value.int .i64 w1,Value.int .i64 h2,Value.int .i64 1,Value.slice none 0 0].size=4∧stAt H6 ⟨b3,0,none⟩ (Array.toList #[.int .i64 w1,.int .i64 h2,.int .i64 1,.slice none 0 0]) fun H7=> ∃re8,re8.size=4∧rowIn H7 ⟨b3,0,none⟩ re8∧R (.tuple #[.agg re8,.int .i64 0]) H7)→J5 [] H6)→
 br (decide (w1<1)) (#[Value.int .i64 0,Value.int .i64 0,Value.int .i64 0,Value.slice none 0 0].size=4∧stAt H4 ⟨b3,0,none⟩ (Array.toList #[.int .i64 0,.int .i64 0,.int .i64 0,.slice none 0 0]) fun H9=> ∃re10,re10.size=4∧rowIn H9 ⟨b3,0,none⟩ re10∧R (.tuple #[.agg re10,.int .i64 31]) H9) (br (decide (h2<1)) (#[Value.int .i64 0,Value.int .i64 0,Value.int .i64 0,Value.slice none 0 0].size=4∧stAt H4 ⟨b3,0,none⟩ (Array.toList #[.int .i64 0,.int .i64 0,.int .i64 0,.slice none 0 0]) fun H11=> ∃re12,re12.size=4∧rowIn H11 ⟨b3,0,none⟩ re12∧R (.tuple #[.agg re12,.int .i64 31]) H11) (br (decide (w1>32768)) (#[Value.int .i64 0,Value.int .i64 0,Value.int .i64 0,Value.slice none 0 0].size=4∧stAt H4 ⟨b3,0,none⟩ (Array.toList #[.int .i64 0,.int .i64 0,.int .i64 0,.slice none 0 0]) fun H13=> ∃re14,re14.size=4∧rowIn H13 ⟨b3,0,none⟩ re14∧R (.tuple #[.agg re14,.int .i64 31]) H13) (br (decide (h2>32768)) (#[Value.int .i64 0,Value.int .i64 0,Value.int .i64 0,Value.slice none 0 0].size=4∧stAt H4 ⟨b3,0,none⟩ (Array.toList #[.int .i64 0,.int .i64 0,.int .i64 0,.slice none 0 0]) fun H15=> ∃re16,re16.size=4∧rowIn H15 ⟨b3,0,none⟩ re16∧R (.tuple #[.agg re16,.int .i64 31]) H15) (br (decide (((wrap .i64 (w1*h2)):Int)>4194304)) (#[Value.int .i64 0,Value.int .i64 0,Value.int .i64 0,Value.slice none 0 0].size=4∧stAt H4 ⟨b3,0,none⟩ (Array.toList #[.int .i64 0,.int .i64 0,.int .i64 0,.slice none 0 0]) fun H17=> ∃re18,re18.size=4∧rowIn H17 ⟨b3,0,none⟩ re18∧R (.tuple #[.agg re18,.int .i64 31]) H17) (J5 [] H4)))))
def Tryz.p28:Plan:=(tl (two (join [] [0,1,4] g0) (tl leaf)))
theorem Tryz.s28{w1 h2:Int}{H R}(h:Tryz.S28 w1 h2 H R):Tryz.C 28 #[.int .i64 w1,.int .i64 h2] H R:=vcs Tryz.tab_ok Tryz.mixed Tryz.func28 Tryz.cal28 Tryz.p28 h (by kernel_rfl)
end Go.Proofs
namespace Go.Proofs
open Go.Sh Go.Sh.Plan
open Go.IntKind (wrap)
open Int (toNat)
def Tryz.S29(x1:OA)(s2:AV)(H:Heap)(R:Kv):Prop:=
 alc H (.cells s2 49) fun b3 H4=> ∃v5,v5.size=6∧rowIn H4 ⟨b3,0,none⟩ v5∧ ∃Do6,Do6.size=4∧rowIn H4 (.add ⟨b3,0,none⟩ 0) Do6∧ ∃a7,x1=some a7∧ ∃Ti8,cell H4 (.add (.add a7 0) 2)=some (.int .i64 Ti8)∧Tryz.C 58 #[.agg v5] H4 fun r9 H10=> ∃r11,r9= .pointer r11∧(Ext H4 H10∨(∃Ti114,cell H10 (.add (.add a7 0) 2)=some (.int .i64 Ti114)∧Value.int .i64 Ti114= .int .i64 Ti8)∧(∃Do115,Do115.size=4∧rowIn H10 (.add ⟨b3,0,none⟩ 0) Do115∧Value.agg Do115= .agg Do6))∧Tryz.C 59 #[.agg Do6] H10 fun r12 H13=> ∃r14,r12= .pointer r14∧(Ext H10 H13∨(∃Ti113,cell H13 (.add (.add a7 0) 2)=some (.int .i64 Ti113)∧Value.int .i64 Ti113= .int .i64 Ti8))∧Tryz.C 60 #[.int .i64 Ti8] H13 fun r15 H16=> ∃r17,r15= .pointer r17∧ ∃a18,x1=some a18∧stAt H16 (.add a18 3) [.pointer r11] fun H19=> ∃a20,x1=some a20∧stAt H19 (.add a20 4) [.pointer r14] fun H21=> ∃a22,x1=some a22∧stAt H21 (.add a22 6) [.pointer r17] fun H23=> ∀J24:Kl,(∀(al25p:OA) (al25l al25c:Nat) H26,(∃Fu27p Fu27l Fu27c,cell H26 (.add ⟨b3,0,none⟩ 5)=some (.slice Fu27p Fu27l Fu27c)∧ ∀X28:Kl,(∀(al29p:OA) (al29l al29c:Nat) (k30:Int) H31,(br (decide (k30≥0)) (∃Fu32p Fu32l Fu32c,cell H31 (.add ⟨b3,0,none⟩ 5)=some (.slice Fu32p Fu32l Fu32c)∧ ∃a33,Fu32p=some a33∧0≤k30∧k30<(Fu32l:Int)∧ ∃v34,v34.size=4∧rowIn H31 (.add a33 (toNat k30*4)) v34∧v34.size=4∧0+4≤4∧alc H31 (.cells (List.toArray (setL [.int .i64 0,.int .i64 0,.int .i64 0,.slice none 0 0] 0 v34.toList)) 46) fun b35 H36=>appQ 4 48 #[.int .i64 0,.int .i64 0,.int .i64 0,.slice none 0 0] H36 al29p al29l al29c (some ⟨b35,0,none⟩) 1 46 fun al37p al37l al37c H38=>X28 [.slice al37p al37l al37c,.int .i64 (wrap .i64 (k30-1))] H38) (alc H31 (.map #[] 0) fun b39 H40=> ∀X41:Kl,(∀(li42p:OA) (li42l li42c:Nat) (ah43:Option Nat) (t44:Int) H45,(br (decide (t44<(al29l:Int))) (∃a46,al29p=some a46∧0≤t44∧t44<(al29l:Int)∧ ∃v47,v47.size=4∧rowIn H45 (.add a46 (toNat t44*4)) v47∧alc H45 (.cells #[.int .i64 0,.int .i64 0,.int .i64 0,.slice none 0 0] 46) fun b48 H49=>v47.size=4∧stAt H49 ⟨b48,0,none⟩ v47.toList fun H50=> ∃v51,v51.size=4∧rowIn H50 ⟨b48,0,none⟩ v51∧Tryz.C 39 #[.pointer x1,.map ah43,.agg v51] H50 fun r52 H53=> ∃r54 r55,r52= .tuple #[.map r54,.bool r55]∧br (!r55) (R (.bool false) H53) (alc H53 (.cells #[.map r54] 65) fun b56 H57=>appQ 1 8 #[.map none] H57 li42p li42l li42c (some ⟨b56,0,none⟩) 1 65 fun li58p li58l li58c H59=>X41 [.slice li58p li58l li58c,.map r54,.int .i64 (wrap .i64 (t44+1))] H59)) (∃Pa60p Pa60l Pa60c,cell H45 (.add ⟨b3,0,none⟩ 4)=some (.slice Pa60p Pa60l Pa60c)∧0≤(Pa60l:Int)∧(Pa60l:Int)≤(li42c:Int)∧0≤(Pa60l:Int)∧(Pa60l:Int)≤(Pa60l:Int)∧ ∃a61,li42p=some a61∧0≤(Pa60l:Int)∧(Pa60l:Int)<(li42l:Int)∧ ∃v62,cell H45 (.add a61 (toNat (Pa60l:Int)*1))=some (.map v62)∧ ∃a63,x1=some a63∧stAt H45 (.add a63 8) [.slice (if (toNat (Pa60l:Int))=0 then li42p else Option.map (fun x=>Addr.add x (0*1)) li42p) ((toNat (Pa60l:Int))-0) ((toNat (Pa60l:Int))-0)] fun H64=> ∃a65,x1=some a65∧stAt H64 (.add a65 7) [.map v62] fun H66=> ∃a67,x1=some a67∧stAt H66 (.add a67 9) [.slice none 0 0] fun H68=> ∀X69:Kl,(∀(k70:Int) H71,(br (decide (k70>(Pa60l:Int))) (∃a72,x1=some a72∧ ∃fu73p fu73l fu73c,cell H71 (.add a72 9)=some (.slice fu73p fu73l fu73c)∧ ∃a74,li42p=some a74∧0≤k70∧k70<(li42l:Int)∧ ∃v75,cell H71 (.add a74 (toNat k70*1))=some (.map v75)∧alc H71 (.cells #[.map v75] 65) fun b76 H77=>(Ext H71 H77∨(∃fu82p fu82l fu82c,cell H77 (.add a72 9)=some (.slice fu82p fu82l fu82c)∧Value.slice fu82p fu82l fu82c= .slice fu73p fu73l fu73c))∧appQ 1 8 #[.map none] H77 fu73p fu73l fu73c (some ⟨b76,0,none⟩) 1 65 fun ap78p ap78l ap78c H79=> ∃a80,x1=some a80∧stAt H79 (.add a80 9) [.slice ap78p ap78l ap78c] fun H81=>X69 [.int .i64 (wrap .i64 (k70-1))] H81) (R (.bool true) H71))→X69 [.int .i64 k70] H71)→X69 [.int .i64 (wrap .i64 ((li42l:Int)-1))] H68))→X41 [.slice li42p li42l li42c,.map ah43,.int .i64 t44] H45)→X41 [.slice none 0 0,.map (some b39),.int .i64 0] H40))→X28 [.slice al29p al29l al29c,.int .i64 k30] H31)→X28 [.slice al25p al25l al25c,.int .i64 (wrap .i64 ((Fu27l:Int)-1))] H26)→J24 [.slice al25p al25l al25c] H26)→
 ∃Pa83p Pa83l Pa83c,cell H23 (.add ⟨b3,0,none⟩ 4)=some (.slice Pa83p Pa83l Pa83c)∧ ∃Do84,Do84.size=4∧rowIn H23 (.add ⟨b3,0,none⟩ 0) Do84∧(alc H23 (.cells #[] 46) fun b85 H86=>(Ext H23 H86∨(∃Do101,Do101.size=4∧rowIn H86 (.add ⟨b3,0,none⟩ 0) Do101∧Value.agg Do101= .agg Do84)∧(∃Pa102p Pa102l Pa102c,cell H86 (.add ⟨b3,0,none⟩ 4)=some (.slice Pa102p Pa102l Pa102c)∧Value.slice Pa102p Pa102l Pa102c= .slice Pa83p Pa83l Pa83c))∧(appQ 4 48 #[.int .i64 0,.int .i64 0,.int .i64 0,.slice none 0 0] H86 (some ⟨b85,0,none⟩) 0 0 Pa83p Pa83l 46 fun ap87p ap87l ap87c H88=>(Ext H86 H88∨(∃Do93,Do93.size=4∧rowIn H88 (.add ⟨b3,0,none⟩ 0) Do93∧Value.agg Do93= .agg Do84))∧Do84.size=4∧0+4≤4∧alc H88 (.cells (List.toArray (setL [.int .i64 0,.int .i64 0,.int .i64 0,.slice none 0 0] 0 Do84.toList)) 46) fun b89 H90=>appQ 4 48 #[.int .i64 0,.int .i64 0,.int .i64 0,.slice none 0 0] H90 ap87p ap87l ap87c (some ⟨b89,0,none⟩) 1 46 fun al91p al91l al91c H92=>J24 [.slice al91p al91l al91c] H92)∧(Do84.size=4∧0+4≤4∧alc H86 (.cells (List.toArray (setL [.int .i64 0,.int .i64 0,.int .i64 0,.slice none 0 0] 0 Do84.toList)) 46) fun b94 H95=>(Ext H86 H95∨(∃Pa100p Pa100l Pa100c,cell H95 (.add ⟨b3,0,none⟩ 4)=some (.slice Pa100p Pa100l Pa100c)∧Value.slice Pa100p Pa100l Pa100c= .slice Pa83p Pa83l Pa83c))∧appQ 4 48 #[.int .i64 0,.int .i64 0,.int .i64 0,.slice none 0 0] H95 (some ⟨b85,0,none⟩) 0 0 Pa83p Pa83l 46 fun ap96p ap96l ap96c H97=>appQ 4 48 #[.int .i64 0,.int .i64 0,.int .i64 0,.slice none 0 0] H97 ap96p ap96l ap96c (some ⟨b94,0,none⟩) 1 46 fun al98p al98l al98c H99=>J24 [.slice al98p al98l al98c] H99))∧(Do84.size=4∧0+4≤4∧alc H23 (.cells (List.toArray (setL [.int .i64 0,.int .i64 0,.int .i64 0,.slice none 0 0] 0 Do84.toList)) 46) fun b103 H104=>(Ext H23 H104∨(∃Pa112p Pa112l Pa112c,cell H104 (.add ⟨b3,0,none⟩ 4)=some (.slice Pa112p Pa112l Pa112c)∧Value.slice Pa112p Pa112l Pa112c= .slice Pa83p Pa83l Pa83c))∧alc H104 (.cells #[] 46) fun b105 H106=>(Ext H104 H106∨(∃Pa111p Pa111l Pa111c,cell H106 (.add ⟨b3,0,none⟩ 4)=some (.slice Pa111p Pa111l Pa111c)∧Value.slice Pa111p Pa111l Pa111c= .slice Pa83p Pa83l Pa83c))∧appQ 4 48 #[.int .i64 0,.int .i64 0,.int .i64 0,.slice none 0 0] H106 (some ⟨b105,0,none⟩) 0 0 Pa83p Pa83l 46 fun ap107p ap107l ap107c H108=>appQ 4 48 #[.int .i64 0,.int .i64 0,.int .i64 0,.slice none 0 0] H108 ap107p ap107l ap107c (some ⟨b103,0,none⟩) 1 46 fun al109p al109l al109c H110=>J24 [.slice al109p al109l al109c] H110)
def Tryz.p29:Plan:=(tl (tl (two (join [(5,47)] [0,3] leaf) (two (tl (one (loop [(5,47),(6,3)] [0,3] (two (tl (tl leaf)) (two (one leaf) leaf))))) (tl (tl (two (tl (one (loop [(7,66),(8,65),(62,3)] [0,3,60,61] (tl (two (tl leaf) (two (one (tl (tl (tg leaf)))) leaf)))))) (tl (tl (two (tl (one (loop [(14,3)] [0,7,13] (two (tl (tl leaf)) (two (one leaf) leaf))))) (tl leaf)))))))))))
theorem Tryz.s29{x1:OA}{s2:AV}{H R}(h:Tryz.S29 x1 s2 H R):Tryz.C 29 #[.pointer x1,.agg s2] H R:=vcs Tryz.tab_ok Tryz.mixed Tryz.func29 Tryz.cal29 Tryz.p29 h (by kernel_rfl)
def Tryz.S30(b1p:OA)(b1l b1c:Nat)(H:Heap)(R:Kv):Prop:=
 ∀X2:Kl,(∀(pa3p:OA) (pa3l pa3c:Nat) (end_4:Int) H5,(br (decide (((wrap .i64 ((b1l:Int)-end_4)):Int)<8)) (R (.tuple #[.slice pa3p pa3l pa3c,.int .i64 end_4]) H5) (0≤end_4∧end_4≤(b1l:Int)∧Tryz.C 61 #[.slice (if b1c=(toNat end_4) then b1p else Option.map (fun x=>Addr.add x ((toNat end_4)*1)) b1p) (b1l-(toNat end_4)) (b1c-(toNat end_4))] H5 fun r6 H7=> ∃n8,r6= .int .i64 n8∧ ∀J9:Kl,(∀(pa10p:OA) (pa10l pa10c:Nat) (end_11:Int) H12,(0≤(wrap .i64 ((wrap .i64 (end_11+4))+n8))∧(wrap .i64 ((wrap .i64 (end_11+4))+n8))≤(b1c:Int)∧0≤end_11∧end_11≤(wrap .i64 ((wrap .i64 (end_11+4))+n8))∧0≤(wrap .i64 ((wrap .i64 (end_11+4))+n8))∧(wrap .i64 ((wrap .i64 (end_11+4))+n8))≤(b1l:Int)∧alc H12 (.cells #[.slice (if b1c=(toNat end_11) then b1p else Option.map (fun x=>Addr.add x ((toNat end_11)*1)) b1p) ((toNat (wrap .i64 ((wrap .i64 (end_11+4))+n8)))-(toNat end_11)) (b1c-(toNat end_11))] 32) fun b13 H14=>Tryz.C 62 #[.slice (some ⟨b13,0,none⟩) 1 1] H14 fun r15 H16=> ∃r17,r15= .int .i64 r17∧Tryz.C 61 #[.slice (if b1c=(toNat (wrap .i64 ((wrap .i64 (end_11+4))+n8))) then b1p else Option.map (fun x=>Addr.add x ((toNat (wrap .i64 ((wrap .i64 (end_11+4))+n8)))*1)) b1p) (b1l-(toNat (wrap .i64 ((wrap .i64 (end_11+4))+n8)))) (b1c-(toNat (wrap .i64 ((wrap .i64 (end_11+4))+n8))))] H16 fun r18 H19=> ∃r20,r18= .int .i64 r20∧br (r17 != r20) (R (.tuple #[.slice pa10p pa10l pa10c,.int .i64 end_11]) H19) (0≤(4:Int)∧(4:Int)≤((((toNat (wrap .i64 ((wrap .i64 (end_11+4))+n8)))-(toNat end_11)):Nat):Int)∧Tryz.C 27 #[.slice (if (b1c-(toNat end_11))=(toNat 4) then(if b1c=(toNat end_11) then b1p else Option.map (fun x=>Addr.add x ((toNat end_11)*1)) b1p) else Option.map (fun x=>Addr.add x ((toNat 4)*1)) (if b1c=(toNat end_11) then b1p else Option.map (fun x=>Addr.add x ((toNat end_11)*1)) b1p)) (((toNat (wrap .i64 ((wrap .i64 (end_11+4))+n8)))-(toNat end_11))-(toNat 4)) ((b1c-(toNat end_11))-(toNat 4))] H19 fun r21 H22=> ∃r23p r23l r23c,r21= .slice r23p r23l r23c∧alc H22 (.cells #[.slice r23p r23l r23c] 32) fun b24 H25=>appQ 1 24 #[.slice none 0 0] H25 pa10p pa10l pa10c (some ⟨b24,0,none⟩) 1 32 fun pa26p pa26l pa26c H27=>X2 [.slice pa26p pa26l pa26c,.int .i64 (wrap .i64 (end_11+(wrap .i64 (n8+8))))] H27))→J9 [.slice pa10p pa10l pa10c,.int .i64 end_11] H12)→br (decide (n8>8388608)) (R (.tuple #[.slice pa3p pa3l pa3c,.int .i64 end_4]) H7) (br (decide (n8>(wrap .i64 ((wrap .i64 ((b1l:Int)-end_4))-8)))) (R (.tuple #[.slice pa3p pa3l pa3c,.int .i64 end_4]) H7) (J9 [.slice pa3p pa3l pa3c,.int .i64 end_4] H7))))→X2 [.slice pa3p pa3l pa3c,.int .i64 end_4] H5)→X2 [.slice none 0 0,.int .i64 0] H
def Tryz.p30:Plan:=(tl (scope [(2,58),(3,3)] [0] leaf (tg (tl (two (join [(2,58),(3,3)] [0,4] g0) (tl (tg (tl (tl leaf)))))))))
theorem Tryz.s30{b1p:OA}{b1l b1c:Nat}{H R}(h:Tryz.S30 b1p b1l b1c H R):Tryz.C 30 #[.slice b1p b1l b1c] H R:=vcs Tryz.tab_ok Tryz.mixed Tryz.func30 Tryz.cal30 Tryz.p30 h (by kernel_rfl)
def Tryz.S32(r1:OA)(H:Heap)(R:Kv):Prop:=
 ∀J2:Kl,(∀H3,(∃a4,r1=some a4∧ ∃b5p b5l b5c,cell H3 (.add a4 0)=some (.slice b5p b5l b5c)∧ ∃a6,r1=some a6∧stAt H3 (.add a6 2) [.int .i64 (b5l:Int)] fun H7=>R (.int .i64 0) H7)→J2 [] H3)→
 ∃a8,r1=some a8∧ ∃do9,cell H (.add a8 4)=some (.bool do9)∧br do9 (R (.int .i64 11) H) (Tryz.C 63 #[.pointer r1] H fun r10 H11=> ∃r12,r10= .bool r12∧br (!r12) (R (.int .i64 11) H11) (J2 [] H11))
def Tryz.p32:Plan:=(tl (two (join [] [0] g0) (tl (tl leaf))))
theorem Tryz.s32{r1:OA}{H R}(h:Tryz.S32 r1 H R):Tryz.C 32 #[.pointer r1] H R:=vcs Tryz.tab_ok Tryz.mixed Tryz.func32 Tryz.cal32 Tryz.p32 h (by kernel_rfl)
def Tryz.S33(pa1p:OA)(pa1l pa1c:Nat)(H:Heap)(R:Kv):Prop:=
 br (decide (((pa1l:Int):Int)>8388608))
 (R (.tuple #[.slice none 0 0,.int .i64 31]) H)
 (Tryz.C 64 #[.int .i64 (pa1l:Int)] H fun r2 H3=> ∃si4p si4l si4c,r2= .slice si4p si4l si4c∧alc H3 (.cells #[.slice si4p si4l si4c,.slice pa1p pa1l pa1c] 32) fun b5 H6=>Tryz.C 62 #[.slice (some ⟨b5,0,none⟩) 2 2] H6 fun r7 H8=> ∃r9,r7= .int .i64 r9∧Tryz.C 64 #[.int .i64 r9] H8 fun r10 H11=> ∃r12p r12l r12c,r10= .slice r12p r12l r12c∧alc H11 (.cells #[.slice si4p si4l si4c,.slice pa1p pa1l pa1c,.slice r12p r12l r12c] 32) fun b13 H14=>Tryz.C 65 #[.slice (some ⟨b13,0,none⟩) 3 3] H14 fun r15 H16=> ∃r17p r17l r17c,r15= .slice r17p r17l r17c∧R (.tuple #[.slice r17p r17l r17c,.int .i64 0]) H16)
def Tryz.p33:Plan:=(tl (tg (tl (tl leaf))))
theorem Tryz.s33{pa1p:OA}{pa1l pa1c:Nat}{H R}(h:Tryz.S33 pa1p pa1l pa1c H R):Tryz.C 33 #[.slice pa1p pa1l pa1c] H R:=vcs Tryz.tab_ok Tryz.mixed Tryz.func33 Tryz.cal33 Tryz.p33 h (by kernel_rfl)
def Tryz.S34(j1:OA)(e2:Int)(H:Heap)(R:Kv):Prop:=
 ∃a3,j1=some a3∧ ∃br4,cell H (.add a3 1)=some (.bool br4)∧br br4 (∃a5,j1=some a5∧stAt H (.add a5 1) [.bool true] fun H6=>R (.int .i64 e2) H6) (∃a7,j1=some a7∧stAt H (.add a7 1) [.bool (e2==11)] fun H8=>R (.int .i64 e2) H8)
def Tryz.p34:Plan:=(tl (tl (tl leaf)))
theorem Tryz.s34{j1:OA}{e2:Int}{H R}(h:Tryz.S34 j1 e2 H R):Tryz.C 34 #[.pointer j1,.int .i64 e2] H R:=vcs Tryz.tab_ok Tryz.mixed Tryz.func34 Tryz.cal34 Tryz.p34 h (by kernel_rfl)
def Tryz.S35(r1 b2p:OA)(b2l b2c:Nat)(H:Heap)(R:Kv):Prop:=
 ∃a3,r1=some a3∧ ∃do4,cell H (.add a3 4)=some (.bool do4)∧br do4
 (R (.int .i64 11) H)
 (∃a5,r1=some a5∧ ∃ca6,cell H (.add a5 1)=some (.int .i64 ca6)∧ ∃a7,r1=some a7∧ ∃b8p b8l b8c,cell H (.add a7 0)=some (.slice b8p b8l b8c)∧br (decide (((b2l:Int):Int)>(wrap .i64 (ca6-(b8l:Int))))) (R (.int .i64 10) H) (∃a9,r1=some a9∧ ∃b10p b10l b10c,cell H (.add a9 0)=some (.slice b10p b10l b10c)∧appQ 1 1 #[.int .u8 0] H b10p b10l b10c b2p b2l 5 fun ap11p ap11l ap11c H12=> ∃a13,r1=some a13∧stAt H12 (.add a13 0) [.slice ap11p ap11l ap11c] fun H14=>Tryz.C 63 #[.pointer r1] H14 fun r15 H16=> ∃r17,r15= .bool r17∧br (!r17) (R (.int .i64 11) H16) (R (.int .i64 0) H16)))
def Tryz.p35:Plan:=(tl (two (one (tl (two (tl leaf) g0))) (tl (tg (tl leaf)))))
theorem Tryz.s35{r1 b2p:OA}{b2l b2c:Nat}{H R}(h:Tryz.S35 r1 b2p b2l b2c H R):Tryz.C 35 #[.pointer r1,.slice b2p b2l b2c] H R:=vcs Tryz.tab_ok Tryz.mixed Tryz.func35 Tryz.cal35 Tryz.p35 h (by kernel_rfl)
def Tryz.S36(h1:OA)(H:Heap)(R:Kv):Prop:=
 alc H (.cells #[.int .i64 0,.int .i64 0,.int .i64 0,.slice none 0 0] 46) fun b2 H3=> ∃a4,h1=some a4∧ ∃no5,no5.size=4∧rowIn H3 (.add a4 0) no5∧Tryz.C 56 #[.agg no5] H3 fun r6 H7=> ∃r8,r6= .agg r8∧r8.size=4∧stAt H7 ⟨b2,0,none⟩ r8.toList fun H9=> ∃re10,re10.size=4∧rowIn H9 ⟨b2,0,none⟩ re10∧R (.agg re10) H9
def Tryz.p36:Plan:=(tl (tl leaf))
theorem Tryz.s36{h1:OA}{H R}(h:Tryz.S36 h1 H R):Tryz.C 36 #[.pointer h1] H R:=vcs Tryz.tab_ok Tryz.mixed Tryz.func36 Tryz.cal36 Tryz.p36 h (by kernel_rfl)
def Tryz.S37(d1 e2:AV)(H:Heap)(R:Kv):Prop:=
 alc H (.cells d1 46) fun b3 H4=>alc H4 (.cells e2 40) fun b5 H6=>alc H6 (.cells #[.int .i64 0,.int .i64 0,.int .i64 0,.slice none 0 0] 46) fun b7 H8=> ∀J9:Kl,(∀(ou10:Addr) H11,(∀J12:Kl,(∀(w13:Addr) H14,(alc H14 (.cells #[.func (.func 68) #[] #[],.func (.func 69) #[] #[],.func (.func 70) #[] #[],.func (.func 71) #[] #[],.func (.func 72) #[] #[],.func (.func 73) #[] #[],.func (.func 74) #[] #[],.func (.func 75) #[] #[],.func (.func 76) #[] #[]] 131) fun b15 H16=> ∀J17:Kl,(∀H18,(∃Ki19,cell H18 (.add ⟨b5,0,none⟩ 0)=some (.int .i64 Ki19)∧ ∃a20,(some ⟨b15,0,none⟩)=some a20∧0≤(wrap .i64 (Ki19-1))∧(wrap .i64 (Ki19-1))<((9:Nat):Int)∧ ∃v21g v21x v21y,cell H18 (.add a20 (toNat (wrap .i64 (Ki19-1))*1))=some (.func (.func v21g) v21x v21y)∧ ∃v22,v22.size=21∧rowIn H18 w13 v22∧Tryz.C v21g (List.toArray (Array.toList v21x++[Value.agg v22]++Array.toList v21y)) H18 fun r23 H24=> ∃e25,r23= .int .i64 e25∧br (e25 != 0) (#[Value.int .i64 0,Value.int .i64 0,Value.int .i64 0,Value.slice none 0 0].size=4∧stAt H24 ⟨b7,0,none⟩ (Array.toList #[.int .i64 0,.int .i64 0,.int .i64 0,.slice none 0 0]) fun H26=> ∃re27,re27.size=4∧rowIn H26 ⟨b7,0,none⟩ re27∧R (.tuple #[.agg re27,.int .i64 e25]) H26) (∃ro28,cell H24 (.add w13 0)=some (.pointer ro28)∧ ∃a29,ro28=some a29∧ ∃Ki30p Ki30l Ki30c,cell H24 (.add a29 18)=some (.slice Ki30p Ki30l Ki30c)∧stAt H24 (.add ou10 3) [.slice Ki30p Ki30l Ki30c] fun H31=> ∃v32,v32.size=4∧rowIn H31 ou10 v32∧v32.size=4∧stAt H31 ⟨b7,0,none⟩ v32.toList fun H33=> ∃re34,re34.size=4∧rowIn H33 ⟨b7,0,none⟩ re34∧R (.tuple #[.agg re34,.int .i64 0]) H33))→J17 [] H18)→ ∃Ki35,cell H16 (.add ⟨b5,0,none⟩ 0)=some (.int .i64 Ki35)∧br (decide (Ki35<1)) (#[Value.int .i64 0,Value.int .i64 0,Value.int .i64 0,Value.slice none 0 0].size=4∧stAt H16 ⟨b7,0,none⟩ (Array.toList #[.int .i64 0,.int .i64 0,.int .i64 0,.slice none 0 0]) fun H36=> ∃re37,re37.size=4∧rowIn H36 ⟨b7,0,none⟩ re37∧R (.tuple #[.agg re37,.int .i64 41]) H36) (∃Ki38,cell H16 (.add ⟨b5,0,none⟩ 0)=some (.int .i64 Ki38)∧br (decide (Ki38>((9:Nat):Int))) (#[Value.int .i64 0,Value.int .i64 0,Value.int .i64 0,Value.slice none 0 0].size=4∧stAt H16 ⟨b7,0,none⟩ (Array.toList #[.int .i64 0,.int .i64 0,.int .i64 0,.slice none 0 0]) fun H39=> ∃re40,re40.size=4∧rowIn H39 ⟨b7,0,none⟩ re40∧R (.tuple #[.agg re40,.int .i64 41]) H39) (J17 [] H16)))→J12 [.pointer (some w13)] H14)→ ∃v41,v41.size=19∧rowIn H11 ⟨b5,0,none⟩ v41∧(Tryz.C 67 #[.pointer (some ou10)] H11 fun r42 H43=> ∃r44,r42= .pointer r44∧(Ext H11 H43∨(∃v49,v49.size=19∧rowIn H43 ⟨b5,0,none⟩ v49∧Value.agg v49= .agg v41))∧v41.size=19∧2+19≤21∧alc H43 (.cells #[.pointer none,.pointer none,.int .i64 0,.int .i64 0,.int .i64 0,.int .i64 0,.int .i64 0,.int .i64 0,.int .i64 0,.int .i64 0,.int .i64 0,.int .i64 0,.slice none 0 0,.slice none 0 0,.int .i64 0,.int .i64 0,.int .i64 0,.int .i64 0,.int .i64 0,.int .i64 0,.slice none 0 0] 130) fun b45 H46=>(Ext H43 H46∨(∃v48,v48.size=19∧rowIn H46 ⟨b5,0,none⟩ v48∧Value.agg v48= .agg v41))∧(List.toArray (setL [.pointer r44,.pointer (some ou10),.int .i64 0,.int .i64 0,.int .i64 0,.int .i64 0,.int .i64 0,.int .i64 0,.int .i64 0,.int .i64 0,.int .i64 0,.int .i64 0,.slice none 0 0,.slice none 0 0,.int .i64 0,.int .i64 0,.int .i64 0,.int .i64 0,.int .i64 0,.int .i64 0,.slice none 0 0] 2 v41.toList)).size=21∧stAt H46 ⟨b45,0,none⟩ (Array.toList (List.toArray (setL [.pointer r44,.pointer (some ou10),.int .i64 0,.int .i64 0,.int .i64 0,.int .i64 0,.int .i64 0,.int .i64 0,.int .i64 0,.int .i64 0,.int .i64 0,.int .i64 0,.slice none 0 0,.slice none 0 0,.int .i64 0,.int .i64 0,.int .i64 0,.int .i64 0,.int .i64 0,.int .i64 0,.slice none 0 0] 2 v41.toList))) fun H47=>J12 [.pointer (some ⟨b45,0,none⟩)] H47)∧(alc H11 (.cells #[.pointer none,.pointer none,.int .i64 0,.int .i64 0,.int .i64 0,.int .i64 0,.int .i64 0,.int .i64 0,.int .i64 0,.int .i64 0,.int .i64 0,.int .i64 0,.slice none 0 0,.slice none 0 0,.int .i64 0,.int .i64 0,.int .i64 0,.int .i64 0,.int .i64 0,.int .i64 0,.slice none 0 0] 130) fun b50 H51=>(Ext H11 H51∨(∃v57,v57.size=19∧rowIn H51 ⟨b5,0,none⟩ v57∧Value.agg v57= .agg v41))∧Tryz.C 67 #[.pointer (some ou10)] H51 fun r52 H53=> ∃r54,r52= .pointer r54∧(Ext H51 H53∨(∃v56,v56.size=19∧rowIn H53 ⟨b5,0,none⟩ v56∧Value.agg v56= .agg v41))∧v41.size=19∧2+19≤21∧(List.toArray (setL [.pointer r54,.pointer (some ou10),.int .i64 0,.int .i64 0,.int .i64 0,.int .i64 0,.int .i64 0,.int .i64 0,.int .i64 0,.int .i64 0,.int .i64 0,.int .i64 0,.slice none 0 0,.slice none 0 0,.int .i64 0,.int .i64 0,.int .i64 0,.int .i64 0,.int .i64 0,.int .i64 0,.slice none 0 0] 2 v41.toList)).size=21∧stAt H53 ⟨b50,0,none⟩ (Array.toList (List.toArray (setL [.pointer r54,.pointer (some ou10),.int .i64 0,.int .i64 0,.int .i64 0,.int .i64 0,.int .i64 0,.int .i64 0,.int .i64 0,.int .i64 0,.int .i64 0,.int .i64 0,.slice none 0 0,.slice none 0 0,.int .i64 0,.int .i64 0,.int .i64 0,.int .i64 0,.int .i64 0,.int .i64 0,.slice none 0 0] 2 v41.toList))) fun H55=>J12 [.pointer (some ⟨b50,0,none⟩)] H55))→J9 [.pointer (some ou10)] H11)→
 ∃W58,cell H8 (.add ⟨b3,0,none⟩ 0)=some (.int .i64 W58)∧ ∃H59,cell H8 (.add ⟨b3,0,none⟩ 1)=some (.int .i64 H59)∧ ∃Ne60,cell H8 (.add ⟨b3,0,none⟩ 2)=some (.int .i64 Ne60)∧ ∃Ki61p Ki61l Ki61c,cell H8 (.add ⟨b3,0,none⟩ 3)=some (.slice Ki61p Ki61l Ki61c)∧(Tryz.C 66 #[.slice Ki61p Ki61l Ki61c] H8 fun r62 H63=> ∃r64p r64l r64c,r62= .slice r64p r64l r64c∧(Ext H8 H63∨(∃Ne71,cell H63 (.add ⟨b3,0,none⟩ 2)=some (.int .i64 Ne71)∧Value.int .i64 Ne71= .int .i64 Ne60)∧(∃H72,cell H63 (.add ⟨b3,0,none⟩ 1)=some (.int .i64 H72)∧Value.int .i64 H72= .int .i64 H59)∧(∃W73,cell H63 (.add ⟨b3,0,none⟩ 0)=some (.int .i64 W73)∧Value.int .i64 W73= .int .i64 W58))∧alc H63 (.cells #[.int .i64 0,.int .i64 0,.int .i64 0,.slice none 0 0] 46) fun b65 H66=>(Ext H63 H66∨(∃Ne68,cell H66 (.add ⟨b3,0,none⟩ 2)=some (.int .i64 Ne68)∧Value.int .i64 Ne68= .int .i64 Ne60)∧(∃H69,cell H66 (.add ⟨b3,0,none⟩ 1)=some (.int .i64 H69)∧Value.int .i64 H69= .int .i64 H59)∧(∃W70,cell H66 (.add ⟨b3,0,none⟩ 0)=some (.int .i64 W70)∧Value.int .i64 W70= .int .i64 W58))∧#[Value.int .i64 W58,Value.int .i64 H59,Value.int .i64 Ne60,Value.slice r64p r64l r64c].size=4∧stAt H66 ⟨b65,0,none⟩ (Array.toList #[.int .i64 W58,.int .i64 H59,.int .i64 Ne60,.slice r64p r64l r64c]) fun H67=>J9 [.pointer (some ⟨b65,0,none⟩)] H67)∧(alc H8 (.cells #[.int .i64 0,.int .i64 0,.int .i64 0,.slice none 0 0] 46) fun b74 H75=>(Ext H8 H75∨(∃Ki83p Ki83l Ki83c,cell H75 (.add ⟨b3,0,none⟩ 3)=some (.slice Ki83p Ki83l Ki83c)∧Value.slice Ki83p Ki83l Ki83c= .slice Ki61p Ki61l Ki61c)∧(∃Ne84,cell H75 (.add ⟨b3,0,none⟩ 2)=some (.int .i64 Ne84)∧Value.int .i64 Ne84= .int .i64 Ne60)∧(∃H85,cell H75 (.add ⟨b3,0,none⟩ 1)=some (.int .i64 H85)∧Value.int .i64 H85= .int .i64 H59)∧(∃W86,cell H75 (.add ⟨b3,0,none⟩ 0)=some (.int .i64 W86)∧Value.int .i64 W86= .int .i64 W58))∧Tryz.C 66 #[.slice Ki61p Ki61l Ki61c] H75 fun r76 H77=> ∃r78p r78l r78c,r76= .slice r78p r78l r78c∧(Ext H75 H77∨(∃Ne80,cell H77 (.add ⟨b3,0,none⟩ 2)=some (.int .i64 Ne80)∧Value.int .i64 Ne80= .int .i64 Ne60)∧(∃H81,cell H77 (.add ⟨b3,0,none⟩ 1)=some (.int .i64 H81)∧Value.int .i64 H81= .int .i64 H59)∧(∃W82,cell H77 (.add ⟨b3,0,none⟩ 0)=some (.int .i64 W82)∧Value.int .i64 W82= .int .i64 W58))∧#[Value.int .i64 W58,Value.int .i64 H59,Value.int .i64 Ne60,Value.slice r78p r78l r78c].size=4∧stAt H77 ⟨b74,0,none⟩ (Array.toList #[.int .i64 W58,.int .i64 H59,.int .i64 Ne60,.slice r78p r78l r78c]) fun H79=>J9 [.pointer (some ⟨b74,0,none⟩)] H79)
def Tryz.p37:Plan:=(tl (two (join [(6,999999)] [3,4] leaf) (two (join [(7,999999)] [3,4,6] leaf) (tl (two (join [] [3,4,6,7,8] g0) (two (tl g0) (tl (tl leaf))))))))
theorem Tryz.s37{d1 e2:AV}{H R}(h:Tryz.S37 d1 e2 H R):Tryz.C 37 #[.agg d1,.agg e2] H R:=vcs Tryz.tab_ok Tryz.mixed Tryz.func37 Tryz.cal37 Tryz.p37 h (by kernel_rfl)
def Tryz.S38(s1:Option Nat)(H:Heap)(R:Kv):Prop:=
 ∃c2,mapAt H s1 c2∧alc H (.mapIter s1 c2 #[] c2) fun b3 H4=> ∀X5:Kl,(∀H6,(nextQ H6 b3 (fun H7=>br false (∃(m10 since:Nat) (seen:Array Nat) (st13 st14:Nat) (es15:Array MapEntry) (x16:MapEntry),H7[b3]?=some (.mapIter (some m10) since seen st13)∧seen.back?=some st14∧H7[m10]?=some (.map es15 st13)∧es15.find? (fun y=>y.born==st14)=some x16∧ ∃k18:Value,x16.key=k18∧ ∃v19,x16.val= .pointer v19∧Tryz.C 77 #[.pointer v19] H7 fun r20 H21=>r20= .tuple #[]∧X5 [] H21) (R (.tuple #[]) H7)) fun e8 H9=>br true (∃(m22 since:Nat) (seen:Array Nat) (st25 st26:Nat) (es27:Array MapEntry) (x28:MapEntry),H9[b3]?=some (.mapIter (some m22) since seen st25)∧seen.back?=some st26∧H9[m22]?=some (.map es27 st25)∧es27.find? (fun y=>y.born==st26)=some x28∧ ∃k30:Value,x28.key=k30∧ ∃v31,x28.val= .pointer v31∧Tryz.C 77 #[.pointer v31] H9 fun r32 H33=>r32= .tuple #[]∧X5 [] H33) (R (.tuple #[]) H9))→X5 [] H6)→X5 [] H4
def Tryz.p38:Plan:=(tl (one (loop [] [5] (tl (two (tl leaf) (one (tl leaf)))))))
theorem Tryz.s38{s1:Option Nat}{H R}(h:Tryz.S38 s1 H R):Tryz.C 38 #[.map s1] H R:=vcs Tryz.tab_ok Tryz.mixed Tryz.func38 Tryz.cal38 Tryz.p38 h (by kernel_rfl)
def Tryz.S39(x1:OA)(ah2:Option Nat)(d3:AV)(H:Heap)(R:Kv):Prop:=
 alc H (.cells #[.pointer x1] 25) fun b4 H5=>alc H5 (.cells #[.map ah2] 65) fun b6 H7=>alc H7 (.cells d3 46) fun b8 H9=>alc H9 (.map #[] 0) fun b10 H11=>alc H11 (.cells #[.map none] 65) fun b12 H13=>alc H13 (.cells #[.bool false] 4) fun b14 H15=>stAt H15 ⟨b12,0,none⟩ [.map (some b10)] fun H16=>stAt H16 ⟨b14,0,none⟩ [.bool true] fun H17=> ∃Ki18p Ki18l Ki18c,cell H17 (.add ⟨b8,0,none⟩ 3)=some (.slice Ki18p Ki18l Ki18c)∧Tryz.C 78 #[.slice Ki18p Ki18l Ki18c,.func (.func 79) #[] #[.pointer (some ⟨b6,0,none⟩),.pointer (some ⟨b4,0,none⟩),.pointer (some ⟨b12,0,none⟩),.pointer (some ⟨b14,0,none⟩)]] H17 fun r19 H20=>r19= .tuple #[]∧ ∃v21,cell H20 ⟨b14,0,none⟩=some (.bool v21)∧br (!v21)
 (∃v22,cell H20 ⟨b12,0,none⟩=some (.map v22)∧Tryz.C 38 #[.map v22] H20 fun r23 H24=>r23= .tuple #[]∧R (.tuple #[.map none,.bool false]) H24)
 (∃v25,cell H20 ⟨b12,0,none⟩=some (.map v25)∧R (.tuple #[.map v25,.bool true]) H20)
def Tryz.p39:Plan:=(tl (tl (tl (two (tl (two (tl (tl leaf)) leaf)) (tl leaf)))))
theorem Tryz.s39{x1:OA}{ah2:Option Nat}{d3:AV}{H R}(h:Tryz.S39 x1 ah2 d3 H R):Tryz.C 39 #[.pointer x1,.map ah2,.agg d3] H R:=vcs Tryz.tab_ok Tryz.mixed Tryz.func39 Tryz.cal39 Tryz.p39 h (by kernel_rfl)
def Tryz.S40(x1:OA)(ki2:Int)(mo3p:OA)(mo3l mo3c:Nat)(H:Heap)(R:Kv):Prop:=
 ∃a4,x1=some a4∧ ∃j5,cell H (.add a4 5)=some (.pointer j5)∧br (Option.isNone j5)
 (R (.int .i64 0) H)
 (∃a6,x1=some a6∧ ∃j7,cell H (.add a6 5)=some (.pointer j7)∧alc H (.cells #[.int .u8 ki2] 5) fun b8 H9=>(Ext H H9∨(∃j16,cell H9 (.add a6 5)=some (.pointer j16)∧Value.pointer j16= .pointer j7))∧appQ 1 1 #[.int .u8 0] H9 (some ⟨b8,0,none⟩) 1 1 mo3p mo3l 5 fun ap10p ap10l ap10c H11=>(Ext H9 H11∨(∃j15,cell H11 (.add a6 5)=some (.pointer j15)∧Value.pointer j15= .pointer j7))∧Tryz.C 16 #[.pointer j7,.slice ap10p ap10l ap10c] H11 fun r12 H13=> ∃r14,r12= .int .i64 r14∧R (.int .i64 r14) H13)
def Tryz.p40:Plan:=(tl (tg (tl leaf)))
theorem Tryz.s40{x1:OA}{ki2:Int}{mo3p:OA}{mo3l mo3c:Nat}{H R}(h:Tryz.S40 x1 ki2 mo3p mo3l mo3c H R):Tryz.C 40 #[.pointer x1,.int .u8 ki2,.slice mo3p mo3l mo3c] H R:=vcs Tryz.tab_ok Tryz.mixed Tryz.func40 Tryz.cal40 Tryz.p40 h (by kernel_rfl)
def Tryz.S41(e1:AV)(H:Heap)(R:Kv):Prop:=
 alc H (.cells e1 40) fun b2 H3=>alc H3 (.cells #[.slice none 0 0] 142) fun b4 H5=> ∃Ki6,cell H5 (.add ⟨b2,0,none⟩ 0)=some (.int .i64 Ki6)∧ ∃ID7,cell H5 (.add ⟨b2,0,none⟩ 1)=some (.int .i64 ID7)∧ ∃To8,cell H5 (.add ⟨b2,0,none⟩ 2)=some (.int .i64 To8)∧ ∃At9,cell H5 (.add ⟨b2,0,none⟩ 3)=some (.int .i64 At9)∧ ∃N10,cell H5 (.add ⟨b2,0,none⟩ 4)=some (.int .i64 N10)∧ ∃M11,cell H5 (.add ⟨b2,0,none⟩ 5)=some (.int .i64 M11)∧ ∃X12,cell H5 (.add ⟨b2,0,none⟩ 6)=some (.int .i64 X12)∧ ∃Y13,cell H5 (.add ⟨b2,0,none⟩ 7)=some (.int .i64 Y13)∧ ∃W14,cell H5 (.add ⟨b2,0,none⟩ 8)=some (.int .i64 W14)∧ ∃H15,cell H5 (.add ⟨b2,0,none⟩ 9)=some (.int .i64 H15)∧alc H5 (.cells #[.int .i64 Ki6,.int .i64 ID7,.int .i64 To8,.int .i64 At9,.int .i64 N10,.int .i64 M11,.int .i64 X12,.int .i64 Y13,.int .i64 W14,.int .i64 H15] 3) fun b16 H17=>Tryz.C 83 #[.pointer (some ⟨b4,0,none⟩),.slice (some ⟨b16,0,none⟩) 10 10] H17 fun r18 H19=>r18= .tuple #[]∧ ∃P20p P20l P20c,cell H19 (.add ⟨b2,0,none⟩ 10)=some (.slice P20p P20l P20c)∧Tryz.C 84 #[.pointer (some ⟨b4,0,none⟩),.slice P20p P20l P20c] H19 fun r21 H22=>r21= .tuple #[]∧ ∃Sh23p Sh23l Sh23c,cell H22 (.add ⟨b2,0,none⟩ 11)=some (.slice Sh23p Sh23l Sh23c)∧alc H22 (.cells #[.int .i64 (Sh23l:Int)] 3) fun b24 H25=>Tryz.C 83 #[.pointer (some ⟨b4,0,none⟩),.slice (some ⟨b24,0,none⟩) 1 1] H25 fun r26 H27=>r26= .tuple #[]∧ ∃Sh28p Sh28l Sh28c,cell H27 (.add ⟨b2,0,none⟩ 11)=some (.slice Sh28p Sh28l Sh28c)∧ ∀X29:Kl,(∀(t30:Int) H31,(br (decide (t30<(Sh28l:Int))) (∃a32,Sh28p=some a32∧0≤t30∧t30<(Sh28l:Int)∧ ∃v33,v33.size=2∧rowIn H31 (.add a32 (toNat t30*2)) v33∧alc H31 (.cells #[.int .i64 0,.int .i64 0] 146) fun b34 H35=>v33.size=2∧stAt H35 ⟨b34,0,none⟩ v33.toList fun H36=> ∃X37,cell H36 (.add ⟨b34,0,none⟩ 0)=some (.int .i64 X37)∧ ∃Y38,cell H36 (.add ⟨b34,0,none⟩ 1)=some (.int .i64 Y38)∧alc H36 (.cells #[.int .i64 X37,.int .i64 Y38] 3) fun b39 H40=>Tryz.C 83 #[.pointer (some ⟨b4,0,none⟩),.slice (some ⟨b39,0,none⟩) 2 2] H40 fun r41 H42=>r41= .tuple #[]∧X29 [.int .i64 (wrap .i64 (t30+1))] H42) (Tryz.C 83 #[.pointer (some ⟨b4,0,none⟩),.slice (some (if 6=0 then(.add ⟨b2,0,none⟩ 12) else Addr.add (.add ⟨b2,0,none⟩ 12) (0*1))) (6-0) (6-0)] H31 fun r43 H44=>r43= .tuple #[]∧ ∃Pa45p Pa45l Pa45c,cell H44 (.add ⟨b2,0,none⟩ 18)=some (.slice Pa45p Pa45l Pa45c)∧Tryz.C 84 #[.pointer (some ⟨b4,0,none⟩),.slice Pa45p Pa45l Pa45c] H44 fun r46 H47=>r46= .tuple #[]∧ ∃a48,(some ⟨b4,0,none⟩)=some a48∧ ∃b49p b49l b49c,cell H47 (.add a48 0)=some (.slice b49p b49l b49c)∧R (.slice b49p b49l b49c) H47))→X29 [.int .i64 t30] H31)→X29 [.int .i64 0] H27
def Tryz.p41:Plan:=(tl (tl (tl (tl (tl (two (tl (one (loop [(44,3)] [1,3,42,43] (tl (two (tl leaf) (two (one (tl leaf)) leaf)))))) (tl (tl (tl leaf)))))))))
theorem Tryz.s41{e1:AV}{H R}(h:Tryz.S41 e1 H R):Tryz.C 41 #[.agg e1] H R:=vcs Tryz.tab_ok Tryz.mixed Tryz.func41 Tryz.cal41 Tryz.p41 h (by kernel_rfl)
def Tryz.S42(x1 fu2p:OA)(fu2l fu2c:Nat)(H:Heap)(R:Kv):Prop:=
 ∃a3,x1=some a3∧ ∃no4,cell H (.add a3 7)=some (.map no4)∧0≤(fu2l:Int)∧(fu2l:Int)≤(fu2l:Int)∧((8:Nat):Int)*(fu2l:Int)≤281474976710656∧(fu2l:Int)≤281474976710656∧alc H (.cells (List.toArray (reps (toNat (fu2l:Int)) (Array.toList #[.map none]))) 65) fun b5 H6=> ∀X7:Kl,(∀(ah8:Option Nat) (k9:Int) H10,(br (decide (k9≥0)) (∃a11,fu2p=some a11∧0≤k9∧k9<(fu2l:Int)∧ ∃v12,v12.size=4∧rowIn H10 (.add a11 (toNat k9*4)) v12∧Tryz.C 39 #[.pointer x1,.map ah8,.agg v12] H10 fun r13 H14=> ∃r15 r16,r13= .tuple #[.map r15,.bool r16]∧ ∃a17,(some ⟨b5,0,none⟩)=some a17∧0≤k9∧k9<(((toNat (fu2l:Int)):Nat):Int)∧stAt H14 (.add a17 (toNat k9*1)) [.map r15] fun H18=> ∃a19,(some ⟨b5,0,none⟩)=some a19∧0≤k9∧k9<(((toNat (fu2l:Int)):Nat):Int)∧ ∃ah20,cell H18 (.add a19 (toNat k9*1))=some (.map ah20)∧X7 [.map ah20,.int .i64 (wrap .i64 (k9-1))] H18) (∃a21,x1=some a21∧stAt H10 (.add a21 9) [.slice (some ⟨b5,0,none⟩) (toNat (fu2l:Int)) (toNat (fu2l:Int))] fun H22=>R (.tuple #[]) H22))→X7 [.map ah8,.int .i64 k9] H10)→X7 [.map no4,.int .i64 (wrap .i64 ((fu2l:Int)-1))] H6
def Tryz.p42:Plan:=(tl (tl (two (tl (one (loop [(4,65),(6,3)] [0,1,5] (two (tl (tl leaf)) (two (one (tl leaf)) leaf))))) leaf)))
theorem Tryz.s42{x1 fu2p:OA}{fu2l fu2c:Nat}{H R}(h:Tryz.S42 x1 fu2p fu2l fu2c H R):Tryz.C 42 #[.pointer x1,.slice fu2p fu2l fu2c] H R:=vcs Tryz.tab_ok Tryz.mixed Tryz.func42 Tryz.cal42 Tryz.p42 h (by kernel_rfl)
def Tryz.S43(h1:OA)(e2:AV)(H:Heap)(R:Kv):Prop:=
 alc H (.cells e2 40) fun b3 H4=> ∀J5:Kl,(∀(d6:Addr) (er7:Int) H8,(br (er7 != 0) (R (.int .i64 er7) H8) (∃a9,h1=some a9∧ ∃a10,h1=some a10∧ ∃no11,no11.size=4∧rowIn H8 (.add a10 0) no11∧Tryz.C 85 #[.pointer (some (.add a9 4)),.agg no11] H8 fun r12 H13=>r12= .tuple #[]∧ ∃v14,v14.size=4∧rowIn H13 d6 v14∧ ∃a15,h1=some a15∧v14.size=4∧stAt H13 (.add a15 0) v14.toList fun H16=> ∃a17,h1=some a17∧#[Value.slice none 0 0].size=1∧stAt H16 (.add a17 5) (Array.toList #[.slice none 0 0]) fun H18=>R (.int .i64 0) H18))→J5 [.pointer (some d6),.int .i64 er7] H8)→
 ∃a19,h1=some a19∧ ∃no20,no20.size=4∧rowIn H4 (.add a19 0) no20∧ ∃v21,v21.size=19∧rowIn H4 ⟨b3,0,none⟩ v21∧(Tryz.C 37 #[.agg no20,.agg v21] H4 fun r22 H23=> ∃r24 r25,r22= .tuple #[.agg r24,.int .i64 r25]∧alc H23 (.cells #[.int .i64 0,.int .i64 0,.int .i64 0,.slice none 0 0] 46) fun b26 H27=>r24.size=4∧stAt H27 ⟨b26,0,none⟩ r24.toList fun H28=>J5 [.pointer (some ⟨b26,0,none⟩),.int .i64 r25] H28)∧(alc H4 (.cells #[.int .i64 0,.int .i64 0,.int .i64 0,.slice none 0 0] 46) fun b29 H30=>(Ext H4 H30∨(∃v36,v36.size=19∧rowIn H30 ⟨b3,0,none⟩ v36∧Value.agg v36= .agg v21)∧(∃no37,no37.size=4∧rowIn H30 (.add a19 0) no37∧Value.agg no37= .agg no20))∧Tryz.C 37 #[.agg no20,.agg v21] H30 fun r31 H32=> ∃r33 r34,r31= .tuple #[.agg r33,.int .i64 r34]∧r33.size=4∧stAt H32 ⟨b29,0,none⟩ r33.toList fun H35=>J5 [.pointer (some ⟨b29,0,none⟩),.int .i64 r34] H35)
def Tryz.p43:Plan:=(tl (two (join [(5,999999),(6,26)] [0] leaf) (tg (tl (tl (tl leaf))))))
theorem Tryz.s43{h1:OA}{e2:AV}{H R}(h:Tryz.S43 h1 e2 H R):Tryz.C 43 #[.pointer h1,.agg e2] H R:=vcs Tryz.tab_ok Tryz.mixed Tryz.func43 Tryz.cal43 Tryz.p43 h (by kernel_rfl)
def Tryz.S44(l1:OA)(e2:AV)(H:Heap)(R:Kv):Prop:=
 alc H (.cells e2 40) fun b3 H4=> ∀J5:Kl,(∀(d6:Addr) (er7:Int) H8,(br (er7 != 0) (R (.int .i64 er7) H8) (∃a9,l1=some a9∧ ∃d10,d10.size=4∧rowIn H8 (.add a9 0) d10∧alc H8 (.cells #[.int .i64 0,.int .i64 0,.int .i64 0,.slice none 0 0] 46) fun b11 H12=>d10.size=4∧stAt H12 ⟨b11,0,none⟩ d10.toList fun H13=> ∃v14,v14.size=4∧rowIn H13 d6 v14∧ ∃a15,l1=some a15∧v14.size=4∧stAt H13 (.add a15 0) v14.toList fun H16=> ∃v17,v17.size=19∧rowIn H16 ⟨b3,0,none⟩ v17∧ ∃v18,v18.size=4∧rowIn H16 d6 v18∧Tryz.C 86 #[.agg v17,.agg v18] H16 fun r19 H20=> ∃id21,r19= .int .i64 id21∧ ∃v22,v22.size=4∧rowIn H20 ⟨b11,0,none⟩ v22∧Tryz.C 87 #[.agg v22,.int .i64 id21] H20 fun r23 H24=> ∃r25 r26,r23= .tuple #[.agg r25,.bool r26]∧alc H24 (.cells #[.int .i64 0,.int .i64 0,.bool false,.int .i64 0,.int .i64 0,.int .i64 0,.int .i64 0,.slice none 0 0,.slice none 0 0,.int .i64 0,.int .i64 0,.int .i64 0,.int .i64 0,.int .i64 0,.int .i64 0,.bool false,.int .i64 0,.slice none 0 0,.slice none 0 0] 118) fun b27 H28=>r25.size=19∧stAt H28 ⟨b27,0,none⟩ r25.toList fun H29=> ∃v30,v30.size=4∧rowIn H29 d6 v30∧Tryz.C 87 #[.agg v30,.int .i64 id21] H29 fun r31 H32=> ∃r33 r34,r31= .tuple #[.agg r33,.bool r34]∧alc H32 (.cells #[.int .i64 0,.int .i64 0,.bool false,.int .i64 0,.int .i64 0,.int .i64 0,.int .i64 0,.slice none 0 0,.slice none 0 0,.int .i64 0,.int .i64 0,.int .i64 0,.int .i64 0,.int .i64 0,.int .i64 0,.bool false,.int .i64 0,.slice none 0 0,.slice none 0 0] 118) fun b35 H36=>r33.size=19∧stAt H36 ⟨b35,0,none⟩ r33.toList fun H37=> ∀J38:Kl,(∀H39,(∃v40,v40.size=4∧rowIn H39 d6 v40∧Tryz.C 87 #[.agg v40,.int .i64 id21] H39 fun r41 H42=> ∃r43 r44,r41= .tuple #[.agg r43,.bool r44]∧alc H42 (.cells #[.int .i64 0,.int .i64 0,.bool false,.int .i64 0,.int .i64 0,.int .i64 0,.int .i64 0,.slice none 0 0,.slice none 0 0,.int .i64 0,.int .i64 0,.int .i64 0,.int .i64 0,.int .i64 0,.int .i64 0,.bool false,.int .i64 0,.slice none 0 0,.slice none 0 0] 118) fun b45 H46=>r43.size=19∧stAt H46 ⟨b45,0,none⟩ r43.toList fun H47=> ∀J48:Kl,(∀H49,(∃X50,cell H49 (.add ⟨b3,0,none⟩ 6)=some (.int .i64 X50)∧ ∃Y51,cell H49 (.add ⟨b3,0,none⟩ 7)=some (.int .i64 Y51)∧ ∃X52,cell H49 (.add ⟨b3,0,none⟩ 6)=some (.int .i64 X52)∧ ∃W53,cell H49 (.add ⟨b3,0,none⟩ 8)=some (.int .i64 W53)∧ ∃W54,cell H49 (.add ⟨b45,0,none⟩ 5)=some (.int .i64 W54)∧ ∃W55,cell H49 (.add d6 0)=some (.int .i64 W55)∧ ∃Y56,cell H49 (.add ⟨b3,0,none⟩ 7)=some (.int .i64 Y56)∧ ∃H57,cell H49 (.add ⟨b3,0,none⟩ 9)=some (.int .i64 H57)∧ ∃H58,cell H49 (.add ⟨b45,0,none⟩ 6)=some (.int .i64 H58)∧ ∃H59,cell H49 (.add d6 1)=some (.int .i64 H59)∧br (decide (((max 0 X50):Int)≥(min (min (wrap .i64 (X52+W53)) W54) W55))) (R (.int .i64 0) H49) ((16:Int)≠0∧ ∀X60:Kl,(∀(y61:Int) H62,(∀J63:Kl,(∀H64,((16:Int)≠0∧ ∀X65:Kl,(∀(x66:Int) H67,(br (decide (((wrap .i64 (x66*16)):Int)<(min (min (wrap .i64 (X52+W53)) W54) W55))) (∃a68,l1=some a68∧ ∃ti69,cell H67 (.add a68 4)=some (.map ti69)∧delQ (.arr 2 3) (.int .i64) (.map ti69) (.agg #[.int .i64 x66,.int .i64 y61]) H67 fun H70=>X65 [.int .i64 (wrap .i64 (x66+1))] H70) (X60 [.int .i64 (wrap .i64 (y61+1))] H67))→X65 [.int .i64 x66] H67)→X65 [.int .i64 (wrap .i64 (Int.tdiv (max 0 X50) 16))] H64)→J63 [] H64)→br (decide (((max 0 Y51):Int)<(min (min (wrap .i64 (Y56+H57)) H58) H59))) (br (decide (((wrap .i64 (y61*16)):Int)<(min (min (wrap .i64 (Y56+H57)) H58) H59))) (J63 [] H62) (R (.int .i64 0) H62)) (R (.int .i64 0) H62))→X60 [.int .i64 y61] H62)→X60 [.int .i64 (wrap .i64 (Int.tdiv (max 0 Y51) 16))] H49))→J48 [] H49)→ ∃Ki71,cell H47 (.add ⟨b3,0,none⟩ 0)=some (.int .i64 Ki71)∧br (Ki71 != 4) (∃a72,l1=some a72∧ ∃ti73,cell H47 (.add a72 4)=some (.map ti73)∧ ∃r74,ti73=some r74∧ ∃(es75:Array MapEntry) (c76:Nat),H47[r74]?=some (.map es75 c76)∧sto H47 r74 (.map #[] c76) fun H77=>R (.int .i64 0) H77) (∃Ma78,Ma78.size=6∧rowIn H47 (.add ⟨b45,0,none⟩ 9) Ma78∧Tryz.C 89 #[] H47 fun r79 H80=> ∃r81,r79= .agg r81∧(Ext H47 H80∨(∃Ma90,Ma90.size=6∧rowIn H80 (.add ⟨b45,0,none⟩ 9) Ma90∧Value.agg Ma90= .agg Ma78))∧(1=1∧ ∃as_82 bs83:List Int,as_82.length=6∧bs83.length=6∧Ma78=(as_82.map (Value.int .i64)).toArray∧r81=(bs83.map (Value.int .i64)).toArray∧br (!(decide (as_82=bs83))) (∃a84,l1=some a84∧ ∃ti85,cell H80 (.add a84 4)=some (.map ti85)∧ ∃r86,ti85=some r86∧ ∃(es87:Array MapEntry) (c88:Nat),H80[r86]?=some (.map es87 c88)∧sto H80 r86 (.map #[] c88) fun H89=>R (.int .i64 0) H89) (J48 [] H80))))→J38 [] H39)→br (!r26) (br (!r34) (R (.int .i64 0) H37) (∃v91,v91.size=4∧rowIn H37 d6 v91∧Tryz.C 88 #[.agg v91,.int .i64 id21] H37 fun r92 H93=> ∃r94,r92= .bool r94∧br r94 (R (.int .i64 0) H93) (J38 [] H93))) (∃v95,v95.size=4∧rowIn H37 ⟨b11,0,none⟩ v95∧Tryz.C 88 #[.agg v95,.int .i64 id21] H37 fun r96 H97=> ∃r98,r96= .bool r98∧br r98 (br (!r34) (R (.int .i64 0) H97) (∃v99,v99.size=4∧rowIn H97 d6 v99∧Tryz.C 88 #[.agg v99,.int .i64 id21] H97 fun r100 H101=> ∃r102,r100= .bool r102∧br r102 (R (.int .i64 0) H101) (J38 [] H101))) (J38 [] H97))))→J5 [.pointer (some d6),.int .i64 er7] H8)→
 ∃a103,l1=some a103∧ ∃d104,d104.size=4∧rowIn H4 (.add a103 0) d104∧ ∃v105,v105.size=19∧rowIn H4 ⟨b3,0,none⟩ v105∧(Tryz.C 37 #[.agg d104,.agg v105] H4 fun r106 H107=> ∃r108 r109,r106= .tuple #[.agg r108,.int .i64 r109]∧alc H107 (.cells #[.int .i64 0,.int .i64 0,.int .i64 0,.slice none 0 0] 46) fun b110 H111=>r108.size=4∧stAt H111 ⟨b110,0,none⟩ r108.toList fun H112=>J5 [.pointer (some ⟨b110,0,none⟩),.int .i64 r109] H112)∧(alc H4 (.cells #[.int .i64 0,.int .i64 0,.int .i64 0,.slice none 0 0] 46) fun b113 H114=>(Ext H4 H114∨(∃v120,v120.size=19∧rowIn H114 ⟨b3,0,none⟩ v120∧Value.agg v120= .agg v105)∧(∃d121,d121.size=4∧rowIn H114 (.add a103 0) d121∧Value.agg d121= .agg d104))∧Tryz.C 37 #[.agg d104,.agg v105] H114 fun r115 H116=> ∃r117 r118,r115= .tuple #[.agg r117,.int .i64 r118]∧r117.size=4∧stAt H116 ⟨b113,0,none⟩ r117.toList fun H119=>J5 [.pointer (some ⟨b113,0,none⟩),.int .i64 r118] H119)
def Tryz.p44:Plan:=(tl (two (join [(5,999999),(6,26)] [0,3] leaf) (tg (tl (tl (tl (tl (tl (two (join [] [0,3,5,8] g0) (tl (two (join [] [0,3,5,13] (tl (two (tl (tl leaf)) leaf))) (tl (tl (tg (two (tl (one (loop [(19,3)] [0,15,16,17,18] (two (join [] [0,15,16,17,18,19] (tl (tl leaf))) (two (one (tl (one (loop [(20,3)] [0,15,16,17,18,19] (two (tl (tl leaf)) (two (one leaf) leaf)))))) leaf))))) (tl leaf))))))))))))))))
theorem Tryz.s44{l1:OA}{e2:AV}{H R}(h:Tryz.S44 l1 e2 H R):Tryz.C 44 #[.pointer l1,.agg e2] H R:=vcs Tryz.tab_ok Tryz.mixed Tryz.func44 Tryz.cal44 Tryz.p44 h (by kernel_rfl)
def Tryz.S45(x1:OA)(ki2:Int)(from_3 to4:OA)(do_5g:Nat)(do_5x do_5y:AV)(H:Heap)(R:Kv):Prop:=
 ∃a6,from_3=some a6∧ ∃v7p v7l v7c,cell H a6=some (.slice v7p v7l v7c)∧br (((v7l:Int):Int)==0)
 (R (.int .i64 44) H)
 (Tryz.C 40 #[.pointer x1,.int .u8 ki2,.slice none 0 0] H fun r8 H9=> ∃e10,r8= .int .i64 e10∧br (e10 != 0) (R (.int .i64 e10) H9) (Tryz.C do_5g (List.toArray (Array.toList do_5x++[]++Array.toList do_5y)) H9 fun r11 H12=> ∃r13,r11= .int .i64 r13∧ ∃a14,from_3=some a14∧ ∃v15p v15l v15c,cell H12 a14=some (.slice v15p v15l v15c)∧ ∃a16,to4=some a16∧ ∃v17p v17l v17c,cell H12 a16=some (.slice v17p v17l v17c)∧ ∃a18,x1=some a18∧ ∃no19,cell H12 (.add a18 7)=some (.map no19)∧alc H12 (.cells #[.map no19] 65) fun b20 H21=>(Ext H12 H21∨(∃v46p v46l v46c,cell H21 a16=some (.slice v46p v46l v46c)∧Value.slice v46p v46l v46c= .slice v17p v17l v17c))∧appQ 1 8 #[.map none] H21 v17p v17l v17c (some ⟨b20,0,none⟩) 1 65 fun ap22p ap22l ap22c H23=> ∃a24,to4=some a24∧stAt H23 a24 [.slice ap22p ap22l ap22c] fun H25=> ∃a26,from_3=some a26∧ ∃v27p v27l v27c,cell H25 a26=some (.slice v27p v27l v27c)∧ ∃a28,v27p=some a28∧0≤(wrap .i64 ((v15l:Int)-1))∧(wrap .i64 ((v15l:Int)-1))<(v27l:Int)∧ ∃v29,cell H25 (.add a28 (toNat (wrap .i64 ((v15l:Int)-1))*1))=some (.map v29)∧ ∃a30,from_3=some a30∧ ∃v31p v31l v31c,cell H25 a30=some (.slice v31p v31l v31c)∧0≤(wrap .i64 ((v15l:Int)-1))∧(wrap .i64 ((v15l:Int)-1))≤(v31c:Int)∧ ∃a32,x1=some a32∧stAt H25 (.add a32 7) [.map v29] fun H33=> ∃a34,from_3=some a34∧stAt H33 a34 [.slice (if v31c=0 then v31p else Option.map (fun x=>Addr.add x (0*1)) v31p) ((toNat (wrap .i64 ((v15l:Int)-1)))-0) (v31c-0)] fun H35=> ∃a36,x1=some a36∧ ∃l37,cell H35 (.add a36 4)=some (.pointer l37)∧ ∃a38,x1=some a38∧ ∃h39,cell H35 (.add a38 3)=some (.pointer h39)∧Tryz.C 36 #[.pointer h39] H35 fun r40 H41=> ∃r42,r40= .agg r42∧(Ext H35 H41∨(∃l45,cell H41 (.add a36 4)=some (.pointer l45)∧Value.pointer l45= .pointer l37))∧Tryz.C 90 #[.pointer l37,.agg r42] H41 fun r43 H44=>r43= .tuple #[]∧R (.int .i64 0) H44))
def Tryz.p45:Plan:=(tl (tg (two (tl g0) (tl (tl (tl (tl (tl (tl leaf)))))))))
theorem Tryz.s45{x1:OA}{ki2:Int}{from_3 to4:OA}{do_5g:Nat}{do_5x do_5y:AV}{H R}(h:Tryz.S45 x1 ki2 from_3 to4 do_5g do_5x do_5y H R):Tryz.C 45 #[.pointer x1,.int .u8 ki2,.pointer from_3,.pointer to4,.func (.func do_5g) do_5x do_5y] H R:=vcs Tryz.tab_ok Tryz.mixed Tryz.func45 Tryz.cal45 Tryz.p45 h (by kernel_rfl)
def Tryz.S46(h1:OA)(H:Heap)(R:Kv):Prop:=
 ∃a2,h1=some a2∧ ∃a3,h1=some a3∧Tryz.C 91 #[.pointer h1,.pointer (some (.add a2 4)),.pointer (some (.add a3 5))] H fun r4 H5=> ∃r6,r4= .int .i64 r6∧R (.int .i64 r6) H5
def Tryz.p46:Plan:=(tl (tl leaf))
theorem Tryz.s46{h1:OA}{H R}(h:Tryz.S46 h1 H R):Tryz.C 46 #[.pointer h1] H R:=vcs Tryz.tab_ok Tryz.mixed Tryz.func46 Tryz.cal46 Tryz.p46 h (by kernel_rfl)
end Go.Proofs
namespace Go.Proofs
open Go.Sh Go.Sh.Plan
open Go.IntKind (wrap)
open Int (toNat)
def Tryz.S56(d1:AV)(H:Heap)(R:Kv):Prop:=
 alc H (.cells d1 46) fun b2 H3=>alc H3 (.cells #[.int .i64 0,.int .i64 0,.int .i64 0,.slice none 0 0] 46) fun b4 H5=> ∃W6,cell H5 (.add ⟨b2,0,none⟩ 0)=some (.int .i64 W6)∧ ∃H7,cell H5 (.add ⟨b2,0,none⟩ 1)=some (.int .i64 H7)∧ ∃Ne8,cell H5 (.add ⟨b2,0,none⟩ 2)=some (.int .i64 Ne8)∧alc H5 (.cells #[.int .i64 0,.int .i64 0,.int .i64 0,.slice none 0 0] 46) fun b9 H10=>#[Value.int .i64 W6,Value.int .i64 H7,Value.int .i64 Ne8,Value.slice none 0 0].size=4∧stAt H10 ⟨b9,0,none⟩ (Array.toList #[.int .i64 W6,.int .i64 H7,.int .i64 Ne8,.slice none 0 0]) fun H11=> ∃Ki12p Ki12l Ki12c,cell H11 (.add ⟨b2,0,none⟩ 3)=some (.slice Ki12p Ki12l Ki12c)∧ ∀X13:Kl,(∀(t14:Int) H15,(br (decide (t14<(Ki12l:Int))) (∃a16,Ki12p=some a16∧0≤t14∧t14<(Ki12l:Int)∧ ∃v17,v17.size=19∧rowIn H15 (.add a16 (toNat t14*19)) v17∧alc H15 (.cells #[.int .i64 0,.int .i64 0,.bool false,.int .i64 0,.int .i64 0,.int .i64 0,.int .i64 0,.slice none 0 0,.slice none 0 0,.int .i64 0,.int .i64 0,.int .i64 0,.int .i64 0,.int .i64 0,.int .i64 0,.bool false,.int .i64 0,.slice none 0 0,.slice none 0 0] 118) fun b18 H19=>v17.size=19∧stAt H19 ⟨b18,0,none⟩ v17.toList fun H20=> ∃v21,v21.size=4∧rowIn H20 ⟨b2,0,none⟩ v21∧ ∃ID22,cell H20 (.add ⟨b18,0,none⟩ 0)=some (.int .i64 ID22)∧Tryz.C 87 #[.agg v21,.int .i64 ID22] H20 fun r23 H24=> ∃r25 r26,r23= .tuple #[.agg r25,.bool r26]∧alc H24 (.cells #[.int .i64 0,.int .i64 0,.bool false,.int .i64 0,.int .i64 0,.int .i64 0,.int .i64 0,.slice none 0 0,.slice none 0 0,.int .i64 0,.int .i64 0,.int .i64 0,.int .i64 0,.int .i64 0,.int .i64 0,.bool false,.int .i64 0,.slice none 0 0,.slice none 0 0] 118) fun b27 H28=>r25.size=19∧stAt H28 ⟨b27,0,none⟩ r25.toList fun H29=> ∃Ki30p Ki30l Ki30c,cell H29 (.add ⟨b9,0,none⟩ 3)=some (.slice Ki30p Ki30l Ki30c)∧ ∃v31,v31.size=19∧rowIn H29 ⟨b27,0,none⟩ v31∧v31.size=19∧0+19≤19∧alc H29 (.cells (List.toArray (setL [.int .i64 0,.int .i64 0,.bool false,.int .i64 0,.int .i64 0,.int .i64 0,.int .i64 0,.slice none 0 0,.slice none 0 0,.int .i64 0,.int .i64 0,.int .i64 0,.int .i64 0,.int .i64 0,.int .i64 0,.bool false,.int .i64 0,.slice none 0 0,.slice none 0 0] 0 v31.toList)) 118) fun b32 H33=>appQ 19 216 #[.int .i64 0,.int .i64 0,.bool false,.int .i64 0,.int .i64 0,.int .i64 0,.int .i64 0,.slice none 0 0,.slice none 0 0,.int .i64 0,.int .i64 0,.int .i64 0,.int .i64 0,.int .i64 0,.int .i64 0,.bool false,.int .i64 0,.slice none 0 0,.slice none 0 0] H33 Ki30p Ki30l Ki30c (some ⟨b32,0,none⟩) 1 118 fun ap34p ap34l ap34c H35=>stAt H35 (.add ⟨b9,0,none⟩ 3) [.slice ap34p ap34l ap34c] fun H36=>X13 [.int .i64 (wrap .i64 (t14+1))] H36) (∃v37,v37.size=4∧rowIn H15 ⟨b9,0,none⟩ v37∧v37.size=4∧stAt H15 ⟨b4,0,none⟩ v37.toList fun H38=> ∃re39,re39.size=4∧rowIn H38 ⟨b4,0,none⟩ re39∧R (.agg re39) H38))→X13 [.int .i64 t14] H15)→X13 [.int .i64 0] H11
def Tryz.p56:Plan:=(tl (tl (two (tl (one (loop [(18,3)] [1,2,3,16,17] (tl (two (tl leaf) (two (one (tl (tl leaf))) leaf)))))) (tl leaf))))
theorem Tryz.s56{d1:AV}{H R}(h:Tryz.S56 d1 H R):Tryz.C 56 #[.agg d1] H R:=vcs Tryz.tab_ok Tryz.mixed Tryz.func56 Tryz.cal56 Tryz.p56 h (by kernel_rfl)
def Tryz.S57(li1p:OA)(li1l li1c:Nat)(H:Heap)(R:Kv):Prop:=
 ∀X2:Kl,(∀(ou3p:OA) (ou3l ou3c:Nat) (t4:Int) H5,(br (decide (t4<(li1l:Int))) (∃a6,li1p=some a6∧0≤t4∧t4<(li1l:Int)∧ ∃v7,v7.size=4∧rowIn H5 (.add a6 (toNat t4*4)) v7∧alc H5 (.cells #[.int .i64 0,.int .i64 0,.int .i64 0,.slice none 0 0] 46) fun b8 H9=>v7.size=4∧stAt H9 ⟨b8,0,none⟩ v7.toList fun H10=> ∃v11,v11.size=4∧rowIn H10 ⟨b8,0,none⟩ v11∧Tryz.C 56 #[.agg v11] H10 fun r12 H13=> ∃r14,r12= .agg r14∧r14.size=4∧0+4≤4∧alc H13 (.cells (List.toArray (setL [.int .i64 0,.int .i64 0,.int .i64 0,.slice none 0 0] 0 r14.toList)) 46) fun b15 H16=>appQ 4 48 #[.int .i64 0,.int .i64 0,.int .i64 0,.slice none 0 0] H16 ou3p ou3l ou3c (some ⟨b15,0,none⟩) 1 46 fun ou17p ou17l ou17c H18=>X2 [.slice ou17p ou17l ou17c,.int .i64 (wrap .i64 (t4+1))] H18) (R (.slice ou3p ou3l ou3c) H5))→X2 [.slice ou3p ou3l ou3c,.int .i64 t4] H5)→X2 [.slice none 0 0,.int .i64 0] H
def Tryz.p57:Plan:=(tl (tl (two (tl (one (loop [(3,47),(8,3)] [6,7] (tl (two (tl leaf) (two (one (tl leaf)) leaf)))))) (tl leaf))))
theorem Tryz.s57{li1p:OA}{li1l li1c:Nat}{H R}(h:Tryz.S57 li1p li1l li1c H R):Tryz.C 57 #[.slice li1p li1l li1c] H R:=vcs Tryz.tab_ok Tryz.mixed Tryz.func57 Tryz.cal57 Tryz.p57 h (by kernel_rfl)
def Tryz.S58(s1:AV)(H:Heap)(R:Kv):Prop:=
 alc H (.cells s1 49) fun b2 H3=> ∃Do4,Do4.size=4∧rowIn H3 (.add ⟨b2,0,none⟩ 0) Do4∧ ∃Pa5p Pa5l Pa5c,cell H3 (.add ⟨b2,0,none⟩ 4)=some (.slice Pa5p Pa5l Pa5c)∧ ∃Fu6p Fu6l Fu6c,cell H3 (.add ⟨b2,0,none⟩ 5)=some (.slice Fu6p Fu6l Fu6c)∧Tryz.C 56 #[.agg Do4] H3 fun r7 H8=> ∃r9,r7= .agg r9∧(Ext H3 H8∨(∃Fu19p Fu19l Fu19c,cell H8 (.add ⟨b2,0,none⟩ 5)=some (.slice Fu19p Fu19l Fu19c)∧Value.slice Fu19p Fu19l Fu19c= .slice Fu6p Fu6l Fu6c)∧(∃Pa20p Pa20l Pa20c,cell H8 (.add ⟨b2,0,none⟩ 4)=some (.slice Pa20p Pa20l Pa20c)∧Value.slice Pa20p Pa20l Pa20c= .slice Pa5p Pa5l Pa5c))∧Tryz.C 57 #[.slice Pa5p Pa5l Pa5c] H8 fun r10 H11=> ∃r12p r12l r12c,r10= .slice r12p r12l r12c∧(Ext H8 H11∨(∃Fu18p Fu18l Fu18c,cell H11 (.add ⟨b2,0,none⟩ 5)=some (.slice Fu18p Fu18l Fu18c)∧Value.slice Fu18p Fu18l Fu18c= .slice Fu6p Fu6l Fu6c))∧Tryz.C 57 #[.slice Fu6p Fu6l Fu6c] H11 fun r13 H14=> ∃r15p r15l r15c,r13= .slice r15p r15l r15c∧r9.size=4∧0+4≤6∧#[Value.slice r12p r12l r12c].size=1∧4+1≤6∧#[Value.slice r15p r15l r15c].size=1∧5+1≤6∧alc H14 (.cells (List.toArray (setL (setL (setL [.int .i64 0,.int .i64 0,.int .i64 0,.slice none 0 0,.slice none 0 0,.slice none 0 0] 0 r9.toList) 4 (Array.toList #[.slice r12p r12l r12c])) 5 (Array.toList #[.slice r15p r15l r15c]))) 115) fun b16 H17=>R (.pointer (some ⟨b16,0,none⟩)) H17
def Tryz.p58:Plan:=(tl (tl leaf))
theorem Tryz.s58{s1:AV}{H R}(h:Tryz.S58 s1 H R):Tryz.C 58 #[.agg s1] H R:=vcs Tryz.tab_ok Tryz.mixed Tryz.func58 Tryz.cal58 Tryz.p58 h (by kernel_rfl)
def Tryz.S59(d1:AV)(H:Heap)(R:Kv):Prop:=
 alc H (.cells d1 46) fun b2 H3=>alc H3 (.cells #[.int .i64 0,.int .i64 0,.int .i64 0,.slice none 0 0,.map none,.int .i64 0] 101) fun b4 H5=> ∃v6,v6.size=4∧rowIn H5 ⟨b2,0,none⟩ v6∧Tryz.C 90 #[.pointer (some ⟨b4,0,none⟩),.agg v6] H5 fun r7 H8=>r7= .tuple #[]∧R (.pointer (some ⟨b4,0,none⟩)) H8
def Tryz.p59:Plan:=(tl (tl (tl (tl leaf))))
theorem Tryz.s59{d1:AV}{H R}(h:Tryz.S59 d1 H R):Tryz.C 59 #[.agg d1] H R:=vcs Tryz.tab_ok Tryz.mixed Tryz.func59 Tryz.cal59 Tryz.p59 h (by kernel_rfl)
def Tryz.S60(ca1:Int)(H:Heap)(R:Kv):Prop:=
 br (decide (ca1<0)) (R (.pointer none) H) (br (decide (ca1>1048576)) (R (.pointer none) H) (alc H (.cells #[.int .i64 ca1] 110) fun b2 H3=>R (.pointer (some ⟨b2,0,none⟩)) H3))
def Tryz.p60:Plan:=(tl (tg (tl leaf)))
theorem Tryz.s60{ca1:Int}{H R}(h:Tryz.S60 ca1 H R):Tryz.C 60 #[.int .i64 ca1] H R:=vcs Tryz.tab_ok Tryz.mixed Tryz.func60 Tryz.cal60 Tryz.p60 h (by kernel_rfl)
def Tryz.S62(pa1p:OA)(pa1l pa1c:Nat)(H:Heap)(R:Kv):Prop:=
 ∀X2:Kl,(∀(su3 t4:Int) H5,(br (decide (t4<(pa1l:Int))) (∃a6,pa1p=some a6∧0≤t4∧t4<(pa1l:Int)∧ ∃p7p p7l p7c,cell H5 (.add a6 (toNat t4*1))=some (.slice p7p p7l p7c)∧Tryz.C 114 #[.int .i64 su3,.slice p7p p7l p7c] H5 fun r8 H9=> ∃su10,r8= .int .i64 su10∧X2 [.int .i64 su10,.int .i64 (wrap .i64 (t4+1))] H9) (R (.int .i64 su3) H5))→X2 [.int .i64 su3,.int .i64 t4] H5)→X2 [.int .i64 0,.int .i64 0] H
def Tryz.p62:Plan:=(tl (tl (two (tl (one (loop [(3,3),(8,3)] [6,7] (tl (two (tl leaf) (two (one (tl leaf)) leaf)))))) (tl leaf))))
theorem Tryz.s62{pa1p:OA}{pa1l pa1c:Nat}{H R}(h:Tryz.S62 pa1p pa1l pa1c H R):Tryz.C 62 #[.slice pa1p pa1l pa1c] H R:=vcs Tryz.tab_ok Tryz.mixed Tryz.func62 Tryz.cal62 Tryz.p62 h (by kernel_rfl)
def Tryz.S63(r1:OA)(H:Heap)(R:Kv):Prop:=
 ∀J2:Kl,(∀H3,(∃a4,r1=some a4∧ ∃do5,cell H3 (.add a4 4)=some (.bool do5)∧R (.bool (!do5)) H3)→J2 [] H3)→
 ∃a6,r1=some a6∧ ∃le7,cell H (.add a6 3)=some (.int .i64 le7)∧br (decide (le7>0))
 (∃a8,r1=some a8∧ ∃le9,cell H (.add a8 3)=some (.int .i64 le9)∧ ∃a10,r1=some a10∧stAt H (.add a10 3) [.int .i64 (wrap .i64 (le9-1))] fun H11=>J2 [] H11)
 (∃a12,r1=some a12∧ ∃le13,cell H (.add a12 3)=some (.int .i64 le13)∧br (le13==0) (∃a14,r1=some a14∧stAt H (.add a14 4) [.bool true] fun H15=>J2 [] H15) (J2 [] H))
def Tryz.p63:Plan:=(tl (two (join [] [0] (one (tl (tl (tl (tl leaf)))))) (tl leaf)))
theorem Tryz.s63{r1:OA}{H R}(h:Tryz.S63 r1 H R):Tryz.C 63 #[.pointer r1] H R:=vcs Tryz.tab_ok Tryz.mixed Tryz.func63 Tryz.cal63 Tryz.p63 h (by kernel_rfl)
def Tryz.S64(n1:Int)(H:Heap)(R:Kv):Prop:=
 0≤(24:Int)∧0≤(16:Int)∧0≤(8:Int)∧alc H (.cells #[.int .u8 (wrap .u8 (shrI .i64 n1 24)),.int .u8 (wrap .u8 (shrI .i64 n1 16)),.int .u8 (wrap .u8 (shrI .i64 n1 8)),.int .u8 (wrap .u8 n1)] 5) fun b2 H3=>R (.slice (some ⟨b2,0,none⟩) 4 4) H3
def Tryz.p64:Plan:=(tl (tl leaf))
theorem Tryz.s64{n1:Int}{H R}(h:Tryz.S64 n1 H R):Tryz.C 64 #[.int .i64 n1] H R:=vcs Tryz.tab_ok Tryz.mixed Tryz.func64 Tryz.cal64 Tryz.p64 h (by kernel_rfl)
def Tryz.S65(sl1p:OA)(sl1l sl1c:Nat)(H:Heap)(R:Kv):Prop:=
 ∀X2:Kl,(∀(si3 t4:Int) H5,(br (decide (t4<(sl1l:Int))) (∃a6,sl1p=some a6∧0≤t4∧t4<(sl1l:Int)∧ ∃s7p s7l s7c,cell H5 (.add a6 (toNat t4*1))=some (.slice s7p s7l s7c)∧br (decide (((wrap .i64 (si3+(s7l:Int))):Int)<0)) (False) (X2 [.int .i64 (wrap .i64 (si3+(s7l:Int))),.int .i64 (wrap .i64 (t4+1))] H5)) (Tryz.C 115 #[.slice none 0 0,.int .i64 si3] H5 fun r8 H9=> ∃ne10p ne10l ne10c,r8= .slice ne10p ne10l ne10c∧ ∀X11:Kl,(∀(ne12p:OA) (ne12l ne12c:Nat) (t13:Int) H14,(br (decide (t13<(sl1l:Int))) (∃a15,sl1p=some a15∧0≤t13∧t13<(sl1l:Int)∧ ∃s16p s16l s16c,cell H14 (.add a15 (toNat t13*1))=some (.slice s16p s16l s16c)∧appQ 1 1 #[.int .u8 0] H14 ne12p ne12l ne12c s16p s16l 5 fun ne17p ne17l ne17c H18=>X11 [.slice ne17p ne17l ne17c,.int .i64 (wrap .i64 (t13+1))] H18) (R (.slice ne12p ne12l ne12c) H14))→X11 [.slice ne12p ne12l ne12c,.int .i64 t13] H14)→X11 [.slice ne10p ne10l ne10c,.int .i64 0] H9))→X2 [.int .i64 si3,.int .i64 t4] H5)→X2 [.int .i64 0,.int .i64 0] H
def Tryz.p65:Plan:=(tl (tl (two (tl (one (loop [(3,3),(11,3)] [0,9,10] (tl (two (tl leaf) (two (one (tl (tl (tl (tl leaf))))) leaf)))))) (tl (two (tl (one (loop [(6,32),(27,3)] [25,26] (tl (two (tl leaf) (two (one (tl leaf)) leaf)))))) (tl leaf))))))
theorem Tryz.s65{sl1p:OA}{sl1l sl1c:Nat}{H R}(h:Tryz.S65 sl1p sl1l sl1c H R):Tryz.C 65 #[.slice sl1p sl1l sl1c] H R:=vcs Tryz.tab_ok Tryz.mixed Tryz.func65 Tryz.cal65 Tryz.p65 h (by kernel_rfl)
def Tryz.S66(li1p:OA)(li1l li1c:Nat)(H:Heap)(R:Kv):Prop:=
 ∀X2:Kl,(∀(ou3p:OA) (ou3l ou3c:Nat) (t4:Int) H5,(br (decide (t4<(li1l:Int))) (∃a6,li1p=some a6∧0≤t4∧t4<(li1l:Int)∧ ∃v7,v7.size=19∧rowIn H5 (.add a6 (toNat t4*19)) v7∧alc H5 (.cells #[.int .i64 0,.int .i64 0,.bool false,.int .i64 0,.int .i64 0,.int .i64 0,.int .i64 0,.slice none 0 0,.slice none 0 0,.int .i64 0,.int .i64 0,.int .i64 0,.int .i64 0,.int .i64 0,.int .i64 0,.bool false,.int .i64 0,.slice none 0 0,.slice none 0 0] 118) fun b8 H9=>v7.size=19∧stAt H9 ⟨b8,0,none⟩ v7.toList fun H10=> ∃v11,v11.size=19∧rowIn H10 ⟨b8,0,none⟩ v11∧Tryz.C 116 #[.agg v11] H10 fun r12 H13=> ∃r14,r12= .agg r14∧r14.size=19∧0+19≤19∧alc H13 (.cells (List.toArray (setL [.int .i64 0,.int .i64 0,.bool false,.int .i64 0,.int .i64 0,.int .i64 0,.int .i64 0,.slice none 0 0,.slice none 0 0,.int .i64 0,.int .i64 0,.int .i64 0,.int .i64 0,.int .i64 0,.int .i64 0,.bool false,.int .i64 0,.slice none 0 0,.slice none 0 0] 0 r14.toList)) 118) fun b15 H16=>appQ 19 216 #[.int .i64 0,.int .i64 0,.bool false,.int .i64 0,.int .i64 0,.int .i64 0,.int .i64 0,.slice none 0 0,.slice none 0 0,.int .i64 0,.int .i64 0,.int .i64 0,.int .i64 0,.int .i64 0,.int .i64 0,.bool false,.int .i64 0,.slice none 0 0,.slice none 0 0] H16 ou3p ou3l ou3c (some ⟨b15,0,none⟩) 1 118 fun ou17p ou17l ou17c H18=>X2 [.slice ou17p ou17l ou17c,.int .i64 (wrap .i64 (t4+1))] H18) (R (.slice ou3p ou3l ou3c) H5))→X2 [.slice ou3p ou3l ou3c,.int .i64 t4] H5)→X2 [.slice none 0 0,.int .i64 0] H
def Tryz.p66:Plan:=(tl (tl (two (tl (one (loop [(3,44),(8,3)] [6,7] (tl (two (tl leaf) (two (one (tl leaf)) leaf)))))) (tl leaf))))
theorem Tryz.s66{li1p:OA}{li1l li1c:Nat}{H R}(h:Tryz.S66 li1p li1l li1c H R):Tryz.C 66 #[.slice li1p li1l li1c] H R:=vcs Tryz.tab_ok Tryz.mixed Tryz.func66 Tryz.cal66 Tryz.p66 h (by kernel_rfl)
def Tryz.S67(d1:OA)(H:Heap)(R:Kv):Prop:=
 ∃a2,d1=some a2∧ ∃Ki3p Ki3l Ki3c,cell H (.add a2 3)=some (.slice Ki3p Ki3l Ki3c)∧alc H (.cells #[.int .i64 0,.int .i64 1,.bool false,.int .i64 0,.int .i64 0,.int .i64 0,.int .i64 0,.slice none 0 0,.slice none 0 0,.int .i64 0,.int .i64 0,.int .i64 0,.int .i64 0,.int .i64 0,.int .i64 0,.bool false,.int .i64 0,.slice none 0 0,.slice Ki3p Ki3l Ki3c] 118) fun b4 H5=>R (.pointer (some ⟨b4,0,none⟩)) H5
def Tryz.p67:Plan:=(tl (tl leaf))
theorem Tryz.s67{d1:OA}{H R}(h:Tryz.S67 d1 H R):Tryz.C 67 #[.pointer d1] H R:=vcs Tryz.tab_ok Tryz.mixed Tryz.func67 Tryz.cal67 Tryz.p67 h (by kernel_rfl)
def Tryz.S68(w1:AV)(H:Heap)(R:Kv):Prop:=
 alc H (.cells w1 130) fun b2 H3=> ∀J4:Kl,(∀(l5:Addr) H6,(∀J7:Kl,(∀H8,(∀J9:Kl,(∀H10,(∃v11,v11.size=21∧rowIn H10 ⟨b2,0,none⟩ v11∧Tryz.C 117 #[.agg v11] H10 fun r12 H13=> ∃r14 r15,r12= .tuple #[.pointer r14,.int .i64 r15]∧br (r15 != 0) (R (.int .i64 r15) H13) (∃ro16,cell H13 (.add ⟨b2,0,none⟩ 0)=some (.pointer ro16)∧ ∃a17,ro16=some a17∧ ∃Ki18p Ki18l Ki18c,cell H13 (.add a17 18)=some (.slice Ki18p Ki18l Ki18c)∧Tryz.C 26 #[.slice Ki18p Ki18l Ki18c] H13 fun r19 H20=> ∃n21,r19= .int .i64 n21∧ ∃v22,v22.size=21∧rowIn H20 ⟨b2,0,none⟩ v22∧ ∃v23,v23.size=19∧rowIn H20 l5 v23∧Tryz.C 118 #[.agg v22,.pointer r14,.agg v23] H20 fun r24 H25=> ∃e26,r24= .int .i64 e26∧br (e26 != 0) (R (.int .i64 e26) H25) (br (decide (n21≥4096)) (R (.int .i64 31) H25) (∃d27,cell H25 (.add ⟨b2,0,none⟩ 1)=some (.pointer d27)∧ ∃a28,d27=some a28∧ ∃Ne29,cell H25 (.add a28 2)=some (.int .i64 Ne29)∧ ∃a30,d27=some a30∧stAt H25 (.add a30 2) [.int .i64 (wrap .i64 (Ne29+1))] fun H31=>R (.int .i64 0) H31))))→J9 [] H10)→ ∃Ki32,cell H8 (.add l5 1)=some (.int .i64 Ki32)∧br (Ki32==0) (∃W33,cell H8 (.add (.add ⟨b2,0,none⟩ 2) 8)=some (.int .i64 W33)∧ ∃H34,cell H8 (.add (.add ⟨b2,0,none⟩ 2) 9)=some (.int .i64 H34)∧Tryz.C 28 #[.int .i64 W33,.int .i64 H34] H8 fun r35 H36=> ∃r37 r38,r35= .tuple #[.agg r37,.int .i64 r38]∧alc H36 (.cells #[.int .i64 0,.int .i64 0,.int .i64 0,.slice none 0 0] 46) fun b39 H40=>r37.size=4∧stAt H40 ⟨b39,0,none⟩ r37.toList fun H41=>br (r38 != 0) (R (.int .i64 r38) H41) (∃W42,cell H41 (.add ⟨b39,0,none⟩ 0)=some (.int .i64 W42)∧ ∃H43,cell H41 (.add ⟨b39,0,none⟩ 1)=some (.int .i64 H43)∧ ∃W44,cell H41 (.add ⟨b39,0,none⟩ 0)=some (.int .i64 W44)∧ ∃H45,cell H41 (.add ⟨b39,0,none⟩ 1)=some (.int .i64 H45)∧(0≤(wrap .i64 (W44*H45))∧(wrap .i64 (W44*H45))≤(wrap .i64 (W44*H45))∧((8:Nat):Int)*(wrap .i64 (W44*H45))≤281474976710656∧(wrap .i64 (W44*H45))≤281474976710656∧alc H41 (.cells (List.toArray (reps (toNat (wrap .i64 (W44*H45))) (Array.toList #[.int .i64 0]))) 3) fun b46 H47=>(Ext H41 H47∨(∃H52,cell H47 (.add ⟨b39,0,none⟩ 1)=some (.int .i64 H52)∧Value.int .i64 H52= .int .i64 H43)∧(∃W53,cell H47 (.add ⟨b39,0,none⟩ 0)=some (.int .i64 W53)∧Value.int .i64 W53= .int .i64 W42))∧stAt H47 (.add l5 5) [.int .i64 W42] fun H48=>(Ext H47 H48∨(∃H51,cell H48 (.add ⟨b39,0,none⟩ 1)=some (.int .i64 H51)∧Value.int .i64 H51= .int .i64 H43))∧stAt H48 (.add l5 6) [.int .i64 H43] fun H49=>stAt H49 (.add l5 7) [.slice (some ⟨b46,0,none⟩) (toNat (wrap .i64 (W44*H45))) (toNat (wrap .i64 (W44*H45)))] fun H50=>J9 [] H50)∧(stAt H41 (.add l5 5) [.int .i64 W42] fun H54=>(Ext H41 H54∨(∃H66,cell H54 (.add ⟨b39,0,none⟩ 1)=some (.int .i64 H66)∧Value.int .i64 H66= .int .i64 H45)∧(∃W67,cell H54 (.add ⟨b39,0,none⟩ 0)=some (.int .i64 W67)∧Value.int .i64 W67= .int .i64 W44)∧(∃H68,cell H54 (.add ⟨b39,0,none⟩ 1)=some (.int .i64 H68)∧Value.int .i64 H68= .int .i64 H43))∧(0≤(wrap .i64 (W44*H45))∧(wrap .i64 (W44*H45))≤(wrap .i64 (W44*H45))∧((8:Nat):Int)*(wrap .i64 (W44*H45))≤281474976710656∧(wrap .i64 (W44*H45))≤281474976710656∧alc H54 (.cells (List.toArray (reps (toNat (wrap .i64 (W44*H45))) (Array.toList #[.int .i64 0]))) 3) fun b55 H56=>(Ext H54 H56∨(∃H59,cell H56 (.add ⟨b39,0,none⟩ 1)=some (.int .i64 H59)∧Value.int .i64 H59= .int .i64 H43))∧stAt H56 (.add l5 6) [.int .i64 H43] fun H57=>stAt H57 (.add l5 7) [.slice (some ⟨b55,0,none⟩) (toNat (wrap .i64 (W44*H45))) (toNat (wrap .i64 (W44*H45)))] fun H58=>J9 [] H58)∧(stAt H54 (.add l5 6) [.int .i64 H43] fun H60=>(Ext H54 H60∨(∃H64,cell H60 (.add ⟨b39,0,none⟩ 1)=some (.int .i64 H64)∧Value.int .i64 H64= .int .i64 H45)∧(∃W65,cell H60 (.add ⟨b39,0,none⟩ 0)=some (.int .i64 W65)∧Value.int .i64 W65= .int .i64 W44))∧0≤(wrap .i64 (W44*H45))∧(wrap .i64 (W44*H45))≤(wrap .i64 (W44*H45))∧((8:Nat):Int)*(wrap .i64 (W44*H45))≤281474976710656∧(wrap .i64 (W44*H45))≤281474976710656∧alc H60 (.cells (List.toArray (reps (toNat (wrap .i64 (W44*H45))) (Array.toList #[.int .i64 0]))) 3) fun b61 H62=>stAt H62 (.add l5 7) [.slice (some ⟨b61,0,none⟩) (toNat (wrap .i64 (W44*H45))) (toNat (wrap .i64 (W44*H45)))] fun H63=>J9 [] H63)))) (J9 [] H8))→J7 [] H8)→ ∃Ki69,cell H6 (.add l5 1)=some (.int .i64 Ki69)∧br (decide (Ki69<0)) (R (.int .i64 41) H6) (∃Ki70,cell H6 (.add l5 1)=some (.int .i64 Ki70)∧br (decide (Ki70>2)) (R (.int .i64 41) H6) (J7 [] H6)))→J4 [.pointer (some l5)] H6)→
 ∃d71,cell H3 (.add ⟨b2,0,none⟩ 1)=some (.pointer d71)∧ ∃a72,d71=some a72∧ ∃Ne73,cell H3 (.add a72 2)=some (.int .i64 Ne73)∧ ∃N74,cell H3 (.add (.add ⟨b2,0,none⟩ 2) 4)=some (.int .i64 N74)∧(Tryz.C 89 #[] H3 fun r75 H76=> ∃r77,r75= .agg r77∧(Ext H3 H76∨(∃N84,cell H76 (.add (.add ⟨b2,0,none⟩ 2) 4)=some (.int .i64 N84)∧Value.int .i64 N84= .int .i64 N74)∧(∃Ne85,cell H76 (.add a72 2)=some (.int .i64 Ne85)∧Value.int .i64 Ne85= .int .i64 Ne73)∧(∃d86,cell H76 (.add ⟨b2,0,none⟩ 1)=some (.pointer d86)∧Value.pointer d86= .pointer d71))∧r77.size=6∧9+6≤19∧alc H76 (.cells #[.int .i64 0,.int .i64 0,.bool false,.int .i64 0,.int .i64 0,.int .i64 0,.int .i64 0,.slice none 0 0,.slice none 0 0,.int .i64 0,.int .i64 0,.int .i64 0,.int .i64 0,.int .i64 0,.int .i64 0,.bool false,.int .i64 0,.slice none 0 0,.slice none 0 0] 118) fun b78 H79=>(Ext H76 H79∨(∃N81,cell H79 (.add (.add ⟨b2,0,none⟩ 2) 4)=some (.int .i64 N81)∧Value.int .i64 N81= .int .i64 N74)∧(∃Ne82,cell H79 (.add a72 2)=some (.int .i64 Ne82)∧Value.int .i64 Ne82= .int .i64 Ne73)∧(∃d83,cell H79 (.add ⟨b2,0,none⟩ 1)=some (.pointer d83)∧Value.pointer d83= .pointer d71))∧(List.toArray (List.set (setL [.int .i64 Ne73,.int .i64 N74,.bool false,.int .i64 255,.int .i64 0,.int .i64 0,.int .i64 0,.slice none 0 0,.slice none 0 0,.int .i64 0,.int .i64 0,.int .i64 0,.int .i64 0,.int .i64 0,.int .i64 0,.bool false,.int .i64 0,.slice none 0 0,.slice none 0 0] 9 r77.toList) 16 (.int .i64 2))).size=19∧stAt H79 ⟨b78,0,none⟩ (Array.toList (List.toArray (List.set (setL [.int .i64 Ne73,.int .i64 N74,.bool false,.int .i64 255,.int .i64 0,.int .i64 0,.int .i64 0,.slice none 0 0,.slice none 0 0,.int .i64 0,.int .i64 0,.int .i64 0,.int .i64 0,.int .i64 0,.int .i64 0,.bool false,.int .i64 0,.slice none 0 0,.slice none 0 0] 9 r77.toList) 16 (.int .i64 2)))) fun H80=>J4 [.pointer (some ⟨b78,0,none⟩)] H80)∧(alc H3 (.cells #[.int .i64 0,.int .i64 0,.bool false,.int .i64 0,.int .i64 0,.int .i64 0,.int .i64 0,.slice none 0 0,.slice none 0 0,.int .i64 0,.int .i64 0,.int .i64 0,.int .i64 0,.int .i64 0,.int .i64 0,.bool false,.int .i64 0,.slice none 0 0,.slice none 0 0] 118) fun b87 H88=>(Ext H3 H88∨(∃N96,cell H88 (.add (.add ⟨b2,0,none⟩ 2) 4)=some (.int .i64 N96)∧Value.int .i64 N96= .int .i64 N74)∧(∃Ne97,cell H88 (.add a72 2)=some (.int .i64 Ne97)∧Value.int .i64 Ne97= .int .i64 Ne73)∧(∃d98,cell H88 (.add ⟨b2,0,none⟩ 1)=some (.pointer d98)∧Value.pointer d98= .pointer d71))∧Tryz.C 89 #[] H88 fun r89 H90=> ∃r91,r89= .agg r91∧(Ext H88 H90∨(∃N93,cell H90 (.add (.add ⟨b2,0,none⟩ 2) 4)=some (.int .i64 N93)∧Value.int .i64 N93= .int .i64 N74)∧(∃Ne94,cell H90 (.add a72 2)=some (.int .i64 Ne94)∧Value.int .i64 Ne94= .int .i64 Ne73)∧(∃d95,cell H90 (.add ⟨b2,0,none⟩ 1)=some (.pointer d95)∧Value.pointer d95= .pointer d71))∧r91.size=6∧9+6≤19∧(List.toArray (List.set (setL [.int .i64 Ne73,.int .i64 N74,.bool false,.int .i64 255,.int .i64 0,.int .i64 0,.int .i64 0,.slice none 0 0,.slice none 0 0,.int .i64 0,.int .i64 0,.int .i64 0,.int .i64 0,.int .i64 0,.int .i64 0,.bool false,.int .i64 0,.slice none 0 0,.slice none 0 0] 9 r91.toList) 16 (.int .i64 2))).size=19∧stAt H90 ⟨b87,0,none⟩ (Array.toList (List.toArray (List.set (setL [.int .i64 Ne73,.int .i64 N74,.bool false,.int .i64 255,.int .i64 0,.int .i64 0,.int .i64 0,.slice none 0 0,.slice none 0 0,.int .i64 0,.int .i64 0,.int .i64 0,.int .i64 0,.int .i64 0,.int .i64 0,.bool false,.int .i64 0,.slice none 0 0,.slice none 0 0] 9 r91.toList) 16 (.int .i64 2)))) fun H92=>J4 [.pointer (some ⟨b87,0,none⟩)] H92)
def Tryz.p68:Plan:=(tl (two (join [(3,999999)] [1] leaf) (two (join [] [1,3] g0) (two (join [] [1,3] (tl (two (tl (tg leaf)) leaf))) (tl (tg (tl (two (tl g0) (tg (tl (tl leaf)))))))))))
theorem Tryz.s68{w1:AV}{H R}(h:Tryz.S68 w1 H R):Tryz.C 68 #[.agg w1] H R:=vcs Tryz.tab_ok Tryz.mixed Tryz.func68 Tryz.cal68 Tryz.p68 h (by kernel_rfl)
end Go.Proofs
namespace Go.Proofs
open Go.Sh Go.Sh.Plan
open Go.IntKind (wrap)
open Int (toNat)
def Tryz.S69(w1:AV)(H:Heap)(R:Kv):Prop:=
 alc H (.cells w1 130) fun b2 H3=> ∃ro4,cell H3 (.add ⟨b2,0,none⟩ 0)=some (.pointer ro4)∧ ∃ID5,cell H3 (.add (.add ⟨b2,0,none⟩ 2) 1)=some (.int .i64 ID5)∧Tryz.C 119 #[.pointer ro4,.int .i64 ID5] H3 fun r6 H7=> ∃r8 r9 r10,r6= .tuple #[.pointer r8,.pointer r9,.int .i64 r10]∧br (Option.isNone r8)
 (R (.int .i64 40) H7)
 (∃a11,r9=some a11∧ ∃Ki12p Ki12l Ki12c,cell H7 (.add a11 18)=some (.slice Ki12p Ki12l Ki12c)∧Tryz.C 120 #[.slice Ki12p Ki12l Ki12c,.int .i64 r10,.int .i64 (wrap .i64 (r10+1))] H7 fun r13 H14=> ∃r15p r15l r15c,r13= .slice r15p r15l r15c∧ ∃a16,r9=some a16∧stAt H14 (.add a16 18) [.slice r15p r15l r15c] fun H17=>R (.int .i64 0) H17)
def Tryz.p69:Plan:=(tl (tl (tg (tl (tl leaf)))))
theorem Tryz.s69{w1:AV}{H R}(h:Tryz.S69 w1 H R):Tryz.C 69 #[.agg w1] H R:=vcs Tryz.tab_ok Tryz.mixed Tryz.func69 Tryz.cal69 Tryz.p69 h (by kernel_rfl)
def Tryz.S70(w1:AV)(H:Heap)(R:Kv):Prop:=
 alc H (.cells w1 130) fun b2 H3=> ∃ro4,cell H3 (.add ⟨b2,0,none⟩ 0)=some (.pointer ro4)∧ ∃ID5,cell H3 (.add (.add ⟨b2,0,none⟩ 2) 1)=some (.int .i64 ID5)∧Tryz.C 119 #[.pointer ro4,.int .i64 ID5] H3 fun r6 H7=> ∃r8 r9 r10,r6= .tuple #[.pointer r8,.pointer r9,.int .i64 r10]∧br (Option.isNone r8)
 (R (.int .i64 40) H7)
 (∃v11,v11.size=21∧rowIn H7 ⟨b2,0,none⟩ v11∧Tryz.C 117 #[.agg v11] H7 fun r12 H13=> ∃r14 r15,r12= .tuple #[.pointer r14,.int .i64 r15]∧br (r15 != 0) (R (.int .i64 r15) H13) (∀J16:Kl,(∀H17,(∃a18,r8=some a18∧ ∃v19,v19.size=19∧rowIn H17 a18 v19∧alc H17 (.cells #[.int .i64 0,.int .i64 0,.bool false,.int .i64 0,.int .i64 0,.int .i64 0,.int .i64 0,.slice none 0 0,.slice none 0 0,.int .i64 0,.int .i64 0,.int .i64 0,.int .i64 0,.int .i64 0,.int .i64 0,.bool false,.int .i64 0,.slice none 0 0,.slice none 0 0] 118) fun b20 H21=>v19.size=19∧stAt H21 ⟨b20,0,none⟩ v19.toList fun H22=> ∃v23,v23.size=21∧rowIn H22 ⟨b2,0,none⟩ v23∧Tryz.C 69 #[.agg v23] H22 fun r24 H25=> ∃r26,r24= .int .i64 r26∧ ∃v27,v27.size=21∧rowIn H25 ⟨b2,0,none⟩ v27∧Tryz.C 117 #[.agg v27] H25 fun r28 H29=> ∃r30 r31,r28= .tuple #[.pointer r30,.int .i64 r31]∧br (r31 != 0) (R (.int .i64 r31) H29) (∃v32,v32.size=21∧rowIn H29 ⟨b2,0,none⟩ v32∧ ∃v33,v33.size=19∧rowIn H29 ⟨b20,0,none⟩ v33∧Tryz.C 118 #[.agg v32,.pointer r30,.agg v33] H29 fun r34 H35=> ∃r36,r34= .int .i64 r36∧R (.int .i64 r36) H35))→J16 [] H17)→ ∃To37,cell H13 (.add (.add ⟨b2,0,none⟩ 2) 2)=some (.int .i64 To37)∧Tryz.C 119 #[.pointer r8,.int .i64 To37] H13 fun r38 H39=> ∃r40 r41 r42,r38= .tuple #[.pointer r40,.pointer r41,.int .i64 r42]∧ ∃To43,cell H39 (.add (.add ⟨b2,0,none⟩ 2) 2)=some (.int .i64 To43)∧ ∃ID44,cell H39 (.add (.add ⟨b2,0,none⟩ 2) 1)=some (.int .i64 ID44)∧br (To43==ID44) (R (.int .i64 42) H39) (br (!(Option.isNone r40)) (R (.int .i64 42) H39) (J16 [] H39))))
def Tryz.p70:Plan:=(tl (tl (tg (tl (tg (two (join [] [1,3] (tl g0)) (tl (tl (two (tl g0) (tl leaf))))))))))
theorem Tryz.s70{w1:AV}{H R}(h:Tryz.S70 w1 H R):Tryz.C 70 #[.agg w1] H R:=vcs Tryz.tab_ok Tryz.mixed Tryz.func70 Tryz.cal70 Tryz.p70 h (by kernel_rfl)
def Tryz.S71(w1:AV)(H:Heap)(R:Kv):Prop:=
 alc H (.cells w1 130) fun b2 H3=> ∃v4,v4.size=21∧rowIn H3 ⟨b2,0,none⟩ v4∧Tryz.C 121 #[.agg v4] H3 fun r5 H6=> ∃r7 r8,r5= .tuple #[.pointer r7,.int .i64 r8]∧ ∀J9:Kl,(∀H10,(∃P11p P11l P11c,cell H10 (.add (.add ⟨b2,0,none⟩ 2) 10)=some (.slice P11p P11l P11c)∧Tryz.C 122 #[.slice P11p P11l P11c,.func (.func 123) #[] #[]] H10 fun r12 H13=> ∃r14,r12= .bool r14∧br r14 (R (.int .i64 25) H13) (∀J15:Kl,(∀H16,(∃P17p P17l P17c,cell H16 (.add (.add ⟨b2,0,none⟩ 2) 10)=some (.slice P17p P17l P17c)∧ ∀X18:Kl,(∀(i19:Int) H20,(br (decide (i19<(P17l:Int))) (∀J21:Kl,(∀H22,(X18 [.int .i64 (wrap .i64 (i19+1))] H22)→J21 [] H22)→ ∃a23,P17p=some a23∧0≤i19∧i19<(P17l:Int)∧ ∃v24,cell H20 (.add a23 (toNat i19*1))=some (.int .i64 v24)∧ ∃X25,cell H20 (.add (.add ⟨b2,0,none⟩ 2) 6)=some (.int .i64 X25)∧ ∃W26,cell H20 (.add (.add ⟨b2,0,none⟩ 2) 8)=some (.int .i64 W26)∧W26≠0∧ ∃Y27,cell H20 (.add (.add ⟨b2,0,none⟩ 2) 7)=some (.int .i64 Y27)∧ ∃W28,cell H20 (.add (.add ⟨b2,0,none⟩ 2) 8)=some (.int .i64 W28)∧W28≠0∧br (decide (((wrap .i64 (X25+(Int.tmod i19 W26))):Int)≥0)) (∃a29,r7=some a29∧ ∃W30,cell H20 (.add a29 5)=some (.int .i64 W30)∧br (decide (((wrap .i64 (X25+(Int.tmod i19 W26))):Int)<W30)) (br (decide (((wrap .i64 (Y27+(wrap .i64 (Int.tdiv i19 W28)))):Int)≥0)) (∃a31,r7=some a31∧ ∃H32,cell H20 (.add a31 6)=some (.int .i64 H32)∧br (decide (((wrap .i64 (Y27+(wrap .i64 (Int.tdiv i19 W28)))):Int)<H32)) (∃a33,r7=some a33∧ ∃P34p P34l P34c,cell H20 (.add a33 7)=some (.slice P34p P34l P34c)∧ ∃a35,r7=some a35∧ ∃W36,cell H20 (.add a35 5)=some (.int .i64 W36)∧ ∃a37,P34p=some a37∧0≤(wrap .i64 ((wrap .i64 ((wrap .i64 (Y27+(wrap .i64 (Int.tdiv i19 W28))))*W36))+(wrap .i64 (X25+(Int.tmod i19 W26)))))∧(wrap .i64 ((wrap .i64 ((wrap .i64 (Y27+(wrap .i64 (Int.tdiv i19 W28))))*W36))+(wrap .i64 (X25+(Int.tmod i19 W26)))))<(P34l:Int)∧stAt H20 (.add a37 (toNat (wrap .i64 ((wrap .i64 ((wrap .i64 (Y27+(wrap .i64 (Int.tdiv i19 W28))))*W36))+(wrap .i64 (X25+(Int.tmod i19 W26)))))*1)) [.int .i64 v24] fun H38=>J21 [] H38) (J21 [] H20)) (J21 [] H20)) (J21 [] H20)) (J21 [] H20)) (R (.int .i64 0) H20))→X18 [.int .i64 i19] H20)→X18 [.int .i64 0] H16)→J15 [] H16)→ ∃X39,cell H13 (.add (.add ⟨b2,0,none⟩ 2) 6)=some (.int .i64 X39)∧br (decide (X39<(-32768:Int))) (R (.int .i64 31) H13) (∃X40,cell H13 (.add (.add ⟨b2,0,none⟩ 2) 6)=some (.int .i64 X40)∧br (decide (X40>32768)) (R (.int .i64 31) H13) (∃Y41,cell H13 (.add (.add ⟨b2,0,none⟩ 2) 7)=some (.int .i64 Y41)∧br (decide (Y41<(-32768:Int))) (R (.int .i64 31) H13) (∃Y42,cell H13 (.add (.add ⟨b2,0,none⟩ 2) 7)=some (.int .i64 Y42)∧br (decide (Y42>32768)) (R (.int .i64 31) H13) (J15 [] H13))))))→J9 [] H10)→
 br (r8 != 0)
 (R (.int .i64 r8) H6)
 (∃a43,r7=some a43∧ ∃Ki44,cell H6 (.add a43 1)=some (.int .i64 Ki44)∧br (Ki44 != 0) (R (.int .i64 41) H6) (∃W45,cell H6 (.add (.add ⟨b2,0,none⟩ 2) 8)=some (.int .i64 W45)∧br (decide (W45<1)) (R (.int .i64 25) H6) (∃H46,cell H6 (.add (.add ⟨b2,0,none⟩ 2) 9)=some (.int .i64 H46)∧br (decide (H46<1)) (R (.int .i64 25) H6) (∃W47,cell H6 (.add (.add ⟨b2,0,none⟩ 2) 8)=some (.int .i64 W47)∧br (decide (W47>32768)) (R (.int .i64 25) H6) (∃H48,cell H6 (.add (.add ⟨b2,0,none⟩ 2) 9)=some (.int .i64 H48)∧br (decide (H48>32768)) (R (.int .i64 25) H6) (∃P49p P49l P49c,cell H6 (.add (.add ⟨b2,0,none⟩ 2) 10)=some (.slice P49p P49l P49c)∧ ∃W50,cell H6 (.add (.add ⟨b2,0,none⟩ 2) 8)=some (.int .i64 W50)∧ ∃H51,cell H6 (.add (.add ⟨b2,0,none⟩ 2) 9)=some (.int .i64 H51)∧br (((P49l:Int):Int) != (wrap .i64 (W50*H51))) (R (.int .i64 25) H6) (J9 [] H6)))))))
def Tryz.p71:Plan:=(tl (tl (two (join [] [1,3] (one (tl (two (tl leaf) (tl (two (tl leaf) g0)))))) (tg (two (join [] [1,3] g0) (two (tl (one (loop [(91,3)] [1,3,89,90] (tl (two (tl leaf) (two (join [] [1,3,89,90,91] (one (tl (tl (tl (tl leaf)))))) leaf)))))) (tl leaf)))))))
theorem Tryz.s71{w1:AV}{H R}(h:Tryz.S71 w1 H R):Tryz.C 71 #[.agg w1] H R:=vcs Tryz.tab_ok Tryz.mixed Tryz.func71 Tryz.cal71 Tryz.p71 h (by kernel_rfl)
def Tryz.S72(w1:AV)(H:Heap)(R:Kv):Prop:=
 alc H (.cells w1 130) fun b2 H3=> ∃v4,v4.size=21∧rowIn H3 ⟨b2,0,none⟩ v4∧Tryz.C 121 #[.agg v4] H3 fun r5 H6=> ∃r7 r8,r5= .tuple #[.pointer r7,.int .i64 r8]∧ ∀J9:Kl,(∀H10,(∃N11,cell H10 (.add (.add ⟨b2,0,none⟩ 2) 4)=some (.int .i64 N11)∧ ∃M12,cell H10 (.add (.add ⟨b2,0,none⟩ 2) 5)=some (.int .i64 M12)∧ ∃a13,r7=some a13∧stAt H10 (.add a13 3) [.int .i64 N11] fun H14=>(Ext H10 H14∨(∃M17,cell H14 (.add (.add ⟨b2,0,none⟩ 2) 5)=some (.int .i64 M17)∧Value.int .i64 M17= .int .i64 M12))∧ ∃a15,r7=some a15∧stAt H14 (.add a15 4) [.int .i64 M12] fun H16=>R (.int .i64 0) H16)→J9 [] H10)→
 br (r8 != 0)
 (R (.int .i64 r8) H6)
 (∃N18,cell H6 (.add (.add ⟨b2,0,none⟩ 2) 4)=some (.int .i64 N18)∧br (decide (N18<0)) (R (.int .i64 32) H6) (∃N19,cell H6 (.add (.add ⟨b2,0,none⟩ 2) 4)=some (.int .i64 N19)∧br (decide (N19>255)) (R (.int .i64 32) H6) (∃M20,cell H6 (.add (.add ⟨b2,0,none⟩ 2) 5)=some (.int .i64 M20)∧br (decide (M20<0)) (R (.int .i64 32) H6) (∃M21,cell H6 (.add (.add ⟨b2,0,none⟩ 2) 5)=some (.int .i64 M21)∧br (decide (M21>11)) (R (.int .i64 32) H6) (∃a22,r7=some a22∧ ∃Ki23,cell H6 (.add a22 1)=some (.int .i64 Ki23)∧br (Ki23==2) (∃M24,cell H6 (.add (.add ⟨b2,0,none⟩ 2) 5)=some (.int .i64 M24)∧br (M24 != 0) (R (.int .i64 41) H6) (J9 [] H6)) (J9 [] H6))))))
def Tryz.p72:Plan:=(tl (tl (two (join [] [1,3] (one (tl (two (tl leaf) (tl (two (tl leaf) g0)))))) (tl (tl leaf)))))
theorem Tryz.s72{w1:AV}{H R}(h:Tryz.S72 w1 H R):Tryz.C 72 #[.agg w1] H R:=vcs Tryz.tab_ok Tryz.mixed Tryz.func72 Tryz.cal72 Tryz.p72 h (by kernel_rfl)
def Tryz.S73(w1:AV)(H:Heap)(R:Kv):Prop:=
 alc H (.cells w1 130) fun b2 H3=> ∃v4,v4.size=21∧rowIn H3 ⟨b2,0,none⟩ v4∧Tryz.C 121 #[.agg v4] H3 fun r5 H6=> ∃r7 r8,r5= .tuple #[.pointer r7,.int .i64 r8]∧ ∀J9:Kl,(∀H10,(∃N11,cell H10 (.add (.add ⟨b2,0,none⟩ 2) 4)=some (.int .i64 N11)∧ ∃a12,r7=some a12∧stAt H10 (.add a12 2) [.bool (N11==1)] fun H13=>R (.int .i64 0) H13)→J9 [] H10)→
 br (r8 != 0)
 (R (.int .i64 r8) H6)
 (∃N14,cell H6 (.add (.add ⟨b2,0,none⟩ 2) 4)=some (.int .i64 N14)∧br (N14 != 0) (∃N15,cell H6 (.add (.add ⟨b2,0,none⟩ 2) 4)=some (.int .i64 N15)∧br (N15 != 1) (R (.int .i64 32) H6) (J9 [] H6)) (J9 [] H6))
def Tryz.p73:Plan:=(tl (tl (two (join [] [1,3] (one (tl (two (tl leaf) g0)))) (tl (tl leaf)))))
theorem Tryz.s73{w1:AV}{H R}(h:Tryz.S73 w1 H R):Tryz.C 73 #[.agg w1] H R:=vcs Tryz.tab_ok Tryz.mixed Tryz.func73 Tryz.cal73 Tryz.p73 h (by kernel_rfl)
def Tryz.S74(w1:AV)(H:Heap)(R:Kv):Prop:=
 alc H (.cells w1 130) fun b2 H3=> ∃v4,v4.size=21∧rowIn H3 ⟨b2,0,none⟩ v4∧Tryz.C 121 #[.agg v4] H3 fun r5 H6=> ∃r7 r8,r5= .tuple #[.pointer r7,.int .i64 r8]∧ ∀J9:Kl,(∀H10,(∃Sh11p Sh11l Sh11c,cell H10 (.add (.add ⟨b2,0,none⟩ 2) 11)=some (.slice Sh11p Sh11l Sh11c)∧ ∃d12,cell H10 (.add ⟨b2,0,none⟩ 1)=some (.pointer d12)∧ ∃a13,d12=some a13∧ ∃W14,cell H10 (.add a13 0)=some (.int .i64 W14)∧ ∃d15,cell H10 (.add ⟨b2,0,none⟩ 1)=some (.pointer d15)∧ ∃a16,d15=some a16∧ ∃H17,cell H10 (.add a16 1)=some (.int .i64 H17)∧Tryz.C 125 #[.slice Sh11p Sh11l Sh11c,.int .i64 W14,.int .i64 H17] H10 fun r18 H19=> ∃r20p r20l r20c r21,r18= .tuple #[.slice r20p r20l r20c,.int .i64 r21]∧br (r21 != 0) (R (.int .i64 r21) H19) (∀J22:Kl,(∀H23,(∃a24,r7=some a24∧stAt H23 (.add a24 8) [.slice r20p r20l r20c] fun H25=>R (.int .i64 0) H25)→J22 [] H23)→ ∃N26,cell H19 (.add (.add ⟨b2,0,none⟩ 2) 4)=some (.int .i64 N26)∧br (N26==1) (∀X27:Kl,(∀(i28:Int) H29,(br (decide (i28<(r20l:Int))) (∃a30,r20p=some a30∧0≤i28∧i28<(r20l:Int)∧ ∃v31,cell H29 (.add a30 (toNat i28*1))=some (.int .u8 v31)∧ ∃a32,r20p=some a32∧0≤i28∧i28<(r20l:Int)∧stAt H29 (.add a32 (toNat i28*1)) [.int .u8 (wrap .u8 ((255:Int)-v31))] fun H33=>X27 [.int .i64 (wrap .i64 (i28+1))] H33) (J22 [] H29))→X27 [.int .i64 i28] H29)→X27 [.int .i64 0] H19) (J22 [] H19)))→J9 [] H10)→
 br (r8 != 0)
 (R (.int .i64 r8) H6)
 (∃N34,cell H6 (.add (.add ⟨b2,0,none⟩ 2) 4)=some (.int .i64 N34)∧br (decide (N34<0)) (R (.int .i64 32) H6) (∃N35,cell H6 (.add (.add ⟨b2,0,none⟩ 2) 4)=some (.int .i64 N35)∧br (decide (N35>2)) (R (.int .i64 32) H6) (∃N36,cell H6 (.add (.add ⟨b2,0,none⟩ 2) 4)=some (.int .i64 N36)∧br (N36==2) (∃a37,r7=some a37∧stAt H6 (.add a37 8) [.slice none 0 0] fun H38=>R (.int .i64 0) H38) (J9 [] H6))))
def Tryz.p74:Plan:=(tl (tl (two (join [] [1,3] (one (tl (two (tl leaf) (tl (two (tl leaf) (tl (two (tl (tl leaf)) leaf)))))))) (tl (tg (two (join [] [3,5] (tl (two (tl (one (loop [(61,3)] [3,5,60] (tl (two (tl leaf) (two (one (tl leaf)) leaf)))))) leaf))) (tl (tl leaf))))))))
theorem Tryz.s74{w1:AV}{H R}(h:Tryz.S74 w1 H R):Tryz.C 74 #[.agg w1] H R:=vcs Tryz.tab_ok Tryz.mixed Tryz.func74 Tryz.cal74 Tryz.p74 h (by kernel_rfl)
def Tryz.S75(w1:AV)(H:Heap)(R:Kv):Prop:=
 alc H (.cells w1 130) fun b2 H3=> ∃v4,v4.size=21∧rowIn H3 ⟨b2,0,none⟩ v4∧Tryz.C 121 #[.agg v4] H3 fun r5 H6=> ∃r7 r8,r5= .tuple #[.pointer r7,.int .i64 r8]∧ ∀J9:Kl,(∀H10,(∃Ma11,Ma11.size=6∧rowIn H10 (.add (.add ⟨b2,0,none⟩ 2) 12) Ma11∧Tryz.C 126 #[.agg Ma11] H10 fun r12 H13=> ∃r14 r15,r12= .tuple #[.agg r14,.int .i64 r15]∧alc H13 (.cells #[.int .i64 0,.int .i64 0,.int .i64 0,.int .i64 0,.int .i64 0,.int .i64 0] 38) fun b16 H17=>r14.size=6∧stAt H17 ⟨b16,0,none⟩ r14.toList fun H18=>br (r15 != 0) (R (.int .i64 r15) H18) (∃Ma19,Ma19.size=6∧rowIn H18 (.add (.add ⟨b2,0,none⟩ 2) 12) Ma19∧ ∃N20,cell H18 (.add (.add ⟨b2,0,none⟩ 2) 4)=some (.int .i64 N20)∧ ∃a21,r7=some a21∧Ma19.size=6∧stAt H18 (.add a21 9) Ma19.toList fun H22=>(Ext H18 H22∨(∃N25,cell H22 (.add (.add ⟨b2,0,none⟩ 2) 4)=some (.int .i64 N25)∧Value.int .i64 N25= .int .i64 N20))∧ ∃a23,r7=some a23∧stAt H22 (.add a23 15) [.bool (N20==1)] fun H24=>R (.int .i64 0) H24))→J9 [] H10)→
 br (r8 != 0)
 (R (.int .i64 r8) H6)
 (∃a26,r7=some a26∧ ∃Ki27,cell H6 (.add a26 1)=some (.int .i64 Ki27)∧br (Ki27 != 0) (R (.int .i64 41) H6) (∃N28,cell H6 (.add (.add ⟨b2,0,none⟩ 2) 4)=some (.int .i64 N28)∧br (N28 != 0) (∃N29,cell H6 (.add (.add ⟨b2,0,none⟩ 2) 4)=some (.int .i64 N29)∧br (N29 != 1) (R (.int .i64 32) H6) (J9 [] H6)) (J9 [] H6)))
def Tryz.p75:Plan:=(tl (tl (two (join [] [1,3] (one (tl (two (tl leaf) (tl (two (tl leaf) g0)))))) (two (tl g0) (tl (tl leaf))))))
theorem Tryz.s75{w1:AV}{H R}(h:Tryz.S75 w1 H R):Tryz.C 75 #[.agg w1] H R:=vcs Tryz.tab_ok Tryz.mixed Tryz.func75 Tryz.cal75 Tryz.p75 h (by kernel_rfl)
def Tryz.S76(w1:AV)(H:Heap)(R:Kv):Prop:=
 alc H (.cells w1 130) fun b2 H3=> ∃v4,v4.size=21∧rowIn H3 ⟨b2,0,none⟩ v4∧Tryz.C 121 #[.agg v4] H3 fun r5 H6=> ∃r7 r8,r5= .tuple #[.pointer r7,.int .i64 r8]∧br (r8 != 0)
 (R (.int .i64 r8) H6)
 (∃a9,r7=some a9∧ ∃Ki10,cell H6 (.add a9 1)=some (.int .i64 Ki10)∧br (Ki10 != 2) (R (.int .i64 41) H6) (∃N11,cell H6 (.add (.add ⟨b2,0,none⟩ 2) 4)=some (.int .i64 N11)∧ ∃Pa12p Pa12l Pa12c,cell H6 (.add (.add ⟨b2,0,none⟩ 2) 18)=some (.slice Pa12p Pa12l Pa12c)∧Tryz.C 127 #[.int .i64 N11,.slice Pa12p Pa12l Pa12c] H6 fun r13 H14=> ∃r15p r15l r15c r16,r13= .tuple #[.slice r15p r15l r15c,.bool r16]∧br (!r16) (R (.int .i64 32) H14) (∃N17,cell H14 (.add (.add ⟨b2,0,none⟩ 2) 4)=some (.int .i64 N17)∧ ∃Pa18p Pa18l Pa18c,cell H14 (.add (.add ⟨b2,0,none⟩ 2) 18)=some (.slice Pa18p Pa18l Pa18c)∧Tryz.C 128 #[.slice Pa18p Pa18l Pa18c] H14 fun r19 H20=> ∃r21p r21l r21c,r19= .slice r21p r21l r21c∧(Ext H14 H20∨(∃N26,cell H20 (.add (.add ⟨b2,0,none⟩ 2) 4)=some (.int .i64 N26)∧Value.int .i64 N26= .int .i64 N17))∧ ∃a22,r7=some a22∧stAt H20 (.add a22 16) [.int .i64 N17] fun H23=> ∃a24,r7=some a24∧stAt H23 (.add a24 17) [.slice r21p r21l r21c] fun H25=>R (.int .i64 0) H25)))
def Tryz.p76:Plan:=(tl (tl (two (one (tl (two (tl leaf) g0))) (two (tl g0) (tl (tl leaf))))))
theorem Tryz.s76{w1:AV}{H R}(h:Tryz.S76 w1 H R):Tryz.C 76 #[.agg w1] H R:=vcs Tryz.tab_ok Tryz.mixed Tryz.func76 Tryz.cal76 Tryz.p76 h (by kernel_rfl)
def Tryz.S77(p1:OA)(H:Heap)(R:Kv):Prop:=
 ∀J2:Kl,(∀H3,(∃a4,p1=some a4∧ ∃ha5,cell H3 (.add a4 3)=some (.map ha5)∧ ∃r6,ha5=some r6∧ ∃(es7:Array MapEntry) (c8:Nat),H3[r6]?=some (.map es7 c8)∧sto H3 r6 (.map #[] c8) fun H9=>R (.tuple #[]) H9)→J2 [] H3)→
 ∃a10,p1=some a10∧ ∃ha11,cell H (.add a10 3)=some (.map ha11)∧ ∃c12,mapAt H ha11 c12∧alc H (.mapIter ha11 c12 #[] c12) fun b13 H14=> ∀X15:Kl,(∀H16,(nextQ H16 b13 (fun H17=>br false (∃(m20 since:Nat) (seen:Array Nat) (st23 st24:Nat) (es25:Array MapEntry) (x26:MapEntry),H17[b13]?=some (.mapIter (some m20) since seen st23)∧seen.back?=some st24∧H17[m20]?=some (.map es25 st23)∧es25.find? (fun y=>y.born==st24)=some x26∧ ∃k28:Value,x26.key=k28∧ ∃v29,x26.val= .pointer v29∧ ∃a30,v29=some a30∧ ∃us31,cell H17 (.add a30 256)=some (.int .i64 us31)∧ ∃a32,v29=some a32∧stAt H17 (.add a32 256) [.int .i64 (wrap .i64 (us31-1))] fun H33=> ∃a34,v29=some a34∧ ∃us35,cell H33 (.add a34 256)=some (.int .i64 us35)∧br (us35==0) (∃a36,p1=some a36∧ ∃a37,cell H33 (.add a36 0)=some (.pointer a37)∧ ∃a38,a37=some a38∧ ∃fr39,cell H33 (.add a38 0)=some (.int .i64 fr39)∧ ∃a40,a37=some a40∧stAt H33 (.add a40 0) [.int .i64 (wrap .i64 (fr39+1))] fun H41=>X15 [] H41) (X15 [] H33)) (J2 [] H17)) fun e18 H19=>br true (∃(m42 since:Nat) (seen:Array Nat) (st45 st46:Nat) (es47:Array MapEntry) (x48:MapEntry),H19[b13]?=some (.mapIter (some m42) since seen st45)∧seen.back?=some st46∧H19[m42]?=some (.map es47 st45)∧es47.find? (fun y=>y.born==st46)=some x48∧ ∃k50:Value,x48.key=k50∧ ∃v51,x48.val= .pointer v51∧ ∃a52,v51=some a52∧ ∃us53,cell H19 (.add a52 256)=some (.int .i64 us53)∧ ∃a54,v51=some a54∧stAt H19 (.add a54 256) [.int .i64 (wrap .i64 (us53-1))] fun H55=> ∃a56,v51=some a56∧ ∃us57,cell H55 (.add a56 256)=some (.int .i64 us57)∧br (us57==0) (∃a58,p1=some a58∧ ∃a59,cell H55 (.add a58 0)=some (.pointer a59)∧ ∃a60,a59=some a60∧ ∃fr61,cell H55 (.add a60 0)=some (.int .i64 fr61)∧ ∃a62,a59=some a62∧stAt H55 (.add a62 0) [.int .i64 (wrap .i64 (fr61+1))] fun H63=>X15 [] H63) (X15 [] H55)) (J2 [] H19))→X15 [] H16)→X15 [] H14
def Tryz.p77:Plan:=(two (join [] [0] (tl (one (loop [] [0,8] (tl (two (tl leaf) (one (tl (tl (tl (tl leaf))))))))))) leaf)
theorem Tryz.s77{p1:OA}{H R}(h:Tryz.S77 p1 H R):Tryz.C 77 #[.pointer p1] H R:=vcs Tryz.tab_ok Tryz.mixed Tryz.func77 Tryz.cal77 Tryz.p77 h (by kernel_rfl)
def Tryz.S78(li1p:OA)(li1l li1c ea2g:Nat)(ea2x ea2y:AV)(H:Heap)(R:Kv):Prop:=
 ∀X3:Kl,(∀(t4:Int) H5,(br (decide (t4<(li1l:Int))) (∃a6,li1p=some a6∧0≤t4∧t4<(li1l:Int)∧ ∃v7,v7.size=19∧rowIn H5 (.add a6 (toNat t4*19)) v7∧alc H5 (.cells #[.int .i64 0,.int .i64 0,.bool false,.int .i64 0,.int .i64 0,.int .i64 0,.int .i64 0,.slice none 0 0,.slice none 0 0,.int .i64 0,.int .i64 0,.int .i64 0,.int .i64 0,.int .i64 0,.int .i64 0,.bool false,.int .i64 0,.slice none 0 0,.slice none 0 0] 118) fun b8 H9=>v7.size=19∧stAt H9 ⟨b8,0,none⟩ v7.toList fun H10=> ∃Ki11,cell H10 (.add ⟨b8,0,none⟩ 1)=some (.int .i64 Ki11)∧br (Ki11==0) (∃v12,v12.size=19∧rowIn H10 ⟨b8,0,none⟩ v12∧Tryz.C ea2g (List.toArray (Array.toList ea2x++[Value.agg v12]++Array.toList ea2y)) H10 fun r13 H14=>r13= .tuple #[]∧ ∃Ki15p Ki15l Ki15c,cell H14 (.add ⟨b8,0,none⟩ 18)=some (.slice Ki15p Ki15l Ki15c)∧Tryz.C 78 #[.slice Ki15p Ki15l Ki15c,.func (.func ea2g) ea2x ea2y] H14 fun r16 H17=>r16= .tuple #[]∧X3 [.int .i64 (wrap .i64 (t4+1))] H17) (∃Ki18p Ki18l Ki18c,cell H10 (.add ⟨b8,0,none⟩ 18)=some (.slice Ki18p Ki18l Ki18c)∧Tryz.C 78 #[.slice Ki18p Ki18l Ki18c,.func (.func ea2g) ea2x ea2y] H10 fun r19 H20=>r19= .tuple #[]∧X3 [.int .i64 (wrap .i64 (t4+1))] H20)) (R (.tuple #[]) H5))→X3 [.int .i64 t4] H5)→X3 [.int .i64 0] H
def Tryz.p78:Plan:=(tl (one (loop [(8,3)] [1,6,7] (tl (two (tl leaf) (two (one (tl (two (tl (tl leaf)) leaf))) leaf))))))
theorem Tryz.s78{li1p:OA}{li1l li1c ea2g:Nat}{ea2x ea2y:AV}{H R}(h:Tryz.S78 li1p li1l li1c ea2g ea2x ea2y H R):Tryz.C 78 #[.slice li1p li1l li1c,.func (.func ea2g) ea2x ea2y] H R:=vcs Tryz.tab_ok Tryz.mixed Tryz.func78 Tryz.cal78 Tryz.p78 h (by kernel_rfl)
def Tryz.S79(l1:AV)(ad2 ad3 ad4 ad5:Addr)(H:Heap)(R:Kv):Prop:=
 alc H (.cells l1 118) fun b6 H7=> ∃v8,cell H7 ad2=some (.map v8)∧ ∃ID9,cell H7 (.add ⟨b6,0,none⟩ 0)=some (.int .i64 ID9)∧ ∃r10,v8=some r10∧ ∃(es11:Array MapEntry) (c12:Nat),H7[r10]?=some (.map es11 c12)∧kForm (.int .i64) (.other) (.int .i64 ID9)∧(∀e∈es11.toList,kForm (.int .i64) (.other) e.key)∧ ∃p13,lookV (.int .i64 ID9) es11.toList (.pointer none)= .pointer p13∧ ∀J14:Kl,(∀(p15:OA) H16,(∃v17,cell H16 ad4=some (.map v17)∧ ∃ID18,cell H16 (.add ⟨b6,0,none⟩ 0)=some (.int .i64 ID18)∧updQ (.int .i64) (.other) (.map v17) (.int .i64 ID18) (.pointer p15) H16 fun H19=> ∃P20p P20l P20c,cell H19 (.add ⟨b6,0,none⟩ 7)=some (.slice P20p P20l P20c)∧ ∀X21:Kl,(∀(i22:Int) H23,(br (decide (i22<(P20l:Int))) (∃a24,P20p=some a24∧0≤i22∧i22<(P20l:Int)∧ ∃v25,cell H23 (.add a24 (toNat i22*1))=some (.int .i64 v25)∧ ∃v26,cell H23 ad5=some (.bool v26)∧br v26 (∃W27,cell H23 (.add ⟨b6,0,none⟩ 5)=some (.int .i64 W27)∧W27≠0∧ ∃W28,cell H23 (.add ⟨b6,0,none⟩ 5)=some (.int .i64 W28)∧W28≠0∧Tryz.C 82 #[.pointer p15,.int .i64 (Int.tmod i22 W27),.int .i64 (wrap .i64 (Int.tdiv i22 W28)),.int .i64 v25] H23 fun r29 H30=> ∃r31,r29= .int .i64 r31∧stAt H30 ad5 [.bool (r31==0)] fun H32=>X21 [.int .i64 (wrap .i64 (i22+1))] H32) (stAt H23 ad5 [.bool false] fun H33=>X21 [.int .i64 (wrap .i64 (i22+1))] H33)) (R (.tuple #[]) H23))→X21 [.int .i64 i22] H23)→X21 [.int .i64 0] H19)→J14 [.pointer p15] H16)→
 br (!(Option.isNone p13))
 (Tryz.C 80 #[.pointer p13] H7 fun r34 H35=> ∃p36,r34= .pointer p36∧J14 [.pointer p36] H35)
 (∃v37,cell H7 ad3=some (.pointer v37)∧ ∃a38,v37=some a38∧ ∃ar39,cell H7 (.add a38 6)=some (.pointer ar39)∧ ∃W40,cell H7 (.add ⟨b6,0,none⟩ 5)=some (.int .i64 W40)∧ ∃H41,cell H7 (.add ⟨b6,0,none⟩ 6)=some (.int .i64 H41)∧Tryz.C 81 #[.pointer ar39,.int .i64 W40,.int .i64 H41] H7 fun r42 H43=> ∃r44 r45,r42= .tuple #[.pointer r44,.int .i64 r45]∧J14 [.pointer r44] H43)
def Tryz.p79:Plan:=(tl (tl (two (join [(6,133)] [3,4,5] (tl (tl leaf))) (tl (tl (one (loop [(36,3)] [4,5,6,34,35] (tl (two (tl leaf) (two (one (tl leaf)) leaf))))))))))
theorem Tryz.s79{l1:AV}{ad2 ad3 ad4 ad5:Addr}{H R}(h:Tryz.S79 l1 ad2 ad3 ad4 ad5 H R):Tryz.C 79 #[.agg l1,.pointer (some ad2),.pointer (some ad3),.pointer (some ad4),.pointer (some ad5)] H R:=vcs Tryz.tab_ok Tryz.mixed Tryz.func79 Tryz.cal79 Tryz.p79 h (by kernel_rfl)
def Tryz.S80(p1:OA)(H:Heap)(R:Kv):Prop:=
 ∃a2,p1=some a2∧ ∃a3,cell H (.add a2 0)=some (.pointer a3)∧ ∃a4,p1=some a4∧ ∃w5,cell H (.add a4 1)=some (.int .i64 w5)∧ ∃a6,p1=some a6∧ ∃h7,cell H (.add a6 2)=some (.int .i64 h7)∧alc H (.map #[] 0) fun b8 H9=>(Ext H H9∨(∃h64,cell H9 (.add a6 2)=some (.int .i64 h64)∧Value.int .i64 h64= .int .i64 h7)∧(∃w65,cell H9 (.add a4 1)=some (.int .i64 w65)∧Value.int .i64 w65= .int .i64 w5)∧(∃a66,cell H9 (.add a2 0)=some (.pointer a66)∧Value.pointer a66= .pointer a3))∧alc H9 (.cells #[.pointer a3,.int .i64 w5,.int .i64 h7,.map (some b8)] 203) fun b10 H11=> ∃a12,p1=some a12∧ ∃ha13,cell H11 (.add a12 3)=some (.map ha13)∧ ∃c14,mapAt H11 ha13 c14∧alc H11 (.mapIter ha13 c14 #[] c14) fun b15 H16=> ∀X17:Kl,(∀H18,(nextQ H18 b15 (fun H19=>br false (∃(m22 since:Nat) (seen:Array Nat) (st25 st26:Nat) (es27:Array MapEntry) (x28:MapEntry),H19[b15]?=some (.mapIter (some m22) since seen st25)∧seen.back?=some st26∧H19[m22]?=some (.map es27 st25)∧es27.find? (fun y=>y.born==st26)=some x28∧ ∃k30,x28.key= .agg k30∧ ∃v31,x28.val= .pointer v31∧alc H19 (.cells #[.int .i64 0,.int .i64 0] 153) fun b32 H33=>k30.size=2∧stAt H33 ⟨b32,0,none⟩ k30.toList fun H34=> ∃a35,v31=some a35∧ ∃us36,cell H34 (.add a35 256)=some (.int .i64 us36)∧ ∃a37,v31=some a37∧stAt H34 (.add a37 256) [.int .i64 (wrap .i64 (us36+1))] fun H38=> ∃a39,(some ⟨b10,0,none⟩)=some a39∧ ∃ha40,cell H38 (.add a39 3)=some (.map ha40)∧ ∃v41,v41.size=2∧rowIn H38 ⟨b32,0,none⟩ v41∧updQ (.arr 2 3) (.int .i64) (.map ha40) (.agg v41) (.pointer v31) H38 fun H42=>X17 [] H42) (R (.pointer (some ⟨b10,0,none⟩)) H19)) fun e20 H21=>br true (∃(m43 since:Nat) (seen:Array Nat) (st46 st47:Nat) (es48:Array MapEntry) (x49:MapEntry),H21[b15]?=some (.mapIter (some m43) since seen st46)∧seen.back?=some st47∧H21[m43]?=some (.map es48 st46)∧es48.find? (fun y=>y.born==st47)=some x49∧ ∃k51,x49.key= .agg k51∧ ∃v52,x49.val= .pointer v52∧alc H21 (.cells #[.int .i64 0,.int .i64 0] 153) fun b53 H54=>k51.size=2∧stAt H54 ⟨b53,0,none⟩ k51.toList fun H55=> ∃a56,v52=some a56∧ ∃us57,cell H55 (.add a56 256)=some (.int .i64 us57)∧ ∃a58,v52=some a58∧stAt H55 (.add a58 256) [.int .i64 (wrap .i64 (us57+1))] fun H59=> ∃a60,(some ⟨b10,0,none⟩)=some a60∧ ∃ha61,cell H59 (.add a60 3)=some (.map ha61)∧ ∃v62,v62.size=2∧rowIn H59 ⟨b53,0,none⟩ v62∧updQ (.arr 2 3) (.int .i64) (.map ha61) (.agg v62) (.pointer v52) H59 fun H63=>X17 [] H63) (R (.pointer (some ⟨b10,0,none⟩)) H21))→X17 [] H18)→X17 [] H16
def Tryz.p80:Plan:=(tl (tl (two (tl (one (loop [] [3,25] (tl (two (tl leaf) (one (tl (tl leaf)))))))) (tl leaf))))
theorem Tryz.s80{p1:OA}{H R}(h:Tryz.S80 p1 H R):Tryz.C 80 #[.pointer p1] H R:=vcs Tryz.tab_ok Tryz.mixed Tryz.func80 Tryz.cal80 Tryz.p80 h (by kernel_rfl)
def Tryz.S81(a1:OA)(w2 h3:Int)(H:Heap)(R:Kv):Prop:=
 ∀J4:Kl,(∀H5,(alc H5 (.map #[] 0) fun b6 H7=>alc H7 (.cells #[.pointer a1,.int .i64 w2,.int .i64 h3,.map (some b6)] 203) fun b8 H9=>R (.tuple #[.pointer (some ⟨b8,0,none⟩),.int .i64 0]) H9)→J4 [] H5)→
 br (decide (w2<0)) (R (.tuple #[.pointer none,.int .i64 31]) H) (br (decide (w2>32768)) (R (.tuple #[.pointer none,.int .i64 31]) H) (br (decide (h3<0)) (R (.tuple #[.pointer none,.int .i64 31]) H) (br (decide (h3>32768)) (R (.tuple #[.pointer none,.int .i64 31]) H) (J4 [] H))))
def Tryz.p81:Plan:=(tl (two (join [] [0,1,2] g0) (tl leaf)))
theorem Tryz.s81{a1:OA}{w2 h3:Int}{H R}(h:Tryz.S81 a1 w2 h3 H R):Tryz.C 81 #[.pointer a1,.int .i64 w2,.int .i64 h3] H R:=vcs Tryz.tab_ok Tryz.mixed Tryz.func81 Tryz.cal81 Tryz.p81 h (by kernel_rfl)
def Tryz.S82(p1:OA)(x2 y3 v4:Int)(H:Heap)(R:Kv):Prop:=
 Tryz.C 129 #[.pointer p1,.int .i64 x2,.int .i64 y3] H fun r5 H6=> ∃r7,r5= .bool r7∧br (!r7)
 (R (.int .i64 12) H6)
 (Tryz.C 130 #[.int .i64 v4] H6 fun r8 H9=> ∃r10,r8= .bool r10∧br (!r10) (R (.int .i64 32) H9) (Tryz.C 131 #[.pointer p1,.int .i64 x2,.int .i64 y3] H9 fun r11 H12=> ∃r13,r11= .int .i64 r13∧br (r13==v4) (R (.int .i64 0) H12) (Tryz.C 132 #[.int .i64 x2,.int .i64 y3] H12 fun r14 H15=> ∃r16 r17,r14= .tuple #[.agg r16,.int .i64 r17]∧alc H15 (.cells #[.int .i64 0,.int .i64 0] 153) fun b18 H19=>r16.size=2∧stAt H19 ⟨b18,0,none⟩ r16.toList fun H20=> ∃v21,v21.size=2∧rowIn H20 ⟨b18,0,none⟩ v21∧Tryz.C 133 #[.pointer p1,.agg v21] H20 fun r22 H23=> ∃r24,r22= .bool r24∧br (!r24) (R (.int .i64 30) H23) (∃a25,p1=some a25∧ ∃ha26,cell H23 (.add a25 3)=some (.map ha26)∧ ∃v27,v27.size=2∧rowIn H23 ⟨b18,0,none⟩ v27∧ ∃r28,ha26=some r28∧ ∃(es29:Array MapEntry) (c30:Nat),H23[r28]?=some (.map es29 c30)∧kForm (.arr 2 3) (.int .i64) (.agg v27)∧(∀e∈es29.toList,kForm (.arr 2 3) (.int .i64) e.key)∧ ∃v31,lookV (.agg v27) es29.toList (.pointer none)= .pointer v31∧ ∃a32,v31=some a32∧0≤r17∧r17<((256:Nat):Int)∧stAt H23 (.add (.add a32 0) (toNat r17*1)) [.int .u32 (wrap .u32 v4)] fun H33=>R (.int .i64 0) H33))))
def Tryz.p82:Plan:=(tl (two (one (tl (two (tl leaf) (tl (two (tl leaf) g0))))) (tl (tg (tl (tl leaf))))))
theorem Tryz.s82{p1:OA}{x2 y3 v4:Int}{H R}(h:Tryz.S82 p1 x2 y3 v4 H R):Tryz.C 82 #[.pointer p1,.int .i64 x2,.int .i64 y3,.int .i64 v4] H R:=vcs Tryz.tab_ok Tryz.mixed Tryz.func82 Tryz.cal82 Tryz.p82 h (by kernel_rfl)
def Tryz.S83(o1 li2p:OA)(li2l li2c:Nat)(H:Heap)(R:Kv):Prop:=
 ∀X3:Kl,(∀(t4:Int) H5,(br (decide (t4<(li2l:Int))) (∃a6,li2p=some a6∧0≤t4∧t4<(li2l:Int)∧ ∃n7,cell H5 (.add a6 (toNat t4*1))=some (.int .i64 n7)∧0≤(1:Int)∧0≤(63:Int)∧ ∀X8:Kl,(∀(u9:Int) H10,(br (decide (u9≥128)) (∃a11,o1=some a11∧ ∃b12p b12l b12c,cell H10 (.add a11 0)=some (.slice b12p b12l b12c)∧alc H10 (.cells #[.int .u8 (orI .u8 (wrap .u8 u9) 128)] 5) fun b13 H14=>appQ 1 1 #[.int .u8 0] H14 b12p b12l b12c (some ⟨b13,0,none⟩) 1 5 fun ap15p ap15l ap15c H16=> ∃a17,o1=some a17∧stAt H16 (.add a17 0) [.slice ap15p ap15l ap15c] fun H18=>0≤(7:Int)∧X8 [.int .u64 (shrI .u64 u9 7)] H18) (∃a19,o1=some a19∧ ∃b20p b20l b20c,cell H10 (.add a19 0)=some (.slice b20p b20l b20c)∧alc H10 (.cells #[.int .u8 (wrap .u8 u9)] 5) fun b21 H22=>appQ 1 1 #[.int .u8 0] H22 b20p b20l b20c (some ⟨b21,0,none⟩) 1 5 fun ap23p ap23l ap23c H24=> ∃a25,o1=some a25∧stAt H24 (.add a25 0) [.slice ap23p ap23l ap23c] fun H26=>X3 [.int .i64 (wrap .i64 (t4+1))] H26))→X8 [.int .u64 u9] H10)→X8 [.int .u64 (xorI .u64 (shlI .u64 (wrap .u64 n7) 1) (wrap .u64 (shrI .i64 n7 63)))] H5) (R (.tuple #[]) H5))→X3 [.int .i64 t4] H5)→X3 [.int .i64 0] H
def Tryz.p83:Plan:=(tl (one (loop [(9,3)] [0,7,8] (tl (two (tl leaf) (two (one (tl (tl (two (one (loop [(6,213)] [0,7,8,9] (two (tl (tl leaf)) (one (tl leaf))))) leaf)))) leaf))))))
theorem Tryz.s83{o1 li2p:OA}{li2l li2c:Nat}{H R}(h:Tryz.S83 o1 li2p li2l li2c H R):Tryz.C 83 #[.pointer o1,.slice li2p li2l li2c] H R:=vcs Tryz.tab_ok Tryz.mixed Tryz.func83 Tryz.cal83 Tryz.p83 h (by kernel_rfl)
def Tryz.S84(o1 li2p:OA)(li2l li2c:Nat)(H:Heap)(R:Kv):Prop:=
 alc H (.cells #[.int .i64 (li2l:Int)] 3) fun b3 H4=>Tryz.C 83 #[.pointer o1,.slice (some ⟨b3,0,none⟩) 1 1] H4 fun r5 H6=>r5= .tuple #[]∧Tryz.C 83 #[.pointer o1,.slice li2p li2l li2c] H6 fun r7 H8=>r7= .tuple #[]∧R (.tuple #[]) H8
def Tryz.p84:Plan:=(tl leaf)
theorem Tryz.s84{o1 li2p:OA}{li2l li2c:Nat}{H R}(h:Tryz.S84 o1 li2p li2l li2c H R):Tryz.C 84 #[.pointer o1,.slice li2p li2l li2c] H R:=vcs Tryz.tab_ok Tryz.mixed Tryz.func84 Tryz.cal84 Tryz.p84 h (by kernel_rfl)
def Tryz.S85(s1:OA)(d2:AV)(H:Heap)(R:Kv):Prop:=
 alc H (.cells d2 46) fun b3 H4=> ∃a5,s1=some a5∧ ∃li6p li6l li6c,cell H4 (.add a5 0)=some (.slice li6p li6l li6c)∧ ∃v7,v7.size=4∧rowIn H4 ⟨b3,0,none⟩ v7∧v7.size=4∧0+4≤4∧alc H4 (.cells (List.toArray (setL [.int .i64 0,.int .i64 0,.int .i64 0,.slice none 0 0] 0 v7.toList)) 46) fun b8 H9=>(Ext H4 H9∨(∃li14p li14l li14c,cell H9 (.add a5 0)=some (.slice li14p li14l li14c)∧Value.slice li14p li14l li14c= .slice li6p li6l li6c))∧appQ 4 48 #[.int .i64 0,.int .i64 0,.int .i64 0,.slice none 0 0] H9 li6p li6l li6c (some ⟨b8,0,none⟩) 1 46 fun ap10p ap10l ap10c H11=> ∃a12,s1=some a12∧stAt H11 (.add a12 0) [.slice ap10p ap10l ap10c] fun H13=>R (.tuple #[]) H13
def Tryz.p85:Plan:=(tl leaf)
theorem Tryz.s85{s1:OA}{d2:AV}{H R}(h:Tryz.S85 s1 d2 H R):Tryz.C 85 #[.pointer s1,.agg d2] H R:=vcs Tryz.tab_ok Tryz.mixed Tryz.func85 Tryz.cal85 Tryz.p85 h (by kernel_rfl)
def Tryz.S86(e1 d2:AV)(H:Heap)(R:Kv):Prop:=
 alc H (.cells e1 40) fun b3 H4=>alc H4 (.cells d2 46) fun b5 H6=> ∃Ki7,cell H6 (.add ⟨b3,0,none⟩ 0)=some (.int .i64 Ki7)∧br (Ki7==1)
 (∃Ne8,cell H6 (.add ⟨b5,0,none⟩ 2)=some (.int .i64 Ne8)∧R (.int .i64 (wrap .i64 (Ne8-1))) H6)
 (∃ID9,cell H6 (.add ⟨b3,0,none⟩ 1)=some (.int .i64 ID9)∧R (.int .i64 ID9) H6)
def Tryz.p86:Plan:=(tl (tg (tl leaf)))
theorem Tryz.s86{e1 d2:AV}{H R}(h:Tryz.S86 e1 d2 H R):Tryz.C 86 #[.agg e1,.agg d2] H R:=vcs Tryz.tab_ok Tryz.mixed Tryz.func86 Tryz.cal86 Tryz.p86 h (by kernel_rfl)
def Tryz.S87(d1:AV)(id2:Int)(H:Heap)(R:Kv):Prop:=
 alc H (.cells d1 46) fun b3 H4=>alc H4 (.cells #[.int .i64 0,.int .i64 0,.bool false,.int .i64 0,.int .i64 0,.int .i64 0,.int .i64 0,.slice none 0 0,.slice none 0 0,.int .i64 0,.int .i64 0,.int .i64 0,.int .i64 0,.int .i64 0,.int .i64 0,.bool false,.int .i64 0,.slice none 0 0,.slice none 0 0] 118) fun b5 H6=>Tryz.C 67 #[.pointer (some ⟨b3,0,none⟩)] H6 fun r7 H8=> ∃r9,r7= .pointer r9∧Tryz.C 119 #[.pointer r9,.int .i64 id2] H8 fun r10 H11=> ∃r12 r13 r14,r10= .tuple #[.pointer r12,.pointer r13,.int .i64 r14]∧br (Option.isNone r12)
 (#[Value.int .i64 0,Value.int .i64 0,Value.bool false,Value.int .i64 0,Value.int .i64 0,Value.int .i64 0,Value.int .i64 0,Value.slice none 0 0,Value.slice none 0 0,Value.int .i64 0,Value.int .i64 0,Value.int .i64 0,Value.int .i64 0,Value.int .i64 0,Value.int .i64 0,Value.bool false,Value.int .i64 0,Value.slice none 0 0,Value.slice none 0 0].size=19∧stAt H11 ⟨b5,0,none⟩ (Array.toList #[.int .i64 0,.int .i64 0,.bool false,.int .i64 0,.int .i64 0,.int .i64 0,.int .i64 0,.slice none 0 0,.slice none 0 0,.int .i64 0,.int .i64 0,.int .i64 0,.int .i64 0,.int .i64 0,.int .i64 0,.bool false,.int .i64 0,.slice none 0 0,.slice none 0 0]) fun H15=> ∃re16,re16.size=19∧rowIn H15 ⟨b5,0,none⟩ re16∧R (.tuple #[.agg re16,.bool false]) H15)
 (∃a17,r12=some a17∧ ∃v18,v18.size=19∧rowIn H11 a17 v18∧Tryz.C 116 #[.agg v18] H11 fun r19 H20=> ∃r21,r19= .agg r21∧r21.size=19∧stAt H20 ⟨b5,0,none⟩ r21.toList fun H22=> ∃re23,re23.size=19∧rowIn H22 ⟨b5,0,none⟩ re23∧R (.tuple #[.agg re23,.bool true]) H22)
def Tryz.p87:Plan:=(tl (tl (tg (tl leaf))))
theorem Tryz.s87{d1:AV}{id2:Int}{H R}(h:Tryz.S87 d1 id2 H R):Tryz.C 87 #[.agg d1,.int .i64 id2] H R:=vcs Tryz.tab_ok Tryz.mixed Tryz.func87 Tryz.cal87 Tryz.p87 h (by kernel_rfl)
def Tryz.S88(d1:AV)(id2:Int)(H:Heap)(R:Kv):Prop:=
 alc H (.cells d1 46) fun b3 H4=> ∀X5:Kl,(∀(id6:Int) H7,(br (id6 != 0) (∃v8,v8.size=4∧rowIn H7 ⟨b3,0,none⟩ v8∧Tryz.C 87 #[.agg v8,.int .i64 id6] H7 fun r9 H10=> ∃r11 r12,r9= .tuple #[.agg r11,.bool r12]∧alc H10 (.cells #[.int .i64 0,.int .i64 0,.bool false,.int .i64 0,.int .i64 0,.int .i64 0,.int .i64 0,.slice none 0 0,.slice none 0 0,.int .i64 0,.int .i64 0,.int .i64 0,.int .i64 0,.int .i64 0,.int .i64 0,.bool false,.int .i64 0,.slice none 0 0,.slice none 0 0] 118) fun b13 H14=>r11.size=19∧stAt H14 ⟨b13,0,none⟩ r11.toList fun H15=>br (!r12) (R (.bool false) H15) (∃Hi16,cell H15 (.add ⟨b13,0,none⟩ 2)=some (.bool Hi16)∧br Hi16 (R (.bool true) H15) (∃v17,v17.size=4∧rowIn H15 ⟨b3,0,none⟩ v17∧Tryz.C 134 #[.agg v17,.int .i64 id6] H15 fun r18 H19=> ∃r20 r21 r22,r18= .tuple #[.int .i64 r20,.int .i64 r21,.bool r22]∧X5 [.int .i64 r20] H19))) (R (.bool false) H7))→X5 [.int .i64 id6] H7)→X5 [.int .i64 id2] H4
def Tryz.p88:Plan:=(tl (two (one (loop [(1,3)] [2] (two (tl (tl leaf)) (one (tl (tg (tg leaf))))))) (tl leaf)))
theorem Tryz.s88{d1:AV}{id2:Int}{H R}(h:Tryz.S88 d1 id2 H R):Tryz.C 88 #[.agg d1,.int .i64 id2] H R:=vcs Tryz.tab_ok Tryz.mixed Tryz.func88 Tryz.cal88 Tryz.p88 h (by kernel_rfl)
def Tryz.S89(H:Heap)(R:Kv):Prop:=
 alc H (.cells #[.int .i64 0,.int .i64 0,.int .i64 0,.int .i64 0,.int .i64 0,.int .i64 0] 38) fun b1 H2=>#[Value.int .i64 65536,Value.int .i64 0,Value.int .i64 0,Value.int .i64 65536,Value.int .i64 0,Value.int .i64 0].size=6∧stAt H2 ⟨b1,0,none⟩ (Array.toList #[.int .i64 65536,.int .i64 0,.int .i64 0,.int .i64 65536,.int .i64 0,.int .i64 0]) fun H3=> ∃re4,re4.size=6∧rowIn H3 ⟨b1,0,none⟩ re4∧R (.agg re4) H3
def Tryz.p89:Plan:=(tl (tl leaf))
theorem Tryz.s89{_u:Unit}{H R}(h:Tryz.S89 H R):Tryz.C 89 #[] H R:=vcs Tryz.tab_ok Tryz.mixed Tryz.func89 Tryz.cal89 Tryz.p89 h (by kernel_rfl)
def Tryz.S90(l1:OA)(d2:AV)(H:Heap)(R:Kv):Prop:=
 alc H (.cells d2 46) fun b3 H4=> ∃v5,v5.size=4∧rowIn H4 ⟨b3,0,none⟩ v5∧Tryz.C 135 #[.agg v5] H4 fun r6 H7=> ∃r8,r6= .agg r8∧alc H7 (.map #[] 0) fun b9 H10=> ∃a11,l1=some a11∧r8.size=4∧stAt H10 (.add a11 0) r8.toList fun H12=> ∃a13,l1=some a13∧stAt H12 (.add a13 4) [.map (some b9)] fun H14=>R (.tuple #[]) H14
def Tryz.p90:Plan:=(tl leaf)
theorem Tryz.s90{l1:OA}{d2:AV}{H R}(h:Tryz.S90 l1 d2 H R):Tryz.C 90 #[.pointer l1,.agg d2] H R:=vcs Tryz.tab_ok Tryz.mixed Tryz.func90 Tryz.cal90 Tryz.p90 h (by kernel_rfl)
def Tryz.S91(h1 from_2 to3:OA)(H:Heap)(R:Kv):Prop:=
 Tryz.C 136 #[.pointer from_2] H fun r4 H5=> ∃r6 r7,r4= .tuple #[.agg r6,.bool r7]∧alc H5 (.cells #[.int .i64 0,.int .i64 0,.int .i64 0,.slice none 0 0] 46) fun b8 H9=>r6.size=4∧stAt H9 ⟨b8,0,none⟩ r6.toList fun H10=>br (!r7)
 (R (.int .i64 44) H10)
 (∃a11,h1=some a11∧ ∃no12,no12.size=4∧rowIn H10 (.add a11 0) no12∧Tryz.C 85 #[.pointer to3,.agg no12] H10 fun r13 H14=>r13= .tuple #[]∧ ∃v15,v15.size=4∧rowIn H14 ⟨b8,0,none⟩ v15∧ ∃a16,h1=some a16∧v15.size=4∧stAt H14 (.add a16 0) v15.toList fun H17=>R (.int .i64 0) H17)
def Tryz.p91:Plan:=(tl (tl (tg (tl (tl (tl leaf))))))
theorem Tryz.s91{h1 from_2 to3:OA}{H R}(h:Tryz.S91 h1 from_2 to3 H R):Tryz.C 91 #[.pointer h1,.pointer from_2,.pointer to3] H R:=vcs Tryz.tab_ok Tryz.mixed Tryz.func91 Tryz.cal91 Tryz.p91 h (by kernel_rfl)
end Go.Proofs
namespace Go.Proofs
open Go.Sh Go.Sh.Plan
open Go.IntKind (wrap)
open Int (toNat)
def Tryz.S103(p1:Int)(H:Heap)(R:Kv):Prop:=
 alc H (.cells #[.int .i64 0,.int .i64 0,.int .i64 0,.int .i64 0] 164) fun b2 H3=>0≤(24:Int)∧0≤(16:Int)∧0≤(8:Int)∧#[Value.int .i64 (andI .i64 (shrI .i64 p1 24) 255),Value.int .i64 (andI .i64 (shrI .i64 p1 16) 255),Value.int .i64 (andI .i64 (shrI .i64 p1 8) 255),Value.int .i64 (andI .i64 p1 255)].size=4∧stAt H3 ⟨b2,0,none⟩ (Array.toList #[.int .i64 (andI .i64 (shrI .i64 p1 24) 255),.int .i64 (andI .i64 (shrI .i64 p1 16) 255),.int .i64 (andI .i64 (shrI .i64 p1 8) 255),.int .i64 (andI .i64 p1 255)]) fun H4=> ∃re5,re5.size=4∧rowIn H4 ⟨b2,0,none⟩ re5∧R (.agg re5) H4
def Tryz.p103:Plan:=(tl (tl leaf))
theorem Tryz.s103{p1:Int}{H R}(h:Tryz.S103 p1 H R):Tryz.C 103 #[.int .i64 p1] H R:=vcs Tryz.tab_ok Tryz.mixed Tryz.func103 Tryz.cal103 Tryz.p103 h (by kernel_rfl)
def Tryz.S114(su1:Int)(b2p:OA)(b2l b2c:Nat)(H:Heap)(R:Kv):Prop:=
 ∀X3:Kl,(∀(c4 t5:Int) H6,(br (decide (t5<(b2l:Int))) (∃a7,b2p=some a7∧0≤t5∧t5<(b2l:Int)∧ ∃x8,cell H6 (.add a7 (toNat t5*1))=some (.int .u8 x8)∧ ∀X9:Kl,(∀(c10 t11:Int) H12,(br (decide (t11<8)) (0≤(1:Int)∧X9 [.int .u32 (xorI .u32 (shrI .u32 c10 1) (andI .u32 3988292384 (wrap .u32 (0-(andI .u32 c10 1))))),.int .i64 (wrap .i64 (t11+1))] H12) (X3 [.int .u32 c10,.int .i64 (wrap .i64 (t5+1))] H12))→X9 [.int .u32 c10,.int .i64 t11] H12)→X9 [.int .u32 (xorI .u32 c4 (wrap .u32 x8)),.int .i64 0] H6) (R (.int .i64 (wrap .i64 (xorI .u32 c4 4294967295))) H6))→X3 [.int .u32 c4,.int .i64 t5] H6)→X3 [.int .u32 (xorI .u32 (wrap .u32 su1) 4294967295),.int .i64 0] H
def Tryz.p114:Plan:=(tl (tl (two (tl (one (loop [(5,205),(13,3)] [11,12] (tl (two (tl leaf) (two (one (tl (tl (tl (one (loop [(5,205),(21,3)] [11,12,13] (tl (two (tl leaf) (two (one leaf) leaf))))))))) leaf)))))) (tl leaf))))
theorem Tryz.s114{su1:Int}{b2p:OA}{b2l b2c:Nat}{H R}(h:Tryz.S114 su1 b2p b2l b2c H R):Tryz.C 114 #[.int .i64 su1,.slice b2p b2l b2c] H R:=vcs Tryz.tab_ok Tryz.mixed Tryz.func114 Tryz.cal114 Tryz.p114 h (by kernel_rfl)
def Tryz.S115(s1p:OA)(s1l s1c:Nat)(n2:Int)(H:Heap)(R:Kv):Prop:=
 ∀J3:Kl,(∀H4,(br (decide (((wrap .i64 (n2-(wrap .i64 ((s1c:Int)-(s1l:Int))))):Int)>0)) (0≤(s1c:Int)∧(s1c:Int)≤(s1c:Int)∧appZ 1 1 #[.int .u8 0] H4 (if s1c=0 then s1p else Option.map (fun x=>Addr.add x (0*1)) s1p) ((toNat (s1c:Int))-0) (s1c-0) (wrap .i64 (n2-(wrap .i64 ((s1c:Int)-(s1l:Int))))) 5 fun ap5p ap5l ap5c H6=>0≤(s1l:Int)∧(s1l:Int)≤(ap5c:Int)∧R (.slice (if ap5c=0 then ap5p else Option.map (fun x=>Addr.add x (0*1)) ap5p) ((toNat (s1l:Int))-0) (ap5c-0)) H6) (R (.slice s1p s1l s1c) H4))→J3 [] H4)→
 br (decide (n2<0))
 (False)
 (J3 [] H)
def Tryz.p115:Plan:=(tl (two (join [] [0,1] (tl (tl leaf))) (two (tl (tl (tl leaf))) (tl leaf))))
theorem Tryz.s115{s1p:OA}{s1l s1c:Nat}{n2:Int}{H R}(h:Tryz.S115 s1p s1l s1c n2 H R):Tryz.C 115 #[.slice s1p s1l s1c,.int .i64 n2] H R:=vcs Tryz.tab_ok Tryz.mixed Tryz.func115 Tryz.cal115 Tryz.p115 h (by kernel_rfl)
def Tryz.S116(l1:AV)(H:Heap)(R:Kv):Prop:=
 alc H (.cells l1 118) fun b2 H3=>alc H3 (.cells #[.int .i64 0,.int .i64 0,.bool false,.int .i64 0,.int .i64 0,.int .i64 0,.int .i64 0,.slice none 0 0,.slice none 0 0,.int .i64 0,.int .i64 0,.int .i64 0,.int .i64 0,.int .i64 0,.int .i64 0,.bool false,.int .i64 0,.slice none 0 0,.slice none 0 0] 118) fun b4 H5=> ∃P6p P6l P6c,cell H5 (.add ⟨b2,0,none⟩ 7)=some (.slice P6p P6l P6c)∧ ∃Ma7p Ma7l Ma7c,cell H5 (.add ⟨b2,0,none⟩ 8)=some (.slice Ma7p Ma7l Ma7c)∧ ∃Pa8p Pa8l Pa8c,cell H5 (.add ⟨b2,0,none⟩ 17)=some (.slice Pa8p Pa8l Pa8c)∧Tryz.C 128 #[.slice P6p P6l P6c] H5 fun r9 H10=> ∃r11p r11l r11c,r9= .slice r11p r11l r11c∧(Ext H5 H10∨(∃Pa30p Pa30l Pa30c,cell H10 (.add ⟨b2,0,none⟩ 17)=some (.slice Pa30p Pa30l Pa30c)∧Value.slice Pa30p Pa30l Pa30c= .slice Pa8p Pa8l Pa8c)∧(∃Ma31p Ma31l Ma31c,cell H10 (.add ⟨b2,0,none⟩ 8)=some (.slice Ma31p Ma31l Ma31c)∧Value.slice Ma31p Ma31l Ma31c= .slice Ma7p Ma7l Ma7c))∧Tryz.C 27 #[.slice Ma7p Ma7l Ma7c] H10 fun r12 H13=> ∃r14p r14l r14c,r12= .slice r14p r14l r14c∧(Ext H10 H13∨(∃Pa29p Pa29l Pa29c,cell H13 (.add ⟨b2,0,none⟩ 17)=some (.slice Pa29p Pa29l Pa29c)∧Value.slice Pa29p Pa29l Pa29c= .slice Pa8p Pa8l Pa8c))∧Tryz.C 128 #[.slice Pa8p Pa8l Pa8c] H13 fun r15 H16=> ∃r17p r17l r17c,r15= .slice r17p r17l r17c∧stAt H16 (.add ⟨b2,0,none⟩ 7) [.slice r11p r11l r11c] fun H18=>stAt H18 (.add ⟨b2,0,none⟩ 8) [.slice r14p r14l r14c] fun H19=>stAt H19 (.add ⟨b2,0,none⟩ 17) [.slice r17p r17l r17c] fun H20=> ∃Ki21p Ki21l Ki21c,cell H20 (.add ⟨b2,0,none⟩ 18)=some (.slice Ki21p Ki21l Ki21c)∧Tryz.C 66 #[.slice Ki21p Ki21l Ki21c] H20 fun r22 H23=> ∃r24p r24l r24c,r22= .slice r24p r24l r24c∧stAt H23 (.add ⟨b2,0,none⟩ 18) [.slice r24p r24l r24c] fun H25=> ∃v26,v26.size=19∧rowIn H25 ⟨b2,0,none⟩ v26∧v26.size=19∧stAt H25 ⟨b4,0,none⟩ v26.toList fun H27=> ∃re28,re28.size=19∧rowIn H27 ⟨b4,0,none⟩ re28∧R (.agg re28) H27
def Tryz.p116:Plan:=(tl (tl (tl (tl leaf))))
theorem Tryz.s116{l1:AV}{H R}(h:Tryz.S116 l1 H R):Tryz.C 116 #[.agg l1] H R:=vcs Tryz.tab_ok Tryz.mixed Tryz.func116 Tryz.cal116 Tryz.p116 h (by kernel_rfl)
def Tryz.S117(w1:AV)(H:Heap)(R:Kv):Prop:=
 alc H (.cells w1 130) fun b2 H3=> ∃To4,cell H3 (.add (.add ⟨b2,0,none⟩ 2) 2)=some (.int .i64 To4)∧br (To4==0)
 (∃ro5,cell H3 (.add ⟨b2,0,none⟩ 0)=some (.pointer ro5)∧R (.tuple #[.pointer ro5,.int .i64 0]) H3)
 (∃ro6,cell H3 (.add ⟨b2,0,none⟩ 0)=some (.pointer ro6)∧ ∃To7,cell H3 (.add (.add ⟨b2,0,none⟩ 2) 2)=some (.int .i64 To7)∧Tryz.C 119 #[.pointer ro6,.int .i64 To7] H3 fun r8 H9=> ∃r10 r11 r12,r8= .tuple #[.pointer r10,.pointer r11,.int .i64 r12]∧br (Option.isNone r10) (R (.tuple #[.pointer none,.int .i64 40]) H9) (∃a13,r10=some a13∧ ∃Ki14,cell H9 (.add a13 1)=some (.int .i64 Ki14)∧br (Ki14 != 1) (R (.tuple #[.pointer none,.int .i64 41]) H9) (R (.tuple #[.pointer r10,.int .i64 0]) H9)))
def Tryz.p117:Plan:=(tl (tg (tl (two (one (tl (two (tl leaf) g0))) (tl leaf)))))
theorem Tryz.s117{w1:AV}{H R}(h:Tryz.S117 w1 H R):Tryz.C 117 #[.agg w1] H R:=vcs Tryz.tab_ok Tryz.mixed Tryz.func117 Tryz.cal117 Tryz.p117 h (by kernel_rfl)
def Tryz.S118(w1:AV)(to2:OA)(l3:AV)(H:Heap)(R:Kv):Prop:=
 alc H (.cells w1 130) fun b4 H5=>alc H5 (.cells l3 118) fun b6 H7=> ∃At8,cell H7 (.add (.add ⟨b4,0,none⟩ 2) 3)=some (.int .i64 At8)∧ ∀J9:Kl,(∀(at_10:Int) H11,(∀J12:Kl,(∀H13,(∃a14,to2=some a14∧ ∃Ki15p Ki15l Ki15c,cell H13 (.add a14 18)=some (.slice Ki15p Ki15l Ki15c)∧ ∃v16,v16.size=19∧rowIn H13 ⟨b6,0,none⟩ v16∧v16.size=19∧0+19≤19∧alc H13 (.cells (List.toArray (setL [.int .i64 0,.int .i64 0,.bool false,.int .i64 0,.int .i64 0,.int .i64 0,.int .i64 0,.slice none 0 0,.slice none 0 0,.int .i64 0,.int .i64 0,.int .i64 0,.int .i64 0,.int .i64 0,.int .i64 0,.bool false,.int .i64 0,.slice none 0 0,.slice none 0 0] 0 v16.toList)) 118) fun b17 H18=>(Ext H13 H18∨(∃Ki30p Ki30l Ki30c,cell H18 (.add a14 18)=some (.slice Ki30p Ki30l Ki30c)∧Value.slice Ki30p Ki30l Ki30c= .slice Ki15p Ki15l Ki15c))∧Tryz.C 162 #[.slice Ki15p Ki15l Ki15c,.int .i64 at_10,.slice (some ⟨b17,0,none⟩) 1 1] H18 fun r19 H20=> ∃r21p r21l r21c,r19= .slice r21p r21l r21c∧ ∃a22,to2=some a22∧stAt H20 (.add a22 18) [.slice r21p r21l r21c] fun H23=> ∃ro24,cell H23 (.add ⟨b4,0,none⟩ 0)=some (.pointer ro24)∧ ∃a25,ro24=some a25∧ ∃Ki26p Ki26l Ki26c,cell H23 (.add a25 18)=some (.slice Ki26p Ki26l Ki26c)∧Tryz.C 163 #[.slice Ki26p Ki26l Ki26c] H23 fun r27 H28=> ∃r29,r27= .int .i64 r29∧br (decide (r29>64)) (R (.int .i64 31) H28) (R (.int .i64 0) H28))→J12 [] H13)→br (decide (at_10<0)) (R (.int .i64 43) H11) (∃a31,to2=some a31∧ ∃Ki32p Ki32l Ki32c,cell H11 (.add a31 18)=some (.slice Ki32p Ki32l Ki32c)∧br (decide (at_10>(Ki32l:Int))) (R (.int .i64 43) H11) (J12 [] H11)))→J9 [.int .i64 at_10] H11)→
 br (At8==(-1:Int))
 (∃a33,to2=some a33∧ ∃Ki34p Ki34l Ki34c,cell H7 (.add a33 18)=some (.slice Ki34p Ki34l Ki34c)∧J9 [.int .i64 (Ki34l:Int)] H7)
 (J9 [.int .i64 At8] H7)
def Tryz.p118:Plan:=(tl (tl (two (join [(7,3)] [1,3,5] (tl (tl leaf))) (two (join [] [1,3,5,7] g0) (tl (tg (tl leaf)))))))
theorem Tryz.s118{w1:AV}{to2:OA}{l3:AV}{H R}(h:Tryz.S118 w1 to2 l3 H R):Tryz.C 118 #[.agg w1,.pointer to2,.agg l3] H R:=vcs Tryz.tab_ok Tryz.mixed Tryz.func118 Tryz.cal118 Tryz.p118 h (by kernel_rfl)
def Tryz.S119(in_1:OA)(id2:Int)(H:Heap)(R:Kv):Prop:=
 ∃a3,in_1=some a3∧ ∃Ki4p Ki4l Ki4c,cell H (.add a3 18)=some (.slice Ki4p Ki4l Ki4c)∧ ∀X5:Kl,(∀(i6:Int) H7,(br (decide (i6<(Ki4l:Int))) (∃a8,in_1=some a8∧ ∃Ki9p Ki9l Ki9c,cell H7 (.add a8 18)=some (.slice Ki9p Ki9l Ki9c)∧ ∃a10,Ki9p=some a10∧0≤i6∧i6<(Ki9l:Int)∧ ∃a11,(some (.add a10 (toNat i6*19)))=some a11∧ ∃ID12,cell H7 (.add a11 0)=some (.int .i64 ID12)∧br (ID12==id2) (R (.tuple #[.pointer (some (.add a10 (toNat i6*19))),.pointer in_1,.int .i64 i6]) H7) (Tryz.C 119 #[.pointer (some (.add a10 (toNat i6*19))),.int .i64 id2] H7 fun r13 H14=> ∃r15 r16 r17,r13= .tuple #[.pointer r15,.pointer r16,.int .i64 r17]∧br (!(Option.isNone r15)) (R (.tuple #[.pointer r15,.pointer r16,.int .i64 r17]) H14) (X5 [.int .i64 (wrap .i64 (i6+1))] H14))) (R (.tuple #[.pointer none,.pointer none,.int .i64 0]) H7))→X5 [.int .i64 i6] H7)→X5 [.int .i64 0] H
def Tryz.p119:Plan:=(tl (two (tl (one (loop [(17,3)] [0,1,16] (tl (two (tl leaf) (two (one (tl (tl (tg (tl g0))))) leaf)))))) (tl leaf)))
theorem Tryz.s119{in_1:OA}{id2:Int}{H R}(h:Tryz.S119 in_1 id2 H R):Tryz.C 119 #[.pointer in_1,.int .i64 id2] H R:=vcs Tryz.tab_ok Tryz.mixed Tryz.func119 Tryz.cal119 Tryz.p119 h (by kernel_rfl)
def Tryz.S120(s1p:OA)(s1l s1c:Nat)(i2 j3:Int)(H:Heap)(R:Kv):Prop:=
 0≤(s1l:Int)∧(s1l:Int)≤(s1c:Int)∧0≤j3∧j3≤(s1l:Int)∧0≤i2∧i2≤j3∧br (i2==j3)
 (R (.slice s1p s1l s1c) H)
 (0≤i2∧i2≤(s1c:Int)∧0≤j3∧j3≤(s1l:Int)∧appQ 19 216 #[.int .i64 0,.int .i64 0,.bool false,.int .i64 0,.int .i64 0,.int .i64 0,.int .i64 0,.slice none 0 0,.slice none 0 0,.int .i64 0,.int .i64 0,.int .i64 0,.int .i64 0,.int .i64 0,.int .i64 0,.bool false,.int .i64 0,.slice none 0 0,.slice none 0 0] H (if s1c=0 then s1p else Option.map (fun x=>Addr.add x (0*19)) s1p) ((toNat i2)-0) (s1c-0) (if s1c=(toNat j3) then s1p else Option.map (fun x=>Addr.add x ((toNat j3)*19)) s1p) (s1l-(toNat j3)) 118 fun s4p s4l s4c H5=>0≤(s1l:Int)∧(s1l:Int)≤(s4c:Int)∧0≤(s4l:Int)∧(s4l:Int)≤(s1l:Int)∧clrQ H5 (if s4c=(toNat (s4l:Int)) then s4p else Option.map (fun x=>Addr.add x ((toNat (s4l:Int))*19)) s4p) ((toNat (s1l:Int))-(toNat (s4l:Int))) #[.int .i64 0,.int .i64 0,.bool false,.int .i64 0,.int .i64 0,.int .i64 0,.int .i64 0,.slice none 0 0,.slice none 0 0,.int .i64 0,.int .i64 0,.int .i64 0,.int .i64 0,.int .i64 0,.int .i64 0,.bool false,.int .i64 0,.slice none 0 0,.slice none 0 0] fun H6=>R (.slice s4p s4l s4c) H6)
def Tryz.p120:Plan:=(tl (tl (tg (tl (tl (tl (tl leaf)))))))
theorem Tryz.s120{s1p:OA}{s1l s1c:Nat}{i2 j3:Int}{H R}(h:Tryz.S120 s1p s1l s1c i2 j3 H R):Tryz.C 120 #[.slice s1p s1l s1c,.int .i64 i2,.int .i64 j3] H R:=vcs Tryz.tab_ok Tryz.mixed Tryz.func120 Tryz.cal120 Tryz.p120 h (by kernel_rfl)
def Tryz.S121(w1:AV)(H:Heap)(R:Kv):Prop:=
 alc H (.cells w1 130) fun b2 H3=> ∃ro4,cell H3 (.add ⟨b2,0,none⟩ 0)=some (.pointer ro4)∧ ∃ID5,cell H3 (.add (.add ⟨b2,0,none⟩ 2) 1)=some (.int .i64 ID5)∧Tryz.C 119 #[.pointer ro4,.int .i64 ID5] H3 fun r6 H7=> ∃r8 r9 r10,r6= .tuple #[.pointer r8,.pointer r9,.int .i64 r10]∧br (Option.isNone r8)
 (R (.tuple #[.pointer none,.int .i64 40]) H7)
 (R (.tuple #[.pointer r8,.int .i64 0]) H7)
def Tryz.p121:Plan:=(tl (tl (tg (tl leaf))))
theorem Tryz.s121{w1:AV}{H R}(h:Tryz.S121 w1 H R):Tryz.C 121 #[.agg w1] H R:=vcs Tryz.tab_ok Tryz.mixed Tryz.func121 Tryz.cal121 Tryz.p121 h (by kernel_rfl)
def Tryz.S122(s1p:OA)(s1l s1c f2g:Nat)(f2x f2y:AV)(H:Heap)(R:Kv):Prop:=
 Tryz.C 164 #[.slice s1p s1l s1c,.func (.func f2g) f2x f2y] H fun r3 H4=> ∃r5,r3= .int .i64 r5∧R (.bool (decide (r5≥0))) H4
def Tryz.p122:Plan:=(tl (tl leaf))
theorem Tryz.s122{s1p:OA}{s1l s1c f2g:Nat}{f2x f2y:AV}{H R}(h:Tryz.S122 s1p s1l s1c f2g f2x f2y H R):Tryz.C 122 #[.slice s1p s1l s1c,.func (.func f2g) f2x f2y] H R:=vcs Tryz.tab_ok Tryz.mixed Tryz.func122 Tryz.cal122 Tryz.p122 h (by kernel_rfl)
def Tryz.S123(v1:Int)(H:Heap)(R:Kv):Prop:=
 Tryz.C 124 #[.int .i64 v1] H fun r2 H3=> ∃r4,r2= .bool r4∧R (.bool (!r4)) H3
def Tryz.p123:Plan:=(tl (tl leaf))
theorem Tryz.s123{v1:Int}{H R}(h:Tryz.S123 v1 H R):Tryz.C 123 #[.int .i64 v1] H R:=vcs Tryz.tab_ok Tryz.mixed Tryz.func123 Tryz.cal123 Tryz.p123 h (by kernel_rfl)
def Tryz.S124(v1:Int)(H:Heap)(R:Kv):Prop:=
 Tryz.C 103 #[.int .i64 v1] H fun r2 H3=> ∃r4,r2= .agg r4∧alc H3 (.cells #[.int .i64 0,.int .i64 0,.int .i64 0,.int .i64 0] 164) fun b5 H6=>r4.size=4∧stAt H6 ⟨b5,0,none⟩ r4.toList fun H7=>br (decide (v1≥0)) (br (decide (v1<4294967296)) (0≤(0:Int)∧(0:Int)<((4:Nat):Int)∧ ∃v8,cell H7 (.add ⟨b5,0,none⟩ (toNat (0:Int)*1))=some (.int .i64 v8)∧0≤(1:Int)∧(1:Int)<((4:Nat):Int)∧ ∃v9,cell H7 (.add ⟨b5,0,none⟩ (toNat (1:Int)*1))=some (.int .i64 v9)∧0≤(2:Int)∧(2:Int)<((4:Nat):Int)∧ ∃v10,cell H7 (.add ⟨b5,0,none⟩ (toNat (2:Int)*1))=some (.int .i64 v10)∧0≤(3:Int)∧(3:Int)<((4:Nat):Int)∧ ∃v11,cell H7 (.add ⟨b5,0,none⟩ (toNat (3:Int)*1))=some (.int .i64 v11)∧R (.bool (decide (((max (max v8 v9) v10):Int)≤v11))) H7) (R (.bool false) H7)) (R (.bool false) H7)
def Tryz.p124:Plan:=(tl (tl (tl leaf)))
theorem Tryz.s124{v1:Int}{H R}(h:Tryz.S124 v1 H R):Tryz.C 124 #[.int .i64 v1] H R:=vcs Tryz.tab_ok Tryz.mixed Tryz.func124 Tryz.cal124 Tryz.p124 h (by kernel_rfl)
def Tryz.S125(sh1p:OA)(sh1l sh1c:Nat)(w2 h3:Int)(H:Heap)(R:Kv):Prop:=
 Tryz.C 165 #[.slice sh1p sh1l sh1c,.slice none 0 0] H fun r4 H5=> ∃e6,r4= .int .i64 e6∧br (e6 != 0)
 (R (.tuple #[.slice none 0 0,.int .i64 e6]) H5)
 (∀J7:Kl,(∀H8,(0≤(wrap .i64 (w2*h3))∧(wrap .i64 (w2*h3))≤(wrap .i64 (w2*h3))∧((1:Nat):Int)*(wrap .i64 (w2*h3))≤281474976710656∧(wrap .i64 (w2*h3))≤281474976710656∧alc H8 (.cells (List.toArray (reps (toNat (wrap .i64 (w2*h3))) (Array.toList #[.int .u8 0]))) 5) fun b9 H10=> ∀X11:Kl,(∀(i12:Int) H13,(br (decide (i12<(((toNat (wrap .i64 (w2*h3))):Nat):Int))) (w2≠0∧w2≠0∧Tryz.C 166 #[.slice sh1p sh1l sh1c,.int .i64 (Int.tmod i12 w2),.int .i64 (wrap .i64 (Int.tdiv i12 w2))] H13 fun r14 H15=> ∃r16,r14= .bool r16∧br r16 (∃a17,(some ⟨b9,0,none⟩)=some a17∧0≤i12∧i12<(((toNat (wrap .i64 (w2*h3))):Nat):Int)∧stAt H15 (.add a17 (toNat i12*1)) [.int .u8 255] fun H18=>X11 [.int .i64 (wrap .i64 (i12+1))] H18) (X11 [.int .i64 (wrap .i64 (i12+1))] H15)) (R (.tuple #[.slice (some ⟨b9,0,none⟩) (toNat (wrap .i64 (w2*h3))) (toNat (wrap .i64 (w2*h3))),.int .i64 0]) H13))→X11 [.int .i64 i12] H13)→X11 [.int .i64 0] H10)→J7 [] H8)→br (decide (w2<0)) (R (.tuple #[.slice none 0 0,.int .i64 31]) H5) (br (decide (h3<0)) (R (.tuple #[.slice none 0 0,.int .i64 31]) H5) (br (decide (w2>32768)) (R (.tuple #[.slice none 0 0,.int .i64 31]) H5) (br (decide (h3>32768)) (R (.tuple #[.slice none 0 0,.int .i64 31]) H5) (br (decide (((wrap .i64 (w2*h3)):Int)>4194304)) (R (.tuple #[.slice none 0 0,.int .i64 31]) H5) (J7 [] H5))))))
def Tryz.p125:Plan:=(tl (two (tl g0) (two (join [] [0,1,2] g0) (tl (two (tl (one (loop [(42,3)] [0,1,9,41] (tl (two (tl leaf) (two (one (tl (tl (tl leaf)))) leaf)))))) (tl leaf))))))
theorem Tryz.s125{sh1p:OA}{sh1l sh1c:Nat}{w2 h3:Int}{H R}(h:Tryz.S125 sh1p sh1l sh1c w2 h3 H R):Tryz.C 125 #[.slice sh1p sh1l sh1c,.int .i64 w2,.int .i64 h3] H R:=vcs Tryz.tab_ok Tryz.mixed Tryz.func125 Tryz.cal125 Tryz.p125 h (by kernel_rfl)
end Go.Proofs
