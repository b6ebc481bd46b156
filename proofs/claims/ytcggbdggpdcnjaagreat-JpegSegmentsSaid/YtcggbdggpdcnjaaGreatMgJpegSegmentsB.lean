/-
  OWN WORK. Several texts in one: ShP, ShL, TileW, TileStay, GTab, GFunA, GFunB, GFunC.
-/
import Derived.Test.YtcggbdggpdcnjaaGreatMgJpegSegmentsA
import Derived.ProofKit
import Derived.OpenShut
import Derived.Test.YtcggbdggpdcnjaaGreatProg
import Derived.KernelRfl

set_option linter.unusedSimpArgs false
set_option linter.unusedVariables false
set_option maxRecDepth 100000
namespace Go.Sh
def br(t:Bool)(A B:Prop):Prop:=(t=true→A)∧(t=false→B)
def alc(H:Heap)(o:Obj)(K:Nat→Heap→Prop):Prop:=K H.size (H.push o)
abbrev OA:=Option Addr
abbrev AV:=Array Value
abbrev Kv:=Value→Heap→Prop
abbrev Kl:=List Value→Heap→Prop
namespace Plan
def tl(a:Plan):Plan:=two leaf a
def g0:Plan:=tl (two (tl leaf) leaf)
def tg(a:Plan):Plan:=two g0 a
end Plan
theorem vcs{P:Program}{T:Tab}(hT:TabOk P T)(hm:P.follows .mixedOrders=true){g:FuncId}{fn:Func}(hg:P.funcs[g]?=some fn)(hc:callable P g)(p:Plan){args:Array Value}{H:Heap}
    {R:Value→Heap→Prop}{A:Prop}(h:A)(e:A=vcFun P T fn p args.toList H R):CallsH P g args H R:=by
  have:=vcFun_sound hT hm hg hc (p:=p) (args:=args.toList) (H:=H) (R:=R) (Eq.mp e h)
  simpa using this
end Go.Sh
namespace Go.Sh
theorem br_i{t:Bool}{A B:Prop}(h:t=true→A)(h':t=false→B):br t A B:=⟨h,h'⟩
theorem br_dec{p:Prop}[Decidable p]{A B:Prop}(h:p→A)(h': ¬p→B):br (decide p) A B:=⟨fun e=>h (of_decide_eq_true e),fun e=>h' (of_decide_eq_false e)⟩
theorem br_eq{a b:Int}{A B:Prop}(h:a=b→A)(h':a≠b→B):br (a==b) A B:=⟨fun e=>h (by simpa using e),fun e=>h' (by simpa using e)⟩
theorem br_ne{a b:Int}{A B:Prop}(h:a≠b→A)(h':a=b→B):br (a != b) A B:=⟨fun e=>h (by simpa using e),fun e=>h' (by simpa using e)⟩
theorem br_not{t:Bool}{A B:Prop}(h:t=false→A)(h':t=true→B):br (!t) A B:=⟨fun e=>h (by simpa using e),fun e=>h' (by simpa using e)⟩
theorem br_true{A B:Prop}(h:A):br true A B:=⟨fun _=>h,fun e=>(by cases e)⟩
theorem br_false{A B:Prop}(h:B):br false A B:=⟨fun e=>(by cases e),fun _=>h⟩
theorem br_t{t:Bool}{A B:Prop}(ht:t=true)(h:A):br t A B:=by subst ht;exact br_true h
theorem br_f{t:Bool}{A B:Prop}(ht:t=false)(h:B):br t A B:=by subst ht;exact br_false h
theorem br_y{p:Prop}[Decidable p]{A B:Prop}(hp:p)(h:A):br (decide p) A B:=br_dec (fun _=>h) (fun n=>absurd hp n)
theorem br_n{p:Prop}[Decidable p]{A B:Prop}(hp: ¬p)(h:B):br (decide p) A B:=br_dec (fun y=>absurd y hp) (fun _=>h)
theorem br_none{α:Type}{p:Option α}{A B:Prop}(h:p=none→A)(h': ∀a,p=some a→B):br (Option.isNone p) A B:=by
 cases p with
 |none=>exact br_true (h rfl)
 |some a=>exact br_false (h' a rfl)
theorem lt_of_get{H:Heap}{b:Nat}{o:Obj}(h:H[b]?=some o):b<H.size:=(Array.getElem?_eq_some_iff.1 h).1
theorem get_push_self(H:Heap)(o:Obj):(H.push o)[H.size]?=some o:=by simp
theorem get_push{H:Heap}{b:Nat}{o x:Obj}(h:H[b]?=some x):(H.push o)[b]?=some x:=Ext.push H o b x h
theorem get_set_ne{H:Heap}{b r:Nat}{o x:Obj}(hne:r≠b)(h:H[b]?=some x):(H.setIfInBounds r o)[b]?=some x:=by
 rw[Array.getElem?_setIfInBounds_ne hne];exact h
theorem get_set_self{H:Heap}{r:Nat}{o x:Obj}(h:H[r]?=some x):(H.setIfInBounds r o)[r]?=some o:=by
 rw[Array.getElem?_setIfInBounds_self_of_lt (lt_of_get h)]
theorem cell_block{H:Heap}{b i:Nat}{c:Array Value}{t:TypeId}{f:Nat×Nat}(h:H[b]?=some (.cells c t f)):cell H ⟨b,i,none⟩=c[i]?:=by
 simp[cell,h]
theorem cell_get{H:Heap}{b i:Nat}{c:Array Value}{t:TypeId}{f:Nat×Nat}{v:Value}(h:H[b]?=some (.cells c t f))(hv:c[i]?=some v):cell H ⟨b,i,none⟩=some v:=by
 rw[cell_block h];exact hv
@[simp] theorem add_none(b i n:Nat):Addr.add ⟨b,i,none⟩ n=⟨b,i+n,none⟩:=by
 unfold Addr.add;split<;>simp_all
theorem rowIn_block{H:Heap}{b i:Nat}{c cs:Array Value}{t:TypeId}{f:Nat×Nat}(h:H[b]?=some (.cells c t f))(hc: ∀j v,cs[j]?=some v→c[i+j]?=some v):
    rowIn H ⟨b,i,none⟩ cs:=by
  intro j v hv
  rw[add_none,cell_block h]
  exact hc j v hv
theorem rowIn_whole{H:Heap}{b:Nat}{c:Array Value}{t:TypeId}{f:Nat×Nat}(h:H[b]?=some (.cells c t f)):rowIn H ⟨b,0,none⟩ c:=
 rowIn_block h fun j v hv=>by rw[Nat.zero_add];exact hv
theorem stAt_one{H:Heap}{b i:Nat}{c:Array Value}{t:TypeId}{v:Value}{f:Heap→Prop}(h:H[b]?=some (.cells c t (0,0)))(hi:i<c.size)(ho:v.oneCell'=true)
    (hf:f (H.setIfInBounds b (.cells (c.setIfInBounds i v) t (0,0)))):stAt H ⟨b,i,none⟩ [v] f:=by
  refine⟨c,t,h,rfl,(by simp;omega),by simpa using ho,?_⟩
  have:(setL c.toList i [v]).toArray=c.setIfInBounds i v:=by
    rw[setL_one (by simpa using hi)]
    apply Array.toList_inj.1
    simp
  simp only[this]
  exact hf
theorem stAt_whole{H:Heap}{b:Nat}{c:Array Value}{t:TypeId}{vs:List Value}{f:Heap→Prop}(h:H[b]?=some (.cells c t (0,0)))(hl:vs.length=c.size)(ho: ∀v∈vs,v.oneCell'=true)
    (hf:f (H.setIfInBounds b (.cells vs.toArray t (0,0)))):stAt H ⟨b,0,none⟩ vs f:=by
  refine⟨c,t,h,rfl,by simp;omega,ho,?_⟩
  have:setL c.toList 0 vs=vs:=by simp[setL,hl]
  simp only[this]
  exact hf
theorem wrap_id{n:Int}(h0: -9223372036854775808≤n)(h1:n≤9223372036854775807):IntKind.wrap .i64 n=n:=wrap_i64 h0 h1
theorem wrap_u8{n:Int}(h0:0≤n)(h1:n<256):IntKind.wrap .u8 n=n:=by
 simp only[IntKind.wrap,IntKind.signed,IntKind.bits];simp;omega
end Go.Sh
namespace Go.Sh
open Go.RowKit
theorem grown_of{W w':World}(hos:w'.os=W.os)(ho:Out W w')(hx:Ext W.heap w'.heap):Grown W w':=by
 refine⟨⟨hos,ho.output,fun i hi=>?_⟩,ho.froz,hx.size⟩
 obtain⟨o,h⟩: ∃o,W.heap[i]?=some o:=⟨_,Array.getElem?_eq_getElem hi⟩
 rw[hx i o h,h]
 cases o with
 |cells c t fr=>exact⟨rfl,rfl,rfl,fun _ _=>rfl⟩
 |map es k=>exact .inr ⟨rfl,rfl⟩
 |_=>rfl
end Go.Sh
namespace Go.Sh
open Go.RowKit Go.ChangeShapes Go.WideShapes Go.ChangeAt
section
variable {H:Type} {enc:TypeId×Value→H} {P:Program} {W W':World}
theorem same_of(hx:Ext W.heap W'.heap){p:MemPlace}(hp:p.block<W.heap.size):W.sameAt W' p:=by
 have h:W'.heap[p.block]?=W.heap[p.block]?:=by
  obtain⟨o,h⟩: ∃o,W.heap[p.block]?=some o:=⟨_,Array.getElem?_eq_getElem hp⟩
  rw[hx _ o h,h]
 cases p with
 |cell b o=>exact World.cell?_of_block (w:=W) h
 |map b=>exact h
theorem trodAll_ext(hl:laidOutB P=true)(hx:Ext W.heap W'.heap){sp:Nat→Bool}: ∀{ts:List TypeId} {vs:List Value} {ds:List (DataW H)} {ps:List MemPlace},(ts.all fun t=>P.readableRec t&&decide (t<P.types.size))=true→
    DataW.TrodAll enc P W 0 (fun _=>true) true ts vs ds ps→(∀x∈ps,x.block<W.heap.size)→(∀x∈ps,sp x.block=true)→DataW.TrodAll enc P W' 0 sp true ts vs ds ps
  |[],vs,ds,ps,_,h,_,_=>by
    obtain⟨rfl,rfl,rfl⟩:=trodAll_nil h
    exact trodAll_mk0
  |t::ts,vs,ds,ps,hr,h,hlt,hs=>by
    obtain⟨v,vs1,d,ds1,a,b,rfl,rfl,rfl,h1,h2⟩:=trodAll_cons h
    simp only[List.all_cons,Bool.and_eq_true,decide_eq_true_eq] at hr
    exact trodAll_cons_mk (WideElems.Trod_stays hl hr.1.1 hr.1.2 h1 (fun x hx'=>same_of hx (hlt x (List.mem_append_left _ hx'))) (fun x hx'=>hs x (List.mem_append_left _ hx')))
      (trodAll_ext hl hx (by simpa using hr.2) h2 (fun x hx'=>hlt x (List.mem_append_right _ hx')) (fun x hx'=>hs x (List.mem_append_right _ hx')))
theorem wf_range{a:Int}(h:(Lit.int .i64 a).wf=true): -9223372036854775808≤a∧a≤9223372036854775807:=by
 simpa[Lit.wf,IntKind.min,IntKind.max,IntKind.signed,IntKind.bits] using h
end
end Go.Sh
namespace Go.Proofs
open Go.Sh
def Tryz.i0:TI:=⟨.tuple [],1,0,Value.tuple #[]⟩
theorem Tryz.tok0:TIok Tryz.prog 0 Tryz.i0:=⟨by kernel_rfl,by kernel_rfl⟩
def Tryz.i3:TI:=⟨.int .i64,1,8,Value.int .i64 0⟩
theorem Tryz.tok3:TIok Tryz.prog 3 Tryz.i3:=⟨by kernel_rfl,by kernel_rfl⟩
def Tryz.i4:TI:=⟨.bool,1,1,Value.bool false⟩
theorem Tryz.tok4:TIok Tryz.prog 4 Tryz.i4:=⟨by kernel_rfl,by kernel_rfl⟩
def Tryz.i5:TI:=⟨.int .u8,1,1,Value.int .u8 0⟩
theorem Tryz.tok5:TIok Tryz.prog 5 Tryz.i5:=⟨by kernel_rfl,by kernel_rfl⟩
def Tryz.i9:TI:=⟨.str,1,16,Value.string ByteArray.empty⟩
theorem Tryz.tok9:TIok Tryz.prog 9 Tryz.i9:=⟨by kernel_rfl,by kernel_rfl⟩
def Tryz.i22:TI:=⟨.sl 5,1,24,Value.slice none 0 0⟩
theorem Tryz.tok22:TIok Tryz.prog 22 Tryz.i22:=⟨by kernel_rfl,by kernel_rfl⟩
def Tryz.i25:TI:=⟨.int .i64,1,8,Value.int .i64 0⟩
theorem Tryz.tok25:TIok Tryz.prog 25 Tryz.i25:=⟨by kernel_rfl,by kernel_rfl⟩
def Tryz.i26:TI:=⟨.tuple [22,25],1,0,Value.tuple #[Value.slice none 0 0,Value.int .i64 0]⟩
theorem Tryz.tok26:TIok Tryz.prog 26 Tryz.i26:=⟨by kernel_rfl,by kernel_rfl⟩
def Tryz.i28:TI:=⟨.sl 48,1,24,Value.slice none 0 0⟩
theorem Tryz.tok28:TIok Tryz.prog 28 Tryz.i28:=⟨by kernel_rfl,by kernel_rfl⟩
def Tryz.i29:TI:=⟨.tuple [28,3],1,0,Value.tuple #[Value.slice none 0 0,Value.int .i64 0]⟩
theorem Tryz.tok29:TIok Tryz.prog 29 Tryz.i29:=⟨by kernel_rfl,by kernel_rfl⟩
def Tryz.i32:TI:=⟨.struct [(0,3),(1,3),(2,22)],3,40,Value.agg #[Value.int .i64 0,Value.int .i64 0,Value.slice none 0 0]⟩
theorem Tryz.tok32:TIok Tryz.prog 32 Tryz.i32:=⟨by kernel_rfl,by kernel_rfl⟩
def Tryz.i34:TI:=⟨.struct [(0,3),(1,3),(2,22),(3,4),(4,28)],5,72,Value.agg #[Value.int .i64 0,Value.int .i64 0,Value.slice none 0 0,Value.bool false,Value.slice none 0 0]⟩
theorem Tryz.tok34:TIok Tryz.prog 34 Tryz.i34:=⟨by kernel_rfl,by kernel_rfl⟩
def Tryz.i35:TI:=⟨.tuple [34,4],1,0,Value.tuple #[Value.agg #[Value.int .i64 0,Value.int .i64 0,Value.slice none 0 0,Value.bool false,Value.slice none 0 0],Value.bool false]⟩
theorem Tryz.tok35:TIok Tryz.prog 35 Tryz.i35:=⟨by kernel_rfl,by kernel_rfl⟩
def Tryz.i37:TI:=⟨.struct [(0,3),(1,3),(2,22),(3,4),(4,28)],5,72,Value.agg #[Value.int .i64 0,Value.int .i64 0,Value.slice none 0 0,Value.bool false,Value.slice none 0 0]⟩
theorem Tryz.tok37:TIok Tryz.prog 37 Tryz.i37:=⟨by kernel_rfl,by kernel_rfl⟩
def Tryz.i38:TI:=⟨.tuple [37,25],1,0,Value.tuple #[Value.agg #[Value.int .i64 0,Value.int .i64 0,Value.slice none 0 0,Value.bool false,Value.slice none 0 0],Value.int .i64 0]⟩
theorem Tryz.tok38:TIok Tryz.prog 38 Tryz.i38:=⟨by kernel_rfl,by kernel_rfl⟩
def Tryz.i43:TI:=⟨.int .u64,1,8,Value.int .u64 0⟩
theorem Tryz.tok43:TIok Tryz.prog 43 Tryz.i43:=⟨by kernel_rfl,by kernel_rfl⟩
def Tryz.i46:TI:=⟨.tuple [28,25],1,0,Value.tuple #[Value.slice none 0 0,Value.int .i64 0]⟩
theorem Tryz.tok46:TIok Tryz.prog 46 Tryz.i46:=⟨by kernel_rfl,by kernel_rfl⟩
def Tryz.i48:TI:=⟨.arr 64 3,64,512,Value.agg (Array.replicate 64 (Value.int .i64 0))⟩
theorem Tryz.tok48:TIok Tryz.prog 48 Tryz.i48:=⟨by kernel_rfl,by kernel_rfl⟩
def Tryz.i50:TI:=⟨.tuple [48,4],1,0,Value.tuple #[Value.agg (Array.replicate 64 (Value.int .i64 0)),Value.bool false]⟩
theorem Tryz.tok50:TIok Tryz.prog 50 Tryz.i50:=⟨by kernel_rfl,by kernel_rfl⟩
def Tryz.i53:TI:=⟨.sl 58,1,24,Value.slice none 0 0⟩
theorem Tryz.tok53:TIok Tryz.prog 53 Tryz.i53:=⟨by kernel_rfl,by kernel_rfl⟩
def Tryz.i55:TI:=⟨.sl 3,1,24,Value.slice none 0 0⟩
theorem Tryz.tok55:TIok Tryz.prog 55 Tryz.i55:=⟨by kernel_rfl,by kernel_rfl⟩
def Tryz.i56:TI:=⟨.arr 4 55,4,96,Value.agg #[Value.slice none 0 0,Value.slice none 0 0,Value.slice none 0 0,Value.slice none 0 0]⟩
theorem Tryz.tok56:TIok Tryz.prog 56 Tryz.i56:=⟨by kernel_rfl,by kernel_rfl⟩
def Tryz.i58:TI:=⟨.struct [(0,3),(1,3),(2,3),(3,3)],4,32,Value.agg #[Value.int .i64 0,Value.int .i64 0,Value.int .i64 0,Value.int .i64 0]⟩
theorem Tryz.tok58:TIok Tryz.prog 58 Tryz.i58:=⟨by kernel_rfl,by kernel_rfl⟩
def Tryz.i59:TI:=⟨.tuple [22,55,55],1,0,Value.tuple #[Value.slice none 0 0,Value.slice none 0 0,Value.slice none 0 0]⟩
theorem Tryz.tok59:TIok Tryz.prog 59 Tryz.i59:=⟨by kernel_rfl,by kernel_rfl⟩
def Tryz.i61:TI:=⟨.ptr 131,1,8,Value.pointer none⟩
theorem Tryz.tok61:TIok Tryz.prog 61 Tryz.i61:=⟨by kernel_rfl,by kernel_rfl⟩
def Tryz.i65:TI:=⟨.sl 69,1,24,Value.slice none 0 0⟩
theorem Tryz.tok65:TIok Tryz.prog 65 Tryz.i65:=⟨by kernel_rfl,by kernel_rfl⟩
def Tryz.i69:TI:=⟨.struct [(0,3),(1,3),(2,3)],3,24,Value.agg #[Value.int .i64 0,Value.int .i64 0,Value.int .i64 0]⟩
theorem Tryz.tok69:TIok Tryz.prog 69 Tryz.i69:=⟨by kernel_rfl,by kernel_rfl⟩
def Tryz.i72:TI:=⟨.ptr 80,1,8,Value.pointer none⟩
theorem Tryz.tok72:TIok Tryz.prog 72 Tryz.i72:=⟨by kernel_rfl,by kernel_rfl⟩
def Tryz.i73:TI:=⟨.arr 3 3,3,24,Value.agg #[Value.int .i64 0,Value.int .i64 0,Value.int .i64 0]⟩
theorem Tryz.tok73:TIok Tryz.prog 73 Tryz.i73:=⟨by kernel_rfl,by kernel_rfl⟩
def Tryz.i74:TI:=⟨.arr 4 48,256,2048,Value.agg (Array.replicate 256 (Value.int .i64 0))⟩
theorem Tryz.tok74:TIok Tryz.prog 74 Tryz.i74:=⟨by kernel_rfl,by kernel_rfl⟩
def Tryz.i75:TI:=⟨.arr 4 4,4,4,Value.agg #[Value.bool false,Value.bool false,Value.bool false,Value.bool false]⟩
theorem Tryz.tok75:TIok Tryz.prog 75 Tryz.i75:=⟨by kernel_rfl,by kernel_rfl⟩
def Tryz.i77:TI:=⟨.struct [(0,4),(1,55),(2,55),(3,22)],4,80,Value.agg #[Value.bool false,Value.slice none 0 0,Value.slice none 0 0,Value.slice none 0 0]⟩
theorem Tryz.tok77:TIok Tryz.prog 77 Tryz.i77:=⟨by kernel_rfl,by kernel_rfl⟩
def Tryz.i78:TI:=⟨.arr 8 77,32,640,Value.agg #[Value.bool false,Value.slice none 0 0,Value.slice none 0 0,Value.slice none 0 0,Value.bool false,Value.slice none 0 0,Value.slice none 0 0,Value.slice none 0 0,Value.bool false,Value.slice none 0 0,Value.slice none 0 0,Value.slice none 0 0,Value.bool false,Value.slice none 0 0,Value.slice none 0 0,Value.slice none 0 0,Value.bool false,Value.slice none 0 0,Value.slice none 0 0,Value.slice none 0 0,Value.bool false,Value.slice none 0 0,Value.slice none 0 0,Value.slice none 0 0,Value.bool false,Value.slice none 0 0,Value.slice none 0 0,Value.slice none 0 0,Value.bool false,Value.slice none 0 0,Value.slice none 0 0,Value.slice none 0 0]⟩
theorem Tryz.tok78:TIok Tryz.prog 78 Tryz.i78:=⟨by kernel_rfl,by kernel_rfl⟩
def Tryz.i80:TI:=⟨.struct [(0,22),(1,3),(2,3),(3,4),(4,4),(5,73),(8,74),(264,75),(268,78)],300,2768,Value.agg (#[Value.slice none 0 0]++Array.replicate 2 (Value.int .i64 0)++Array.replicate 2 (Value.bool false)++Array.replicate 259 (Value.int .i64 0)++Array.replicate 5 (Value.bool false)++Array.replicate 3 (Value.slice none 0 0)++#[Value.bool false]++Array.replicate 3 (Value.slice none 0 0)++#[Value.bool false]++Array.replicate 3 (Value.slice none 0 0)++#[Value.bool false]++Array.replicate 3 (Value.slice none 0 0)++#[Value.bool false]++Array.replicate 3 (Value.slice none 0 0)++#[Value.bool false]++Array.replicate 3 (Value.slice none 0 0)++#[Value.bool false]++Array.replicate 3 (Value.slice none 0 0)++#[Value.bool false]++Array.replicate 3 (Value.slice none 0 0))⟩
theorem Tryz.tok80:TIok Tryz.prog 80 Tryz.i80:=⟨by kernel_rfl,by kernel_rfl⟩
def Tryz.i81:TI:=⟨.arr 6 3,6,48,Value.agg #[Value.int .i64 0,Value.int .i64 0,Value.int .i64 0,Value.int .i64 0,Value.int .i64 0,Value.int .i64 0]⟩
theorem Tryz.tok81:TIok Tryz.prog 81 Tryz.i81:=⟨by kernel_rfl,by kernel_rfl⟩
def Tryz.i82:TI:=⟨.tuple [81,4],1,0,Value.tuple #[Value.agg #[Value.int .i64 0,Value.int .i64 0,Value.int .i64 0,Value.int .i64 0,Value.int .i64 0,Value.int .i64 0],Value.bool false]⟩
theorem Tryz.tok82:TIok Tryz.prog 82 Tryz.i82:=⟨by kernel_rfl,by kernel_rfl⟩
def Tryz.i85:TI:=⟨.struct [(0,55),(1,3),(2,4)],3,40,Value.agg #[Value.slice none 0 0,Value.int .i64 0,Value.bool false]⟩
theorem Tryz.tok85:TIok Tryz.prog 85 Tryz.i85:=⟨by kernel_rfl,by kernel_rfl⟩
def Tryz.i86:TI:=⟨.tuple [85,4],1,0,Value.tuple #[Value.agg #[Value.slice none 0 0,Value.int .i64 0,Value.bool false],Value.bool false]⟩
theorem Tryz.tok86:TIok Tryz.prog 86 Tryz.i86:=⟨by kernel_rfl,by kernel_rfl⟩
def Tryz.i90:TI:=⟨.arr 3 48,192,1536,Value.agg (Array.replicate 192 (Value.int .i64 0))⟩
theorem Tryz.tok90:TIok Tryz.prog 90 Tryz.i90:=⟨by kernel_rfl,by kernel_rfl⟩
def Tryz.i91:TI:=⟨.ptr 97,1,8,Value.pointer none⟩
theorem Tryz.tok91:TIok Tryz.prog 91 Tryz.i91:=⟨by kernel_rfl,by kernel_rfl⟩
def Tryz.i92:TI:=⟨.ptr 48,1,8,Value.pointer none⟩
theorem Tryz.tok92:TIok Tryz.prog 92 Tryz.i92:=⟨by kernel_rfl,by kernel_rfl⟩
def Tryz.i93:TI:=⟨.arr 4 92,4,32,Value.agg #[Value.pointer none,Value.pointer none,Value.pointer none,Value.pointer none]⟩
theorem Tryz.tok93:TIok Tryz.prog 93 Tryz.i93:=⟨by kernel_rfl,by kernel_rfl⟩
def Tryz.i94:TI:=⟨.ptr 172,1,8,Value.pointer none⟩
theorem Tryz.tok94:TIok Tryz.prog 94 Tryz.i94:=⟨by kernel_rfl,by kernel_rfl⟩
def Tryz.i95:TI:=⟨.arr 8 94,8,64,Value.agg #[Value.pointer none,Value.pointer none,Value.pointer none,Value.pointer none,Value.pointer none,Value.pointer none,Value.pointer none,Value.pointer none]⟩
theorem Tryz.tok95:TIok Tryz.prog 95 Tryz.i95:=⟨by kernel_rfl,by kernel_rfl⟩
def Tryz.i97:TI:=⟨.struct [(0,22),(1,37),(6,4),(7,73),(10,93),(14,95)],22,224,Value.agg #[Value.slice none 0 0,Value.int .i64 0,Value.int .i64 0,Value.slice none 0 0,Value.bool false,Value.slice none 0 0,Value.bool false,Value.int .i64 0,Value.int .i64 0,Value.int .i64 0,Value.pointer none,Value.pointer none,Value.pointer none,Value.pointer none,Value.pointer none,Value.pointer none,Value.pointer none,Value.pointer none,Value.pointer none,Value.pointer none,Value.pointer none,Value.pointer none]⟩
theorem Tryz.tok97:TIok Tryz.prog 97 Tryz.i97:=⟨by kernel_rfl,by kernel_rfl⟩
def Tryz.i98:TI:=⟨.arr 2 94,2,16,Value.agg #[Value.pointer none,Value.pointer none]⟩
theorem Tryz.tok98:TIok Tryz.prog 98 Tryz.i98:=⟨by kernel_rfl,by kernel_rfl⟩
def Tryz.i99:TI:=⟨.arr 3 98,6,48,Value.agg #[Value.pointer none,Value.pointer none,Value.pointer none,Value.pointer none,Value.pointer none,Value.pointer none]⟩
theorem Tryz.tok99:TIok Tryz.prog 99 Tryz.i99:=⟨by kernel_rfl,by kernel_rfl⟩
def Tryz.i100:TI:=⟨.tuple [99,4],1,0,Value.tuple #[Value.agg #[Value.pointer none,Value.pointer none,Value.pointer none,Value.pointer none,Value.pointer none,Value.pointer none],Value.bool false]⟩
theorem Tryz.tok100:TIok Tryz.prog 100 Tryz.i100:=⟨by kernel_rfl,by kernel_rfl⟩
def Tryz.i102:TI:=⟨.tuple [22,4],1,0,Value.tuple #[Value.slice none 0 0,Value.bool false]⟩
theorem Tryz.tok102:TIok Tryz.prog 102 Tryz.i102:=⟨by kernel_rfl,by kernel_rfl⟩
def Tryz.i104:TI:=⟨.sl 112,1,24,Value.slice none 0 0⟩
theorem Tryz.tok104:TIok Tryz.prog 104 Tryz.i104:=⟨by kernel_rfl,by kernel_rfl⟩
def Tryz.i106:TI:=⟨.ptr 110,1,8,Value.pointer none⟩
theorem Tryz.tok106:TIok Tryz.prog 106 Tryz.i106:=⟨by kernel_rfl,by kernel_rfl⟩
def Tryz.i107:TI:=⟨.ptr 143,1,8,Value.pointer none⟩
theorem Tryz.tok107:TIok Tryz.prog 107 Tryz.i107:=⟨by kernel_rfl,by kernel_rfl⟩
def Tryz.i110:TI:=⟨.struct [(0,107),(1,4)],2,16,Value.agg #[Value.pointer none,Value.bool false]⟩
theorem Tryz.tok110:TIok Tryz.prog 110 Tryz.i110:=⟨by kernel_rfl,by kernel_rfl⟩
def Tryz.i112:TI:=⟨.struct [(0,3),(1,3),(2,3)],3,24,Value.agg #[Value.int .i64 0,Value.int .i64 0,Value.int .i64 0]⟩
theorem Tryz.tok112:TIok Tryz.prog 112 Tryz.i112:=⟨by kernel_rfl,by kernel_rfl⟩
def Tryz.i118:TI:=⟨.struct [(0,3),(1,3),(2,55)],3,40,Value.agg #[Value.int .i64 0,Value.int .i64 0,Value.slice none 0 0]⟩
theorem Tryz.tok118:TIok Tryz.prog 118 Tryz.i118:=⟨by kernel_rfl,by kernel_rfl⟩
def Tryz.i119:TI:=⟨.arr 3 118,9,120,Value.agg #[Value.int .i64 0,Value.int .i64 0,Value.slice none 0 0,Value.int .i64 0,Value.int .i64 0,Value.slice none 0 0,Value.int .i64 0,Value.int .i64 0,Value.slice none 0 0]⟩
theorem Tryz.tok119:TIok Tryz.prog 119 Tryz.i119:=⟨by kernel_rfl,by kernel_rfl⟩
def Tryz.i124:TI:=⟨.tuple [3,3],1,0,Value.tuple #[Value.int .i64 0,Value.int .i64 0]⟩
theorem Tryz.tok124:TIok Tryz.prog 124 Tryz.i124:=⟨by kernel_rfl,by kernel_rfl⟩
def Tryz.i126:TI:=⟨.tuple [55,4],1,0,Value.tuple #[Value.slice none 0 0,Value.bool false]⟩
theorem Tryz.tok126:TIok Tryz.prog 126 Tryz.i126:=⟨by kernel_rfl,by kernel_rfl⟩
def Tryz.i131:TI:=⟨.struct [(0,22),(1,3),(2,4)],3,40,Value.agg #[Value.slice none 0 0,Value.int .i64 0,Value.bool false]⟩
theorem Tryz.tok131:TIok Tryz.prog 131 Tryz.i131:=⟨by kernel_rfl,by kernel_rfl⟩
def Tryz.i133:TI:=⟨.arr 16 3,16,128,Value.agg #[Value.int .i64 0,Value.int .i64 0,Value.int .i64 0,Value.int .i64 0,Value.int .i64 0,Value.int .i64 0,Value.int .i64 0,Value.int .i64 0,Value.int .i64 0,Value.int .i64 0,Value.int .i64 0,Value.int .i64 0,Value.int .i64 0,Value.int .i64 0,Value.int .i64 0,Value.int .i64 0]⟩
theorem Tryz.tok133:TIok Tryz.prog 133 Tryz.i133:=⟨by kernel_rfl,by kernel_rfl⟩
def Tryz.i136:TI:=⟨.ptr 85,1,8,Value.pointer none⟩
theorem Tryz.tok136:TIok Tryz.prog 136 Tryz.i136:=⟨by kernel_rfl,by kernel_rfl⟩
def Tryz.i139:TI:=⟨.arr 3 55,3,72,Value.agg #[Value.slice none 0 0,Value.slice none 0 0,Value.slice none 0 0]⟩
theorem Tryz.tok139:TIok Tryz.prog 139 Tryz.i139:=⟨by kernel_rfl,by kernel_rfl⟩
def Tryz.i143:TI:=⟨.struct [(0,22),(1,3),(2,4)],3,40,Value.agg #[Value.slice none 0 0,Value.int .i64 0,Value.bool false]⟩
theorem Tryz.tok143:TIok Tryz.prog 143 Tryz.i143:=⟨by kernel_rfl,by kernel_rfl⟩
def Tryz.i145:TI:=⟨.ptr 37,1,8,Value.pointer none⟩
theorem Tryz.tok145:TIok Tryz.prog 145 Tryz.i145:=⟨by kernel_rfl,by kernel_rfl⟩
def Tryz.i148:TI:=⟨.arr 8 3,8,64,Value.agg #[Value.int .i64 0,Value.int .i64 0,Value.int .i64 0,Value.int .i64 0,Value.int .i64 0,Value.int .i64 0,Value.int .i64 0,Value.int .i64 0]⟩
theorem Tryz.tok148:TIok Tryz.prog 148 Tryz.i148:=⟨by kernel_rfl,by kernel_rfl⟩
def Tryz.i149:TI:=⟨.arr 8 148,64,512,Value.agg (Array.replicate 64 (Value.int .i64 0))⟩
theorem Tryz.tok149:TIok Tryz.prog 149 Tryz.i149:=⟨by kernel_rfl,by kernel_rfl⟩
def Tryz.i152:TI:=⟨.sl 55,1,24,Value.slice none 0 0⟩
theorem Tryz.tok152:TIok Tryz.prog 152 Tryz.i152:=⟨by kernel_rfl,by kernel_rfl⟩
def Tryz.i153:TI:=⟨.sl 22,1,24,Value.slice none 0 0⟩
theorem Tryz.tok153:TIok Tryz.prog 153 Tryz.i153:=⟨by kernel_rfl,by kernel_rfl⟩
def Tryz.i156:TI:=⟨.sl 158,1,24,Value.slice none 0 0⟩
theorem Tryz.tok156:TIok Tryz.prog 156 Tryz.i156:=⟨by kernel_rfl,by kernel_rfl⟩
def Tryz.i158:TI:=⟨.struct [(0,3),(1,55)],2,32,Value.agg #[Value.int .i64 0,Value.slice none 0 0]⟩
theorem Tryz.tok158:TIok Tryz.prog 158 Tryz.i158:=⟨by kernel_rfl,by kernel_rfl⟩
def Tryz.i160:TI:=⟨.fn,1,8,Value.nilFunc⟩
theorem Tryz.tok160:TIok Tryz.prog 160 Tryz.i160:=⟨by kernel_rfl,by kernel_rfl⟩
def Tryz.i163:TI:=⟨.tuple [3,4],1,0,Value.tuple #[Value.int .i64 0,Value.bool false]⟩
theorem Tryz.tok163:TIok Tryz.prog 163 Tryz.i163:=⟨by kernel_rfl,by kernel_rfl⟩
def Tryz.i168:TI:=⟨.ptr 188,1,8,Value.pointer none⟩
theorem Tryz.tok168:TIok Tryz.prog 168 Tryz.i168:=⟨by kernel_rfl,by kernel_rfl⟩
def Tryz.i169:TI:=⟨.tuple [168,4],1,0,Value.tuple #[Value.pointer none,Value.bool false]⟩
theorem Tryz.tok169:TIok Tryz.prog 169 Tryz.i169:=⟨by kernel_rfl,by kernel_rfl⟩
def Tryz.i172:TI:=⟨.struct [(0,168),(1,22)],2,32,Value.agg #[Value.pointer none,Value.slice none 0 0]⟩
theorem Tryz.tok172:TIok Tryz.prog 172 Tryz.i172:=⟨by kernel_rfl,by kernel_rfl⟩
def Tryz.i176:TI:=⟨.tuple [43,43],1,0,Value.tuple #[Value.int .u64 0,Value.int .u64 0]⟩
theorem Tryz.tok176:TIok Tryz.prog 176 Tryz.i176:=⟨by kernel_rfl,by kernel_rfl⟩
def Tryz.i179:TI:=⟨.int .u32,1,4,Value.int .u32 0⟩
theorem Tryz.tok179:TIok Tryz.prog 179 Tryz.i179:=⟨by kernel_rfl,by kernel_rfl⟩
def Tryz.i181:TI:=⟨.int .u64,1,8,Value.int .u64 0⟩
theorem Tryz.tok181:TIok Tryz.prog 181 Tryz.i181:=⟨by kernel_rfl,by kernel_rfl⟩
def Tryz.i185:TI:=⟨.arr 9 3,9,72,Value.agg #[Value.int .i64 0,Value.int .i64 0,Value.int .i64 0,Value.int .i64 0,Value.int .i64 0,Value.int .i64 0,Value.int .i64 0,Value.int .i64 0,Value.int .i64 0]⟩
theorem Tryz.tok185:TIok Tryz.prog 185 Tryz.i185:=⟨by kernel_rfl,by kernel_rfl⟩
def Tryz.i186:TI:=⟨.sl 189,1,24,Value.slice none 0 0⟩
theorem Tryz.tok186:TIok Tryz.prog 186 Tryz.i186:=⟨by kernel_rfl,by kernel_rfl⟩
def Tryz.i188:TI:=⟨.struct [(0,186)],1,24,Value.agg #[Value.slice none 0 0]⟩
theorem Tryz.tok188:TIok Tryz.prog 188 Tryz.i188:=⟨by kernel_rfl,by kernel_rfl⟩
def Tryz.i189:TI:=⟨.arr 2 3,2,16,Value.agg #[Value.int .i64 0,Value.int .i64 0]⟩
theorem Tryz.tok189:TIok Tryz.prog 189 Tryz.i189:=⟨by kernel_rfl,by kernel_rfl⟩
def Tryz.i192:TI:=⟨.tuple [181,181],1,0,Value.tuple #[Value.int .u64 0,Value.int .u64 0]⟩
theorem Tryz.tok192:TIok Tryz.prog 192 Tryz.i192:=⟨by kernel_rfl,by kernel_rfl⟩
def Tryz.i196:TI:=⟨.sl 156,1,24,Value.slice none 0 0⟩
theorem Tryz.tok196:TIok Tryz.prog 196 Tryz.i196:=⟨by kernel_rfl,by kernel_rfl⟩
def Tryz.tab:Tab:=[(0,Tryz.i0),(3,Tryz.i3),(4,Tryz.i4),(5,Tryz.i5),(9,Tryz.i9),(22,Tryz.i22),(25,Tryz.i25),(26,Tryz.i26),(28,Tryz.i28),(29,Tryz.i29),(32,Tryz.i32),(34,Tryz.i34),(35,Tryz.i35),(37,Tryz.i37),(38,Tryz.i38),(43,Tryz.i43),(46,Tryz.i46),(48,Tryz.i48),(50,Tryz.i50),(53,Tryz.i53),(55,Tryz.i55),(56,Tryz.i56),(58,Tryz.i58),(59,Tryz.i59),(61,Tryz.i61),(65,Tryz.i65),(69,Tryz.i69),(72,Tryz.i72),(73,Tryz.i73),(74,Tryz.i74),(75,Tryz.i75),(77,Tryz.i77),(78,Tryz.i78),(80,Tryz.i80),(81,Tryz.i81),(82,Tryz.i82),(85,Tryz.i85),(86,Tryz.i86),(90,Tryz.i90),(91,Tryz.i91),(92,Tryz.i92),(93,Tryz.i93),(94,Tryz.i94),(95,Tryz.i95),(97,Tryz.i97),(98,Tryz.i98),(99,Tryz.i99),(100,Tryz.i100),(102,Tryz.i102),(104,Tryz.i104),(106,Tryz.i106),(107,Tryz.i107),(110,Tryz.i110),(112,Tryz.i112),(118,Tryz.i118),(119,Tryz.i119),(124,Tryz.i124),(126,Tryz.i126),(131,Tryz.i131),(133,Tryz.i133),(136,Tryz.i136),(139,Tryz.i139),(143,Tryz.i143),(145,Tryz.i145),(148,Tryz.i148),(149,Tryz.i149),(152,Tryz.i152),(153,Tryz.i153),(156,Tryz.i156),(158,Tryz.i158),(160,Tryz.i160),(163,Tryz.i163),(168,Tryz.i168),(169,Tryz.i169),(172,Tryz.i172),(176,Tryz.i176),(179,Tryz.i179),(181,Tryz.i181),(185,Tryz.i185),(186,Tryz.i186),(188,Tryz.i188),(189,Tryz.i189),(192,Tryz.i192),(196,Tryz.i196)]
theorem Tryz.tab_ok:TabOk Tryz.prog Tryz.tab:=by
 unfold TabOk Tryz.tab
 simp only[List.forall_mem_cons]
 exact⟨Tryz.tok0,Tryz.tok3,Tryz.tok4,Tryz.tok5,Tryz.tok9,Tryz.tok22,Tryz.tok25,Tryz.tok26,Tryz.tok28,Tryz.tok29,Tryz.tok32,Tryz.tok34,Tryz.tok35,Tryz.tok37,Tryz.tok38,Tryz.tok43,Tryz.tok46,Tryz.tok48,Tryz.tok50,Tryz.tok53,Tryz.tok55,Tryz.tok56,Tryz.tok58,Tryz.tok59,Tryz.tok61,Tryz.tok65,Tryz.tok69,Tryz.tok72,Tryz.tok73,Tryz.tok74,Tryz.tok75,Tryz.tok77,Tryz.tok78,Tryz.tok80,Tryz.tok81,Tryz.tok82,Tryz.tok85,Tryz.tok86,Tryz.tok90,Tryz.tok91,Tryz.tok92,Tryz.tok93,Tryz.tok94,Tryz.tok95,Tryz.tok97,Tryz.tok98,Tryz.tok99,Tryz.tok100,Tryz.tok102,Tryz.tok104,Tryz.tok106,Tryz.tok107,Tryz.tok110,Tryz.tok112,Tryz.tok118,Tryz.tok119,Tryz.tok124,Tryz.tok126,Tryz.tok131,Tryz.tok133,Tryz.tok136,Tryz.tok139,Tryz.tok143,Tryz.tok145,Tryz.tok148,Tryz.tok149,Tryz.tok152,Tryz.tok153,Tryz.tok156,Tryz.tok158,Tryz.tok160,Tryz.tok163,Tryz.tok168,Tryz.tok169,Tryz.tok172,Tryz.tok176,Tryz.tok179,Tryz.tok181,Tryz.tok185,Tryz.tok186,Tryz.tok188,Tryz.tok189,Tryz.tok192,Tryz.tok196,fun _ h=>by cases h⟩
abbrev Tryz.C:=CallsH Tryz.prog
theorem Tryz.mixed:Tryz.prog.follows .mixedOrders=true:=by kernel_rfl
theorem Tryz.cal3:callable Tryz.prog 3:=⟨Tryz.f3,Tryz.func3,by kernel_rfl,by kernel_rfl⟩
theorem Tryz.cal4:callable Tryz.prog 4:=⟨Tryz.f4,Tryz.func4,by kernel_rfl,by kernel_rfl⟩
theorem Tryz.cal5:callable Tryz.prog 5:=⟨Tryz.f5,Tryz.func5,by kernel_rfl,by kernel_rfl⟩
theorem Tryz.cal6:callable Tryz.prog 6:=⟨Tryz.f6,Tryz.func6,by kernel_rfl,by kernel_rfl⟩
theorem Tryz.cal7:callable Tryz.prog 7:=⟨Tryz.f7,Tryz.func7,by kernel_rfl,by kernel_rfl⟩
theorem Tryz.cal8:callable Tryz.prog 8:=⟨Tryz.f8,Tryz.func8,by kernel_rfl,by kernel_rfl⟩
theorem Tryz.cal9:callable Tryz.prog 9:=⟨Tryz.f9,Tryz.func9,by kernel_rfl,by kernel_rfl⟩
theorem Tryz.cal10:callable Tryz.prog 10:=⟨Tryz.f10,Tryz.func10,by kernel_rfl,by kernel_rfl⟩
theorem Tryz.cal11:callable Tryz.prog 11:=⟨Tryz.f11,Tryz.func11,by kernel_rfl,by kernel_rfl⟩
theorem Tryz.cal13:callable Tryz.prog 13:=⟨Tryz.f13,Tryz.func13,by kernel_rfl,by kernel_rfl⟩
theorem Tryz.cal14:callable Tryz.prog 14:=⟨Tryz.f14,Tryz.func14,by kernel_rfl,by kernel_rfl⟩
theorem Tryz.cal15:callable Tryz.prog 15:=⟨Tryz.f15,Tryz.func15,by kernel_rfl,by kernel_rfl⟩
theorem Tryz.cal16:callable Tryz.prog 16:=⟨Tryz.f16,Tryz.func16,by kernel_rfl,by kernel_rfl⟩
theorem Tryz.cal17:callable Tryz.prog 17:=⟨Tryz.f17,Tryz.func17,by kernel_rfl,by kernel_rfl⟩
theorem Tryz.cal18:callable Tryz.prog 18:=⟨Tryz.f18,Tryz.func18,by kernel_rfl,by kernel_rfl⟩
theorem Tryz.cal19:callable Tryz.prog 19:=⟨Tryz.f19,Tryz.func19,by kernel_rfl,by kernel_rfl⟩
theorem Tryz.cal20:callable Tryz.prog 20:=⟨Tryz.f20,Tryz.func20,by kernel_rfl,by kernel_rfl⟩
theorem Tryz.cal21:callable Tryz.prog 21:=⟨Tryz.f21,Tryz.func21,by kernel_rfl,by kernel_rfl⟩
theorem Tryz.cal22:callable Tryz.prog 22:=⟨Tryz.f22,Tryz.func22,by kernel_rfl,by kernel_rfl⟩
theorem Tryz.cal23:callable Tryz.prog 23:=⟨Tryz.f23,Tryz.func23,by kernel_rfl,by kernel_rfl⟩
theorem Tryz.cal24:callable Tryz.prog 24:=⟨Tryz.f24,Tryz.func24,by kernel_rfl,by kernel_rfl⟩
theorem Tryz.cal25:callable Tryz.prog 25:=⟨Tryz.f25,Tryz.func25,by kernel_rfl,by kernel_rfl⟩
theorem Tryz.cal26:callable Tryz.prog 26:=⟨Tryz.f26,Tryz.func26,by kernel_rfl,by kernel_rfl⟩
theorem Tryz.cal27:callable Tryz.prog 27:=⟨Tryz.f27,Tryz.func27,by kernel_rfl,by kernel_rfl⟩
theorem Tryz.cal28:callable Tryz.prog 28:=⟨Tryz.f28,Tryz.func28,by kernel_rfl,by kernel_rfl⟩
theorem Tryz.cal29:callable Tryz.prog 29:=⟨Tryz.f29,Tryz.func29,by kernel_rfl,by kernel_rfl⟩
theorem Tryz.cal30:callable Tryz.prog 30:=⟨Tryz.f30,Tryz.func30,by kernel_rfl,by kernel_rfl⟩
theorem Tryz.cal31:callable Tryz.prog 31:=⟨Tryz.f31,Tryz.func31,by kernel_rfl,by kernel_rfl⟩
theorem Tryz.cal32:callable Tryz.prog 32:=⟨Tryz.f32,Tryz.func32,by kernel_rfl,by kernel_rfl⟩
theorem Tryz.cal33:callable Tryz.prog 33:=⟨Tryz.f33,Tryz.func33,by kernel_rfl,by kernel_rfl⟩
theorem Tryz.cal34:callable Tryz.prog 34:=⟨Tryz.f34,Tryz.func34,by kernel_rfl,by kernel_rfl⟩
theorem Tryz.cal35:callable Tryz.prog 35:=⟨Tryz.f35,Tryz.func35,by kernel_rfl,by kernel_rfl⟩
theorem Tryz.cal36:callable Tryz.prog 36:=⟨Tryz.f36,Tryz.func36,by kernel_rfl,by kernel_rfl⟩
theorem Tryz.cal37:callable Tryz.prog 37:=⟨Tryz.f37,Tryz.func37,by kernel_rfl,by kernel_rfl⟩
theorem Tryz.cal38:callable Tryz.prog 38:=⟨Tryz.f38,Tryz.func38,by kernel_rfl,by kernel_rfl⟩
theorem Tryz.cal39:callable Tryz.prog 39:=⟨Tryz.f39,Tryz.func39,by kernel_rfl,by kernel_rfl⟩
theorem Tryz.cal40:callable Tryz.prog 40:=⟨Tryz.f40,Tryz.func40,by kernel_rfl,by kernel_rfl⟩
theorem Tryz.cal41:callable Tryz.prog 41:=⟨Tryz.f41,Tryz.func41,by kernel_rfl,by kernel_rfl⟩
theorem Tryz.cal42:callable Tryz.prog 42:=⟨Tryz.f42,Tryz.func42,by kernel_rfl,by kernel_rfl⟩
theorem Tryz.cal43:callable Tryz.prog 43:=⟨Tryz.f43,Tryz.func43,by kernel_rfl,by kernel_rfl⟩
theorem Tryz.cal44:callable Tryz.prog 44:=⟨Tryz.f44,Tryz.func44,by kernel_rfl,by kernel_rfl⟩
theorem Tryz.cal45:callable Tryz.prog 45:=⟨Tryz.f45,Tryz.func45,by kernel_rfl,by kernel_rfl⟩
theorem Tryz.cal46:callable Tryz.prog 46:=⟨Tryz.f46,Tryz.func46,by kernel_rfl,by kernel_rfl⟩
theorem Tryz.cal47:callable Tryz.prog 47:=⟨Tryz.f47,Tryz.func47,by kernel_rfl,by kernel_rfl⟩
theorem Tryz.cal48:callable Tryz.prog 48:=⟨Tryz.f48,Tryz.func48,by kernel_rfl,by kernel_rfl⟩
theorem Tryz.cal49:callable Tryz.prog 49:=⟨Tryz.f49,Tryz.func49,by kernel_rfl,by kernel_rfl⟩
theorem Tryz.cal50:callable Tryz.prog 50:=⟨Tryz.f50,Tryz.func50,by kernel_rfl,by kernel_rfl⟩
theorem Tryz.cal51:callable Tryz.prog 51:=⟨Tryz.f51,Tryz.func51,by kernel_rfl,by kernel_rfl⟩
theorem Tryz.cal52:callable Tryz.prog 52:=⟨Tryz.f52,Tryz.func52,by kernel_rfl,by kernel_rfl⟩
theorem Tryz.cal53:callable Tryz.prog 53:=⟨Tryz.f53,Tryz.func53,by kernel_rfl,by kernel_rfl⟩
theorem Tryz.cal54:callable Tryz.prog 54:=⟨Tryz.f54,Tryz.func54,by kernel_rfl,by kernel_rfl⟩
theorem Tryz.cal55:callable Tryz.prog 55:=⟨Tryz.f55,Tryz.func55,by kernel_rfl,by kernel_rfl⟩
theorem Tryz.cal56:callable Tryz.prog 56:=⟨Tryz.f56,Tryz.func56,by kernel_rfl,by kernel_rfl⟩
theorem Tryz.cal57:callable Tryz.prog 57:=⟨Tryz.f57,Tryz.func57,by kernel_rfl,by kernel_rfl⟩
theorem Tryz.cal58:callable Tryz.prog 58:=⟨Tryz.f58,Tryz.func58,by kernel_rfl,by kernel_rfl⟩
theorem Tryz.cal59:callable Tryz.prog 59:=⟨Tryz.f59,Tryz.func59,by kernel_rfl,by kernel_rfl⟩
theorem Tryz.cal60:callable Tryz.prog 60:=⟨Tryz.f60,Tryz.func60,by kernel_rfl,by kernel_rfl⟩
theorem Tryz.cal61:callable Tryz.prog 61:=⟨Tryz.f61,Tryz.func61,by kernel_rfl,by kernel_rfl⟩
theorem Tryz.cal62:callable Tryz.prog 62:=⟨Tryz.f62,Tryz.func62,by kernel_rfl,by kernel_rfl⟩
theorem Tryz.cal63:callable Tryz.prog 63:=⟨Tryz.f63,Tryz.func63,by kernel_rfl,by kernel_rfl⟩
theorem Tryz.cal64:callable Tryz.prog 64:=⟨Tryz.f64,Tryz.func64,by kernel_rfl,by kernel_rfl⟩
theorem Tryz.cal65:callable Tryz.prog 65:=⟨Tryz.f65,Tryz.func65,by kernel_rfl,by kernel_rfl⟩
theorem Tryz.cal66:callable Tryz.prog 66:=⟨Tryz.f66,Tryz.func66,by kernel_rfl,by kernel_rfl⟩
theorem Tryz.cal67:callable Tryz.prog 67:=⟨Tryz.f67,Tryz.func67,by kernel_rfl,by kernel_rfl⟩
theorem Tryz.cal68:callable Tryz.prog 68:=⟨Tryz.f68,Tryz.func68,by kernel_rfl,by kernel_rfl⟩
theorem Tryz.cal69:callable Tryz.prog 69:=⟨Tryz.f69,Tryz.func69,by kernel_rfl,by kernel_rfl⟩
theorem Tryz.cal70:callable Tryz.prog 70:=⟨Tryz.f70,Tryz.func70,by kernel_rfl,by kernel_rfl⟩
theorem Tryz.cal71:callable Tryz.prog 71:=⟨Tryz.f71,Tryz.func71,by kernel_rfl,by kernel_rfl⟩
theorem Tryz.cal72:callable Tryz.prog 72:=⟨Tryz.f72,Tryz.func72,by kernel_rfl,by kernel_rfl⟩
theorem Tryz.cal73:callable Tryz.prog 73:=⟨Tryz.f73,Tryz.func73,by kernel_rfl,by kernel_rfl⟩
theorem Tryz.cal74:callable Tryz.prog 74:=⟨Tryz.f74,Tryz.func74,by kernel_rfl,by kernel_rfl⟩
theorem Tryz.cal75:callable Tryz.prog 75:=⟨Tryz.f75,Tryz.func75,by kernel_rfl,by kernel_rfl⟩
theorem Tryz.cal76:callable Tryz.prog 76:=⟨Tryz.f76,Tryz.func76,by kernel_rfl,by kernel_rfl⟩
theorem Tryz.cal77:callable Tryz.prog 77:=⟨Tryz.f77,Tryz.func77,by kernel_rfl,by kernel_rfl⟩
theorem Tryz.cal78:callable Tryz.prog 78:=⟨Tryz.f78,Tryz.func78,by kernel_rfl,by kernel_rfl⟩
theorem Tryz.cal79:callable Tryz.prog 79:=⟨Tryz.f79,Tryz.func79,by kernel_rfl,by kernel_rfl⟩
theorem Tryz.cal80:callable Tryz.prog 80:=⟨Tryz.f80,Tryz.func80,by kernel_rfl,by kernel_rfl⟩
theorem Tryz.cal81:callable Tryz.prog 81:=⟨Tryz.f81,Tryz.func81,by kernel_rfl,by kernel_rfl⟩
theorem Tryz.cal82:callable Tryz.prog 82:=⟨Tryz.f82,Tryz.func82,by kernel_rfl,by kernel_rfl⟩
theorem Tryz.cal83:callable Tryz.prog 83:=⟨Tryz.f83,Tryz.func83,by kernel_rfl,by kernel_rfl⟩
theorem Tryz.cal84:callable Tryz.prog 84:=⟨Tryz.f84,Tryz.func84,by kernel_rfl,by kernel_rfl⟩
theorem Tryz.cal85:callable Tryz.prog 85:=⟨Tryz.f85,Tryz.func85,by kernel_rfl,by kernel_rfl⟩
theorem Tryz.cal86:callable Tryz.prog 86:=⟨Tryz.f86,Tryz.func86,by kernel_rfl,by kernel_rfl⟩
theorem Tryz.cal87:callable Tryz.prog 87:=⟨Tryz.f87,Tryz.func87,by kernel_rfl,by kernel_rfl⟩
theorem Tryz.cal88:callable Tryz.prog 88:=⟨Tryz.f88,Tryz.func88,by kernel_rfl,by kernel_rfl⟩
theorem Tryz.cal89:callable Tryz.prog 89:=⟨Tryz.f89,Tryz.func89,by kernel_rfl,by kernel_rfl⟩
theorem Tryz.cal90:callable Tryz.prog 90:=⟨Tryz.f90,Tryz.func90,by kernel_rfl,by kernel_rfl⟩
theorem Tryz.cal91:callable Tryz.prog 91:=⟨Tryz.f91,Tryz.func91,by kernel_rfl,by kernel_rfl⟩
theorem Tryz.cal92:callable Tryz.prog 92:=⟨Tryz.f92,Tryz.func92,by kernel_rfl,by kernel_rfl⟩
theorem Tryz.cal93:callable Tryz.prog 93:=⟨Tryz.f93,Tryz.func93,by kernel_rfl,by kernel_rfl⟩
theorem Tryz.cal94:callable Tryz.prog 94:=⟨Tryz.f94,Tryz.func94,by kernel_rfl,by kernel_rfl⟩
theorem Tryz.cal95:callable Tryz.prog 95:=⟨Tryz.f95,Tryz.func95,by kernel_rfl,by kernel_rfl⟩
theorem Tryz.cal96:callable Tryz.prog 96:=⟨Tryz.f96,Tryz.func96,by kernel_rfl,by kernel_rfl⟩
theorem Tryz.cal97:callable Tryz.prog 97:=⟨Tryz.f97,Tryz.func97,by kernel_rfl,by kernel_rfl⟩
theorem Tryz.cal98:callable Tryz.prog 98:=⟨Tryz.f98,Tryz.func98,by kernel_rfl,by kernel_rfl⟩
theorem Tryz.cal99:callable Tryz.prog 99:=⟨Tryz.f99,Tryz.func99,by kernel_rfl,by kernel_rfl⟩
theorem Tryz.cal100:callable Tryz.prog 100:=⟨Tryz.f100,Tryz.func100,by kernel_rfl,by kernel_rfl⟩
theorem Tryz.cal101:callable Tryz.prog 101:=⟨Tryz.f101,Tryz.func101,by kernel_rfl,by kernel_rfl⟩
theorem Tryz.cal102:callable Tryz.prog 102:=⟨Tryz.f102,Tryz.func102,by kernel_rfl,by kernel_rfl⟩
theorem Tryz.cal103:callable Tryz.prog 103:=⟨Tryz.f103,Tryz.func103,by kernel_rfl,by kernel_rfl⟩
theorem Tryz.cal104:callable Tryz.prog 104:=⟨Tryz.f104,Tryz.func104,by kernel_rfl,by kernel_rfl⟩
theorem Tryz.cal106:callable Tryz.prog 106:=⟨Tryz.f106,Tryz.func106,by kernel_rfl,by kernel_rfl⟩
theorem Tryz.cal107:callable Tryz.prog 107:=⟨Tryz.f107,Tryz.func107,by kernel_rfl,by kernel_rfl⟩
theorem Tryz.cal108:callable Tryz.prog 108:=⟨Tryz.f108,Tryz.func108,by kernel_rfl,by kernel_rfl⟩
theorem Tryz.cal109:callable Tryz.prog 109:=⟨Tryz.f109,Tryz.func109,by kernel_rfl,by kernel_rfl⟩
theorem Tryz.cal110:callable Tryz.prog 110:=⟨Tryz.f110,Tryz.func110,by kernel_rfl,by kernel_rfl⟩
theorem Tryz.cal111:callable Tryz.prog 111:=⟨Tryz.f111,Tryz.func111,by kernel_rfl,by kernel_rfl⟩
theorem Tryz.cal112:callable Tryz.prog 112:=⟨Tryz.f112,Tryz.func112,by kernel_rfl,by kernel_rfl⟩
theorem Tryz.cal114:callable Tryz.prog 114:=⟨Tryz.f114,Tryz.func114,by kernel_rfl,by kernel_rfl⟩
theorem Tryz.cal115:callable Tryz.prog 115:=⟨Tryz.f115,Tryz.func115,by kernel_rfl,by kernel_rfl⟩
theorem Tryz.cal116:callable Tryz.prog 116:=⟨Tryz.f116,Tryz.func116,by kernel_rfl,by kernel_rfl⟩
theorem Tryz.cal117:callable Tryz.prog 117:=⟨Tryz.f117,Tryz.func117,by kernel_rfl,by kernel_rfl⟩
theorem Tryz.cal118:callable Tryz.prog 118:=⟨Tryz.f118,Tryz.func118,by kernel_rfl,by kernel_rfl⟩
theorem Tryz.cal119:callable Tryz.prog 119:=⟨Tryz.f119,Tryz.func119,by kernel_rfl,by kernel_rfl⟩
theorem Tryz.cal120:callable Tryz.prog 120:=⟨Tryz.f120,Tryz.func120,by kernel_rfl,by kernel_rfl⟩
end Go.Proofs
namespace Go.Proofs
open Go.Sh Go.Sh.Plan
open Go.IntKind (wrap)
open Int (toNat)
def Tryz.S3(w1 h2:Int)(rg3p:OA)(rg3l rg3c:Nat)(qu4:Int)(ha5:Bool)(H:Heap)(R:Kv):Prop:=
 Tryz.C 5 #[] H fun r6 H7=> ∃r8,r6= .bool r8∧br (!r8)
 (R (.bool false) H7)
 (∀J9:Kl,(∀H10,(Tryz.C 7 #[.int .i64 w1,.int .i64 h2,.slice rg3p rg3l rg3c,.int .i64 qu4,.bool ha5] H10 fun r11 H12=> ∃r13p r13l r13c r14,r11= .tuple #[.slice r13p r13l r13c,.int .i64 r14]∧Tryz.C 8 #[.agg #[.int .i64 w1,.int .i64 h2,.slice rg3p rg3l rg3c],.int .i64 qu4,.bool ha5] H12 fun r15 H16=> ∃r17p r17l r17c r18,r15= .tuple #[.slice r17p r17l r17c,.int .i64 r18]∧Tryz.C 9 #[.slice r13p r13l r13c] H16 fun r19 H20=> ∃r21 r22,r19= .tuple #[.agg r21,.bool r22]∧alc H20 (.cells #[.int .i64 0,.int .i64 0,.slice none 0 0,.bool false,.slice none 0 0] 34) fun b23 H24=>r21.size=5∧stAt H24 ⟨b23,0,none⟩ r21.toList fun H25=>Tryz.C 10 #[.slice r13p r13l r13c] H25 fun r26 H27=> ∃r28 r29,r26= .tuple #[.agg r28,.int .i64 r29]∧alc H27 (.cells #[.int .i64 0,.int .i64 0,.slice none 0 0,.bool false,.slice none 0 0] 37) fun b30 H31=>r28.size=5∧stAt H31 ⟨b30,0,none⟩ r28.toList fun H32=>br r22 (br (r29==0) (∃Bl33p Bl33l Bl33c,cell H32 (.add ⟨b23,0,none⟩ 4)=some (.slice Bl33p Bl33l Bl33c)∧Tryz.C 11 #[.slice Bl33p Bl33l Bl33c,.slice r17p r17l r17c] H32 fun r34 H35=> ∃r36,r34= .bool r36∧br r36 (∃W37,cell H35 (.add ⟨b23,0,none⟩ 0)=some (.int .i64 W37)∧br (W37==w1) (∃H38,cell H35 (.add ⟨b23,0,none⟩ 1)=some (.int .i64 H38)∧br (H38==h2) (∃Ha39,cell H35 (.add ⟨b23,0,none⟩ 3)=some (.bool Ha39)∧br (Ha39==ha5) (∃RG40p RG40l RG40c,cell H35 (.add ⟨b23,0,none⟩ 2)=some (.slice RG40p RG40l RG40c)∧ ∃RG41p RG41l RG41c,cell H35 (.add ⟨b30,0,none⟩ 2)=some (.slice RG41p RG41l RG41c)∧Tryz.C 12 #[.slice RG40p RG40l RG40c,.slice RG41p RG41l RG41c] H35 fun r42 H43=> ∃r44,r42= .bool r44∧R (.bool r44) H43) (R (.bool false) H35)) (R (.bool false) H35)) (R (.bool false) H35)) (R (.bool false) H35)) (R (.bool false) H32)) (R (.bool false) H32))→J9 [] H10)→
 br (decide (((rg3l:Int):Int)>1200)) (R (.bool true) H7) (br (decide (qu4<1)) (R (.bool true) H7) (br (decide (qu4>100)) (R (.bool true) H7) (Tryz.C 6 #[.int .i64 w1,.int .i64 h2] H7 fun r45 H46=> ∃r47,r45= .bool r47∧br (!r47) (R (.bool true) H46) (br (((rg3l:Int):Int) != (wrap .i64 ((wrap .i64 ((3:Int)*w1))*h2)))
 (R (.bool true) H46)
 (J9 [] H46))))))
def Tryz.p3:Plan:=(tl (tg (two (join [] [0,1,2,3,4] g0) (tl (tl (tl (tl (tl leaf))))))))
theorem Tryz.s3{w1 h2:Int}{rg3p:OA}{rg3l rg3c:Nat}{qu4:Int}{ha5:Bool}{H R}(h:Tryz.S3 w1 h2 rg3p rg3l rg3c qu4 ha5 H R):Tryz.C 3 #[.int .i64 w1,.int .i64 h2,.slice rg3p rg3l rg3c,.int .i64 qu4,.bool ha5] H R:=vcs Tryz.tab_ok Tryz.mixed Tryz.func3 Tryz.cal3 Tryz.p3 h (by kernel_rfl)
def Tryz.S4(w1 h2:Int)(rg3p:OA)(rg3l rg3c:Nat)(ma4:Int)(da5p:OA)(da5l da5c:Nat)(H:Heap)(R:Kv):Prop:=
 Tryz.C 5 #[] H fun r6 H7=> ∃r8,r6= .bool r8∧br (!r8)
 (R (.bool false) H7)
 (∀J9:Kl,(∀H10,(Tryz.C 7 #[.int .i64 w1,.int .i64 h2,.slice rg3p rg3l rg3c,.int .i64 50,.bool false] H10 fun r11 H12=> ∃r13p r13l r13c r14,r11= .tuple #[.slice r13p r13l r13c,.int .i64 r14]∧ ∀J15:Kl,(∀H16,(0≤(8:Int)∧alc H16 (.cells #[.int .u8 255,.int .u8 216,.int .u8 255,.int .u8 (wrap .u8 ma4),.int .u8 (wrap .u8 (shrI .i64 (wrap .i64 ((da5l:Int)+2)) 8)),.int .u8 (wrap .u8 (wrap .i64 ((da5l:Int)+2)))] 5) fun b17 H18=>appQ 1 1 #[.int .u8 0] H18 (some ⟨b17,0,none⟩) 6 6 da5p da5l 5 fun c19p c19l c19c H20=>0≤(2:Int)∧(2:Int)≤(r13l:Int)∧appQ 1 1 #[.int .u8 0] H20 c19p c19l c19c (if r13c=(toNat 2) then r13p else Option.map (fun x=>Addr.add x ((toNat 2)*1)) r13p) (r13l-(toNat 2)) 5 fun c21p c21l c21c H22=>Tryz.C 10 #[.slice c21p c21l c21c] H22 fun r23 H24=> ∃r25 r26,r23= .tuple #[.agg r25,.int .i64 r26]∧alc H24 (.cells #[.int .i64 0,.int .i64 0,.slice none 0 0,.bool false,.slice none 0 0] 37) fun b27 H28=>r25.size=5∧stAt H28 ⟨b27,0,none⟩ r25.toList fun H29=> ∀J30:Kl,(∀H31,(∀J32:Kl,(∀H33,(R (.bool (r26==51)) H33)→J32 [] H33)→
 br (ma4==219) (Tryz.C 9 #[.slice c21p c21l c21c] H31 fun r34 H35=> ∃r36 r37,r34= .tuple #[.agg r36,.bool r37]∧alc H35 (.cells #[.int .i64 0,.int .i64 0,.slice none 0 0,.bool false,.slice none 0 0] 34) fun b38 H39=>r36.size=5∧stAt H39 ⟨b38,0,none⟩ r36.toList fun H40=>Tryz.C 13 #[.slice c21p c21l c21c] H40 fun r41 H42=> ∃r43,r41= .bool r43∧br r43 (R (.bool true) H42) (R (.bool (r37==(r26==0))) H42)) (br (ma4==192) (Tryz.C 9 #[.slice c21p c21l c21c] H31 fun r44 H45=> ∃r46 r47,r44= .tuple #[.agg r46,.bool r47]∧alc H45 (.cells #[.int .i64 0,.int .i64 0,.slice none 0 0,.bool false,.slice none 0 0] 34) fun b48 H49=>r46.size=5∧stAt H49 ⟨b48,0,none⟩ r46.toList fun H50=>Tryz.C 13 #[.slice c21p c21l c21c] H50 fun r51 H52=> ∃r53,r51= .bool r53∧br r53 (R (.bool true) H52) (R (.bool (r47==(r26==0))) H52)) (br (ma4==196) (Tryz.C 9 #[.slice c21p c21l c21c] H31 fun r54 H55=> ∃r56 r57,r54= .tuple #[.agg r56,.bool r57]∧alc H55 (.cells #[.int .i64 0,.int .i64 0,.slice none 0 0,.bool false,.slice none 0 0] 34) fun b58 H59=>r56.size=5∧stAt H59 ⟨b58,0,none⟩ r56.toList fun H60=>Tryz.C 13 #[.slice c21p c21l c21c] H60 fun r61 H62=> ∃r63,r61= .bool r63∧br r63 (R (.bool true) H62) (R (.bool (r57==(r26==0))) H62)) (br (ma4==218)
 (Tryz.C 9 #[.slice c21p c21l c21c] H31 fun r64 H65=> ∃r66 r67,r64= .tuple #[.agg r66,.bool r67]∧alc H65 (.cells #[.int .i64 0,.int .i64 0,.slice none 0 0,.bool false,.slice none 0 0] 34) fun b68 H69=>r66.size=5∧stAt H69 ⟨b68,0,none⟩ r66.toList fun H70=>Tryz.C 13 #[.slice c21p c21l c21c] H70 fun r71 H72=> ∃r73,r71= .bool r73∧br r73 (R (.bool true) H72) (R (.bool (r67==(r26==0))) H72))
 (J32 [] H31)))))→J30 [] H31)→
 br (decide (ma4≥224)) (br (decide (ma4≤239)) (br (r26==0) (∃W74,cell H29 (.add ⟨b27,0,none⟩ 0)=some (.int .i64 W74)∧br (W74==w1) (∃H75,cell H29 (.add ⟨b27,0,none⟩ 1)=some (.int .i64 H75)∧R (.bool (H75==h2)) H29) (R (.bool false) H29)) (R (.bool false) H29)) (br (ma4==254)
 (br (r26==0) (∃W76,cell H29 (.add ⟨b27,0,none⟩ 0)=some (.int .i64 W76)∧br (W76==w1) (∃H77,cell H29 (.add ⟨b27,0,none⟩ 1)=some (.int .i64 H77)∧R (.bool (H77==h2)) H29) (R (.bool false) H29)) (R (.bool false) H29))
 (J30 [] H29))) (br (ma4==254)
 (br (r26==0) (∃W78,cell H29 (.add ⟨b27,0,none⟩ 0)=some (.int .i64 W78)∧br (W78==w1) (∃H79,cell H29 (.add ⟨b27,0,none⟩ 1)=some (.int .i64 H79)∧R (.bool (H79==h2)) H29) (R (.bool false) H29)) (R (.bool false) H29))
 (J30 [] H29)))→J15 [] H16)→
 br (r14 != 0) (R (.bool false) H12) (br (decide (((r13l:Int):Int)<2))
 (R (.bool false) H12)
 (J15 [] H12)))→J9 [] H10)→
 br (decide (((rg3l:Int):Int)>600)) (R (.bool true) H7) (br (decide (ma4<1)) (R (.bool true) H7) (br (decide (ma4>254)) (R (.bool true) H7) (br (decide (((da5l:Int):Int)>200)) (R (.bool true) H7) (Tryz.C 6 #[.int .i64 w1,.int .i64 h2] H7 fun r80 H81=> ∃r82,r80= .bool r82∧br (!r82) (R (.bool true) H81) (br (((rg3l:Int):Int) != (wrap .i64 ((wrap .i64 ((3:Int)*w1))*h2)))
 (R (.bool true) H81)
 (J9 [] H81)))))))
def Tryz.p4:Plan:=(tl (tg (two (join [] [0,1,2,3,4] g0) (tl (two (join [] [0,1,3,4,11] g0) (tl (tl (tl (two (join [] [3,13,15] g0) (two (join [] [15] (tl (two (tl (tl leaf)) leaf))) (tl leaf)))))))))))
theorem Tryz.s4{w1 h2:Int}{rg3p:OA}{rg3l rg3c:Nat}{ma4:Int}{da5p:OA}{da5l da5c:Nat}{H R}(h:Tryz.S4 w1 h2 rg3p rg3l rg3c ma4 da5p da5l da5c H R):Tryz.C 4 #[.int .i64 w1,.int .i64 h2,.slice rg3p rg3l rg3c,.int .i64 ma4,.slice da5p da5l da5c] H R:=vcs Tryz.tab_ok Tryz.mixed Tryz.func4 Tryz.cal4 Tryz.p4 h (by kernel_rfl)
def Tryz.S5(H:Heap)(R:Kv):Prop:=
 alc H (.cells #[.int .u8 255,.int .u8 255,.int .u8 255] 5) fun b1 H2=>Tryz.C 14 #[.int .i64 1,.int .i64 1,.slice (some ⟨b1,0,none⟩) 3 3,.int .i64 100,.bool false] H2 fun r3 H4=> ∃r5p r5l r5c r6,r3= .tuple #[.slice r5p r5l r5c,.int .i64 r6]∧Tryz.C 10 #[.slice none 0 0] H4 fun r7 H8=> ∃r9 r10,r7= .tuple #[.agg r9,.int .i64 r10]∧alc H8 (.cells #[.int .i64 0,.int .i64 0,.slice none 0 0,.bool false,.slice none 0 0] 37) fun b11 H12=>r9.size=5∧stAt H12 ⟨b11,0,none⟩ r9.toList fun H13=>br (r6==0) (br (((r5l:Int):Int)==3) (∃a14,r5p=some a14∧0≤(0:Int)∧(0:Int)<(r5l:Int)∧0≤(0:Int)∧(0:Int)<((64:Nat):Int)∧ ∃v15,cell H13 (.add (.add a14 (toNat (0:Int)*64)) (toNat (0:Int)*1))=some (.int .i64 v15)∧br (v15==1016) (∃a16,r5p=some a16∧0≤(0:Int)∧(0:Int)<(r5l:Int)∧0≤(1:Int)∧(1:Int)<((64:Nat):Int)∧ ∃v17,cell H13 (.add (.add a16 (toNat (0:Int)*64)) (toNat (1:Int)*1))=some (.int .i64 v17)∧br (v17==0) (∃a18,r5p=some a18∧0≤(1:Int)∧(1:Int)<(r5l:Int)∧0≤(0:Int)∧(0:Int)<((64:Nat):Int)∧ ∃v19,cell H13 (.add (.add a18 (toNat (1:Int)*64)) (toNat (0:Int)*1))=some (.int .i64 v19)∧br (v19==0) (R (.bool (r10==51)) H13) (R (.bool false) H13)) (R (.bool false) H13)) (R (.bool false) H13)) (R (.bool false) H13)) (R (.bool false) H13)
def Tryz.p5:Plan:=(tl (tl (tl (tl leaf))))
theorem Tryz.s5{_u:Unit}{H R}(h:Tryz.S5 H R):Tryz.C 5 #[] H R:=vcs Tryz.tab_ok Tryz.mixed Tryz.func5 Tryz.cal5 Tryz.p5 h (by kernel_rfl)
def Tryz.S6(w1 h2:Int)(H:Heap)(R:Kv):Prop:=
 br (decide (w1≥1)) (br (decide (h2≥1)) (br (decide (w1≤32768)) (br (decide (h2≤32768)) (R (.bool (decide (((wrap .i64 (w1*h2)):Int)≤4194304))) H) (R (.bool false) H)) (R (.bool false) H)) (R (.bool false) H)) (R (.bool false) H)
def Tryz.p6:Plan:=(tl (tl leaf))
theorem Tryz.s6{w1 h2:Int}{H R}(h:Tryz.S6 w1 h2 H R):Tryz.C 6 #[.int .i64 w1,.int .i64 h2] H R:=vcs Tryz.tab_ok Tryz.mixed Tryz.func6 Tryz.cal6 Tryz.p6 h (by kernel_rfl)
def Tryz.S7(w1 h2:Int)(rg3p:OA)(rg3l rg3c:Nat)(qu4:Int)(ha5:Bool)(H:Heap)(R:Kv):Prop:=
 Tryz.C 14 #[.int .i64 w1,.int .i64 h2,.slice rg3p rg3l rg3c,.int .i64 qu4,.bool ha5] H fun r6 H7=> ∃r8p r8l r8c r9,r6= .tuple #[.slice r8p r8l r8c,.int .i64 r9]∧br (r9 != 0)
 (R (.tuple #[.slice none 0 0,.int .i64 r9]) H7)
 (Tryz.C 15 #[] H7 fun r10 H11=> ∃r12,r10= .agg r12∧alc H11 (.cells (Array.replicate 64 (Value.int .i64 0)) 48) fun b13 H14=>r12.size=64∧stAt H14 ⟨b13,0,none⟩ r12.toList fun H15=>alc H15 (.cells #[.int .u8 255,.int .u8 216] 5) fun b16 H17=> ∀X18:Kl,(∀(ou19p:OA) (ou19l ou19c:Nat) (k20:Int) H21,(br (decide (k20<2))
 (Tryz.C 16 #[.int .i64 qu4,.bool (k20==1)] H21 fun r22 H23=> ∃r24 r25,r22= .tuple #[.agg r24,.bool r25]∧alc H23 (.cells (Array.replicate 64 (Value.int .i64 0)) 48) fun b26 H27=>r24.size=64∧stAt H27 ⟨b26,0,none⟩ r24.toList fun H28=>alc H28 (.cells #[.int .u8 (wrap .u8 k20)] 5) fun b29 H30=> ∃v31,v31.size=64∧rowIn H30 ⟨b13,0,none⟩ v31∧ ∀X32:Kl,(∀(da33p:OA) (da33l da33c:Nat) (t34:Int) H35,(br (decide (t34<64))
 (0≤t34∧t34<((64:Nat):Int)∧ ∃at_36,v31[(toNat t34*1)]?=some (.int .i64 at_36)∧0≤at_36∧at_36<((64:Nat):Int)∧ ∃v37,cell H35 (.add ⟨b26,0,none⟩ (toNat at_36*1))=some (.int .i64 v37)∧alc H35 (.cells #[.int .u8 (wrap .u8 v37)] 5) fun b38 H39=>appQ 1 1 #[.int .u8 0] H39 da33p da33l da33c (some ⟨b38,0,none⟩) 1 5 fun da40p da40l da40c H41=>X32 [.slice da40p da40l da40c,.int .i64 (wrap .i64 (t34+1))] H41)
 (Tryz.C 17 #[.int .u8 219,.slice da33p da33l da33c] H35 fun r42 H43=> ∃r44p r44l r44c,r42= .slice r44p r44l r44c∧appQ 1 1 #[.int .u8 0] H43 ou19p ou19l ou19c r44p r44l 5 fun ou45p ou45l ou45c H46=>X18 [.slice ou45p ou45l ou45c,.int .i64 (wrap .i64 (k20+1))] H46))→X32 [.slice da33p da33l da33c,.int .i64 t34] H35)→X32 [.slice (some ⟨b29,0,none⟩) 1 1,.int .i64 0] H30)
 (∀J47:Kl,(∀(fi48:Int) H49,(0≤(8:Int)∧0≤(8:Int)∧alc H49 (.cells #[.int .u8 8,.int .u8 (wrap .u8 (shrI .i64 h2 8)),.int .u8 (wrap .u8 h2),.int .u8 (wrap .u8 (shrI .i64 w1 8)),.int .u8 (wrap .u8 w1),.int .u8 3,.int .u8 1,.int .u8 fi48,.int .u8 0,.int .u8 2,.int .u8 17,.int .u8 1,.int .u8 3,.int .u8 17,.int .u8 1] 5) fun b50 H51=>Tryz.C 17 #[.int .u8 192,.slice (some ⟨b50,0,none⟩) 15 15] H51 fun r52 H53=> ∃r54p r54l r54c,r52= .slice r54p r54l r54c∧appQ 1 1 #[.int .u8 0] H53 ou19p ou19l ou19c r54p r54l 5 fun ou55p ou55l ou55c H56=>Tryz.C 18 #[.int .i64 w1,.int .i64 h2,.bool ha5,.slice r8p r8l r8c] H56 fun r57 H58=> ∃li59p li59l li59c,r57= .slice li59p li59l li59c∧alc H58 (.cells #[.slice none 0 0,.slice none 0 0,.slice none 0 0,.slice none 0 0] 56) fun b60 H61=> ∀X62:Kl,(∀(t63:Int) H64,(br (decide (t63<4))
 (0≤(256:Int)∧(256:Int)≤(256:Int)∧((8:Nat):Int)*(256:Int)≤281474976710656∧(256:Int)≤281474976710656∧alc H64 (.cells (List.toArray (reps (toNat 256) (Array.toList #[.int .i64 0]))) 3) fun b65 H66=>0≤t63∧t63<((4:Nat):Int)∧stAt H66 (.add ⟨b60,0,none⟩ (toNat t63*1)) [.slice (some ⟨b65,0,none⟩) (toNat 256) (toNat 256)] fun H67=>X62 [.int .i64 (wrap .i64 (t63+1))] H67)
 (∀X68:Kl,(∀(t69:Int) H70,(br (decide (t69<(li59l:Int)))
 (∃a71,li59p=some a71∧0≤t69∧t69<(li59l:Int)∧ ∃v72,v72.size=4∧rowIn H70 (.add a71 (toNat t69*4)) v72∧alc H70 (.cells #[.int .i64 0,.int .i64 0,.int .i64 0,.int .i64 0] 58) fun b73 H74=>v72.size=4∧stAt H74 ⟨b73,0,none⟩ v72.toList fun H75=> ∃ta76,cell H75 (.add ⟨b73,0,none⟩ 0)=some (.int .i64 ta76)∧0≤ta76∧ta76<((4:Nat):Int)∧ ∃v77p v77l v77c,cell H75 (.add ⟨b60,0,none⟩ (toNat ta76*1))=some (.slice v77p v77l v77c)∧ ∃sy78,cell H75 (.add ⟨b73,0,none⟩ 1)=some (.int .i64 sy78)∧ ∃a79,v77p=some a79∧0≤sy78∧sy78<(v77l:Int)∧ ∃v80,cell H75 (.add a79 (toNat sy78*1))=some (.int .i64 v80)∧ ∃a81,v77p=some a81∧0≤sy78∧sy78<(v77l:Int)∧stAt H75 (.add a81 (toNat sy78*1)) [.int .i64 (wrap .i64 (v80+1))] fun H82=>X68 [.int .i64 (wrap .i64 (t69+1))] H82)
 (alc H70 (.cells #[.slice none 0 0,.slice none 0 0,.slice none 0 0,.slice none 0 0] 56) fun b83 H84=>alc H84 (.cells #[.slice none 0 0,.slice none 0 0,.slice none 0 0,.slice none 0 0] 56) fun b85 H86=> ∀X87:Kl,(∀(ou88p:OA) (ou88l ou88c:Nat) (t89:Int) H90,(br (decide (t89<4))
 (0≤t89∧t89<((4:Nat):Int)∧ ∃v91p v91l v91c,cell H90 (.add ⟨b60,0,none⟩ (toNat t89*1))=some (.slice v91p v91l v91c)∧Tryz.C 19 #[.slice v91p v91l v91c] H90 fun r92 H93=> ∃r94p r94l r94c r95p r95l r95c r96p r96l r96c,r92= .tuple #[.slice r94p r94l r94c,.slice r95p r95l r95c,.slice r96p r96l r96c]∧0≤t89∧t89<((4:Nat):Int)∧stAt H93 (.add ⟨b83,0,none⟩ (toNat t89*1)) [.slice r95p r95l r95c] fun H97=>0≤t89∧t89<((4:Nat):Int)∧stAt H97 (.add ⟨b85,0,none⟩ (toNat t89*1)) [.slice r96p r96l r96c] fun H98=>(2:Int)≠0∧(2:Int)≠0∧alc H98 (.cells #[.int .u8 (wrap .u8 (wrap .i64 ((Int.tmod t89 2)+(wrap .i64 ((wrap .i64 (Int.tdiv t89 2))*16)))))] 5) fun b99 H100=>appQ 1 1 #[.int .u8 0] H100 (some ⟨b99,0,none⟩) 1 1 r94p r94l 5 fun ap101p ap101l ap101c H102=>Tryz.C 17 #[.int .u8 196,.slice ap101p ap101l ap101c] H102 fun r103 H104=> ∃r105p r105l r105c,r103= .slice r105p r105l r105c∧appQ 1 1 #[.int .u8 0] H104 ou88p ou88l ou88c r105p r105l 5 fun ou106p ou106l ou106c H107=>X87 [.slice ou106p ou106l ou106c,.int .i64 (wrap .i64 (t89+1))] H107)
 (alc H90 (.cells #[.int .u8 3,.int .u8 1,.int .u8 0,.int .u8 2,.int .u8 17,.int .u8 3,.int .u8 17,.int .u8 0,.int .u8 63,.int .u8 0] 5) fun b108 H109=>Tryz.C 17 #[.int .u8 218,.slice (some ⟨b108,0,none⟩) 10 10] H109 fun r110 H111=> ∃r112p r112l r112c,r110= .slice r112p r112l r112c∧appQ 1 1 #[.int .u8 0] H111 ou88p ou88l ou88c r112p r112l 5 fun ou113p ou113l ou113c H114=>Tryz.C 20 #[.bool true] H114 fun r115 H116=> ∃wr117,r115= .pointer wr117∧ ∀X118:Kl,(∀(t119:Int) H120,(br (decide (t119<(li59l:Int)))
 (∃a121,li59p=some a121∧0≤t119∧t119<(li59l:Int)∧ ∃v122,v122.size=4∧rowIn H120 (.add a121 (toNat t119*4)) v122∧alc H120 (.cells #[.int .i64 0,.int .i64 0,.int .i64 0,.int .i64 0] 58) fun b123 H124=>v122.size=4∧stAt H124 ⟨b123,0,none⟩ v122.toList fun H125=> ∃ta126,cell H125 (.add ⟨b123,0,none⟩ 0)=some (.int .i64 ta126)∧0≤ta126∧ta126<((4:Nat):Int)∧ ∃v127p v127l v127c,cell H125 (.add ⟨b85,0,none⟩ (toNat ta126*1))=some (.slice v127p v127l v127c)∧ ∃sy128,cell H125 (.add ⟨b123,0,none⟩ 1)=some (.int .i64 sy128)∧ ∃a129,v127p=some a129∧0≤sy128∧sy128<(v127l:Int)∧ ∃v130,cell H125 (.add a129 (toNat sy128*1))=some (.int .i64 v130)∧ ∃ta131,cell H125 (.add ⟨b123,0,none⟩ 0)=some (.int .i64 ta131)∧0≤ta131∧ta131<((4:Nat):Int)∧ ∃v132p v132l v132c,cell H125 (.add ⟨b83,0,none⟩ (toNat ta131*1))=some (.slice v132p v132l v132c)∧ ∃sy133,cell H125 (.add ⟨b123,0,none⟩ 1)=some (.int .i64 sy133)∧ ∃a134,v132p=some a134∧0≤sy133∧sy133<(v132l:Int)∧ ∃v135,cell H125 (.add a134 (toNat sy133*1))=some (.int .i64 v135)∧Tryz.C 21 #[.pointer wr117,.int .i64 v130,.int .i64 v135] H125 fun r136 H137=> ∃r138,r136= .bool r138∧ ∃bi139,cell H137 (.add ⟨b123,0,none⟩ 2)=some (.int .i64 bi139)∧ ∃n140,cell H137 (.add ⟨b123,0,none⟩ 3)=some (.int .i64 n140)∧Tryz.C 21 #[.pointer wr117,.int .i64 bi139,.int .i64 n140] H137 fun r141 H142=> ∃r143,r141= .bool r143∧X118 [.int .i64 (wrap .i64 (t119+1))] H142)
 (Tryz.C 22 #[.pointer wr117,.int .i64 1] H120 fun r144 H145=>r144= .tuple #[]∧Tryz.C 23 #[.pointer wr117] H145 fun r146 H147=> ∃r148p r148l r148c,r146= .slice r148p r148l r148c∧ ∀X149:Kl,(∀(ou150p:OA) (ou150l ou150c:Nat) (t151:Int) H152,(br (decide (t151<(r148l:Int)))
 (∃a153,r148p=some a153∧0≤t151∧t151<(r148l:Int)∧ ∃c154,cell H152 (.add a153 (toNat t151*1))=some (.int .u8 c154)∧alc H152 (.cells #[.int .u8 c154] 5) fun b155 H156=>appQ 1 1 #[.int .u8 0] H156 ou150p ou150l ou150c (some ⟨b155,0,none⟩) 1 5 fun ou157p ou157l ou157c H158=>br (c154==255)
 (alc H158 (.cells #[.int .u8 0] 5) fun b159 H160=>appQ 1 1 #[.int .u8 0] H160 ou157p ou157l ou157c (some ⟨b159,0,none⟩) 1 5 fun ou161p ou161l ou161c H162=>X149 [.slice ou161p ou161l ou161c,.int .i64 (wrap .i64 (t151+1))] H162)
 (X149 [.slice ou157p ou157l ou157c,.int .i64 (wrap .i64 (t151+1))] H158))
 (alc H152 (.cells #[.int .u8 255,.int .u8 217] 5) fun b163 H164=>appQ 1 1 #[.int .u8 0] H164 ou150p ou150l ou150c (some ⟨b163,0,none⟩) 2 5 fun ap165p ap165l ap165c H166=>R (.tuple #[.slice ap165p ap165l ap165c,.int .i64 0]) H166))→X149 [.slice ou150p ou150l ou150c,.int .i64 t151] H152)→X149 [.slice ou113p ou113l ou113c,.int .i64 0] H147))→X118 [.int .i64 t119] H120)→X118 [.int .i64 0] H116))→X87 [.slice ou88p ou88l ou88c,.int .i64 t89] H90)→X87 [.slice ou55p ou55l ou55c,.int .i64 0] H86))→X68 [.int .i64 t69] H70)→X68 [.int .i64 0] H64))→X62 [.int .i64 t63] H64)→X62 [.int .i64 0] H61)→J47 [.int .u8 fi48] H49)→
 br ha5
 (J47 [.int .u8 34] H21)
 (J47 [.int .u8 17] H21)))→X18 [.slice ou19p ou19l ou19c,.int .i64 k20] H21)→X18 [.slice (some ⟨b16,0,none⟩) 2 2,.int .i64 0] H17)
def Tryz.p7:Plan:=(tl (tl (tg (tl (tl (two (tl (one (loop [(15,22),(51,3)] [0,1,3,4,12,14] (tl (two (tl leaf) (two (one (tl (tl (tl (two (tl (one (loop [(19,22),(65,3)] [0,1,3,4,12,14,15,17,51,64] (tl (two (tl leaf) (two (one (tl leaf)) leaf)))))) leaf))))) leaf)))))) (tl (two (join [(22,5)] [0,1,4,12,15] (tl (tl leaf))) (tl (tl (tl (two (tl (one (loop [(102,3)] [15,23,24] (tl (two (tl leaf) (two (one (tl leaf)) leaf)))))) (two (tl (one (loop [(111,3)] [15,23,24,109,110] (tl (two (tl leaf) (two (one (tl leaf)) leaf)))))) (tl (two (tl (one (loop [(15,22),(126,3)] [23,24,28,29] (tl (two (tl leaf) (two (one (tl (tl (tl leaf)))) leaf)))))) (tl (tl (two (tl (one (loop [(162,3)] [15,28,29,32,160,161] (tl (two (tl leaf) (two (one (tl (tl leaf))) leaf)))))) (tl (two (tl (one (loop [(15,22),(196,3)] [194,195] (tl (two (tl leaf) (two (one (tl (tl (tl (tl leaf))))) leaf)))))) (tl leaf)))))))))))))))))))))
theorem Tryz.s7{w1 h2:Int}{rg3p:OA}{rg3l rg3c:Nat}{qu4:Int}{ha5:Bool}{H R}(h:Tryz.S7 w1 h2 rg3p rg3l rg3c qu4 ha5 H R):Tryz.C 7 #[.int .i64 w1,.int .i64 h2,.slice rg3p rg3l rg3c,.int .i64 qu4,.bool ha5] H R:=vcs Tryz.tab_ok Tryz.mixed Tryz.func7 Tryz.cal7 Tryz.p7 h (by kernel_rfl)
def Tryz.S8(p1:AV)(qu2:Int)(ha3:Bool)(H:Heap)(R:Kv):Prop:=
 alc H (.cells p1 32) fun b4 H5=> ∃W6,cell H5 (.add ⟨b4,0,none⟩ 0)=some (.int .i64 W6)∧ ∃H7,cell H5 (.add ⟨b4,0,none⟩ 1)=some (.int .i64 H7)∧Tryz.C 6 #[.int .i64 W6,.int .i64 H7] H5 fun r8 H9=> ∃r10,r8= .bool r10∧br (!r10)
 (R (.tuple #[.slice none 0 0,.int .i64 31]) H9)
 (∃RG11p RG11l RG11c,cell H9 (.add ⟨b4,0,none⟩ 2)=some (.slice RG11p RG11l RG11c)∧ ∃W12,cell H9 (.add ⟨b4,0,none⟩ 0)=some (.int .i64 W12)∧ ∃H13,cell H9 (.add ⟨b4,0,none⟩ 1)=some (.int .i64 H13)∧br (((RG11l:Int):Int) != (wrap .i64 ((wrap .i64 ((3:Int)*W12))*H13)))
 (R (.tuple #[.slice none 0 0,.int .i64 25]) H9)
 (Tryz.C 24 #[.int .i64 qu2,.bool false] H9 fun r14 H15=> ∃r16 r17,r14= .tuple #[.agg r16,.bool r17]∧alc H15 (.cells (Array.replicate 64 (Value.int .i64 0)) 48) fun b18 H19=>r16.size=64∧stAt H19 ⟨b18,0,none⟩ r16.toList fun H20=>Tryz.C 24 #[.int .i64 qu2,.bool true] H20 fun r21 H22=> ∃r23 r24,r21= .tuple #[.agg r23,.bool r24]∧alc H22 (.cells (Array.replicate 64 (Value.int .i64 0)) 48) fun b25 H26=>r23.size=64∧stAt H26 ⟨b25,0,none⟩ r23.toList fun H27=>br (!r17)
 (R (.tuple #[.slice none 0 0,.int .i64 32]) H27)
 (∃W28,cell H27 (.add ⟨b4,0,none⟩ 0)=some (.int .i64 W28)∧ ∃H29,cell H27 (.add ⟨b4,0,none⟩ 1)=some (.int .i64 H29)∧Tryz.C 25 #[.int .i64 W28,.int .i64 H29,.bool ha3] H27 fun r30 H31=> ∃l32p l32l l32c,r30= .slice l32p l32l l32c∧ ∀X33:Kl,(∀(ou34p:OA) (ou34l ou34c:Nat) (k35:Int) H36,(br (decide (k35<(l32l:Int)))
 (alc H36 (.cells (Array.replicate 64 (Value.int .i64 0)) 48) fun b37 H38=> ∀X39:Kl,(∀(i40:Int) H41,(br (decide (i40<64))
 (∃v42,v42.size=3∧rowIn H41 ⟨b4,0,none⟩ v42∧ ∃a43,l32p=some a43∧0≤k35∧k35<(l32l:Int)∧ ∃Pa44,cell H41 (.add (.add a43 (toNat k35*3)) 0)=some (.int .i64 Pa44)∧ ∃a45,l32p=some a45∧0≤k35∧k35<(l32l:Int)∧ ∃X46,cell H41 (.add (.add a45 (toNat k35*3)) 1)=some (.int .i64 X46)∧(8:Int)≠0∧ ∃a47,l32p=some a47∧0≤k35∧k35<(l32l:Int)∧ ∃Y48,cell H41 (.add (.add a47 (toNat k35*3)) 2)=some (.int .i64 Y48)∧(8:Int)≠0∧Tryz.C 26 #[.agg v42,.int .i64 Pa44,.int .i64 (wrap .i64 (X46+(Int.tmod i40 8))),.int .i64 (wrap .i64 (Y48+(wrap .i64 (Int.tdiv i40 8)))),.bool ha3] H41 fun r49 H50=> ∃r51,r49= .int .i64 r51∧0≤i40∧i40<((64:Nat):Int)∧stAt H50 (.add ⟨b37,0,none⟩ (toNat i40*1)) [.int .i64 (wrap .i64 (r51-128))] fun H52=>X39 [.int .i64 (wrap .i64 (i40+1))] H52)
 (∃v53,v53.size=64∧rowIn H41 ⟨b37,0,none⟩ v53∧Tryz.C 27 #[.agg v53] H41 fun r54 H55=> ∃r56,r54= .agg r56∧alc H55 (.cells (Array.replicate 64 (Value.int .i64 0)) 48) fun b57 H58=>r56.size=64∧stAt H58 ⟨b57,0,none⟩ r56.toList fun H59=> ∀X60:Kl,(∀(i61:Int) H62,(br (decide (i61<64))
 (0≤i61∧i61<((64:Nat):Int)∧ ∃st63,cell H62 (.add ⟨b18,0,none⟩ (toNat i61*1))=some (.int .i64 st63)∧ ∀J64:Kl,(∀(st65:Int) H66,(0≤i61∧i61<((64:Nat):Int)∧ ∃v67,cell H66 (.add ⟨b57,0,none⟩ (toNat i61*1))=some (.int .i64 v67)∧Tryz.C 28 #[.int .i64 v67,.int .i64 st65] H66 fun r68 H69=> ∃r70,r68= .int .i64 r70∧0≤i61∧i61<((64:Nat):Int)∧stAt H69 (.add ⟨b57,0,none⟩ (toNat i61*1)) [.int .i64 r70] fun H71=>X60 [.int .i64 (wrap .i64 (i61+1))] H71)→J64 [.int .i64 st65] H66)→
 ∃a72,l32p=some a72∧0≤k35∧k35<(l32l:Int)∧ ∃Pa73,cell H62 (.add (.add a72 (toNat k35*3)) 0)=some (.int .i64 Pa73)∧br (decide (Pa73>0))
 (0≤i61∧i61<((64:Nat):Int)∧ ∃st74,cell H62 (.add ⟨b25,0,none⟩ (toNat i61*1))=some (.int .i64 st74)∧J64 [.int .i64 st74] H62)
 (J64 [.int .i64 st63] H62))
 (∃v75,v75.size=64∧rowIn H62 ⟨b57,0,none⟩ v75∧v75.size=64∧0+64≤64∧alc H62 (.cells (List.toArray (setL [.int .i64 0,.int .i64 0,.int .i64 0,.int .i64 0,.int .i64 0,.int .i64 0,.int .i64 0,.int .i64 0,.int .i64 0,.int .i64 0,.int .i64 0,.int .i64 0,.int .i64 0,.int .i64 0,.int .i64 0,.int .i64 0,.int .i64 0,.int .i64 0,.int .i64 0,.int .i64 0,.int .i64 0,.int .i64 0,.int .i64 0,.int .i64 0,.int .i64 0,.int .i64 0,.int .i64 0,.int .i64 0,.int .i64 0,.int .i64 0,.int .i64 0,.int .i64 0,.int .i64 0,.int .i64 0,.int .i64 0,.int .i64 0,.int .i64 0,.int .i64 0,.int .i64 0,.int .i64 0,.int .i64 0,.int .i64 0,.int .i64 0,.int .i64 0,.int .i64 0,.int .i64 0,.int .i64 0,.int .i64 0,.int .i64 0,.int .i64 0,.int .i64 0,.int .i64 0,.int .i64 0,.int .i64 0,.int .i64 0,.int .i64 0,.int .i64 0,.int .i64 0,.int .i64 0,.int .i64 0,.int .i64 0,.int .i64 0,.int .i64 0,.int .i64 0] 0 v75.toList)) 48) fun b76 H77=>appQ 64 512 (Array.replicate 64 (Value.int .i64 0)) H77 ou34p ou34l ou34c (some ⟨b76,0,none⟩) 1 48 fun ou78p ou78l ou78c H79=>X33 [.slice ou78p ou78l ou78c,.int .i64 (wrap .i64 (k35+1))] H79))→X60 [.int .i64 i61] H62)→X60 [.int .i64 0] H59))→X39 [.int .i64 i40] H41)→X39 [.int .i64 0] H38)
 (R (.tuple #[.slice ou34p ou34l ou34c,.int .i64 0]) H36))→X33 [.slice ou34p ou34l ou34c,.int .i64 k35] H36)→X33 [.slice none 0 0,.int .i64 0] H31)))
def Tryz.p8:Plan:=(tl (tg (tg (tl (tl (tg (tl (tl (two (tl (one (loop [(12,28),(14,3)] [2,3,8,10,13] (two (tl (tl leaf)) (two (one (tl (two (tl (one (loop [(16,3)] [2,3,8,10,12,13,14,15] (two (tl (tl leaf)) (two (one leaf) leaf))))) (tl (two (tl (one (loop [(18,3)] [2,3,8,10,12,13,14,17] (two (tl (tl leaf)) (two (one (tl (two (join [(19,3)] [2,3,8,10,12,13,14,17,18] (tl (tl leaf))) leaf))) leaf))))) leaf))))) leaf))))) (tl leaf))))))))))
theorem Tryz.s8{p1:AV}{qu2:Int}{ha3:Bool}{H R}(h:Tryz.S8 p1 qu2 ha3 H R):Tryz.C 8 #[.agg p1,.int .i64 qu2,.bool ha3] H R:=vcs Tryz.tab_ok Tryz.mixed Tryz.func8 Tryz.cal8 Tryz.p8 h (by kernel_rfl)
def Tryz.S9(b1p:OA)(b1l b1c:Nat)(H:Heap)(R:Kv):Prop:=
 alc H (.cells #[.int .i64 0,.int .i64 0,.slice none 0 0,.bool false,.slice none 0 0] 34) fun b2 H3=> ∀J4:Kl,(∀H5,(0≤(2:Int)∧(2:Int)≤(b1l:Int)∧alc H5 (.cells (List.toArray (List.set (Array.toList ((#[Value.slice none 0 0]++Array.replicate 2 (Value.int .i64 0)++Array.replicate 2 (Value.bool false)++Array.replicate 259 (Value.int .i64 0)++Array.replicate 5 (Value.bool false)++Array.replicate 3 (Value.slice none 0 0)++#[Value.bool false]++Array.replicate 3 (Value.slice none 0 0)++#[Value.bool false]++Array.replicate 3 (Value.slice none 0 0)++#[Value.bool false]++Array.replicate 3 (Value.slice none 0 0)++#[Value.bool false]++Array.replicate 3 (Value.slice none 0 0)++#[Value.bool false]++Array.replicate 3 (Value.slice none 0 0)++#[Value.bool false]++Array.replicate 3 (Value.slice none 0 0)++#[Value.bool false]++Array.replicate 3 (Value.slice none 0 0)))) 0 (.slice (if b1c=(toNat 2) then b1p else Option.map (fun x=>Addr.add x ((toNat 2)*1)) b1p) (b1l-(toNat 2)) (b1c-(toNat 2))))) 80) fun b6 H7=>Tryz.C 29 #[.pointer (some ⟨b6,0,none⟩)] H7 fun r8 H9=> ∃r10 r11,r8= .tuple #[.agg r10,.bool r11]∧alc H9 (.cells #[.int .i64 0,.int .i64 0,.int .i64 0,.int .i64 0,.int .i64 0,.int .i64 0] 81) fun b12 H13=>r10.size=6∧stAt H13 ⟨b12,0,none⟩ r10.toList fun H14=>br (!r11)
 (#[Value.int .i64 0,Value.int .i64 0,Value.slice none 0 0,Value.bool false,Value.slice none 0 0].size=5∧stAt H14 ⟨b2,0,none⟩ (Array.toList #[.int .i64 0,.int .i64 0,.slice none 0 0,.bool false,.slice none 0 0]) fun H15=> ∃re16,re16.size=5∧rowIn H15 ⟨b2,0,none⟩ re16∧R (.tuple #[.agg re16,.bool false]) H15)
 (∃a17,(some ⟨b6,0,none⟩)=some a17∧ ∃B18p B18l B18c,cell H14 (.add a17 0)=some (.slice B18p B18l B18c)∧Tryz.C 30 #[.slice B18p B18l B18c] H14 fun r19 H20=> ∃r21 r22,r19= .tuple #[.agg r21,.bool r22]∧alc H20 (.cells #[.slice none 0 0,.int .i64 0,.bool false] 85) fun b23 H24=>r21.size=3∧stAt H24 ⟨b23,0,none⟩ r21.toList fun H25=> ∃a26,(some ⟨b6,0,none⟩)=some a26∧ ∃W27,cell H25 (.add a26 1)=some (.int .i64 W27)∧ ∃a28,(some ⟨b6,0,none⟩)=some a28∧ ∃H29,cell H25 (.add a28 2)=some (.int .i64 H29)∧ ∃a30,(some ⟨b6,0,none⟩)=some a30∧ ∃Ha31,cell H25 (.add a30 4)=some (.bool Ha31)∧Tryz.C 25 #[.int .i64 W27,.int .i64 H29,.bool Ha31] H25 fun r32 H33=> ∃l34p l34l l34c,r32= .slice l34p l34l l34c∧ ∀J35:Kl,(∀H36,(alc H36 (.cells #[.int .i64 0,.int .i64 0,.int .i64 0] 73) fun b37 H38=> ∃a39,(some ⟨b6,0,none⟩)=some a39∧ ∃W40,cell H38 (.add a39 1)=some (.int .i64 W40)∧ ∃a41,(some ⟨b6,0,none⟩)=some a41∧ ∃H42,cell H38 (.add a41 2)=some (.int .i64 H42)∧ ∃a43,(some ⟨b6,0,none⟩)=some a43∧ ∃Ha44,cell H38 (.add a43 4)=some (.bool Ha44)∧alc H38 (.cells #[.int .i64 0,.int .i64 0,.slice none 0 0,.bool false,.slice none 0 0] 34) fun b45 H46=>(Ext H38 H46∨(∃Ha129,cell H46 (.add a43 4)=some (.bool Ha129)∧Value.bool Ha129= .bool Ha44)∧(∃H130,cell H46 (.add a41 2)=some (.int .i64 H130)∧Value.int .i64 H130= .int .i64 H42)∧(∃W131,cell H46 (.add a39 1)=some (.int .i64 W131)∧Value.int .i64 W131= .int .i64 W40))∧#[Value.int .i64 W40,Value.int .i64 H42,Value.slice none 0 0,Value.bool Ha44,Value.slice none 0 0].size=5∧stAt H46 ⟨b45,0,none⟩ (Array.toList #[.int .i64 W40,.int .i64 H42,.slice none 0 0,.bool Ha44,.slice none 0 0]) fun H47=> ∀J48:Kl,(∀H49,(∀J50:Kl,(∀H51,(∃a52,(some ⟨b6,0,none⟩)=some a52∧ ∃W53,cell H51 (.add a52 1)=some (.int .i64 W53)∧ ∃a54,(some ⟨b6,0,none⟩)=some a54∧ ∃H55,cell H51 (.add a54 2)=some (.int .i64 H55)∧ ∃a56,(some ⟨b6,0,none⟩)=some a56∧ ∃Ha57,cell H51 (.add a56 4)=some (.bool Ha57)∧ ∃Bl58p Bl58l Bl58c,cell H51 (.add ⟨b45,0,none⟩ 4)=some (.slice Bl58p Bl58l Bl58c)∧ ∃a59,(some ⟨b6,0,none⟩)=some a59∧0≤(0:Int)∧(0:Int)<((3:Nat):Int)∧ ∃v60,cell H51 (.add (.add a59 5) (toNat (0:Int)*1))=some (.int .i64 v60)∧ ∃a61,(some ⟨b6,0,none⟩)=some a61∧0≤v60∧v60<((4:Nat):Int)∧ ∃v62,v62.size=64∧rowIn H51 (.add (.add a61 8) (toNat v60*64)) v62∧ ∃a63,(some ⟨b6,0,none⟩)=some a63∧0≤(1:Int)∧(1:Int)<((3:Nat):Int)∧ ∃v64,cell H51 (.add (.add a63 5) (toNat (1:Int)*1))=some (.int .i64 v64)∧ ∃a65,(some ⟨b6,0,none⟩)=some a65∧0≤v64∧v64<((4:Nat):Int)∧ ∃v66,v66.size=64∧rowIn H51 (.add (.add a65 8) (toNat v64*64)) v66∧ ∃a67,(some ⟨b6,0,none⟩)=some a67∧0≤(2:Int)∧(2:Int)<((3:Nat):Int)∧ ∃v68,cell H51 (.add (.add a67 5) (toNat (2:Int)*1))=some (.int .i64 v68)∧ ∃a69,(some ⟨b6,0,none⟩)=some a69∧0≤v68∧v68<((4:Nat):Int)∧ ∃v70,v70.size=64∧rowIn H51 (.add (.add a69 8) (toNat v68*64)) v70∧v62.size=64∧0+64≤192∧v66.size=64∧64+64≤192∧v70.size=64∧128+64≤192∧Tryz.C 32 #[.int .i64 W53,.int .i64 H55,.bool Ha57,.slice Bl58p Bl58l Bl58c,.agg (List.toArray (setL (setL (setL (Array.toList ((Array.replicate 192 (Value.int .i64 0)))) 0 v62.toList) 64 v66.toList) 128 v70.toList))] H51 fun r71 H72=> ∃r73p r73l r73c,r71= .slice r73p r73l r73c∧stAt H72 (.add ⟨b45,0,none⟩ 2) [.slice r73p r73l r73c] fun H74=> ∃v75,v75.size=5∧rowIn H74 ⟨b45,0,none⟩ v75∧v75.size=5∧stAt H74 ⟨b2,0,none⟩ v75.toList fun H76=> ∃re77,re77.size=5∧rowIn H76 ⟨b2,0,none⟩ re77∧R (.tuple #[.agg re77,.bool true]) H76)→J50 [] H51)→
 ∃OK78,cell H49 (.add ⟨b23,0,none⟩ 2)=some (.bool OK78)∧br (!OK78) (#[Value.int .i64 0,Value.int .i64 0,Value.slice none 0 0,Value.bool false,Value.slice none 0 0].size=5∧stAt H49 ⟨b2,0,none⟩ (Array.toList #[.int .i64 0,.int .i64 0,.slice none 0 0,.bool false,.slice none 0 0]) fun H79=> ∃re80,re80.size=5∧rowIn H79 ⟨b2,0,none⟩ re80∧R (.tuple #[.agg re80,.bool false]) H79) (∃L81p L81l L81c,cell H49 (.add ⟨b23,0,none⟩ 0)=some (.slice L81p L81l L81c)∧ ∃At82,cell H49 (.add ⟨b23,0,none⟩ 1)=some (.int .i64 At82)∧br (decide (((wrap .i64 ((L81l:Int)-At82)):Int)≥8))
 (#[Value.int .i64 0,Value.int .i64 0,Value.slice none 0 0,Value.bool false,Value.slice none 0 0].size=5∧stAt H49 ⟨b2,0,none⟩ (Array.toList #[.int .i64 0,.int .i64 0,.slice none 0 0,.bool false,.slice none 0 0]) fun H83=> ∃re84,re84.size=5∧rowIn H83 ⟨b2,0,none⟩ re84∧R (.tuple #[.agg re84,.bool false]) H83)
 (J50 [] H49)))→J48 [] H49)→
 ∀X85:Kl,(∀(k86:Int) H87,(∀J88:Kl,(∀H89,(∃a90,l34p=some a90∧0≤k86∧k86<(l34l:Int)∧ ∃Pa91,cell H89 (.add (.add a90 (toNat k86*3)) 0)=some (.int .i64 Pa91)∧ ∀J92:Kl,(∀(x93:Addr) H94,(0≤(0:Int)∧(0:Int)<((64:Nat):Int)∧ ∃v95,cell H94 (Addr.add x93 (toNat (0:Int)*1))=some (.int .i64 v95)∧0≤Pa91∧Pa91<((3:Nat):Int)∧stAt H94 (.add ⟨b37,0,none⟩ (toNat Pa91*1)) [.int .i64 v95] fun H96=> ∃Bl97p Bl97l Bl97c,cell H96 (.add ⟨b45,0,none⟩ 4)=some (.slice Bl97p Bl97l Bl97c)∧ ∃v98,v98.size=64∧rowIn H96 x93 v98∧v98.size=64∧0+64≤64∧alc H96 (.cells (List.toArray (setL [.int .i64 0,.int .i64 0,.int .i64 0,.int .i64 0,.int .i64 0,.int .i64 0,.int .i64 0,.int .i64 0,.int .i64 0,.int .i64 0,.int .i64 0,.int .i64 0,.int .i64 0,.int .i64 0,.int .i64 0,.int .i64 0,.int .i64 0,.int .i64 0,.int .i64 0,.int .i64 0,.int .i64 0,.int .i64 0,.int .i64 0,.int .i64 0,.int .i64 0,.int .i64 0,.int .i64 0,.int .i64 0,.int .i64 0,.int .i64 0,.int .i64 0,.int .i64 0,.int .i64 0,.int .i64 0,.int .i64 0,.int .i64 0,.int .i64 0,.int .i64 0,.int .i64 0,.int .i64 0,.int .i64 0,.int .i64 0,.int .i64 0,.int .i64 0,.int .i64 0,.int .i64 0,.int .i64 0,.int .i64 0,.int .i64 0,.int .i64 0,.int .i64 0,.int .i64 0,.int .i64 0,.int .i64 0,.int .i64 0,.int .i64 0,.int .i64 0,.int .i64 0,.int .i64 0,.int .i64 0,.int .i64 0,.int .i64 0,.int .i64 0,.int .i64 0] 0 v98.toList)) 48) fun b99 H100=>appQ 64 512 (Array.replicate 64 (Value.int .i64 0)) H100 Bl97p Bl97l Bl97c (some ⟨b99,0,none⟩) 1 48 fun ap101p ap101l ap101c H102=>stAt H102 (.add ⟨b45,0,none⟩ 4) [.slice ap101p ap101l ap101c] fun H103=>X85 [.int .i64 (wrap .i64 (k86+1))] H103)→J92 [.pointer (some x93)] H94)→
 0≤(wrap .i64 ((2:Int)*Pa91))∧(wrap .i64 ((2:Int)*Pa91))<((6:Nat):Int)∧ ∃v104,cell H89 (.add ⟨b12,0,none⟩ (toNat (wrap .i64 ((2:Int)*Pa91))*1))=some (.int .i64 v104)∧ ∃a105,(some ⟨b6,0,none⟩)=some a105∧0≤v104∧v104<((8:Nat):Int)∧ ∃v106,v106.size=4∧rowIn H89 (.add (.add a105 268) (toNat v104*4)) v106∧0≤(wrap .i64 ((wrap .i64 ((2:Int)*Pa91))+1))∧(wrap .i64 ((wrap .i64 ((2:Int)*Pa91))+1))<((6:Nat):Int)∧ ∃v107,cell H89 (.add ⟨b12,0,none⟩ (toNat (wrap .i64 ((wrap .i64 ((2:Int)*Pa91))+1))*1))=some (.int .i64 v107)∧ ∃a108,(some ⟨b6,0,none⟩)=some a108∧0≤v107∧v107<((8:Nat):Int)∧ ∃v109,v109.size=4∧rowIn H89 (.add (.add a108 268) (toNat v107*4)) v109∧0≤Pa91∧Pa91<((3:Nat):Int)∧ ∃v110,cell H89 (.add ⟨b37,0,none⟩ (toNat Pa91*1))=some (.int .i64 v110)∧(Tryz.C 31 #[.pointer (some ⟨b23,0,none⟩),.agg v106,.agg v109,.int .i64 v110] H89 fun r111 H112=> ∃r113,r111= .agg r113∧alc H112 (.cells (Array.replicate 64 (Value.int .i64 0)) 48) fun b114 H115=>r113.size=64∧stAt H115 ⟨b114,0,none⟩ r113.toList fun H116=>J92 [.pointer (some ⟨b114,0,none⟩)] H116)∧(alc H89 (.cells (Array.replicate 64 (Value.int .i64 0)) 48) fun b117 H118=>(Ext H89 H118∨(∃v123,cell H118 (.add ⟨b37,0,none⟩ (toNat Pa91*1))=some (.int .i64 v123)∧Value.int .i64 v123= .int .i64 v110)∧(∃v124,v124.size=4∧rowIn H118 (.add (.add a108 268) (toNat v107*4)) v124∧Value.agg v124= .agg v109)∧(∃v125,cell H118 (.add ⟨b12,0,none⟩ (toNat (wrap .i64 ((wrap .i64 ((2:Int)*Pa91))+1))*1))=some (.int .i64 v125)∧Value.int .i64 v125= .int .i64 v107)∧(∃v126,v126.size=4∧rowIn H118 (.add (.add a105 268) (toNat v104*4)) v126∧Value.agg v126= .agg v106)∧(∃v127,cell H118 (.add ⟨b12,0,none⟩ (toNat (wrap .i64 ((2:Int)*Pa91))*1))=some (.int .i64 v127)∧Value.int .i64 v127= .int .i64 v104))∧Tryz.C 31 #[.pointer (some ⟨b23,0,none⟩),.agg v106,.agg v109,.int .i64 v110] H118 fun r119 H120=> ∃r121,r119= .agg r121∧r121.size=64∧stAt H120 ⟨b117,0,none⟩ r121.toList fun H122=>J92 [.pointer (some ⟨b117,0,none⟩)] H122))→J88 [] H89)→
 br (decide (k86<(l34l:Int))) (∃OK128,cell H87 (.add ⟨b23,0,none⟩ 2)=some (.bool OK128)∧br OK128
 (J88 [] H87)
 (J48 [] H87)) (J48 [] H87))→X85 [.int .i64 k86] H87)→X85 [.int .i64 0] H47)→J35 [] H36)→
 br (!r22) (#[Value.int .i64 0,Value.int .i64 0,Value.slice none 0 0,Value.bool false,Value.slice none 0 0].size=5∧stAt H33 ⟨b2,0,none⟩ (Array.toList #[.int .i64 0,.int .i64 0,.slice none 0 0,.bool false,.slice none 0 0]) fun H132=> ∃re133,re133.size=5∧rowIn H132 ⟨b2,0,none⟩ re133∧R (.tuple #[.agg re133,.bool false]) H132) (∃L134p L134l L134c,cell H33 (.add ⟨b23,0,none⟩ 0)=some (.slice L134p L134l L134c)∧br (decide (((l34l:Int):Int)>(L134l:Int)))
 (#[Value.int .i64 0,Value.int .i64 0,Value.slice none 0 0,Value.bool false,Value.slice none 0 0].size=5∧stAt H33 ⟨b2,0,none⟩ (Array.toList #[.int .i64 0,.int .i64 0,.slice none 0 0,.bool false,.slice none 0 0]) fun H135=> ∃re136,re136.size=5∧rowIn H135 ⟨b2,0,none⟩ re136∧R (.tuple #[.agg re136,.bool false]) H135)
 (J35 [] H33))))→J4 [] H5)→
 br (decide (((b1l:Int):Int)<2)) (#[Value.int .i64 0,Value.int .i64 0,Value.slice none 0 0,Value.bool false,Value.slice none 0 0].size=5∧stAt H3 ⟨b2,0,none⟩ (Array.toList #[.int .i64 0,.int .i64 0,.slice none 0 0,.bool false,.slice none 0 0]) fun H137=> ∃re138,re138.size=5∧rowIn H137 ⟨b2,0,none⟩ re138∧R (.tuple #[.agg re138,.bool false]) H137) (∃a139,b1p=some a139∧0≤(0:Int)∧(0:Int)<(b1l:Int)∧ ∃v140,cell H3 (.add a139 (toNat (0:Int)*1))=some (.int .u8 v140)∧br (v140 != 255) (#[Value.int .i64 0,Value.int .i64 0,Value.slice none 0 0,Value.bool false,Value.slice none 0 0].size=5∧stAt H3 ⟨b2,0,none⟩ (Array.toList #[.int .i64 0,.int .i64 0,.slice none 0 0,.bool false,.slice none 0 0]) fun H141=> ∃re142,re142.size=5∧rowIn H141 ⟨b2,0,none⟩ re142∧R (.tuple #[.agg re142,.bool false]) H141) (∃a143,b1p=some a143∧0≤(1:Int)∧(1:Int)<(b1l:Int)∧ ∃v144,cell H3 (.add a143 (toNat (1:Int)*1))=some (.int .u8 v144)∧br (v144 != 216)
 (#[Value.int .i64 0,Value.int .i64 0,Value.slice none 0 0,Value.bool false,Value.slice none 0 0].size=5∧stAt H3 ⟨b2,0,none⟩ (Array.toList #[.int .i64 0,.int .i64 0,.slice none 0 0,.bool false,.slice none 0 0]) fun H145=> ∃re146,re146.size=5∧rowIn H145 ⟨b2,0,none⟩ re146∧R (.tuple #[.agg re146,.bool false]) H145)
 (J4 [] H3)))
def Tryz.p9:Plan:=(tl (two (join [] [0,2] g0) (tl (tl (tg (tl (tl (two (join [] [2,4,5,7,9] g0) (tl (tl (two (join [] [2,4,7,11] (tl (one (loop [(12,3)] [2,4,5,7,9,10,11] (two (join [] [2,4,5,7,9,10,11,12] (tl (tl leaf))) (two (one (tl (two (join [(14,999999)] [2,4,5,7,9,10,11,12,13] leaf) (tl leaf)))) leaf)))))) (two (join [] [2,4,11] g0) (tl (tl leaf))))))))))))))
theorem Tryz.s9{b1p:OA}{b1l b1c:Nat}{H R}(h:Tryz.S9 b1p b1l b1c H R):Tryz.C 9 #[.slice b1p b1l b1c] H R:=vcs Tryz.tab_ok Tryz.mixed Tryz.func9 Tryz.cal9 Tryz.p9 h (by kernel_rfl)
def Tryz.S10(b1p:OA)(b1l b1c:Nat)(H:Heap)(R:Kv):Prop:=
 alc H (.cells #[.int .i64 0,.int .i64 0,.slice none 0 0,.bool false,.slice none 0 0] 37) fun b2 H3=> ∀J4:Kl,(∀H5,(0≤(2:Int)∧(2:Int)≤(b1l:Int)∧alc H5 (.cells #[.slice (if b1c=(toNat 2) then b1p else Option.map (fun x=>Addr.add x ((toNat 2)*1)) b1p) (b1l-(toNat 2)) (b1c-(toNat 2)),.int .i64 0,.int .i64 0,.slice none 0 0,.bool false,.slice none 0 0,.bool false,.int .i64 0,.int .i64 0,.int .i64 0,.pointer none,.pointer none,.pointer none,.pointer none,.pointer none,.pointer none,.pointer none,.pointer none,.pointer none,.pointer none,.pointer none,.pointer none] 97) fun b6 H7=>Tryz.C 33 #[.pointer (some ⟨b6,0,none⟩)] H7 fun r8 H9=> ∃r10 r11,r8= .tuple #[.agg r10,.bool r11]∧alc H9 (.cells #[.pointer none,.pointer none,.pointer none,.pointer none,.pointer none,.pointer none] 99) fun b12 H13=>r10.size=6∧stAt H13 ⟨b12,0,none⟩ r10.toList fun H14=>br (!r11)
 (#[Value.int .i64 0,Value.int .i64 0,Value.slice none 0 0,Value.bool false,Value.slice none 0 0].size=5∧stAt H14 ⟨b2,0,none⟩ (Array.toList #[.int .i64 0,.int .i64 0,.slice none 0 0,.bool false,.slice none 0 0]) fun H15=> ∃re16,re16.size=5∧rowIn H15 ⟨b2,0,none⟩ re16∧R (.tuple #[.agg re16,.int .i64 51]) H15)
 (Tryz.C 34 #[.pointer (some ⟨b6,0,none⟩)] H14 fun r17 H18=> ∃r19p r19l r19c r20,r17= .tuple #[.slice r19p r19l r19c,.bool r20]∧br (!r20)
 (#[Value.int .i64 0,Value.int .i64 0,Value.slice none 0 0,Value.bool false,Value.slice none 0 0].size=5∧stAt H18 ⟨b2,0,none⟩ (Array.toList #[.int .i64 0,.int .i64 0,.slice none 0 0,.bool false,.slice none 0 0]) fun H21=> ∃re22,re22.size=5∧rowIn H21 ⟨b2,0,none⟩ re22∧R (.tuple #[.agg re22,.int .i64 51]) H21)
 (∃a23,(some ⟨b6,0,none⟩)=some a23∧ ∃W24,cell H18 (.add (.add a23 1) 0)=some (.int .i64 W24)∧ ∃a25,(some ⟨b6,0,none⟩)=some a25∧ ∃H26,cell H18 (.add (.add a25 1) 1)=some (.int .i64 H26)∧ ∃a27,(some ⟨b6,0,none⟩)=some a27∧ ∃Ha28,cell H18 (.add (.add a27 1) 3)=some (.bool Ha28)∧Tryz.C 35 #[.int .i64 W24,.int .i64 H26,.bool Ha28] H18 fun r29 H30=> ∃pl31p pl31l pl31c,r29= .slice pl31p pl31l pl31c∧br (decide (((pl31l:Int):Int)>(wrap .i64 ((8:Int)*(r19l:Int)))))
 (#[Value.int .i64 0,Value.int .i64 0,Value.slice none 0 0,Value.bool false,Value.slice none 0 0].size=5∧stAt H30 ⟨b2,0,none⟩ (Array.toList #[.int .i64 0,.int .i64 0,.slice none 0 0,.bool false,.slice none 0 0]) fun H32=> ∃re33,re33.size=5∧rowIn H32 ⟨b2,0,none⟩ re33∧R (.tuple #[.agg re33,.int .i64 51]) H32)
 (Tryz.C 36 #[.slice r19p r19l r19c,.bool true] H30 fun r34 H35=> ∃r36,r34= .pointer r36∧alc H35 (.cells #[.pointer r36,.bool true] 110) fun b37 H38=>alc H38 (.cells #[.int .i64 0,.int .i64 0,.int .i64 0] 73) fun b39 H40=> ∀X41:Kl,(∀(t42:Int) H43,(br (decide (t42<(pl31l:Int)))
 (∃a44,pl31p=some a44∧0≤t42∧t42<(pl31l:Int)∧ ∃v45,v45.size=3∧rowIn H43 (.add a44 (toNat t42*3)) v45∧alc H43 (.cells #[.int .i64 0,.int .i64 0,.int .i64 0] 112) fun b46 H47=>v45.size=3∧stAt H47 ⟨b46,0,none⟩ v45.toList fun H48=> ∀J49:Kl,(∀(x50:Addr) H51,(∃a52,(some ⟨b37,0,none⟩)=some a52∧ ∃ok53,cell H51 (.add a52 1)=some (.bool ok53)∧br (!ok53)
 (#[Value.int .i64 0,Value.int .i64 0,Value.slice none 0 0,Value.bool false,Value.slice none 0 0].size=5∧stAt H51 ⟨b2,0,none⟩ (Array.toList #[.int .i64 0,.int .i64 0,.slice none 0 0,.bool false,.slice none 0 0]) fun H54=> ∃re55,re55.size=5∧rowIn H54 ⟨b2,0,none⟩ re55∧R (.tuple #[.agg re55,.int .i64 51]) H54)
 (∃pa56,cell H51 (.add ⟨b46,0,none⟩ 0)=some (.int .i64 pa56)∧0≤(0:Int)∧(0:Int)<((64:Nat):Int)∧ ∃v57,cell H51 (Addr.add x50 (toNat (0:Int)*1))=some (.int .i64 v57)∧0≤pa56∧pa56<((3:Nat):Int)∧stAt H51 (.add ⟨b39,0,none⟩ (toNat pa56*1)) [.int .i64 v57] fun H58=> ∃a59,(some ⟨b6,0,none⟩)=some a59∧ ∃Bl60p Bl60l Bl60c,cell H58 (.add (.add a59 1) 4)=some (.slice Bl60p Bl60l Bl60c)∧ ∃v61,v61.size=64∧rowIn H58 x50 v61∧v61.size=64∧0+64≤64∧alc H58 (.cells (List.toArray (setL [.int .i64 0,.int .i64 0,.int .i64 0,.int .i64 0,.int .i64 0,.int .i64 0,.int .i64 0,.int .i64 0,.int .i64 0,.int .i64 0,.int .i64 0,.int .i64 0,.int .i64 0,.int .i64 0,.int .i64 0,.int .i64 0,.int .i64 0,.int .i64 0,.int .i64 0,.int .i64 0,.int .i64 0,.int .i64 0,.int .i64 0,.int .i64 0,.int .i64 0,.int .i64 0,.int .i64 0,.int .i64 0,.int .i64 0,.int .i64 0,.int .i64 0,.int .i64 0,.int .i64 0,.int .i64 0,.int .i64 0,.int .i64 0,.int .i64 0,.int .i64 0,.int .i64 0,.int .i64 0,.int .i64 0,.int .i64 0,.int .i64 0,.int .i64 0,.int .i64 0,.int .i64 0,.int .i64 0,.int .i64 0,.int .i64 0,.int .i64 0,.int .i64 0,.int .i64 0,.int .i64 0,.int .i64 0,.int .i64 0,.int .i64 0,.int .i64 0,.int .i64 0,.int .i64 0,.int .i64 0,.int .i64 0,.int .i64 0,.int .i64 0,.int .i64 0] 0 v61.toList)) 48) fun b62 H63=>(Ext H58 H63∨(∃Bl68p Bl68l Bl68c,cell H63 (.add (.add a59 1) 4)=some (.slice Bl68p Bl68l Bl68c)∧Value.slice Bl68p Bl68l Bl68c= .slice Bl60p Bl60l Bl60c))∧appQ 64 512 (Array.replicate 64 (Value.int .i64 0)) H63 Bl60p Bl60l Bl60c (some ⟨b62,0,none⟩) 1 48 fun ap64p ap64l ap64c H65=> ∃a66,(some ⟨b6,0,none⟩)=some a66∧stAt H65 (.add (.add a66 1) 4) [.slice ap64p ap64l ap64c] fun H67=>X41 [.int .i64 (wrap .i64 (t42+1))] H67))→J49 [.pointer (some x50)] H51)→
 ∃pa69,cell H48 (.add ⟨b46,0,none⟩ 0)=some (.int .i64 pa69)∧0≤pa69∧pa69<((3:Nat):Int)∧ ∃v70,v70.size=2∧rowIn H48 (.add ⟨b12,0,none⟩ (toNat pa69*2)) v70∧ ∃pa71,cell H48 (.add ⟨b46,0,none⟩ 0)=some (.int .i64 pa71)∧0≤pa71∧pa71<((3:Nat):Int)∧ ∃v72,cell H48 (.add ⟨b39,0,none⟩ (toNat pa71*1))=some (.int .i64 v72)∧(Tryz.C 37 #[.pointer (some ⟨b37,0,none⟩),.agg v70,.int .i64 v72] H48 fun r73 H74=> ∃r75,r73= .agg r75∧alc H74 (.cells (Array.replicate 64 (Value.int .i64 0)) 48) fun b76 H77=>r75.size=64∧stAt H77 ⟨b76,0,none⟩ r75.toList fun H78=>J49 [.pointer (some ⟨b76,0,none⟩)] H78)∧(alc H48 (.cells (Array.replicate 64 (Value.int .i64 0)) 48) fun b79 H80=>(Ext H48 H80∨(∃v85,cell H80 (.add ⟨b39,0,none⟩ (toNat pa71*1))=some (.int .i64 v85)∧Value.int .i64 v85= .int .i64 v72)∧(∃pa86,cell H80 (.add ⟨b46,0,none⟩ 0)=some (.int .i64 pa86)∧Value.int .i64 pa86= .int .i64 pa71)∧(∃v87,v87.size=2∧rowIn H80 (.add ⟨b12,0,none⟩ (toNat pa69*2)) v87∧Value.agg v87= .agg v70)∧(∃pa88,cell H80 (.add ⟨b46,0,none⟩ 0)=some (.int .i64 pa88)∧Value.int .i64 pa88= .int .i64 pa69))∧Tryz.C 37 #[.pointer (some ⟨b37,0,none⟩),.agg v70,.int .i64 v72] H80 fun r81 H82=> ∃r83,r81= .agg r83∧r83.size=64∧stAt H82 ⟨b79,0,none⟩ r83.toList fun H84=>J49 [.pointer (some ⟨b79,0,none⟩)] H84))
 (∃a89,(some ⟨b37,0,none⟩)=some a89∧ ∃r90,cell H43 (.add a89 0)=some (.pointer r90)∧Tryz.C 38 #[.pointer r90] H43 fun r91 H92=> ∃r93,r91= .int .i64 r93∧br (decide (r93≥8))
 (#[Value.int .i64 0,Value.int .i64 0,Value.slice none 0 0,Value.bool false,Value.slice none 0 0].size=5∧stAt H92 ⟨b2,0,none⟩ (Array.toList #[.int .i64 0,.int .i64 0,.slice none 0 0,.bool false,.slice none 0 0]) fun H94=> ∃re95,re95.size=5∧rowIn H94 ⟨b2,0,none⟩ re95∧R (.tuple #[.agg re95,.int .i64 51]) H94)
 (∃a96,(some ⟨b6,0,none⟩)=some a96∧ ∃a97,(some ⟨b6,0,none⟩)=some a97∧0≤(0:Int)∧(0:Int)<((3:Nat):Int)∧ ∃v98,cell H92 (.add (.add a97 7) (toNat (0:Int)*1))=some (.int .i64 v98)∧ ∃a99,(some ⟨b6,0,none⟩)=some a99∧0≤v98∧v98<((4:Nat):Int)∧ ∃v100,cell H92 (.add (.add a99 10) (toNat v98*1))=some (.pointer v100)∧ ∃a101,v100=some a101∧ ∃v102,v102.size=64∧rowIn H92 a101 v102∧ ∃a103,(some ⟨b6,0,none⟩)=some a103∧0≤(1:Int)∧(1:Int)<((3:Nat):Int)∧ ∃v104,cell H92 (.add (.add a103 7) (toNat (1:Int)*1))=some (.int .i64 v104)∧ ∃a105,(some ⟨b6,0,none⟩)=some a105∧0≤v104∧v104<((4:Nat):Int)∧ ∃v106,cell H92 (.add (.add a105 10) (toNat v104*1))=some (.pointer v106)∧ ∃a107,v106=some a107∧ ∃v108,v108.size=64∧rowIn H92 a107 v108∧ ∃a109,(some ⟨b6,0,none⟩)=some a109∧0≤(2:Int)∧(2:Int)<((3:Nat):Int)∧ ∃v110,cell H92 (.add (.add a109 7) (toNat (2:Int)*1))=some (.int .i64 v110)∧ ∃a111,(some ⟨b6,0,none⟩)=some a111∧0≤v110∧v110<((4:Nat):Int)∧ ∃v112,cell H92 (.add (.add a111 10) (toNat v110*1))=some (.pointer v112)∧ ∃a113,v112=some a113∧ ∃v114,v114.size=64∧rowIn H92 a113 v114∧v102.size=64∧0+64≤192∧v108.size=64∧64+64≤192∧v114.size=64∧128+64≤192∧Tryz.C 39 #[.pointer (some (.add a96 1)),.agg (List.toArray (setL (setL (setL (Array.toList ((Array.replicate 192 (Value.int .i64 0)))) 0 v102.toList) 64 v108.toList) 128 v114.toList))] H92 fun r115 H116=>r115= .tuple #[]∧ ∃a117,(some ⟨b6,0,none⟩)=some a117∧ ∃m118,m118.size=5∧rowIn H116 (.add a117 1) m118∧m118.size=5∧stAt H116 ⟨b2,0,none⟩ m118.toList fun H119=> ∃re120,re120.size=5∧rowIn H119 ⟨b2,0,none⟩ re120∧R (.tuple #[.agg re120,.int .i64 0]) H119)))→X41 [.int .i64 t42] H43)→X41 [.int .i64 0] H40))))→J4 [] H5)→
 br (decide (((b1l:Int):Int)<2)) (#[Value.int .i64 0,Value.int .i64 0,Value.slice none 0 0,Value.bool false,Value.slice none 0 0].size=5∧stAt H3 ⟨b2,0,none⟩ (Array.toList #[.int .i64 0,.int .i64 0,.slice none 0 0,.bool false,.slice none 0 0]) fun H121=> ∃re122,re122.size=5∧rowIn H121 ⟨b2,0,none⟩ re122∧R (.tuple #[.agg re122,.int .i64 51]) H121) (∃a123,b1p=some a123∧0≤(0:Int)∧(0:Int)<(b1l:Int)∧ ∃v124,cell H3 (.add a123 (toNat (0:Int)*1))=some (.int .u8 v124)∧br (v124 != 255) (#[Value.int .i64 0,Value.int .i64 0,Value.slice none 0 0,Value.bool false,Value.slice none 0 0].size=5∧stAt H3 ⟨b2,0,none⟩ (Array.toList #[.int .i64 0,.int .i64 0,.slice none 0 0,.bool false,.slice none 0 0]) fun H125=> ∃re126,re126.size=5∧rowIn H125 ⟨b2,0,none⟩ re126∧R (.tuple #[.agg re126,.int .i64 51]) H125) (∃a127,b1p=some a127∧0≤(1:Int)∧(1:Int)<(b1l:Int)∧ ∃v128,cell H3 (.add a127 (toNat (1:Int)*1))=some (.int .u8 v128)∧br (v128 != 216)
 (#[Value.int .i64 0,Value.int .i64 0,Value.slice none 0 0,Value.bool false,Value.slice none 0 0].size=5∧stAt H3 ⟨b2,0,none⟩ (Array.toList #[.int .i64 0,.int .i64 0,.slice none 0 0,.bool false,.slice none 0 0]) fun H129=> ∃re130,re130.size=5∧rowIn H129 ⟨b2,0,none⟩ re130∧R (.tuple #[.agg re130,.int .i64 51]) H129)
 (J4 [] H3)))
def Tryz.p10:Plan:=(tl (two (join [] [0,2] g0) (tl (tl (tg (tl (tg (tl (tg (tl (tl (two (tl (one (loop [(79,3)] [2,4,5,9,10,77,78] (tl (two (tl leaf) (two (one (tl (two (join [(13,999999)] [2,4,5,9,10,12,77,78,79] leaf) (tg (tl leaf))))) leaf)))))) (tg (tl (tl leaf)))))))))))))))
theorem Tryz.s10{b1p:OA}{b1l b1c:Nat}{H R}(h:Tryz.S10 b1p b1l b1c H R):Tryz.C 10 #[.slice b1p b1l b1c] H R:=vcs Tryz.tab_ok Tryz.mixed Tryz.func10 Tryz.cal10 Tryz.p10 h (by kernel_rfl)
end Go.Proofs
namespace Go.Proofs
open Go.Sh Go.Sh.Plan
open Go.IntKind (wrap)
open Int (toNat)
def Tryz.S11(a1p:OA)(a1l a1c:Nat)(b2p:OA)(b2l b2c:Nat)(H:Heap)(R:Kv):Prop:=
 br (((a1l:Int):Int) != (b2l:Int))
 (R (.bool false) H)
 (∀X3:Kl,(∀(i4:Int) H5,(br (decide (i4<(a1l:Int)))
 (∃a6,a1p=some a6∧0≤i4∧i4<(a1l:Int)∧ ∃v7,v7.size=64∧rowIn H5 (.add a6 (toNat i4*64)) v7∧alc H5 (.cells (Array.replicate 64 (Value.int .i64 0)) 48) fun b8 H9=>v7.size=64∧stAt H9 ⟨b8,0,none⟩ v7.toList fun H10=> ∃v11,v11.size=64∧rowIn H10 ⟨b8,0,none⟩ v11∧ ∃a12,b2p=some a12∧0≤i4∧i4<(b2l:Int)∧ ∃v13,v13.size=64∧rowIn H10 (.add a12 (toNat i4*64)) v13∧(1=1∧ ∃as_14 bs15:List Int,as_14.length=64∧bs15.length=64∧v11=(as_14.map (Value.int .i64)).toArray∧v13=(bs15.map (Value.int .i64)).toArray∧br (!(decide (as_14=bs15)))
 (R (.bool false) H10)
 (X3 [.int .i64 (wrap .i64 (i4+1))] H10)))
 (R (.bool true) H5))→X3 [.int .i64 i4] H5)→X3 [.int .i64 0] H)
def Tryz.p11:Plan:=(tl (tg (two (tl (one (loop [(14,3)] [1,12,13] (tl (two (tl leaf) (two (one (tl g0)) leaf)))))) (tl leaf))))
theorem Tryz.s11{a1p:OA}{a1l a1c:Nat}{b2p:OA}{b2l b2c:Nat}{H R}(h:Tryz.S11 a1p a1l a1c b2p b2l b2c H R):Tryz.C 11 #[.slice a1p a1l a1c,.slice b2p b2l b2c] H R:=vcs Tryz.tab_ok Tryz.mixed Tryz.func11 Tryz.cal11 Tryz.p11 h (by kernel_rfl)
def Tryz.S13(b1p:OA)(b1l b1c:Nat)(H:Heap)(R:Kv):Prop:=
 ∀X2:Kl,(∀(i3:Int) H4,(br (decide (((wrap .i64 (i3+8)):Int)<(b1l:Int)))
 (∃a5,b1p=some a5∧0≤i3∧i3<(b1l:Int)∧ ∃v6,cell H4 (.add a5 (toNat i3*1))=some (.int .u8 v6)∧br (v6==255) (∃a7,b1p=some a7∧0≤(wrap .i64 (i3+1))∧(wrap .i64 (i3+1))<(b1l:Int)∧ ∃v8,cell H4 (.add a7 (toNat (wrap .i64 (i3+1))*1))=some (.int .u8 v8)∧br (v8==192) (0≤(wrap .i64 (i3+7))∧(wrap .i64 (i3+7))≤(b1c:Int)∧0≤(wrap .i64 (i3+5))∧(wrap .i64 (i3+5))≤(wrap .i64 (i3+7))∧0≤(wrap .i64 (i3+9))∧(wrap .i64 (i3+9))≤(b1c:Int)∧0≤(wrap .i64 (i3+7))∧(wrap .i64 (i3+7))≤(wrap .i64 (i3+9))∧Tryz.C 40 #[.slice (if b1c=(toNat (wrap .i64 (i3+5))) then b1p else Option.map (fun x=>Addr.add x ((toNat (wrap .i64 (i3+5)))*1)) b1p) ((toNat (wrap .i64 (i3+7)))-(toNat (wrap .i64 (i3+5)))) (b1c-(toNat (wrap .i64 (i3+5))))] H4 fun r9 H10=> ∃r11,r9= .int .i64 r11∧Tryz.C 40 #[.slice (if b1c=(toNat (wrap .i64 (i3+7))) then b1p else Option.map (fun x=>Addr.add x ((toNat (wrap .i64 (i3+7)))*1)) b1p) ((toNat (wrap .i64 (i3+9)))-(toNat (wrap .i64 (i3+7)))) (b1c-(toNat (wrap .i64 (i3+7))))] H10 fun r12 H13=> ∃r14,r12= .int .i64 r14∧br (decide (((wrap .i64 (r11*r14)):Int)>4000))
 (R (.bool true) H13)
 (X2 [.int .i64 (wrap .i64 (i3+1))] H13)) (X2 [.int .i64 (wrap .i64 (i3+1))] H4)) (X2 [.int .i64 (wrap .i64 (i3+1))] H4))
 (R (.bool false) H4))→X2 [.int .i64 i3] H4)→X2 [.int .i64 0] H
def Tryz.p13:Plan:=(tl (two (tl (one (loop [(3,3)] [0] (two (tl (tl leaf)) (two (one g0) leaf))))) (tl leaf)))
theorem Tryz.s13{b1p:OA}{b1l b1c:Nat}{H R}(h:Tryz.S13 b1p b1l b1c H R):Tryz.C 13 #[.slice b1p b1l b1c] H R:=vcs Tryz.tab_ok Tryz.mixed Tryz.func13 Tryz.cal13 Tryz.p13 h (by kernel_rfl)
def Tryz.S14(w1 h2:Int)(rg3p:OA)(rg3l rg3c:Nat)(qu4:Int)(ha5:Bool)(H:Heap)(R:Kv):Prop:=
 Tryz.C 16 #[.int .i64 qu4,.bool false] H fun r6 H7=> ∃r8 r9,r6= .tuple #[.agg r8,.bool r9]∧alc H7 (.cells (Array.replicate 64 (Value.int .i64 0)) 48) fun b10 H11=>r8.size=64∧stAt H11 ⟨b10,0,none⟩ r8.toList fun H12=>Tryz.C 16 #[.int .i64 qu4,.bool true] H12 fun r13 H14=> ∃r15 r16,r13= .tuple #[.agg r15,.bool r16]∧alc H14 (.cells (Array.replicate 64 (Value.int .i64 0)) 48) fun b17 H18=>r15.size=64∧stAt H18 ⟨b17,0,none⟩ r15.toList fun H19=>Tryz.C 41 #[.int .i64 w1,.int .i64 h2] H19 fun r20 H21=> ∃r22,r20= .bool r22∧br (!r22)
 (R (.tuple #[.slice none 0 0,.int .i64 31]) H21)
 (br (((rg3l:Int):Int) != (wrap .i64 ((wrap .i64 ((3:Int)*w1))*h2)))
 (R (.tuple #[.slice none 0 0,.int .i64 25]) H21)
 (br (!r9)
 (R (.tuple #[.slice none 0 0,.int .i64 32]) H21)
 (Tryz.C 42 #[.int .i64 w1,.int .i64 h2,.slice rg3p rg3l rg3c,.bool ha5] H21 fun r23 H24=> ∃r25,r23= .agg r25∧alc H24 (.cells #[.int .i64 0,.int .i64 0,.slice none 0 0,.int .i64 0,.int .i64 0,.slice none 0 0,.int .i64 0,.int .i64 0,.slice none 0 0] 119) fun b26 H27=>r25.size=9∧stAt H27 ⟨b26,0,none⟩ r25.toList fun H28=>Tryz.C 35 #[.int .i64 w1,.int .i64 h2,.bool ha5] H28 fun r29 H30=> ∃r31p r31l r31c,r29= .slice r31p r31l r31c∧ ∀X32:Kl,(∀(ou33p:OA) (ou33l ou33c:Nat) (t34:Int) H35,(br (decide (t34<(r31l:Int)))
 (∃a36,r31p=some a36∧0≤t34∧t34<(r31l:Int)∧ ∃v37,v37.size=3∧rowIn H35 (.add a36 (toNat t34*3)) v37∧alc H35 (.cells #[.int .i64 0,.int .i64 0,.int .i64 0] 112) fun b38 H39=>v37.size=3∧stAt H39 ⟨b38,0,none⟩ v37.toList fun H40=>alc H40 (.cells (Array.replicate 64 (Value.int .i64 0)) 48) fun b41 H42=> ∀X43:Kl,(∀(i44:Int) H45,(br (decide (i44<64))
 (∃pa46,cell H45 (.add ⟨b38,0,none⟩ 0)=some (.int .i64 pa46)∧0≤pa46∧pa46<((3:Nat):Int)∧ ∃v47,v47.size=3∧rowIn H45 (.add ⟨b26,0,none⟩ (toNat pa46*3)) v47∧ ∃x48,cell H45 (.add ⟨b38,0,none⟩ 1)=some (.int .i64 x48)∧(8:Int)≠0∧ ∃y49,cell H45 (.add ⟨b38,0,none⟩ 2)=some (.int .i64 y49)∧(8:Int)≠0∧Tryz.C 43 #[.agg v47,.int .i64 (wrap .i64 (x48+(Int.tmod i44 8))),.int .i64 (wrap .i64 (y49+(wrap .i64 (Int.tdiv i44 8))))] H45 fun r50 H51=> ∃r52,r50= .int .i64 r52∧0≤i44∧i44<((64:Nat):Int)∧stAt H51 (.add ⟨b41,0,none⟩ (toNat i44*1)) [.int .i64 (wrap .i64 (r52-128))] fun H53=>X43 [.int .i64 (wrap .i64 (i44+1))] H53)
 (∃v54,v54.size=64∧rowIn H45 ⟨b41,0,none⟩ v54∧Tryz.C 44 #[.agg v54] H45 fun r55 H56=> ∃r57,r55= .agg r57∧alc H56 (.cells (Array.replicate 64 (Value.int .i64 0)) 48) fun b58 H59=>r57.size=64∧stAt H59 ⟨b58,0,none⟩ r57.toList fun H60=> ∀X61:Kl,(∀(i62:Int) H63,(br (decide (i62<64))
 (0≤i62∧i62<((64:Nat):Int)∧ ∃t64,cell H63 (.add ⟨b10,0,none⟩ (toNat i62*1))=some (.int .i64 t64)∧ ∀J65:Kl,(∀(t66:Int) H67,(0≤i62∧i62<((64:Nat):Int)∧ ∃v68,cell H67 (.add ⟨b58,0,none⟩ (toNat i62*1))=some (.int .i64 v68)∧Tryz.C 45 #[.int .i64 v68,.int .i64 t66] H67 fun r69 H70=> ∃r71,r69= .int .i64 r71∧0≤i62∧i62<((64:Nat):Int)∧stAt H70 (.add ⟨b58,0,none⟩ (toNat i62*1)) [.int .i64 r71] fun H72=>X61 [.int .i64 (wrap .i64 (i62+1))] H72)→J65 [.int .i64 t66] H67)→
 ∃pa73,cell H63 (.add ⟨b38,0,none⟩ 0)=some (.int .i64 pa73)∧br (decide (pa73>0))
 (0≤i62∧i62<((64:Nat):Int)∧ ∃t74,cell H63 (.add ⟨b17,0,none⟩ (toNat i62*1))=some (.int .i64 t74)∧J65 [.int .i64 t74] H63)
 (J65 [.int .i64 t64] H63))
 (∃v75,v75.size=64∧rowIn H63 ⟨b58,0,none⟩ v75∧v75.size=64∧0+64≤64∧alc H63 (.cells (List.toArray (setL [.int .i64 0,.int .i64 0,.int .i64 0,.int .i64 0,.int .i64 0,.int .i64 0,.int .i64 0,.int .i64 0,.int .i64 0,.int .i64 0,.int .i64 0,.int .i64 0,.int .i64 0,.int .i64 0,.int .i64 0,.int .i64 0,.int .i64 0,.int .i64 0,.int .i64 0,.int .i64 0,.int .i64 0,.int .i64 0,.int .i64 0,.int .i64 0,.int .i64 0,.int .i64 0,.int .i64 0,.int .i64 0,.int .i64 0,.int .i64 0,.int .i64 0,.int .i64 0,.int .i64 0,.int .i64 0,.int .i64 0,.int .i64 0,.int .i64 0,.int .i64 0,.int .i64 0,.int .i64 0,.int .i64 0,.int .i64 0,.int .i64 0,.int .i64 0,.int .i64 0,.int .i64 0,.int .i64 0,.int .i64 0,.int .i64 0,.int .i64 0,.int .i64 0,.int .i64 0,.int .i64 0,.int .i64 0,.int .i64 0,.int .i64 0,.int .i64 0,.int .i64 0,.int .i64 0,.int .i64 0,.int .i64 0,.int .i64 0,.int .i64 0,.int .i64 0] 0 v75.toList)) 48) fun b76 H77=>appQ 64 512 (Array.replicate 64 (Value.int .i64 0)) H77 ou33p ou33l ou33c (some ⟨b76,0,none⟩) 1 48 fun ou78p ou78l ou78c H79=>X32 [.slice ou78p ou78l ou78c,.int .i64 (wrap .i64 (t34+1))] H79))→X61 [.int .i64 i62] H63)→X61 [.int .i64 0] H60))→X43 [.int .i64 i44] H45)→X43 [.int .i64 0] H42)
 (R (.tuple #[.slice ou33p ou33l ou33c,.int .i64 0]) H35))→X32 [.slice ou33p ou33l ou33c,.int .i64 t34] H35)→X32 [.slice none 0 0,.int .i64 0] H30)))
def Tryz.p14:Plan:=(tl (tl (tl (two (one (tl (two (tl leaf) (tl (two (tl leaf) g0))))) (tl (tl (two (tl (one (loop [(17,28),(61,3)] [12,14,16,59,60] (tl (two (tl leaf) (two (one (tl (tl (two (tl (one (loop [(65,3)] [12,14,16,17,19,20,59,60,61] (tl (two (tl leaf) (two (one (tl leaf)) leaf)))))) (tl (two (tl (one (loop [(89,3)] [12,14,16,17,19,22,59,60,61] (tl (two (tl leaf) (two (one (tl (tl (two (join [(24,3)] [12,14,16,17,19,22,23,59,60,61,89] (tl (tl leaf))) leaf)))) leaf)))))) leaf)))))) leaf)))))) (tl leaf))))))))
theorem Tryz.s14{w1 h2:Int}{rg3p:OA}{rg3l rg3c:Nat}{qu4:Int}{ha5:Bool}{H R}(h:Tryz.S14 w1 h2 rg3p rg3l rg3c qu4 ha5 H R):Tryz.C 14 #[.int .i64 w1,.int .i64 h2,.slice rg3p rg3l rg3c,.int .i64 qu4,.bool ha5] H R:=vcs Tryz.tab_ok Tryz.mixed Tryz.func14 Tryz.cal14 Tryz.p14 h (by kernel_rfl)
def Tryz.S15(H:Heap)(R:Kv):Prop:=
 alc H (.cells (Array.replicate 64 (Value.int .i64 0)) 48) fun b1 H2=> ∀X3:Kl,(∀(at_4 n5:Int) H6,(br (decide (n5<15))
 (∀X7:Kl,(∀(li8p:OA) (li8l li8c:Nat) (v9:Int) H10,(br (decide (v9<8))
 (∀J11:Kl,(∀(li12p:OA) (li12l li12c:Nat) H13,(X7 [.slice li12p li12l li12c,.int .i64 (wrap .i64 (v9+1))] H13)→J11 [.slice li12p li12l li12c] H13)→
 br (decide (((wrap .i64 (n5-v9)):Int)≥0)) (br (decide (((wrap .i64 (n5-v9)):Int)<8))
 (alc H10 (.cells #[.int .i64 (wrap .i64 ((wrap .i64 ((8:Int)*v9))+(wrap .i64 (n5-v9))))] 3) fun b14 H15=>appQ 1 8 #[.int .i64 0] H15 li8p li8l li8c (some ⟨b14,0,none⟩) 1 3 fun li16p li16l li16c H17=>J11 [.slice li16p li16l li16c] H17)
 (J11 [.slice li8p li8l li8c] H10)) (J11 [.slice li8p li8l li8c] H10))
 (∀J18:Kl,(∀H19,(0≤at_4∧at_4≤((64:Nat):Int)∧ ∃xs20,rowOf H19 li8p (min li8l (64-(toNat at_4))*1) xs20∧stAt H19 (if 64=(toNat at_4) then⟨b1,0,none⟩ else Addr.add ⟨b1,0,none⟩ ((toNat at_4)*1)) xs20.toList fun H21=>X3 [.int .i64 (wrap .i64 (at_4+((min li8l (64-(toNat at_4)):Nat):Int))),.int .i64 (wrap .i64 (n5+1))] H21)→J18 [] H19)→
 (2:Int)≠0∧br (((Int.tmod n5 2):Int)==0)
 (Tryz.C 46 #[.slice li8p li8l li8c] H10 fun r22 H23=>r22= .tuple #[]∧J18 [] H23)
 (J18 [] H10)))→X7 [.slice li8p li8l li8c,.int .i64 v9] H10)→X7 [.slice none 0 0,.int .i64 0] H6)
 (∃v24,v24.size=64∧rowIn H6 ⟨b1,0,none⟩ v24∧v24.size=64∧stAt H6 ⟨b1,0,none⟩ v24.toList fun H25=> ∃re26,re26.size=64∧rowIn H25 ⟨b1,0,none⟩ re26∧R (.agg re26) H25))→X3 [.int .i64 at_4,.int .i64 n5] H6)→X3 [.int .i64 0,.int .i64 0] H2
def Tryz.p15:Plan:=(tl (tl (two (tl (one (loop [(1,3),(6,3)] [0] (tl (two (tl leaf) (two (one (tl (tl (two (tl (one (loop [(3,55),(9,3)] [0,1,2,6] (tl (two (tl leaf) (two (join [(3,55)] [0,1,2,6,9] (one (tl (tl (tl (tl leaf)))))) leaf)))))) (two (join [] [0,1,3,6] (tl (tl leaf))) leaf))))) leaf)))))) (tl leaf))))
theorem Tryz.s15{_u:Unit}{H R}(h:Tryz.S15 H R):Tryz.C 15 #[] H R:=vcs Tryz.tab_ok Tryz.mixed Tryz.func15 Tryz.cal15 Tryz.p15 h (by kernel_rfl)
def Tryz.S16(qu1:Int)(di2:Bool)(H:Heap)(R:Kv):Prop:=
 alc H (.cells (Array.replicate 64 (Value.int .i64 0)) 48) fun b3 H4=>alc H4 (.cells (Array.replicate 64 (Value.int .i64 0)) 48) fun b5 H6=> ∀J7:Kl,(∀H8,(∀J9:Kl,(∀(s10:Int) H11,(Tryz.C 47 #[.bool di2] H11 fun r12 H13=> ∃r14p r14l r14c,r12= .slice r14p r14l r14c∧ ∀X15:Kl,(∀(i16:Int) H17,(br (decide (i16<(r14l:Int)))
 (∃a18,r14p=some a18∧0≤i16∧i16<(r14l:Int)∧ ∃t19,cell H17 (.add a18 (toNat i16*1))=some (.int .i64 t19)∧(100:Int)≠0∧0≤i16∧i16<((64:Nat):Int)∧stAt H17 (.add ⟨b5,0,none⟩ (toNat i16*1)) [.int .i64 (min 255 (max 1 (wrap .i64 (Int.tdiv (wrap .i64 ((wrap .i64 (t19*s10))+50)) 100))))] fun H20=>X15 [.int .i64 (wrap .i64 (i16+1))] H20)
 (∃v21,v21.size=64∧rowIn H17 ⟨b5,0,none⟩ v21∧v21.size=64∧stAt H17 ⟨b3,0,none⟩ v21.toList fun H22=> ∃re23,re23.size=64∧rowIn H22 ⟨b3,0,none⟩ re23∧R (.tuple #[.agg re23,.bool true]) H22))→X15 [.int .i64 i16] H17)→X15 [.int .i64 0] H13)→J9 [.int .i64 s10] H11)→
 br (decide (qu1<50))
 (qu1≠0∧J9 [.int .i64 (wrap .i64 (Int.tdiv 5000 qu1))] H8)
 (J9 [.int .i64 (wrap .i64 ((200:Int)-(wrap .i64 ((2:Int)*qu1))))] H8))→J7 [] H8)→
 br (decide (qu1<1)) (∃v24,v24.size=64∧rowIn H6 ⟨b5,0,none⟩ v24∧v24.size=64∧stAt H6 ⟨b3,0,none⟩ v24.toList fun H25=> ∃re26,re26.size=64∧rowIn H25 ⟨b3,0,none⟩ re26∧R (.tuple #[.agg re26,.bool false]) H25) (br (decide (qu1>100))
 (∃v27,v27.size=64∧rowIn H6 ⟨b5,0,none⟩ v27∧v27.size=64∧stAt H6 ⟨b3,0,none⟩ v27.toList fun H28=> ∃re29,re29.size=64∧rowIn H28 ⟨b3,0,none⟩ re29∧R (.tuple #[.agg re29,.bool false]) H28)
 (J7 [] H6))
def Tryz.p16:Plan:=(tl (tl (two (join [] [0,1,4,6] g0) (tl (two (join [(7,3)] [1,4,6] (tl (tl leaf))) (two (tl (one (loop [(27,3)] [4,6,7,25,26] (tl (two (tl leaf) (two (one (tl leaf)) leaf)))))) (tl leaf)))))))
theorem Tryz.s16{qu1:Int}{di2:Bool}{H R}(h:Tryz.S16 qu1 di2 H R):Tryz.C 16 #[.int .i64 qu1,.bool di2] H R:=vcs Tryz.tab_ok Tryz.mixed Tryz.func16 Tryz.cal16 Tryz.p16 h (by kernel_rfl)
def Tryz.S17(ma1:Int)(da2p:OA)(da2l da2c:Nat)(H:Heap)(R:Kv):Prop:=
 0≤(8:Int)∧alc H (.cells #[.int .u8 255,.int .u8 ma1,.int .u8 (wrap .u8 (shrI .i64 (wrap .i64 ((da2l:Int)+2)) 8)),.int .u8 (wrap .u8 (wrap .i64 ((da2l:Int)+2)))] 5) fun b3 H4=>alc H4 (.cells #[.slice (some ⟨b3,0,none⟩) 4 4,.slice da2p da2l da2c] 22) fun b5 H6=>Tryz.C 48 #[.slice (some ⟨b5,0,none⟩) 2 2] H6 fun r7 H8=> ∃r9p r9l r9c,r7= .slice r9p r9l r9c∧R (.slice r9p r9l r9c) H8
def Tryz.p17:Plan:=(tl (tl (tl leaf)))
theorem Tryz.s17{ma1:Int}{da2p:OA}{da2l da2c:Nat}{H R}(h:Tryz.S17 ma1 da2p da2l da2c H R):Tryz.C 17 #[.int .u8 ma1,.slice da2p da2l da2c] H R:=vcs Tryz.tab_ok Tryz.mixed Tryz.func17 Tryz.cal17 Tryz.p17 h (by kernel_rfl)
def Tryz.S18(w1 h2:Int)(ha3:Bool)(bl4p:OA)(bl4l bl4c:Nat)(H:Heap)(R:Kv):Prop:=
 alc H (.cells #[.int .i64 0,.int .i64 0,.int .i64 0] 73) fun b5 H6=>Tryz.C 15 #[] H6 fun r7 H8=> ∃r9,r7= .agg r9∧alc H8 (.cells (Array.replicate 64 (Value.int .i64 0)) 48) fun b10 H11=>r9.size=64∧stAt H11 ⟨b10,0,none⟩ r9.toList fun H12=>Tryz.C 35 #[.int .i64 w1,.int .i64 h2,.bool ha3] H12 fun r13 H14=> ∃r15p r15l r15c,r13= .slice r15p r15l r15c∧ ∀X16:Kl,(∀(ou17p:OA) (ou17l ou17c:Nat) (k18:Int) H19,(br (decide (k18<(r15l:Int)))
 (∃a20,r15p=some a20∧0≤k18∧k18<(r15l:Int)∧ ∃v21,v21.size=3∧rowIn H19 (.add a20 (toNat k18*3)) v21∧alc H19 (.cells #[.int .i64 0,.int .i64 0,.int .i64 0] 112) fun b22 H23=>v21.size=3∧stAt H23 ⟨b22,0,none⟩ v21.toList fun H24=> ∃a25,bl4p=some a25∧0≤k18∧k18<(bl4l:Int)∧ ∃v26,v26.size=64∧rowIn H24 (.add a25 (toNat k18*64)) v26∧ ∃pa27,cell H24 (.add ⟨b22,0,none⟩ 0)=some (.int .i64 pa27)∧alc H24 (.cells (Array.replicate 64 (Value.int .i64 0)) 48) fun b28 H29=>(Ext H24 H29∨(Value.int .i64 (min pa27 1)= .int .i64 (min pa27 1))∧(∃pa75,cell H29 (.add ⟨b22,0,none⟩ 0)=some (.int .i64 pa75)∧Value.int .i64 pa75= .int .i64 pa27)∧(∃v76,v76.size=64∧rowIn H29 (.add a25 (toNat k18*64)) v76∧Value.agg v76= .agg v26))∧v26.size=64∧stAt H29 ⟨b28,0,none⟩ v26.toList fun H30=>(Ext H29 H30∨(Value.int .i64 (min pa27 1)= .int .i64 (min pa27 1))∧(∃pa74,cell H30 (.add ⟨b22,0,none⟩ 0)=some (.int .i64 pa74)∧Value.int .i64 pa74= .int .i64 pa27))∧0≤(0:Int)∧(0:Int)<((64:Nat):Int)∧ ∃v31,cell H30 (.add ⟨b28,0,none⟩ (toNat (0:Int)*1))=some (.int .i64 v31)∧ ∃pa32,cell H30 (.add ⟨b22,0,none⟩ 0)=some (.int .i64 pa32)∧0≤pa32∧pa32<((3:Nat):Int)∧ ∃v33,cell H30 (.add ⟨b5,0,none⟩ (toNat pa32*1))=some (.int .i64 v33)∧Tryz.C 49 #[.int .i64 (wrap .i64 (v31-v33))] H30 fun r34 H35=> ∃r36 r37,r34= .tuple #[.int .i64 r36,.int .i64 r37]∧ ∃pa38,cell H35 (.add ⟨b22,0,none⟩ 0)=some (.int .i64 pa38)∧0≤(0:Int)∧(0:Int)<((64:Nat):Int)∧ ∃v39,cell H35 (.add ⟨b28,0,none⟩ (toNat (0:Int)*1))=some (.int .i64 v39)∧0≤pa38∧pa38<((3:Nat):Int)∧stAt H35 (.add ⟨b5,0,none⟩ (toNat pa38*1)) [.int .i64 v39] fun H40=>#[Value.int .i64 (min pa27 1),Value.int .i64 r36,Value.int .i64 r37,Value.int .i64 r36].size=4∧0+4≤4∧alc H40 (.cells (List.toArray (setL [.int .i64 0,.int .i64 0,.int .i64 0,.int .i64 0] 0 (Array.toList #[.int .i64 (min pa27 1),.int .i64 r36,.int .i64 r37,.int .i64 r36]))) 58) fun b41 H42=>appQ 4 32 #[.int .i64 0,.int .i64 0,.int .i64 0,.int .i64 0] H42 ou17p ou17l ou17c (some ⟨b41,0,none⟩) 1 58 fun ou43p ou43l ou43c H44=>0≤(1:Int)∧(1:Int)≤((64:Nat):Int)∧ ∀X45:Kl,(∀(ou46p:OA) (ou46l ou46c:Nat) (no47 t48:Int) H49,(br (decide (t48<(((64-(toNat 1)):Nat):Int)))
 (∃a50,(some (if 64=(toNat 1) then⟨b10,0,none⟩ else Addr.add ⟨b10,0,none⟩ ((toNat 1)*1)))=some a50∧0≤t48∧t48<(((64-(toNat 1)):Nat):Int)∧ ∃at_51,cell H49 (.add a50 (toNat t48*1))=some (.int .i64 at_51)∧0≤at_51∧at_51<((64:Nat):Int)∧ ∃v52,cell H49 (.add ⟨b28,0,none⟩ (toNat at_51*1))=some (.int .i64 v52)∧br (v52==0)
 (X45 [.slice ou46p ou46l ou46c,.int .i64 (wrap .i64 (no47+1)),.int .i64 (wrap .i64 (t48+1))] H49)
 (∀X53:Kl,(∀(ou54p:OA) (ou54l ou54c:Nat) (no55:Int) H56,(br (decide (no55>15))
 (#[Value.int .i64 (wrap .i64 ((min pa27 1)+2)),Value.int .i64 240,Value.int .i64 0,Value.int .i64 0].size=4∧0+4≤4∧alc H56 (.cells (List.toArray (setL [.int .i64 0,.int .i64 0,.int .i64 0,.int .i64 0] 0 (Array.toList #[.int .i64 (wrap .i64 ((min pa27 1)+2)),.int .i64 240,.int .i64 0,.int .i64 0]))) 58) fun b57 H58=>appQ 4 32 #[.int .i64 0,.int .i64 0,.int .i64 0,.int .i64 0] H58 ou54p ou54l ou54c (some ⟨b57,0,none⟩) 1 58 fun ou59p ou59l ou59c H60=>X53 [.slice ou59p ou59l ou59c,.int .i64 (wrap .i64 (no55-16))] H60)
 (0≤at_51∧at_51<((64:Nat):Int)∧ ∃v61,cell H56 (.add ⟨b28,0,none⟩ (toNat at_51*1))=some (.int .i64 v61)∧Tryz.C 49 #[.int .i64 v61] H56 fun r62 H63=> ∃r64 r65,r62= .tuple #[.int .i64 r64,.int .i64 r65]∧#[Value.int .i64 (wrap .i64 ((min pa27 1)+2)),Value.int .i64 (wrap .i64 ((wrap .i64 ((16:Int)*no55))+r64)),Value.int .i64 r65,Value.int .i64 r64].size=4∧0+4≤4∧alc H63 (.cells (List.toArray (setL [.int .i64 0,.int .i64 0,.int .i64 0,.int .i64 0] 0 (Array.toList #[.int .i64 (wrap .i64 ((min pa27 1)+2)),.int .i64 (wrap .i64 ((wrap .i64 ((16:Int)*no55))+r64)),.int .i64 r65,.int .i64 r64]))) 58) fun b66 H67=>appQ 4 32 #[.int .i64 0,.int .i64 0,.int .i64 0,.int .i64 0] H67 ou54p ou54l ou54c (some ⟨b66,0,none⟩) 1 58 fun ou68p ou68l ou68c H69=>X45 [.slice ou68p ou68l ou68c,.int .i64 0,.int .i64 (wrap .i64 (t48+1))] H69))→X53 [.slice ou54p ou54l ou54c,.int .i64 no55] H56)→X53 [.slice ou46p ou46l ou46c,.int .i64 no47] H49))
 (br (decide (no47>0))
 (#[Value.int .i64 (wrap .i64 ((min pa27 1)+2)),Value.int .i64 0,Value.int .i64 0,Value.int .i64 0].size=4∧0+4≤4∧alc H49 (.cells (List.toArray (setL [.int .i64 0,.int .i64 0,.int .i64 0,.int .i64 0] 0 (Array.toList #[.int .i64 (wrap .i64 ((min pa27 1)+2)),.int .i64 0,.int .i64 0,.int .i64 0]))) 58) fun b70 H71=>appQ 4 32 #[.int .i64 0,.int .i64 0,.int .i64 0,.int .i64 0] H71 ou46p ou46l ou46c (some ⟨b70,0,none⟩) 1 58 fun ou72p ou72l ou72c H73=>X16 [.slice ou72p ou72l ou72c,.int .i64 (wrap .i64 (k18+1))] H73)
 (X16 [.slice ou46p ou46l ou46c,.int .i64 (wrap .i64 (k18+1))] H49)))→X45 [.slice ou46p ou46l ou46c,.int .i64 no47,.int .i64 t48] H49)→X45 [.slice ou43p ou43l ou43c,.int .i64 0,.int .i64 0] H44)
 (R (.slice ou17p ou17l ou17c) H19))→X16 [.slice ou17p ou17l ou17c,.int .i64 k18] H19)→X16 [.slice none 0 0,.int .i64 0] H14
def Tryz.p18:Plan:=(tl (tl (tl (tl (two (tl (one (loop [(9,53),(29,3)] [3,10,11,27,28] (tl (two (tl leaf) (two (one (tl (tl (tl (tl (tl (tl (two (tl (one (loop [(9,53),(18,3),(67,3)] [3,10,11,14,15,27,28,29,65,66] (tl (two (tl leaf) (two (one (tl (tg (two (one (loop [(9,53),(18,3)] [3,10,11,14,15,20,27,28,29,65,66,67] (two (tl (tl leaf)) (two (one leaf) leaf)))) (tl (tl leaf)))))) leaf)))))) (tl (tl leaf)))))))))) leaf)))))) (tl leaf))))))
theorem Tryz.s18{w1 h2:Int}{ha3:Bool}{bl4p:OA}{bl4l bl4c:Nat}{H R}(h:Tryz.S18 w1 h2 ha3 bl4p bl4l bl4c H R):Tryz.C 18 #[.int .i64 w1,.int .i64 h2,.bool ha3,.slice bl4p bl4l bl4c] H R:=vcs Tryz.tab_ok Tryz.mixed Tryz.func18 Tryz.cal18 Tryz.p18 h (by kernel_rfl)
def Tryz.S19(co1p:OA)(co1l co1c:Nat)(H:Heap)(R:Kv):Prop:=
 ∀X2:Kl,(∀(i3:Int) H4,(br (decide (i3<(co1l:Int)))
 (∃a5,co1p=some a5∧0≤i3∧i3<(co1l:Int)∧ ∃v6,cell H4 (.add a5 (toNat i3*1))=some (.int .i64 v6)∧ ∃a7,co1p=some a7∧0≤i3∧i3<(co1l:Int)∧stAt H4 (.add a7 (toNat i3*1)) [.int .i64 (wrap .i64 (v6*2))] fun H8=>X2 [.int .i64 (wrap .i64 (i3+1))] H8)
 (Tryz.C 51 #[.slice co1p co1l co1c] H4 fun r9 H10=> ∃r11p r11l r11c,r9= .slice r11p r11l r11c∧alc H10 (.cells #[.int .i64 1] 3) fun b12 H13=>appQ 1 8 #[.int .i64 0] H13 r11p r11l r11c (some ⟨b12,0,none⟩) 1 3 fun ap14p ap14l ap14c H15=>Tryz.C 50 #[.slice ap14p ap14l ap14c,.int .i64 16] H15 fun r16 H17=> ∃r18p r18l r18c r19,r16= .tuple #[.slice r18p r18l r18c,.bool r19]∧0≤(256:Int)∧(256:Int)≤(r18c:Int)∧ ∀X20:Kl,(∀(lo21 s22:Int) H23,(br (decide (s22<((((toNat 256)-0):Nat):Int)))
 (∀J24:Kl,(∀(lo25:Int) H26,(X20 [.int .i64 lo25,.int .i64 (wrap .i64 (s22+1))] H26)→J24 [.int .i64 lo25] H26)→
 ∃a27,(if r18c=0 then r18p else Option.map (fun x=>Addr.add x (0*1)) r18p)=some a27∧0≤s22∧s22<((((toNat 256)-0):Nat):Int)∧ ∃l28,cell H23 (.add a27 (toNat s22*1))=some (.int .i64 l28)∧ ∃a29,co1p=some a29∧0≤s22∧s22<(co1l:Int)∧ ∃v30,cell H23 (.add a29 (toNat s22*1))=some (.int .i64 v30)∧br (decide (v30>0)) (∃a31,r18p=some a31∧0≤(256:Int)∧(256:Int)<(r18l:Int)∧ ∃v32,cell H23 (.add a31 (toNat (256:Int)*1))=some (.int .i64 v32)∧br (decide (l28≥v32))
 (J24 [.int .i64 (max lo21 l28)] H23)
 (J24 [.int .i64 lo21] H23)) (J24 [.int .i64 lo21] H23))
 (∃a33,r18p=some a33∧0≤(256:Int)∧(256:Int)<(r18l:Int)∧ ∃v34,cell H23 (.add a33 (toNat (256:Int)*1))=some (.int .i64 v34)∧ ∃a35,r18p=some a35∧0≤(256:Int)∧(256:Int)<(r18l:Int)∧stAt H23 (.add a35 (toNat (256:Int)*1)) [.int .i64 (max v34 lo21)] fun H36=>Tryz.C 52 #[.slice r18p r18l r18c] H36 fun r37 H38=> ∃r39p r39l r39c r40,r37= .tuple #[.slice r39p r39l r39c,.bool r40]∧0≤(256:Int)∧(256:Int)≤(r18c:Int)∧0≤(256:Int)∧(256:Int)≤(r39c:Int)∧0≤(16:Int)∧(16:Int)≤(16:Int)∧((1:Nat):Int)*(16:Int)≤281474976710656∧(16:Int)≤281474976710656∧alc H38 (.cells (List.toArray (reps (toNat 16) (Array.toList #[.int .u8 0]))) 5) fun b41 H42=> ∀X43:Kl,(∀(da44p:OA) (da44l da44c:Nat) (n45:Int) H46,(br (decide (n45≤16))
 (∀X47:Kl,(∀(da48p:OA) (da48l da48c:Nat) (s49:Int) H50,(br (decide (s49<((((toNat 256)-0):Nat):Int)))
 (∃a51,(if r18c=0 then r18p else Option.map (fun x=>Addr.add x (0*1)) r18p)=some a51∧0≤s49∧s49<((((toNat 256)-0):Nat):Int)∧ ∃l52,cell H50 (.add a51 (toNat s49*1))=some (.int .i64 l52)∧br (l52==n45)
 (∃a53,da48p=some a53∧0≤(wrap .i64 (n45-1))∧(wrap .i64 (n45-1))<(da48l:Int)∧ ∃v54,cell H50 (.add a53 (toNat (wrap .i64 (n45-1))*1))=some (.int .u8 v54)∧ ∃a55,da48p=some a55∧0≤(wrap .i64 (n45-1))∧(wrap .i64 (n45-1))<(da48l:Int)∧stAt H50 (.add a55 (toNat (wrap .i64 (n45-1))*1)) [.int .u8 (wrap .u8 (v54+1))] fun H56=>alc H56 (.cells #[.int .u8 (wrap .u8 s49)] 5) fun b57 H58=>appQ 1 1 #[.int .u8 0] H58 da48p da48l da48c (some ⟨b57,0,none⟩) 1 5 fun da59p da59l da59c H60=>X47 [.slice da59p da59l da59c,.int .i64 (wrap .i64 (s49+1))] H60)
 (X47 [.slice da48p da48l da48c,.int .i64 (wrap .i64 (s49+1))] H50))
 (X43 [.slice da48p da48l da48c,.int .i64 (wrap .i64 (n45+1))] H50))→X47 [.slice da48p da48l da48c,.int .i64 s49] H50)→X47 [.slice da44p da44l da44c,.int .i64 0] H46)
 (R (.tuple #[.slice da44p da44l da44c,.slice (if r18c=0 then r18p else Option.map (fun x=>Addr.add x (0*1)) r18p) ((toNat 256)-0) (r18c-0),.slice (if r39c=0 then r39p else Option.map (fun x=>Addr.add x (0*1)) r39p) ((toNat 256)-0) (r39c-0)]) H46))→X43 [.slice da44p da44l da44c,.int .i64 n45] H46)→X43 [.slice (some ⟨b41,0,none⟩) (toNat 16) (toNat 16),.int .i64 1] H42))→X20 [.int .i64 lo21,.int .i64 s22] H23)→X20 [.int .i64 0,.int .i64 0] H17))→X2 [.int .i64 i3] H4)→X2 [.int .i64 0] H
def Tryz.p19:Plan:=(tl (two (tl (one (loop [(14,3)] [0,13] (tl (two (tl leaf) (two (one (tl leaf)) leaf)))))) (tl (tl (two (tl (one (loop [(6,3),(35,3)] [0,3,33,34] (tl (two (tl leaf) (two (join [(6,3)] [0,3,33,34,35] (one (tl (tl (tl leaf))))) leaf)))))) (tl (tl (tl (tl (two (tl (one (loop [(2,22),(9,3)] [3,4] (two (tl (tl leaf)) (two (one (tl (one (loop [(2,22),(79,3)] [3,4,9,77,78] (tl (two (tl leaf) (two (one (tl g0)) leaf))))))) leaf))))) (tl leaf)))))))))))
theorem Tryz.s19{co1p:OA}{co1l co1c:Nat}{H R}(h:Tryz.S19 co1p co1l co1c H R):Tryz.C 19 #[.slice co1p co1l co1c] H R:=vcs Tryz.tab_ok Tryz.mixed Tryz.func19 Tryz.cal19 Tryz.p19 h (by kernel_rfl)
def Tryz.S20(hi1:Bool)(H:Heap)(R:Kv):Prop:=
 alc H (.cells #[.slice none 0 0,.int .i64 0,.bool hi1] 131) fun b2 H3=>R (.pointer (some ⟨b2,0,none⟩)) H3
def Tryz.p20:Plan:=(tl (tl leaf))
theorem Tryz.s20{hi1:Bool}{H R}(h:Tryz.S20 hi1 H R):Tryz.C 20 #[.bool hi1] H R:=vcs Tryz.tab_ok Tryz.mixed Tryz.func20 Tryz.cal20 Tryz.p20 h (by kernel_rfl)
def Tryz.S21(w1:OA)(v2 n3:Int)(H:Heap)(R:Kv):Prop:=
 ∀J4:Kl,(∀H5,(∀X6:Kl,(∀(k7:Int) H8,(br (decide (k7<n3))
 (∀J9:Kl,(∀(k10:Int) H11,(0≤k10∧Tryz.C 53 #[.pointer w1,.int .i64 (shrI .i64 v2 k10)] H11 fun r12 H13=>r12= .tuple #[]∧X6 [.int .i64 (wrap .i64 (k7+1))] H13)→J9 [.int .i64 k10] H11)→
 ∃a14,w1=some a14∧ ∃hi15,cell H8 (.add a14 2)=some (.bool hi15)∧br hi15
 (J9 [.int .i64 (wrap .i64 ((wrap .i64 (n3-1))-k7))] H8)
 (J9 [.int .i64 k7] H8))
 (R (.bool true) H8))→X6 [.int .i64 k7] H8)→X6 [.int .i64 0] H5)→J4 [] H5)→
 br (decide (n3<0)) (R (.bool false) H) (br (decide (n3>24)) (R (.bool false) H) (br (decide (v2<0)) (R (.bool false) H) (0≤n3∧br (decide (v2≥(shlI .i64 1 n3)))
 (R (.bool false) H)
 (J4 [] H))))
def Tryz.p21:Plan:=(tl (two (join [] [0,1,2] g0) (two (tl (one (loop [(25,3)] [0,1,2,24] (tl (two (tl leaf) (two (one (tl (two (join [(7,3)] [0,1,2,24,25] (tl (tl leaf))) leaf))) leaf)))))) (tl leaf))))
theorem Tryz.s21{w1:OA}{v2 n3:Int}{H R}(h:Tryz.S21 w1 v2 n3 H R):Tryz.C 21 #[.pointer w1,.int .i64 v2,.int .i64 n3] H R:=vcs Tryz.tab_ok Tryz.mixed Tryz.func21 Tryz.cal21 Tryz.p21 h (by kernel_rfl)
def Tryz.S22(w1:OA)(v2:Int)(H:Heap)(R:Kv):Prop:=
 ∀X3:Kl,(∀H4,(∃a5,w1=some a5∧ ∃n6,cell H4 (.add a5 1)=some (.int .i64 n6)∧(8:Int)≠0∧br (((Int.tmod n6 8):Int) != 0)
 (Tryz.C 53 #[.pointer w1,.int .i64 v2] H4 fun r7 H8=>r7= .tuple #[]∧X3 [] H8)
 (R (.tuple #[]) H4))→X3 [] H4)→X3 [] H
def Tryz.p22:Plan:=(one (loop [] [0,1] (two (tl (tl leaf)) (one leaf))))
theorem Tryz.s22{w1:OA}{v2:Int}{H R}(h:Tryz.S22 w1 v2 H R):Tryz.C 22 #[.pointer w1,.int .i64 v2] H R:=vcs Tryz.tab_ok Tryz.mixed Tryz.func22 Tryz.cal22 Tryz.p22 h (by kernel_rfl)
def Tryz.S23(w1:OA)(H:Heap)(R:Kv):Prop:=
 ∃a2,w1=some a2∧ ∃b3p b3l b3c,cell H (.add a2 0)=some (.slice b3p b3l b3c)∧Tryz.C 54 #[.slice b3p b3l b3c] H fun r4 H5=> ∃r6p r6l r6c,r4= .slice r6p r6l r6c∧R (.slice r6p r6l r6c) H5
def Tryz.p23:Plan:=(tl (tl leaf))
theorem Tryz.s23{w1:OA}{H R}(h:Tryz.S23 w1 H R):Tryz.C 23 #[.pointer w1] H R:=vcs Tryz.tab_ok Tryz.mixed Tryz.func23 Tryz.cal23 Tryz.p23 h (by kernel_rfl)
def Tryz.S24(qu1:Int)(di2:Bool)(H:Heap)(R:Kv):Prop:=
 alc H (.cells (Array.replicate 64 (Value.int .i64 0)) 48) fun b3 H4=>alc H4 (.cells (Array.replicate 64 (Value.int .i64 0)) 48) fun b5 H6=>#[Value.int .i64 16,Value.int .i64 11,Value.int .i64 10,Value.int .i64 16,Value.int .i64 24,Value.int .i64 40,Value.int .i64 51,Value.int .i64 61,Value.int .i64 12,Value.int .i64 12,Value.int .i64 14,Value.int .i64 19,Value.int .i64 26,Value.int .i64 58,Value.int .i64 60,Value.int .i64 55,Value.int .i64 14,Value.int .i64 13,Value.int .i64 16,Value.int .i64 24,Value.int .i64 40,Value.int .i64 57,Value.int .i64 69,Value.int .i64 56,Value.int .i64 14,Value.int .i64 17,Value.int .i64 22,Value.int .i64 29,Value.int .i64 51,Value.int .i64 87,Value.int .i64 80,Value.int .i64 62,Value.int .i64 18,Value.int .i64 22,Value.int .i64 37,Value.int .i64 56,Value.int .i64 68,Value.int .i64 109,Value.int .i64 103,Value.int .i64 77,Value.int .i64 24,Value.int .i64 35,Value.int .i64 55,Value.int .i64 64,Value.int .i64 81,Value.int .i64 104,Value.int .i64 113,Value.int .i64 92,Value.int .i64 49,Value.int .i64 64,Value.int .i64 78,Value.int .i64 87,Value.int .i64 103,Value.int .i64 121,Value.int .i64 120,Value.int .i64 101,Value.int .i64 72,Value.int .i64 92,Value.int .i64 95,Value.int .i64 98,Value.int .i64 112,Value.int .i64 100,Value.int .i64 103,Value.int .i64 99].size=64∧stAt H6 ⟨b5,0,none⟩ (Array.toList #[.int .i64 16,.int .i64 11,.int .i64 10,.int .i64 16,.int .i64 24,.int .i64 40,.int .i64 51,.int .i64 61,.int .i64 12,.int .i64 12,.int .i64 14,.int .i64 19,.int .i64 26,.int .i64 58,.int .i64 60,.int .i64 55,.int .i64 14,.int .i64 13,.int .i64 16,.int .i64 24,.int .i64 40,.int .i64 57,.int .i64 69,.int .i64 56,.int .i64 14,.int .i64 17,.int .i64 22,.int .i64 29,.int .i64 51,.int .i64 87,.int .i64 80,.int .i64 62,.int .i64 18,.int .i64 22,.int .i64 37,.int .i64 56,.int .i64 68,.int .i64 109,.int .i64 103,.int .i64 77,.int .i64 24,.int .i64 35,.int .i64 55,.int .i64 64,.int .i64 81,.int .i64 104,.int .i64 113,.int .i64 92,.int .i64 49,.int .i64 64,.int .i64 78,.int .i64 87,.int .i64 103,.int .i64 121,.int .i64 120,.int .i64 101,.int .i64 72,.int .i64 92,.int .i64 95,.int .i64 98,.int .i64 112,.int .i64 100,.int .i64 103,.int .i64 99]) fun H7=> ∀J8:Kl,(∀H9,(alc H9 (.cells (Array.replicate 64 (Value.int .i64 0)) 48) fun b10 H11=> ∀J12:Kl,(∀H13,(qu1≠0∧ ∀J14:Kl,(∀(s15:Int) H16,(∀X17:Kl,(∀(i18:Int) H19,(br (decide (i18<64))
 (0≤i18∧i18<((64:Nat):Int)∧ ∃v20,cell H19 (.add ⟨b5,0,none⟩ (toNat i18*1))=some (.int .i64 v20)∧(100:Int)≠0∧0≤i18∧i18<((64:Nat):Int)∧stAt H19 (.add ⟨b10,0,none⟩ (toNat i18*1)) [.int .i64 (wrap .i64 (Int.tdiv (wrap .i64 ((wrap .i64 (v20*s15))+50)) 100))] fun H21=> ∀J22:Kl,(∀H23,(0≤i18∧i18<((64:Nat):Int)∧ ∃v24,cell H23 (.add ⟨b10,0,none⟩ (toNat i18*1))=some (.int .i64 v24)∧br (decide (v24>255))
 (0≤i18∧i18<((64:Nat):Int)∧stAt H23 (.add ⟨b10,0,none⟩ (toNat i18*1)) [.int .i64 255] fun H25=>X17 [.int .i64 (wrap .i64 (i18+1))] H25)
 (X17 [.int .i64 (wrap .i64 (i18+1))] H23))→J22 [] H23)→
 0≤i18∧i18<((64:Nat):Int)∧ ∃v26,cell H21 (.add ⟨b10,0,none⟩ (toNat i18*1))=some (.int .i64 v26)∧br (decide (v26<1))
 (0≤i18∧i18<((64:Nat):Int)∧stAt H21 (.add ⟨b10,0,none⟩ (toNat i18*1)) [.int .i64 1] fun H27=>J22 [] H27)
 (J22 [] H21))
 (∃v28,v28.size=64∧rowIn H19 ⟨b10,0,none⟩ v28∧v28.size=64∧stAt H19 ⟨b3,0,none⟩ v28.toList fun H29=> ∃re30,re30.size=64∧rowIn H29 ⟨b3,0,none⟩ re30∧R (.tuple #[.agg re30,.bool true]) H29))→X17 [.int .i64 i18] H19)→X17 [.int .i64 0] H16)→J14 [.int .i64 s15] H16)→
 br (decide (qu1≥50))
 (J14 [.int .i64 (wrap .i64 ((200:Int)-(wrap .i64 ((2:Int)*qu1))))] H13)
 (J14 [.int .i64 (wrap .i64 (Int.tdiv 5000 qu1))] H13))→J12 [] H13)→
 br (decide (qu1<1)) (∃v31,v31.size=64∧rowIn H11 ⟨b10,0,none⟩ v31∧v31.size=64∧stAt H11 ⟨b3,0,none⟩ v31.toList fun H32=> ∃re33,re33.size=64∧rowIn H32 ⟨b3,0,none⟩ re33∧R (.tuple #[.agg re33,.bool false]) H32) (br (decide (qu1>100))
 (∃v34,v34.size=64∧rowIn H11 ⟨b10,0,none⟩ v34∧v34.size=64∧stAt H11 ⟨b3,0,none⟩ v34.toList fun H35=> ∃re36,re36.size=64∧rowIn H35 ⟨b3,0,none⟩ re36∧R (.tuple #[.agg re36,.bool false]) H35)
 (J12 [] H11)))→J8 [] H9)→
 br di2
 (alc H7 (.cells #[.int .i64 0,.int .i64 0,.int .i64 0,.int .i64 0,.int .i64 0,.int .i64 0,.int .i64 0,.int .i64 0,.int .i64 0,.int .i64 0,.int .i64 0,.int .i64 0,.int .i64 0,.int .i64 0,.int .i64 0,.int .i64 0] 133) fun b37 H38=>#[Value.int .i64 17,Value.int .i64 18,Value.int .i64 24,Value.int .i64 47,Value.int .i64 18,Value.int .i64 21,Value.int .i64 26,Value.int .i64 66,Value.int .i64 24,Value.int .i64 26,Value.int .i64 56,Value.int .i64 99,Value.int .i64 47,Value.int .i64 66,Value.int .i64 99,Value.int .i64 99].size=16∧stAt H38 ⟨b37,0,none⟩ (Array.toList #[.int .i64 17,.int .i64 18,.int .i64 24,.int .i64 47,.int .i64 18,.int .i64 21,.int .i64 26,.int .i64 66,.int .i64 24,.int .i64 26,.int .i64 56,.int .i64 99,.int .i64 47,.int .i64 66,.int .i64 99,.int .i64 99]) fun H39=> ∀X40:Kl,(∀(i41:Int) H42,(br (decide (i41<64))
 (∀J43:Kl,(∀H44,(X40 [.int .i64 (wrap .i64 (i41+1))] H44)→J43 [] H44)→
 0≤i41∧i41<((64:Nat):Int)∧stAt H42 (.add ⟨b5,0,none⟩ (toNat i41*1)) [.int .i64 99] fun H45=>(8:Int)≠0∧br (decide (((Int.tmod i41 8):Int)<4)) ((8:Int)≠0∧br (decide (((wrap .i64 (Int.tdiv i41 8)):Int)<4))
 ((8:Int)≠0∧(8:Int)≠0∧0≤(wrap .i64 ((wrap .i64 ((wrap .i64 (Int.tdiv i41 8))*4))+(Int.tmod i41 8)))∧(wrap .i64 ((wrap .i64 ((wrap .i64 (Int.tdiv i41 8))*4))+(Int.tmod i41 8)))<((16:Nat):Int)∧ ∃v46,cell H45 (.add ⟨b37,0,none⟩ (toNat (wrap .i64 ((wrap .i64 ((wrap .i64 (Int.tdiv i41 8))*4))+(Int.tmod i41 8)))*1))=some (.int .i64 v46)∧0≤i41∧i41<((64:Nat):Int)∧stAt H45 (.add ⟨b5,0,none⟩ (toNat i41*1)) [.int .i64 v46] fun H47=>J43 [] H47)
 (J43 [] H45)) (J43 [] H45))
 (J8 [] H42))→X40 [.int .i64 i41] H42)→X40 [.int .i64 0] H39)
 (J8 [] H7)
def Tryz.p24:Plan:=(tl (tl (two (join [] [0,4,6] (tl (two (tl (tl (one (loop [(8,3)] [0,4,6,7] (two (tl (tl leaf)) (two (join [] [0,4,6,7,8] (one (tl (tl (tl leaf))))) leaf)))))) leaf))) (tl (two (join [] [0,4,6,9] g0) (tl (two (join [(10,3)] [4,6,9] (tl (tl leaf))) (two (tl (one (loop [(11,3)] [4,6,9,10] (two (tl (tl leaf)) (two (one (tl (two (join [] [4,6,9,10,11] (tl (tl leaf))) (tl (tl leaf))))) leaf))))) (tl leaf)))))))))
theorem Tryz.s24{qu1:Int}{di2:Bool}{H R}(h:Tryz.S24 qu1 di2 H R):Tryz.C 24 #[.int .i64 qu1,.bool di2] H R:=vcs Tryz.tab_ok Tryz.mixed Tryz.func24 Tryz.cal24 Tryz.p24 h (by kernel_rfl)
def Tryz.S25(w1 h2:Int)(ha3:Bool)(H:Heap)(R:Kv):Prop:=
 ∀J4:Kl,(∀(n5:Int) H6,(∀X7:Kl,(∀(ou8p:OA) (ou8l ou8c:Nat) (y9:Int) H10,(br (decide (y9<h2))
 (∀X11:Kl,(∀(ou12p:OA) (ou12l ou12c:Nat) (x13:Int) H14,(br (decide (x13<w1))
 (∀X15:Kl,(∀(ou16p:OA) (ou16l ou16c:Nat) (k17:Int) H18,((64:Int)≠0∧br (decide (k17<(wrap .i64 (Int.tdiv (wrap .i64 (n5*n5)) 64))))
 ((2:Int)≠0∧(2:Int)≠0∧#[Value.int .i64 0,Value.int .i64 (wrap .i64 (x13+(wrap .i64 ((8:Int)*(Int.tmod k17 2))))),Value.int .i64 (wrap .i64 (y9+(wrap .i64 ((8:Int)*(wrap .i64 (Int.tdiv k17 2))))))].size=3∧0+3≤3∧alc H18 (.cells (List.toArray (setL [.int .i64 0,.int .i64 0,.int .i64 0] 0 (Array.toList #[.int .i64 0,.int .i64 (wrap .i64 (x13+(wrap .i64 ((8:Int)*(Int.tmod k17 2))))),.int .i64 (wrap .i64 (y9+(wrap .i64 ((8:Int)*(wrap .i64 (Int.tdiv k17 2))))))]))) 69) fun b19 H20=>appQ 3 24 #[.int .i64 0,.int .i64 0,.int .i64 0] H20 ou16p ou16l ou16c (some ⟨b19,0,none⟩) 1 69 fun ou21p ou21l ou21c H22=>X15 [.slice ou21p ou21l ou21c,.int .i64 (wrap .i64 (k17+1))] H22)
 (n5≠0∧n5≠0∧n5≠0∧n5≠0∧#[Value.int .i64 1,Value.int .i64 (wrap .i64 ((wrap .i64 (Int.tdiv x13 n5))*8)),Value.int .i64 (wrap .i64 ((wrap .i64 (Int.tdiv y9 n5))*8))].size=3∧0+3≤6∧#[Value.int .i64 2,Value.int .i64 (wrap .i64 ((wrap .i64 (Int.tdiv x13 n5))*8)),Value.int .i64 (wrap .i64 ((wrap .i64 (Int.tdiv y9 n5))*8))].size=3∧3+3≤6∧alc H18 (.cells (List.toArray (setL (setL [.int .i64 0,.int .i64 0,.int .i64 0,.int .i64 0,.int .i64 0,.int .i64 0] 0 (Array.toList #[.int .i64 1,.int .i64 (wrap .i64 ((wrap .i64 (Int.tdiv x13 n5))*8)),.int .i64 (wrap .i64 ((wrap .i64 (Int.tdiv y9 n5))*8))])) 3 (Array.toList #[.int .i64 2,.int .i64 (wrap .i64 ((wrap .i64 (Int.tdiv x13 n5))*8)),.int .i64 (wrap .i64 ((wrap .i64 (Int.tdiv y9 n5))*8))]))) 69) fun b23 H24=>appQ 3 24 #[.int .i64 0,.int .i64 0,.int .i64 0] H24 ou16p ou16l ou16c (some ⟨b23,0,none⟩) 2 69 fun ou25p ou25l ou25c H26=>X11 [.slice ou25p ou25l ou25c,.int .i64 (wrap .i64 (x13+n5))] H26))→X15 [.slice ou16p ou16l ou16c,.int .i64 k17] H18)→X15 [.slice ou12p ou12l ou12c,.int .i64 0] H14)
 (X7 [.slice ou12p ou12l ou12c,.int .i64 (wrap .i64 (y9+n5))] H14))→X11 [.slice ou12p ou12l ou12c,.int .i64 x13] H14)→X11 [.slice ou8p ou8l ou8c,.int .i64 0] H10)
 (R (.slice ou8p ou8l ou8c) H10))→X7 [.slice ou8p ou8l ou8c,.int .i64 y9] H10)→X7 [.slice none 0 0,.int .i64 0] H6)→J4 [.int .i64 n5] H6)→
 br ha3
 (J4 [.int .i64 16] H)
 (J4 [.int .i64 8] H)
def Tryz.p25:Plan:=(tl (tl (tl (two (join [(8,3)] [0,1,7] (tl (tl leaf))) (two (tl (one (loop [(7,65),(9,3)] [0,1,8] (two (tl (tl leaf)) (two (one (tl (one (loop [(7,65),(10,3)] [0,1,8,9] (two (tl (tl leaf)) (two (one (two (tl (one (loop [(7,65),(11,3)] [0,1,8,9,10] (two (tl (tl leaf)) (two (one leaf) leaf))))) leaf)) leaf)))))) leaf))))) (tl leaf))))))
theorem Tryz.s25{w1 h2:Int}{ha3:Bool}{H R}(h:Tryz.S25 w1 h2 ha3 H R):Tryz.C 25 #[.int .i64 w1,.int .i64 h2,.bool ha3] H R:=vcs Tryz.tab_ok Tryz.mixed Tryz.func25 Tryz.cal25 Tryz.p25 h (by kernel_rfl)
def Tryz.S26(p1:AV)(pa2 x3 y4:Int)(ha5:Bool)(H:Heap)(R:Kv):Prop:=
 alc H (.cells p1 32) fun b6 H7=> ∀J8:Kl,(∀H9,(∀J10:Kl,(∀(x11:Int) H12,(∀J13:Kl,(∀(y14:Int) H15,(∃v16,v16.size=3∧rowIn H15 ⟨b6,0,none⟩ v16∧ ∃v17,v17.size=3∧rowIn H15 ⟨b6,0,none⟩ v17∧ ∃v18,v18.size=3∧rowIn H15 ⟨b6,0,none⟩ v18∧ ∃v19,v19.size=3∧rowIn H15 ⟨b6,0,none⟩ v19∧Tryz.C 55 #[.agg v16,.int .i64 pa2,.int .i64 (wrap .i64 ((2:Int)*x11)),.int .i64 (wrap .i64 ((2:Int)*y14))] H15 fun r20 H21=> ∃r22,r20= .int .i64 r22∧(Ext H15 H21∨(∃v35,v35.size=3∧rowIn H21 ⟨b6,0,none⟩ v35∧Value.agg v35= .agg v19)∧(∃v36,v36.size=3∧rowIn H21 ⟨b6,0,none⟩ v36∧Value.agg v36= .agg v18)∧(∃v37,v37.size=3∧rowIn H21 ⟨b6,0,none⟩ v37∧Value.agg v37= .agg v17))∧Tryz.C 55 #[.agg v17,.int .i64 pa2,.int .i64 (wrap .i64 ((wrap .i64 ((2:Int)*x11))+1)),.int .i64 (wrap .i64 ((2:Int)*y14))] H21 fun r23 H24=> ∃r25,r23= .int .i64 r25∧(Ext H21 H24∨(∃v33,v33.size=3∧rowIn H24 ⟨b6,0,none⟩ v33∧Value.agg v33= .agg v19)∧(∃v34,v34.size=3∧rowIn H24 ⟨b6,0,none⟩ v34∧Value.agg v34= .agg v18))∧Tryz.C 55 #[.agg v18,.int .i64 pa2,.int .i64 (wrap .i64 ((2:Int)*x11)),.int .i64 (wrap .i64 ((wrap .i64 ((2:Int)*y14))+1))] H24 fun r26 H27=> ∃r28,r26= .int .i64 r28∧(Ext H24 H27∨(∃v32,v32.size=3∧rowIn H27 ⟨b6,0,none⟩ v32∧Value.agg v32= .agg v19))∧Tryz.C 55 #[.agg v19,.int .i64 pa2,.int .i64 (wrap .i64 ((wrap .i64 ((2:Int)*x11))+1)),.int .i64 (wrap .i64 ((wrap .i64 ((2:Int)*y14))+1))] H27 fun r29 H30=> ∃r31,r29= .int .i64 r31∧(4:Int)≠0∧R (.int .i64 (wrap .i64 (Int.tdiv (wrap .i64 ((wrap .i64 ((wrap .i64 ((wrap .i64 (r22+r25))+r28))+r31))+2)) 4))) H30)→J13 [.int .i64 y14] H15)→
 ∃H38,cell H12 (.add ⟨b6,0,none⟩ 1)=some (.int .i64 H38)∧(2:Int)≠0∧br (decide (y4>(wrap .i64 (Int.tdiv (wrap .i64 (H38-1)) 2))))
 (∃H39,cell H12 (.add ⟨b6,0,none⟩ 1)=some (.int .i64 H39)∧(2:Int)≠0∧J13 [.int .i64 (wrap .i64 (Int.tdiv (wrap .i64 (H39-1)) 2))] H12)
 (J13 [.int .i64 y4] H12))→J10 [.int .i64 x11] H12)→
 ∃W40,cell H9 (.add ⟨b6,0,none⟩ 0)=some (.int .i64 W40)∧(2:Int)≠0∧br (decide (x3>(wrap .i64 (Int.tdiv (wrap .i64 (W40-1)) 2))))
 (∃W41,cell H9 (.add ⟨b6,0,none⟩ 0)=some (.int .i64 W41)∧(2:Int)≠0∧J10 [.int .i64 (wrap .i64 (Int.tdiv (wrap .i64 (W41-1)) 2))] H9)
 (J10 [.int .i64 x3] H9))→J8 [] H9)→
 br (!ha5) (∃v42,v42.size=3∧rowIn H7 ⟨b6,0,none⟩ v42∧Tryz.C 55 #[.agg v42,.int .i64 pa2,.int .i64 x3,.int .i64 y4] H7 fun r43 H44=> ∃r45,r43= .int .i64 r45∧R (.int .i64 r45) H44) (br (pa2==0)
 (∃v46,v46.size=3∧rowIn H7 ⟨b6,0,none⟩ v46∧Tryz.C 55 #[.agg v46,.int .i64 pa2,.int .i64 x3,.int .i64 y4] H7 fun r47 H48=> ∃r49,r47= .int .i64 r49∧R (.int .i64 r49) H48)
 (J8 [] H7))
def Tryz.p26:Plan:=(tl (two (join [] [1,2,3,5] g0) (two (join [(2,3)] [1,3,5] (tl (tl leaf))) (two (join [(3,3)] [1,2,5] (tl (tl leaf))) (tl leaf)))))
theorem Tryz.s26{p1:AV}{pa2 x3 y4:Int}{ha5:Bool}{H R}(h:Tryz.S26 p1 pa2 x3 y4 ha5 H R):Tryz.C 26 #[.agg p1,.int .i64 pa2,.int .i64 x3,.int .i64 y4,.bool ha5] H R:=vcs Tryz.tab_ok Tryz.mixed Tryz.func26 Tryz.cal26 Tryz.p26 h (by kernel_rfl)
def Tryz.S27(s1:AV)(H:Heap)(R:Kv):Prop:=
 alc H (.cells s1 48) fun b2 H3=>alc H3 (.cells (Array.replicate 64 (Value.int .i64 0)) 48) fun b4 H5=>Tryz.C 56 #[] H5 fun r6 H7=> ∃r8,r6= .agg r8∧alc H7 (.cells (Array.replicate 64 (Value.int .i64 0)) 48) fun b9 H10=>r8.size=64∧stAt H10 ⟨b9,0,none⟩ r8.toList fun H11=>alc H11 (.cells (Array.replicate 64 (Value.int .i64 0)) 48) fun b12 H13=> ∀X14:Kl,(∀(v15:Int) H16,(br (decide (v15<8))
 (∀X17:Kl,(∀(u18:Int) H19,(br (decide (u18<8))
 (∀X20:Kl,(∀(su21 i22:Int) H23,(br (decide (i22<64))
 (0≤i22∧i22<((64:Nat):Int)∧ ∃v24,cell H23 (.add ⟨b2,0,none⟩ (toNat i22*1))=some (.int .i64 v24)∧(8:Int)≠0∧0≤(wrap .i64 ((wrap .i64 ((8:Int)*u18))+(Int.tmod i22 8)))∧(wrap .i64 ((wrap .i64 ((8:Int)*u18))+(Int.tmod i22 8)))<((64:Nat):Int)∧ ∃v25,cell H23 (.add ⟨b9,0,none⟩ (toNat (wrap .i64 ((wrap .i64 ((8:Int)*u18))+(Int.tmod i22 8)))*1))=some (.int .i64 v25)∧(8:Int)≠0∧0≤(wrap .i64 ((wrap .i64 ((8:Int)*v15))+(wrap .i64 (Int.tdiv i22 8))))∧(wrap .i64 ((wrap .i64 ((8:Int)*v15))+(wrap .i64 (Int.tdiv i22 8))))<((64:Nat):Int)∧ ∃v26,cell H23 (.add ⟨b9,0,none⟩ (toNat (wrap .i64 ((wrap .i64 ((8:Int)*v15))+(wrap .i64 (Int.tdiv i22 8))))*1))=some (.int .i64 v26)∧X20 [.int .i64 (wrap .i64 (su21+(wrap .i64 ((wrap .i64 (v24*v25))*v26)))),.int .i64 (wrap .i64 (i22+1))] H23)
 (Tryz.C 57 #[.int .i64 su21,.int .i64 67108864] H23 fun r27 H28=> ∃r29,r27= .int .i64 r29∧0≤(wrap .i64 ((wrap .i64 ((8:Int)*v15))+u18))∧(wrap .i64 ((wrap .i64 ((8:Int)*v15))+u18))<((64:Nat):Int)∧stAt H28 (.add ⟨b12,0,none⟩ (toNat (wrap .i64 ((wrap .i64 ((8:Int)*v15))+u18))*1)) [.int .i64 r29] fun H30=>X17 [.int .i64 (wrap .i64 (u18+1))] H30))→X20 [.int .i64 su21,.int .i64 i22] H23)→X20 [.int .i64 33554432,.int .i64 0] H19)
 (X14 [.int .i64 (wrap .i64 (v15+1))] H19))→X17 [.int .i64 u18] H19)→X17 [.int .i64 0] H16)
 (∃v31,v31.size=64∧rowIn H16 ⟨b12,0,none⟩ v31∧v31.size=64∧stAt H16 ⟨b4,0,none⟩ v31.toList fun H32=> ∃re33,re33.size=64∧rowIn H32 ⟨b4,0,none⟩ re33∧R (.agg re33) H32))→X14 [.int .i64 v15] H16)→X14 [.int .i64 0] H13
def Tryz.p27:Plan:=(tl (tl (tl (two (tl (one (loop [(5,3)] [1,2,3,4] (two (tl (tl leaf)) (two (one (tl (one (loop [(6,3)] [1,2,3,4,5] (two (tl (tl leaf)) (two (one (tl (two (tl (one (loop [(7,3),(8,3)] [1,2,3,4,5,6] (two (tl (tl leaf)) (two (one leaf) leaf))))) leaf))) leaf)))))) leaf))))) (tl leaf)))))
theorem Tryz.s27{s1:AV}{H R}(h:Tryz.S27 s1 H R):Tryz.C 27 #[.agg s1] H R:=vcs Tryz.tab_ok Tryz.mixed Tryz.func27 Tryz.cal27 Tryz.p27 h (by kernel_rfl)
def Tryz.S28(f1 t2:Int)(H:Heap)(R:Kv):Prop:=
 br (decide (f1<0))
 ((2:Int)≠0∧t2≠0∧R (.int .i64 (wrap .i64 (0-(wrap .i64 (Int.tdiv (wrap .i64 ((wrap .i64 (Int.tdiv t2 2))-f1)) t2))))) H)
 ((2:Int)≠0∧t2≠0∧R (.int .i64 (wrap .i64 (Int.tdiv (wrap .i64 (f1+(wrap .i64 (Int.tdiv t2 2)))) t2))) H)
def Tryz.p28:Plan:=(tl (tg (tl leaf)))
theorem Tryz.s28{f1 t2:Int}{H R}(h:Tryz.S28 f1 t2 H R):Tryz.C 28 #[.int .i64 f1,.int .i64 t2] H R:=vcs Tryz.tab_ok Tryz.mixed Tryz.func28 Tryz.cal28 Tryz.p28 h (by kernel_rfl)
end Go.Proofs
namespace Go.Proofs
open Go.Sh Go.Sh.Plan
open Go.IntKind (wrap)
open Int (toNat)
def Tryz.S29(r1:OA)(H:Heap)(R:Kv):Prop:=
 alc H (.cells #[.int .i64 0,.int .i64 0,.int .i64 0,.int .i64 0,.int .i64 0,.int .i64 0] 81) fun b2 H3=>alc H3 (.cells #[.int .i64 0,.int .i64 0,.int .i64 0,.int .i64 0,.int .i64 0,.int .i64 0] 81) fun b4 H5=> ∀X6:Kl,(∀H7,(∀J8:Kl,(∀H9,(∃a10,r1=some a10∧ ∃B11p B11l B11c,cell H9 (.add a10 0)=some (.slice B11p B11l B11c)∧ ∃a12,B11p=some a12∧0≤(1:Int)∧(1:Int)<(B11l:Int)∧ ∃ma13,cell H9 (.add a12 (toNat (1:Int)*1))=some (.int .u8 ma13)∧ ∃a14,r1=some a14∧ ∃B15p B15l B15c,cell H9 (.add a14 0)=some (.slice B15p B15l B15c)∧0≤(4:Int)∧(4:Int)≤(B15c:Int)∧0≤(2:Int)∧(2:Int)≤(4:Int)∧Tryz.C 40 #[.slice (if B15c=(toNat 2) then B15p else Option.map (fun x=>Addr.add x ((toNat 2)*1)) B15p) ((toNat 4)-(toNat 2)) (B15c-(toNat 2))] H9 fun r16 H17=> ∃n18,r16= .int .i64 n18∧ ∀J19:Kl,(∀H20,(∃a21,r1=some a21∧ ∃B22p B22l B22c,cell H20 (.add a21 0)=some (.slice B22p B22l B22c)∧0≤(wrap .i64 ((2:Int)+n18))∧(wrap .i64 ((2:Int)+n18))≤(B22c:Int)∧0≤(4:Int)∧(4:Int)≤(wrap .i64 ((2:Int)+n18))∧ ∃a23,r1=some a23∧ ∃B24p B24l B24c,cell H20 (.add a23 0)=some (.slice B24p B24l B24c)∧0≤(wrap .i64 ((2:Int)+n18))∧(wrap .i64 ((2:Int)+n18))≤(B24l:Int)∧ ∃a25,r1=some a25∧stAt H20 (.add a25 0) [.slice (if B24c=(toNat (wrap .i64 ((2:Int)+n18))) then B24p else Option.map (fun x=>Addr.add x ((toNat (wrap .i64 ((2:Int)+n18)))*1)) B24p) (B24l-(toNat (wrap .i64 ((2:Int)+n18)))) (B24c-(toNat (wrap .i64 ((2:Int)+n18))))] fun H26=> ∀J27:Kl,(∀(ok28:Bool) H29,(∀J30:Kl,(∀(ok31:Bool) H32,(br (!ok31)
 (∃v33,v33.size=6∧rowIn H32 ⟨b4,0,none⟩ v33∧v33.size=6∧stAt H32 ⟨b2,0,none⟩ v33.toList fun H34=> ∃re35,re35.size=6∧rowIn H34 ⟨b2,0,none⟩ re35∧R (.tuple #[.agg re35,.bool false]) H34)
 (X6 [] H32))→J30 [.bool ok31] H32)→
 br (ma13==219)
 (Tryz.C 58 #[.pointer r1,.slice (if B22c=(toNat 4) then B22p else Option.map (fun x=>Addr.add x ((toNat 4)*1)) B22p) ((toNat (wrap .i64 ((2:Int)+n18)))-(toNat 4)) (B22c-(toNat 4))] H29 fun r36 H37=> ∃ok38,r36= .bool ok38∧J30 [.bool ok38] H37)
 (br (ma13==192)
 (Tryz.C 59 #[.pointer r1,.slice (if B22c=(toNat 4) then B22p else Option.map (fun x=>Addr.add x ((toNat 4)*1)) B22p) ((toNat (wrap .i64 ((2:Int)+n18)))-(toNat 4)) (B22c-(toNat 4))] H29 fun r39 H40=> ∃ok41,r39= .bool ok41∧J30 [.bool ok41] H40)
 (br (ma13==196)
 (Tryz.C 60 #[.pointer r1,.slice (if B22c=(toNat 4) then B22p else Option.map (fun x=>Addr.add x ((toNat 4)*1)) B22p) ((toNat (wrap .i64 ((2:Int)+n18)))-(toNat 4)) (B22c-(toNat 4))] H29 fun r42 H43=> ∃ok44,r42= .bool ok44∧J30 [.bool ok44] H43)
 (br (ma13==218)
 (Tryz.C 61 #[.pointer r1,.slice (if B22c=(toNat 4) then B22p else Option.map (fun x=>Addr.add x ((toNat 4)*1)) B22p) ((toNat (wrap .i64 ((2:Int)+n18)))-(toNat 4)) (B22c-(toNat 4))] H29 fun r45 H46=> ∃r47 r48,r45= .tuple #[.agg r47,.bool r48]∧r47.size=6∧stAt H46 ⟨b2,0,none⟩ r47.toList fun H49=> ∃re50,re50.size=6∧rowIn H49 ⟨b2,0,none⟩ re50∧R (.tuple #[.agg re50,.bool r48]) H49)
 (J30 [.bool ok28] H29)))))→J27 [.bool ok28] H29)→
 br (ma13==254) (J27 [.bool true] H26) (br (decide (ma13≥224)) (J27 [.bool (decide (ma13≤239))] H26) (J27 [.bool false] H26)))→J19 [] H20)→
 br (decide (n18<2)) (∃v51,v51.size=6∧rowIn H17 ⟨b4,0,none⟩ v51∧v51.size=6∧stAt H17 ⟨b2,0,none⟩ v51.toList fun H52=> ∃re53,re53.size=6∧rowIn H52 ⟨b2,0,none⟩ re53∧R (.tuple #[.agg re53,.bool false]) H52) (∃a54,r1=some a54∧ ∃B55p B55l B55c,cell H17 (.add a54 0)=some (.slice B55p B55l B55c)∧br (decide (((wrap .i64 ((2:Int)+n18)):Int)>(B55l:Int)))
 (∃v56,v56.size=6∧rowIn H17 ⟨b4,0,none⟩ v56∧v56.size=6∧stAt H17 ⟨b2,0,none⟩ v56.toList fun H57=> ∃re58,re58.size=6∧rowIn H57 ⟨b2,0,none⟩ re58∧R (.tuple #[.agg re58,.bool false]) H57)
 (J19 [] H17)))→J8 [] H9)→
 ∃a59,r1=some a59∧ ∃B60p B60l B60c,cell H7 (.add a59 0)=some (.slice B60p B60l B60c)∧br (decide (((B60l:Int):Int)≥4)) (∃a61,r1=some a61∧ ∃B62p B62l B62c,cell H7 (.add a61 0)=some (.slice B62p B62l B62c)∧ ∃a63,B62p=some a63∧0≤(0:Int)∧(0:Int)<(B62l:Int)∧ ∃v64,cell H7 (.add a63 (toNat (0:Int)*1))=some (.int .u8 v64)∧br (v64==255)
 (J8 [] H7)
 (∃v65,v65.size=6∧rowIn H7 ⟨b4,0,none⟩ v65∧v65.size=6∧stAt H7 ⟨b2,0,none⟩ v65.toList fun H66=> ∃re67,re67.size=6∧rowIn H66 ⟨b2,0,none⟩ re67∧R (.tuple #[.agg re67,.bool false]) H66)) (∃v68,v68.size=6∧rowIn H7 ⟨b4,0,none⟩ v68∧v68.size=6∧stAt H7 ⟨b2,0,none⟩ v68.toList fun H69=> ∃re70,re70.size=6∧rowIn H69 ⟨b2,0,none⟩ re70∧R (.tuple #[.agg re70,.bool false]) H69))→X6 [] H7)→X6 [] H5
def Tryz.p29:Plan:=(tl (tl (two (one (loop [] [0,2,4] (two (join [] [0,2,4] (tl (tl leaf))) (one (tl (tl (two (join [] [0,2,4,5,6] g0) (tl (tl (two (join [(8,4)] [0,2,4,5,7] leaf) (two (join [(8,4)] [0,2,4] (tl (one (tl (tl (tl (tl (tl (tl g0))))))))) g0))))))))))) (tl leaf))))
theorem Tryz.s29{r1:OA}{H R}(h:Tryz.S29 r1 H R):Tryz.C 29 #[.pointer r1] H R:=vcs Tryz.tab_ok Tryz.mixed Tryz.func29 Tryz.cal29 Tryz.p29 h (by kernel_rfl)
def Tryz.S30(b1p:OA)(b1l b1c:Nat)(H:Heap)(R:Kv):Prop:=
 alc H (.cells #[.slice none 0 0,.int .i64 0,.bool false] 85) fun b2 H3=>alc H3 (.cells #[.slice none 0 0,.int .i64 0,.bool false] 85) fun b4 H5=>#[Value.slice none 0 0,Value.int .i64 0,Value.bool true].size=3∧stAt H5 ⟨b4,0,none⟩ (Array.toList #[.slice none 0 0,.int .i64 0,.bool true]) fun H6=> ∀X7:Kl,(∀(i8:Int) H9,(br (decide (((wrap .i64 (i8+1)):Int)<(b1l:Int)))
 (∀J10:Kl,(∀H11,(∀X12:Kl,(∀(k13:Int) H14,(br (decide (k13≥0))
 (∃L15p L15l L15c,cell H14 (.add ⟨b4,0,none⟩ 0)=some (.slice L15p L15l L15c)∧ ∃a16,b1p=some a16∧0≤i8∧i8<(b1l:Int)∧ ∃v17,cell H14 (.add a16 (toNat i8*1))=some (.int .u8 v17)∧0≤k13∧(2:Int)≠0∧alc H14 (.cells #[.int .i64 (Int.tmod (wrap .i64 (shrI .u8 v17 k13)) 2)] 3) fun b18 H19=>(Ext H14 H19∨(∃L23p L23l L23c,cell H19 (.add ⟨b4,0,none⟩ 0)=some (.slice L23p L23l L23c)∧Value.slice L23p L23l L23c= .slice L15p L15l L15c))∧appQ 1 8 #[.int .i64 0] H19 L15p L15l L15c (some ⟨b18,0,none⟩) 1 3 fun ap20p ap20l ap20c H21=>stAt H21 (.add ⟨b4,0,none⟩ 0) [.slice ap20p ap20l ap20c] fun H22=>X12 [.int .i64 (wrap .i64 (k13-1))] H22)
 (∃a24,b1p=some a24∧0≤i8∧i8<(b1l:Int)∧ ∃v25,cell H14 (.add a24 (toNat i8*1))=some (.int .u8 v25)∧br (v25==255)
 (X7 [.int .i64 (wrap .i64 ((wrap .i64 (i8+1))+1))] H14)
 (X7 [.int .i64 (wrap .i64 (i8+1))] H14)))→X12 [.int .i64 k13] H14)→X12 [.int .i64 7] H11)→J10 [] H11)→
 ∃a26,b1p=some a26∧0≤i8∧i8<(b1l:Int)∧ ∃v27,cell H9 (.add a26 (toNat i8*1))=some (.int .u8 v27)∧br (v27==255) (∃a28,b1p=some a28∧0≤(wrap .i64 (i8+1))∧(wrap .i64 (i8+1))<(b1l:Int)∧ ∃v29,cell H9 (.add a28 (toNat (wrap .i64 (i8+1))*1))=some (.int .u8 v29)∧br (v29 != 0)
 (∃v30,v30.size=3∧rowIn H9 ⟨b4,0,none⟩ v30∧ ∃a31,b1p=some a31∧0≤(wrap .i64 (i8+1))∧(wrap .i64 (i8+1))<(b1l:Int)∧ ∃v32,cell H9 (.add a31 (toNat (wrap .i64 (i8+1))*1))=some (.int .u8 v32)∧br (v32==217) (v30.size=3∧stAt H9 ⟨b2,0,none⟩ v30.toList fun H33=>(Ext H9 H33∨(Value.int .i64 (b1l:Int)= .int .i64 (b1l:Int)))∧ ∃re34,re34.size=3∧rowIn H33 ⟨b2,0,none⟩ re34∧R (.tuple #[.agg re34,.bool (((wrap .i64 (i8+2)):Int)==(b1l:Int))]) H33) (v30.size=3∧stAt H9 ⟨b2,0,none⟩ v30.toList fun H35=> ∃re36,re36.size=3∧rowIn H35 ⟨b2,0,none⟩ re36∧R (.tuple #[.agg re36,.bool false]) H35))
 (J10 [] H9)) (J10 [] H9))
 (∃v37,v37.size=3∧rowIn H9 ⟨b4,0,none⟩ v37∧v37.size=3∧stAt H9 ⟨b2,0,none⟩ v37.toList fun H38=> ∃re39,re39.size=3∧rowIn H38 ⟨b2,0,none⟩ re39∧R (.tuple #[.agg re39,.bool false]) H38))→X7 [.int .i64 i8] H9)→X7 [.int .i64 0] H6
def Tryz.p30:Plan:=(tl (tl (tl (two (one (loop [(5,3)] [0,2,4] (two (tl (tl leaf)) (one (two (join [] [0,2,4,5] g0) (two (tl (one (loop [(6,3)] [0,2,4,5] (two (tl (tl leaf)) (two (one leaf) leaf))))) (two (tl (tl leaf)) leaf))))))) (tl leaf)))))
theorem Tryz.s30{b1p:OA}{b1l b1c:Nat}{H R}(h:Tryz.S30 b1p b1l b1c H R):Tryz.C 30 #[.slice b1p b1l b1c] H R:=vcs Tryz.tab_ok Tryz.mixed Tryz.func30 Tryz.cal30 Tryz.p30 h (by kernel_rfl)
def Tryz.S31(s1:OA)(a2 b3:AV)(la4:Int)(H:Heap)(R:Kv):Prop:=
 alc H (.cells a2 77) fun b5 H6=>alc H6 (.cells b3 77) fun b7 H8=>alc H8 (.cells (Array.replicate 64 (Value.int .i64 0)) 48) fun b9 H10=>alc H10 (.cells (Array.replicate 64 (Value.int .i64 0)) 48) fun b11 H12=>Tryz.C 62 #[] H12 fun r13 H14=> ∃r15,r13= .agg r15∧alc H14 (.cells (Array.replicate 64 (Value.int .i64 0)) 48) fun b16 H17=>r15.size=64∧stAt H17 ⟨b16,0,none⟩ r15.toList fun H18=> ∃v19,v19.size=4∧rowIn H18 ⟨b5,0,none⟩ v19∧Tryz.C 63 #[.pointer s1,.agg v19] H18 fun r20 H21=> ∃n22,r20= .int .i64 n22∧br (decide (n22>11))
 (∃a23,s1=some a23∧stAt H21 (.add a23 2) [.bool false] fun H24=> ∃v25,v25.size=64∧rowIn H24 ⟨b11,0,none⟩ v25∧v25.size=64∧stAt H24 ⟨b9,0,none⟩ v25.toList fun H26=> ∃re27,re27.size=64∧rowIn H26 ⟨b9,0,none⟩ re27∧R (.agg re27) H26)
 (Tryz.C 65 #[.pointer s1,.int .i64 n22] H21 fun r28 H29=> ∃r30,r28= .int .i64 r30∧Tryz.C 64 #[.int .i64 (wrap .i64 (la4+r30)),.int .i64 (-32768:Int),.int .i64 32767] H29 fun r31 H32=> ∃r33,r31= .int .i64 r33∧0≤(0:Int)∧(0:Int)<((64:Nat):Int)∧stAt H32 (.add ⟨b11,0,none⟩ (toNat (0:Int)*1)) [.int .i64 r33] fun H34=> ∀J35:Kl,(∀H36,(∃v37,v37.size=64∧rowIn H36 ⟨b11,0,none⟩ v37∧v37.size=64∧stAt H36 ⟨b9,0,none⟩ v37.toList fun H38=> ∃re39,re39.size=64∧rowIn H38 ⟨b9,0,none⟩ re39∧R (.agg re39) H38)→J35 [] H36)→
 ∀X40:Kl,(∀(k41:Int) H42,(∀J43:Kl,(∀H44,(∃v45,v45.size=4∧rowIn H44 ⟨b7,0,none⟩ v45∧Tryz.C 63 #[.pointer s1,.agg v45] H44 fun r46 H47=> ∃c48,r46= .int .i64 c48∧ ∀J49:Kl,(∀H50,((16:Int)≠0∧ ∀J51:Kl,(∀H52,((16:Int)≠0∧br (decide (((Int.tmod c48 16):Int)>0))
 (0≤(wrap .i64 (k41+(wrap .i64 (Int.tdiv c48 16))))∧(wrap .i64 (k41+(wrap .i64 (Int.tdiv c48 16))))<((64:Nat):Int)∧ ∃v53,cell H52 (.add ⟨b16,0,none⟩ (toNat (wrap .i64 (k41+(wrap .i64 (Int.tdiv c48 16))))*1))=some (.int .i64 v53)∧(16:Int)≠0∧Tryz.C 65 #[.pointer s1,.int .i64 (Int.tmod c48 16)] H52 fun r54 H55=> ∃r56,r54= .int .i64 r56∧(Ext H52 H55∨(∃v58,cell H55 (.add ⟨b16,0,none⟩ (toNat (wrap .i64 (k41+(wrap .i64 (Int.tdiv c48 16))))*1))=some (.int .i64 v58)∧Value.int .i64 v58= .int .i64 v53))∧0≤v53∧v53<((64:Nat):Int)∧stAt H55 (.add ⟨b11,0,none⟩ (toNat v53*1)) [.int .i64 r56] fun H57=>X40 [.int .i64 (wrap .i64 ((wrap .i64 (k41+(wrap .i64 (Int.tdiv c48 16))))+1))] H57)
 (X40 [.int .i64 (wrap .i64 ((wrap .i64 (k41+(wrap .i64 (Int.tdiv c48 16))))+1))] H52))→J51 [] H52)→
 (16:Int)≠0∧br (decide (((Int.tmod c48 16):Int)>10)) (∃a59,s1=some a59∧stAt H50 (.add a59 2) [.bool false] fun H60=>J35 [] H60) ((16:Int)≠0∧br (((Int.tmod c48 16):Int)==0) (br (c48 != 240) (∃a61,s1=some a61∧stAt H50 (.add a61 2) [.bool false] fun H62=>J35 [] H62) (br (decide (((wrap .i64 (k41+(wrap .i64 (Int.tdiv c48 16)))):Int)>63))
 (∃a63,s1=some a63∧stAt H50 (.add a63 2) [.bool false] fun H64=>J35 [] H64)
 (J51 [] H50))) (br (decide (((wrap .i64 (k41+(wrap .i64 (Int.tdiv c48 16)))):Int)>63))
 (∃a65,s1=some a65∧stAt H50 (.add a65 2) [.bool false] fun H66=>J35 [] H66)
 (J51 [] H50))))→J49 [] H50)→
 ∃a67,s1=some a67∧ ∃OK68,cell H47 (.add a67 2)=some (.bool OK68)∧br (!OK68) (J35 [] H47) (br (c48==0)
 (J35 [] H47)
 (J49 [] H47)))→J43 [] H44)→
 br (decide (k41<64)) (∃a69,s1=some a69∧ ∃OK70,cell H42 (.add a69 2)=some (.bool OK70)∧br OK70
 (J43 [] H42)
 (J35 [] H42)) (J35 [] H42))→X40 [.int .i64 k41] H42)→X40 [.int .i64 1] H34)
def Tryz.p31:Plan:=(tl (tl (tl (tl (two (tl (two (tl (tl leaf)) leaf)) (tl (tl (two (join [] [8,9] (one (loop [(12,3)] [0,6,8,9,10] (two (join [] [0,6,8,9,10,12] (tl (tl leaf))) (one (tl (two (join [] [0,6,8,9,10,12,13] (tl (tl leaf))) (tl (two (join [] [0,6,8,9,10,12,13] g0) (two (tl (tl leaf)) leaf)))))))))) (tl leaf)))))))))
theorem Tryz.s31{s1:OA}{a2 b3:AV}{la4:Int}{H R}(h:Tryz.S31 s1 a2 b3 la4 H R):Tryz.C 31 #[.pointer s1,.agg a2,.agg b3,.int .i64 la4] H R:=vcs Tryz.tab_ok Tryz.mixed Tryz.func31 Tryz.cal31 Tryz.p31 h (by kernel_rfl)
def Tryz.S32(w1 h2:Int)(ha3:Bool)(bl4p:OA)(bl4l bl4c:Nat)(st5:AV)(H:Heap)(R:Kv):Prop:=
 alc H (.cells st5 90) fun b6 H7=>(16:Int)≠0∧(16:Int)≠0∧alc H7 (.cells #[.slice none 0 0,.slice none 0 0,.slice none 0 0] 139) fun b8 H9=> ∀X10:Kl,(∀(k11:Int) H12,(br (decide (k11<3))
 (0≤(wrap .i64 ((wrap .i64 ((wrap .i64 (Int.tdiv (wrap .i64 (w1+15)) 16))*16))*(wrap .i64 ((wrap .i64 (Int.tdiv (wrap .i64 (h2+15)) 16))*16))))∧(wrap .i64 ((wrap .i64 ((wrap .i64 (Int.tdiv (wrap .i64 (w1+15)) 16))*16))*(wrap .i64 ((wrap .i64 (Int.tdiv (wrap .i64 (h2+15)) 16))*16))))≤(wrap .i64 ((wrap .i64 ((wrap .i64 (Int.tdiv (wrap .i64 (w1+15)) 16))*16))*(wrap .i64 ((wrap .i64 (Int.tdiv (wrap .i64 (h2+15)) 16))*16))))∧((8:Nat):Int)*(wrap .i64 ((wrap .i64 ((wrap .i64 (Int.tdiv (wrap .i64 (w1+15)) 16))*16))*(wrap .i64 ((wrap .i64 (Int.tdiv (wrap .i64 (h2+15)) 16))*16))))≤281474976710656∧(wrap .i64 ((wrap .i64 ((wrap .i64 (Int.tdiv (wrap .i64 (w1+15)) 16))*16))*(wrap .i64 ((wrap .i64 (Int.tdiv (wrap .i64 (h2+15)) 16))*16))))≤281474976710656∧alc H12 (.cells (List.toArray (reps (toNat (wrap .i64 ((wrap .i64 ((wrap .i64 (Int.tdiv (wrap .i64 (w1+15)) 16))*16))*(wrap .i64 ((wrap .i64 (Int.tdiv (wrap .i64 (h2+15)) 16))*16))))) (Array.toList #[.int .i64 0]))) 3) fun b13 H14=>0≤k11∧k11<((3:Nat):Int)∧stAt H14 (.add ⟨b8,0,none⟩ (toNat k11*1)) [.slice (some ⟨b13,0,none⟩) (toNat (wrap .i64 ((wrap .i64 ((wrap .i64 (Int.tdiv (wrap .i64 (w1+15)) 16))*16))*(wrap .i64 ((wrap .i64 (Int.tdiv (wrap .i64 (h2+15)) 16))*16))))) (toNat (wrap .i64 ((wrap .i64 ((wrap .i64 (Int.tdiv (wrap .i64 (w1+15)) 16))*16))*(wrap .i64 ((wrap .i64 (Int.tdiv (wrap .i64 (h2+15)) 16))*16)))))] fun H15=>X10 [.int .i64 (wrap .i64 (k11+1))] H15)
 (Tryz.C 25 #[.int .i64 w1,.int .i64 h2,.bool ha3] H12 fun r16 H17=> ∃l18p l18l l18c,r16= .slice l18p l18l l18c∧ ∀X19:Kl,(∀(k20:Int) H21,(br (decide (k20<(l18l:Int)))
 (∃a22,bl4p=some a22∧0≤k20∧k20<(bl4l:Int)∧ ∃v23,v23.size=64∧rowIn H21 (.add a22 (toNat k20*64)) v23∧alc H21 (.cells (Array.replicate 64 (Value.int .i64 0)) 48) fun b24 H25=>v23.size=64∧stAt H25 ⟨b24,0,none⟩ v23.toList fun H26=> ∀X27:Kl,(∀(i28:Int) H29,(br (decide (i28<64))
 (0≤i28∧i28<((64:Nat):Int)∧ ∃v30,cell H29 (.add ⟨b24,0,none⟩ (toNat i28*1))=some (.int .i64 v30)∧ ∃a31,l18p=some a31∧0≤k20∧k20<(l18l:Int)∧ ∃Pa32,cell H29 (.add (.add a31 (toNat k20*3)) 0)=some (.int .i64 Pa32)∧0≤Pa32∧Pa32<((3:Nat):Int)∧0≤i28∧i28<((64:Nat):Int)∧ ∃v33,cell H29 (.add (.add ⟨b6,0,none⟩ (toNat Pa32*64)) (toNat i28*1))=some (.int .i64 v33)∧0≤i28∧i28<((64:Nat):Int)∧stAt H29 (.add ⟨b24,0,none⟩ (toNat i28*1)) [.int .i64 (wrap .i64 (v30*v33))] fun H34=>X27 [.int .i64 (wrap .i64 (i28+1))] H34)
 (∃v35,v35.size=64∧rowIn H29 ⟨b24,0,none⟩ v35∧Tryz.C 66 #[.agg v35] H29 fun r36 H37=> ∃r38,r36= .agg r38∧alc H37 (.cells (Array.replicate 64 (Value.int .i64 0)) 48) fun b39 H40=>r38.size=64∧stAt H40 ⟨b39,0,none⟩ r38.toList fun H41=> ∀X42:Kl,(∀(i43:Int) H44,(br (decide (i43<64))
 (∃a45,l18p=some a45∧0≤k20∧k20<(l18l:Int)∧ ∃Pa46,cell H44 (.add (.add a45 (toNat k20*3)) 0)=some (.int .i64 Pa46)∧0≤Pa46∧Pa46<((3:Nat):Int)∧ ∃v47p v47l v47c,cell H44 (.add ⟨b8,0,none⟩ (toNat Pa46*1))=some (.slice v47p v47l v47c)∧ ∃a48,l18p=some a48∧0≤k20∧k20<(l18l:Int)∧ ∃Y49,cell H44 (.add (.add a48 (toNat k20*3)) 2)=some (.int .i64 Y49)∧(8:Int)≠0∧ ∃a50,l18p=some a50∧0≤k20∧k20<(l18l:Int)∧ ∃X51,cell H44 (.add (.add a50 (toNat k20*3)) 1)=some (.int .i64 X51)∧(8:Int)≠0∧0≤i43∧i43<((64:Nat):Int)∧ ∃v52,cell H44 (.add ⟨b39,0,none⟩ (toNat i43*1))=some (.int .i64 v52)∧Tryz.C 64 #[.int .i64 (wrap .i64 (v52+128)),.int .i64 0,.int .i64 255] H44 fun r53 H54=> ∃r55,r53= .int .i64 r55∧(Ext H44 H54∨(∃X58,cell H54 (.add (.add a50 (toNat k20*3)) 1)=some (.int .i64 X58)∧Value.int .i64 X58= .int .i64 X51)∧(∃Y59,cell H54 (.add (.add a48 (toNat k20*3)) 2)=some (.int .i64 Y59)∧Value.int .i64 Y59= .int .i64 Y49)∧(∃v60p v60l v60c,cell H54 (.add ⟨b8,0,none⟩ (toNat Pa46*1))=some (.slice v60p v60l v60c)∧Value.slice v60p v60l v60c= .slice v47p v47l v47c)∧(∃Pa61,cell H54 (.add (.add a45 (toNat k20*3)) 0)=some (.int .i64 Pa61)∧Value.int .i64 Pa61= .int .i64 Pa46))∧ ∃a56,v47p=some a56∧0≤(wrap .i64 ((wrap .i64 ((wrap .i64 ((wrap .i64 (Y49+(wrap .i64 (Int.tdiv i43 8))))*(wrap .i64 ((wrap .i64 (Int.tdiv (wrap .i64 (w1+15)) 16))*16))))+X51))+(Int.tmod i43 8)))∧(wrap .i64 ((wrap .i64 ((wrap .i64 ((wrap .i64 (Y49+(wrap .i64 (Int.tdiv i43 8))))*(wrap .i64 ((wrap .i64 (Int.tdiv (wrap .i64 (w1+15)) 16))*16))))+X51))+(Int.tmod i43 8)))<(v47l:Int)∧stAt H54 (.add a56 (toNat (wrap .i64 ((wrap .i64 ((wrap .i64 ((wrap .i64 (Y49+(wrap .i64 (Int.tdiv i43 8))))*(wrap .i64 ((wrap .i64 (Int.tdiv (wrap .i64 (w1+15)) 16))*16))))+X51))+(Int.tmod i43 8)))*1)) [.int .i64 r55] fun H57=>X42 [.int .i64 (wrap .i64 (i43+1))] H57)
 (X19 [.int .i64 (wrap .i64 (k20+1))] H44))→X42 [.int .i64 i43] H44)→X42 [.int .i64 0] H41))→X27 [.int .i64 i28] H29)→X27 [.int .i64 0] H26)
 (∀X62:Kl,(∀(ou63p:OA) (ou63l ou63c:Nat) (y64:Int) H65,(br (decide (y64<h2))
 (∀X66:Kl,(∀(ou67p:OA) (ou67l ou67c:Nat) (x68:Int) H69,(br (decide (x68<w1))
 (∀J70:Kl,(∀(at_71:Int) H72,(∀J73:Kl,(∀(c74:Addr) H75,(0≤(0:Int)∧(0:Int)<((3:Nat):Int)∧ ∃v76,cell H75 (.add c74 (toNat (0:Int)*1))=some (.int .i64 v76)∧0≤(1:Int)∧(1:Int)<((3:Nat):Int)∧ ∃v77,cell H75 (.add c74 (toNat (1:Int)*1))=some (.int .i64 v77)∧0≤(2:Int)∧(2:Int)<((3:Nat):Int)∧ ∃v78,cell H75 (.add c74 (toNat (2:Int)*1))=some (.int .i64 v78)∧alc H75 (.cells #[.int .u8 (wrap .u8 v76),.int .u8 (wrap .u8 v77),.int .u8 (wrap .u8 v78)] 5) fun b79 H80=>appQ 1 1 #[.int .u8 0] H80 ou67p ou67l ou67c (some ⟨b79,0,none⟩) 3 5 fun ou81p ou81l ou81c H82=>X66 [.slice ou81p ou81l ou81c,.int .i64 (wrap .i64 (x68+1))] H82)→J73 [.pointer (some c74)] H75)→
 0≤(0:Int)∧(0:Int)<((3:Nat):Int)∧ ∃v83p v83l v83c,cell H72 (.add ⟨b8,0,none⟩ (toNat (0:Int)*1))=some (.slice v83p v83l v83c)∧ ∃a84,v83p=some a84∧0≤(wrap .i64 ((wrap .i64 (y64*(wrap .i64 ((wrap .i64 (Int.tdiv (wrap .i64 (w1+15)) 16))*16))))+x68))∧(wrap .i64 ((wrap .i64 (y64*(wrap .i64 ((wrap .i64 (Int.tdiv (wrap .i64 (w1+15)) 16))*16))))+x68))<(v83l:Int)∧ ∃v85,cell H72 (.add a84 (toNat (wrap .i64 ((wrap .i64 (y64*(wrap .i64 ((wrap .i64 (Int.tdiv (wrap .i64 (w1+15)) 16))*16))))+x68))*1))=some (.int .i64 v85)∧0≤(1:Int)∧(1:Int)<((3:Nat):Int)∧ ∃v86p v86l v86c,cell H72 (.add ⟨b8,0,none⟩ (toNat (1:Int)*1))=some (.slice v86p v86l v86c)∧ ∃a87,v86p=some a87∧0≤at_71∧at_71<(v86l:Int)∧ ∃v88,cell H72 (.add a87 (toNat at_71*1))=some (.int .i64 v88)∧0≤(2:Int)∧(2:Int)<((3:Nat):Int)∧ ∃v89p v89l v89c,cell H72 (.add ⟨b8,0,none⟩ (toNat (2:Int)*1))=some (.slice v89p v89l v89c)∧ ∃a90,v89p=some a90∧0≤at_71∧at_71<(v89l:Int)∧ ∃v91,cell H72 (.add a90 (toNat at_71*1))=some (.int .i64 v91)∧(Tryz.C 67 #[.int .i64 v85,.int .i64 v88,.int .i64 v91] H72 fun r92 H93=> ∃r94,r92= .agg r94∧alc H93 (.cells #[.int .i64 0,.int .i64 0,.int .i64 0] 73) fun b95 H96=>r94.size=3∧stAt H96 ⟨b95,0,none⟩ r94.toList fun H97=>J73 [.pointer (some ⟨b95,0,none⟩)] H97)∧(alc H72 (.cells #[.int .i64 0,.int .i64 0,.int .i64 0] 73) fun b98 H99=>(Ext H72 H99∨(∃v104,cell H99 (.add a90 (toNat at_71*1))=some (.int .i64 v104)∧Value.int .i64 v104= .int .i64 v91)∧(∃v105p v105l v105c,cell H99 (.add ⟨b8,0,none⟩ (toNat (2:Int)*1))=some (.slice v105p v105l v105c)∧Value.slice v105p v105l v105c= .slice v89p v89l v89c)∧(∃v106,cell H99 (.add a87 (toNat at_71*1))=some (.int .i64 v106)∧Value.int .i64 v106= .int .i64 v88)∧(∃v107p v107l v107c,cell H99 (.add ⟨b8,0,none⟩ (toNat (1:Int)*1))=some (.slice v107p v107l v107c)∧Value.slice v107p v107l v107c= .slice v86p v86l v86c)∧(∃v108,cell H99 (.add a84 (toNat (wrap .i64 ((wrap .i64 (y64*(wrap .i64 ((wrap .i64 (Int.tdiv (wrap .i64 (w1+15)) 16))*16))))+x68))*1))=some (.int .i64 v108)∧Value.int .i64 v108= .int .i64 v85)∧(∃v109p v109l v109c,cell H99 (.add ⟨b8,0,none⟩ (toNat (0:Int)*1))=some (.slice v109p v109l v109c)∧Value.slice v109p v109l v109c= .slice v83p v83l v83c))∧Tryz.C 67 #[.int .i64 v85,.int .i64 v88,.int .i64 v91] H99 fun r100 H101=> ∃r102,r100= .agg r102∧r102.size=3∧stAt H101 ⟨b98,0,none⟩ r102.toList fun H103=>J73 [.pointer (some ⟨b98,0,none⟩)] H103))→J70 [.int .i64 at_71] H72)→
 br ha3
 ((2:Int)≠0∧(2:Int)≠0∧J70 [.int .i64 (wrap .i64 ((wrap .i64 ((wrap .i64 (Int.tdiv y64 2))*(wrap .i64 ((wrap .i64 (Int.tdiv (wrap .i64 (w1+15)) 16))*16))))+(wrap .i64 (Int.tdiv x68 2))))] H69)
 (J70 [.int .i64 (wrap .i64 ((wrap .i64 (y64*(wrap .i64 ((wrap .i64 (Int.tdiv (wrap .i64 (w1+15)) 16))*16))))+x68))] H69))
 (X62 [.slice ou67p ou67l ou67c,.int .i64 (wrap .i64 (y64+1))] H69))→X66 [.slice ou67p ou67l ou67c,.int .i64 x68] H69)→X66 [.slice ou63p ou63l ou63c,.int .i64 0] H65)
 (R (.slice ou63p ou63l ou63c) H65))→X62 [.slice ou63p ou63l ou63c,.int .i64 y64] H65)→X62 [.slice none 0 0,.int .i64 0] H21))→X19 [.int .i64 k20] H21)→X19 [.int .i64 0] H17))→X10 [.int .i64 k11] H12)→X10 [.int .i64 0] H9
def Tryz.p32:Plan:=(tl (tl (tl (tl (two (tl (one (loop [(14,3)] [0,1,2,3,9,11,12,13] (two (tl (tl leaf)) (two (one leaf) leaf))))) (tl (two (tl (one (loop [(16,3)] [0,1,2,3,9,11,13,15] (two (tl (tl leaf)) (two (one (tl (two (tl (one (loop [(18,3)] [0,1,2,3,9,11,13,15,16,17] (two (tl (tl leaf)) (two (one leaf) leaf))))) (tl (tl (one (loop [(20,3)] [0,1,2,3,9,11,13,15,16,19] (two (tl (tl leaf)) (two (one leaf) leaf))))))))) leaf))))) (tl (two (tl (one (loop [(21,22),(22,3)] [0,1,2,11,13] (two (tl (tl leaf)) (two (one (tl (one (loop [(21,22),(23,3)] [0,1,2,11,13,22] (two (tl (tl leaf)) (two (one (tl (two (join [(24,3)] [0,1,2,11,13,21,22,23] (tl (tl leaf))) (two (join [(25,999999)] [0,1,2,11,13,21,22,23] leaf) leaf)))) leaf)))))) leaf))))) (tl leaf))))))))))
theorem Tryz.s32{w1 h2:Int}{ha3:Bool}{bl4p:OA}{bl4l bl4c:Nat}{st5:AV}{H R}(h:Tryz.S32 w1 h2 ha3 bl4p bl4l bl4c st5 H R):Tryz.C 32 #[.int .i64 w1,.int .i64 h2,.bool ha3,.slice bl4p bl4l bl4c,.agg st5] H R:=vcs Tryz.tab_ok Tryz.mixed Tryz.func32 Tryz.cal32 Tryz.p32 h (by kernel_rfl)
def Tryz.S33(r1:OA)(H:Heap)(R:Kv):Prop:=
 alc H (.cells #[.pointer none,.pointer none,.pointer none,.pointer none,.pointer none,.pointer none] 99) fun b2 H3=> ∀X4:Kl,(∀H5,(∀J6:Kl,(∀H7,(∃a8,r1=some a8∧ ∃b9p b9l b9c,cell H7 (.add a8 0)=some (.slice b9p b9l b9c)∧ ∃a10,b9p=some a10∧0≤(1:Int)∧(1:Int)<(b9l:Int)∧ ∃ma11,cell H7 (.add a10 (toNat (1:Int)*1))=some (.int .u8 ma11)∧ ∃a12,r1=some a12∧ ∃b13p b13l b13c,cell H7 (.add a12 0)=some (.slice b13p b13l b13c)∧0≤(2:Int)∧(2:Int)≤(b13l:Int)∧ ∃a14,r1=some a14∧stAt H7 (.add a14 0) [.slice (if b13c=(toNat 2) then b13p else Option.map (fun x=>Addr.add x ((toNat 2)*1)) b13p) (b13l-(toNat 2)) (b13c-(toNat 2))] fun H15=>Tryz.C 68 #[.pointer r1] H15 fun r16 H17=> ∃r18p r18l r18c r19,r16= .tuple #[.slice r18p r18l r18c,.bool r19]∧br (!r19)
 (∃v20,v20.size=6∧rowIn H17 ⟨b2,0,none⟩ v20∧v20.size=6∧stAt H17 ⟨b2,0,none⟩ v20.toList fun H21=> ∃re22,re22.size=6∧rowIn H21 ⟨b2,0,none⟩ re22∧R (.tuple #[.agg re22,.bool false]) H21)
 (∀J23:Kl,(∀(fi24:Bool) H25,(br (!fi24)
 (∃v26,v26.size=6∧rowIn H25 ⟨b2,0,none⟩ v26∧v26.size=6∧stAt H25 ⟨b2,0,none⟩ v26.toList fun H27=> ∃re28,re28.size=6∧rowIn H27 ⟨b2,0,none⟩ re28∧R (.tuple #[.agg re28,.bool false]) H27)
 (X4 [] H25))→J23 [.bool fi24] H25)→
 br (decide (ma11≥224)) (br (decide (ma11≤239)) (J23 [.bool r19] H17) (br (ma11==254)
 (J23 [.bool r19] H17)
 (br (ma11==219)
 (Tryz.C 69 #[.pointer r1,.slice r18p r18l r18c] H17 fun r29 H30=> ∃fi31,r29= .bool fi31∧J23 [.bool fi31] H30)
 (br (ma11==192)
 (Tryz.C 70 #[.pointer r1,.slice r18p r18l r18c] H17 fun r32 H33=> ∃fi34,r32= .bool fi34∧J23 [.bool fi34] H33)
 (br (ma11==196)
 (Tryz.C 71 #[.pointer r1,.slice r18p r18l r18c] H17 fun r35 H36=> ∃fi37,r35= .bool fi37∧J23 [.bool fi37] H36)
 (br (ma11==218)
 (Tryz.C 72 #[.pointer r1,.slice r18p r18l r18c] H17 fun r38 H39=> ∃r40 r41,r38= .tuple #[.agg r40,.bool r41]∧r40.size=6∧stAt H39 ⟨b2,0,none⟩ r40.toList fun H42=> ∃re43,re43.size=6∧rowIn H42 ⟨b2,0,none⟩ re43∧R (.tuple #[.agg re43,.bool r41]) H42)
 (J23 [.bool false] H17))))))) (br (ma11==254)
 (J23 [.bool r19] H17)
 (br (ma11==219)
 (Tryz.C 69 #[.pointer r1,.slice r18p r18l r18c] H17 fun r44 H45=> ∃fi46,r44= .bool fi46∧J23 [.bool fi46] H45)
 (br (ma11==192)
 (Tryz.C 70 #[.pointer r1,.slice r18p r18l r18c] H17 fun r47 H48=> ∃fi49,r47= .bool fi49∧J23 [.bool fi49] H48)
 (br (ma11==196)
 (Tryz.C 71 #[.pointer r1,.slice r18p r18l r18c] H17 fun r50 H51=> ∃fi52,r50= .bool fi52∧J23 [.bool fi52] H51)
 (br (ma11==218)
 (Tryz.C 72 #[.pointer r1,.slice r18p r18l r18c] H17 fun r53 H54=> ∃r55 r56,r53= .tuple #[.agg r55,.bool r56]∧r55.size=6∧stAt H54 ⟨b2,0,none⟩ r55.toList fun H57=> ∃re58,re58.size=6∧rowIn H57 ⟨b2,0,none⟩ re58∧R (.tuple #[.agg re58,.bool r56]) H57)
 (J23 [.bool false] H17))))))))→J6 [] H7)→
 ∃a59,r1=some a59∧ ∃b60p b60l b60c,cell H5 (.add a59 0)=some (.slice b60p b60l b60c)∧br (decide (((b60l:Int):Int)<2)) (∃v61,v61.size=6∧rowIn H5 ⟨b2,0,none⟩ v61∧v61.size=6∧stAt H5 ⟨b2,0,none⟩ v61.toList fun H62=> ∃re63,re63.size=6∧rowIn H62 ⟨b2,0,none⟩ re63∧R (.tuple #[.agg re63,.bool false]) H62) (∃a64,r1=some a64∧ ∃b65p b65l b65c,cell H5 (.add a64 0)=some (.slice b65p b65l b65c)∧ ∃a66,b65p=some a66∧0≤(0:Int)∧(0:Int)<(b65l:Int)∧ ∃v67,cell H5 (.add a66 (toNat (0:Int)*1))=some (.int .u8 v67)∧br (v67 != 255)
 (∃v68,v68.size=6∧rowIn H5 ⟨b2,0,none⟩ v68∧v68.size=6∧stAt H5 ⟨b2,0,none⟩ v68.toList fun H69=> ∃re70,re70.size=6∧rowIn H69 ⟨b2,0,none⟩ re70∧R (.tuple #[.agg re70,.bool false]) H69)
 (J6 [] H5)))→X4 [] H5)→X4 [] H3
def Tryz.p33:Plan:=(tl (scope [] [0,2] leaf (two (join [] [0,2] g0) (tl (tl (tl (tg (two (join [(6,4)] [0,2] (one (tl (tl (tl (tl (tl (tl (tl (tl g0)))))))))) (tg leaf)))))))))
theorem Tryz.s33{r1:OA}{H R}(h:Tryz.S33 r1 H R):Tryz.C 33 #[.pointer r1] H R:=vcs Tryz.tab_ok Tryz.mixed Tryz.func33 Tryz.cal33 Tryz.p33 h (by kernel_rfl)
def Tryz.S34(r1:OA)(H:Heap)(R:Kv):Prop:=
 ∀X2:Kl,(∀(ou3p:OA) (ou3l ou3c:Nat) (i4:Int) H5,(∃a6,r1=some a6∧ ∃b7p b7l b7c,cell H5 (.add a6 0)=some (.slice b7p b7l b7c)∧br (decide (((wrap .i64 (i4+1)):Int)<(b7l:Int)))
 (∃a8,r1=some a8∧ ∃b9p b9l b9c,cell H5 (.add a8 0)=some (.slice b9p b9l b9c)∧ ∃a10,b9p=some a10∧0≤i4∧i4<(b9l:Int)∧ ∃c11,cell H5 (.add a10 (toNat i4*1))=some (.int .u8 c11)∧br (c11 != 255)
 (alc H5 (.cells #[.int .u8 c11] 5) fun b12 H13=>appQ 1 1 #[.int .u8 0] H13 ou3p ou3l ou3c (some ⟨b12,0,none⟩) 1 5 fun ou14p ou14l ou14c H15=>X2 [.slice ou14p ou14l ou14c,.int .i64 (wrap .i64 (i4+1))] H15)
 (∃a16,r1=some a16∧ ∃b17p b17l b17c,cell H5 (.add a16 0)=some (.slice b17p b17l b17c)∧ ∃a18,b17p=some a18∧0≤(wrap .i64 (i4+1))∧(wrap .i64 (i4+1))<(b17l:Int)∧ ∃v19,cell H5 (.add a18 (toNat (wrap .i64 (i4+1))*1))=some (.int .u8 v19)∧br (v19 != 0)
 (∃a20,r1=some a20∧ ∃b21p b21l b21c,cell H5 (.add a20 0)=some (.slice b21p b21l b21c)∧ ∃a22,b21p=some a22∧0≤(wrap .i64 (i4+1))∧(wrap .i64 (i4+1))<(b21l:Int)∧ ∃v23,cell H5 (.add a22 (toNat (wrap .i64 (i4+1))*1))=some (.int .u8 v23)∧br (v23==217) (∃a24,r1=some a24∧ ∃b25p b25l b25c,cell H5 (.add a24 0)=some (.slice b25p b25l b25c)∧R (.tuple #[.slice ou3p ou3l ou3c,.bool (((wrap .i64 (i4+2)):Int)==(b25l:Int))]) H5) (R (.tuple #[.slice ou3p ou3l ou3c,.bool false]) H5))
 (alc H5 (.cells #[.int .u8 c11] 5) fun b26 H27=>appQ 1 1 #[.int .u8 0] H27 ou3p ou3l ou3c (some ⟨b26,0,none⟩) 1 5 fun ou28p ou28l ou28c H29=>X2 [.slice ou28p ou28l ou28c,.int .i64 (wrap .i64 ((wrap .i64 (i4+1))+1))] H29)))
 (R (.tuple #[.slice none 0 0,.bool false]) H5))→X2 [.slice ou3p ou3l ou3c,.int .i64 i4] H5)→X2 [.slice none 0 0,.int .i64 0] H
def Tryz.p34:Plan:=(tl (tl (two (tl (one (loop [(4,22),(5,3)] [0] (two (tl (tl leaf)) (two (one (tl (tg (tg (tl leaf))))) leaf))))) (tl leaf))))
theorem Tryz.s34{r1:OA}{H R}(h:Tryz.S34 r1 H R):Tryz.C 34 #[.pointer r1] H R:=vcs Tryz.tab_ok Tryz.mixed Tryz.func34 Tryz.cal34 Tryz.p34 h (by kernel_rfl)
def Tryz.S35(w1 h2:Int)(ha3:Bool)(H:Heap)(R:Kv):Prop:=
 ∀J4:Kl,(∀(si5:Int) H6,(∀X7:Kl,(∀(ou8p:OA) (ou8l ou8c:Nat) (y9:Int) H10,(br (decide (y9<h2))
 (∀X11:Kl,(∀(ou12p:OA) (ou12l ou12c:Nat) (x13:Int) H14,(br (decide (x13<w1))
 (#[Value.int .i64 0,Value.int .i64 x13,Value.int .i64 y9].size=3∧0+3≤3∧alc H14 (.cells (List.toArray (setL [.int .i64 0,.int .i64 0,.int .i64 0] 0 (Array.toList #[.int .i64 0,.int .i64 x13,.int .i64 y9]))) 112) fun b15 H16=>appQ 3 24 #[.int .i64 0,.int .i64 0,.int .i64 0] H16 ou12p ou12l ou12c (some ⟨b15,0,none⟩) 1 112 fun ou17p ou17l ou17c H18=> ∀J19:Kl,(∀(ou20p:OA) (ou20l ou20c:Nat) H21,(si5≠0∧si5≠0∧si5≠0∧si5≠0∧#[Value.int .i64 1,Value.int .i64 (wrap .i64 (Int.tdiv (wrap .i64 (x13*8)) si5)),Value.int .i64 (wrap .i64 (Int.tdiv (wrap .i64 (y9*8)) si5))].size=3∧0+3≤6∧#[Value.int .i64 2,Value.int .i64 (wrap .i64 (Int.tdiv (wrap .i64 (x13*8)) si5)),Value.int .i64 (wrap .i64 (Int.tdiv (wrap .i64 (y9*8)) si5))].size=3∧3+3≤6∧alc H21 (.cells (List.toArray (setL (setL [.int .i64 0,.int .i64 0,.int .i64 0,.int .i64 0,.int .i64 0,.int .i64 0] 0 (Array.toList #[.int .i64 1,.int .i64 (wrap .i64 (Int.tdiv (wrap .i64 (x13*8)) si5)),.int .i64 (wrap .i64 (Int.tdiv (wrap .i64 (y9*8)) si5))])) 3 (Array.toList #[.int .i64 2,.int .i64 (wrap .i64 (Int.tdiv (wrap .i64 (x13*8)) si5)),.int .i64 (wrap .i64 (Int.tdiv (wrap .i64 (y9*8)) si5))]))) 112) fun b22 H23=>appQ 3 24 #[.int .i64 0,.int .i64 0,.int .i64 0] H23 ou20p ou20l ou20c (some ⟨b22,0,none⟩) 2 112 fun ou24p ou24l ou24c H25=>X11 [.slice ou24p ou24l ou24c,.int .i64 (wrap .i64 (x13+si5))] H25)→J19 [.slice ou20p ou20l ou20c] H21)→
 br ha3
 (#[Value.int .i64 0,Value.int .i64 (wrap .i64 (x13+8)),Value.int .i64 y9].size=3∧0+3≤9∧#[Value.int .i64 0,Value.int .i64 x13,Value.int .i64 (wrap .i64 (y9+8))].size=3∧3+3≤9∧#[Value.int .i64 0,Value.int .i64 (wrap .i64 (x13+8)),Value.int .i64 (wrap .i64 (y9+8))].size=3∧6+3≤9∧alc H18 (.cells (List.toArray (setL (setL (setL [.int .i64 0,.int .i64 0,.int .i64 0,.int .i64 0,.int .i64 0,.int .i64 0,.int .i64 0,.int .i64 0,.int .i64 0] 0 (Array.toList #[.int .i64 0,.int .i64 (wrap .i64 (x13+8)),.int .i64 y9])) 3 (Array.toList #[.int .i64 0,.int .i64 x13,.int .i64 (wrap .i64 (y9+8))])) 6 (Array.toList #[.int .i64 0,.int .i64 (wrap .i64 (x13+8)),.int .i64 (wrap .i64 (y9+8))]))) 112) fun b26 H27=>appQ 3 24 #[.int .i64 0,.int .i64 0,.int .i64 0] H27 ou17p ou17l ou17c (some ⟨b26,0,none⟩) 3 112 fun ou28p ou28l ou28c H29=>J19 [.slice ou28p ou28l ou28c] H29)
 (J19 [.slice ou17p ou17l ou17c] H18))
 (X7 [.slice ou12p ou12l ou12c,.int .i64 (wrap .i64 (y9+si5))] H14))→X11 [.slice ou12p ou12l ou12c,.int .i64 x13] H14)→X11 [.slice ou8p ou8l ou8c,.int .i64 0] H10)
 (R (.slice ou8p ou8l ou8c) H10))→X7 [.slice ou8p ou8l ou8c,.int .i64 y9] H10)→X7 [.slice none 0 0,.int .i64 0] H6)→J4 [.int .i64 si5] H6)→
 br ha3
 (J4 [.int .i64 16] H)
 (J4 [.int .i64 8] H)
def Tryz.p35:Plan:=(tl (tl (tl (two (join [(8,3)] [0,1,2,7] (tl (tl leaf))) (two (tl (one (loop [(7,104),(9,3)] [0,1,2,8] (two (tl (tl leaf)) (two (one (tl (one (loop [(7,104),(10,3)] [0,1,2,8,9] (two (tl (tl leaf)) (two (one (tl (two (join [(7,104)] [0,1,2,8,9,10] (tl (tl leaf))) leaf))) leaf)))))) leaf))))) (tl leaf))))))
theorem Tryz.s35{w1 h2:Int}{ha3:Bool}{H R}(h:Tryz.S35 w1 h2 ha3 H R):Tryz.C 35 #[.int .i64 w1,.int .i64 h2,.bool ha3] H R:=vcs Tryz.tab_ok Tryz.mixed Tryz.func35 Tryz.cal35 Tryz.p35 h (by kernel_rfl)
def Tryz.S36(b1p:OA)(b1l b1c:Nat)(hi2:Bool)(H:Heap)(R:Kv):Prop:=
 Tryz.C 54 #[.slice b1p b1l b1c] H fun r3 H4=> ∃r5p r5l r5c,r3= .slice r5p r5l r5c∧alc H4 (.cells #[.slice r5p r5l r5c,.int .i64 0,.bool hi2] 143) fun b6 H7=>R (.pointer (some ⟨b6,0,none⟩)) H7
def Tryz.p36:Plan:=(tl (tl leaf))
theorem Tryz.s36{b1p:OA}{b1l b1c:Nat}{hi2:Bool}{H R}(h:Tryz.S36 b1p b1l b1c hi2 H R):Tryz.C 36 #[.slice b1p b1l b1c,.bool hi2] H R:=vcs Tryz.tab_ok Tryz.mixed Tryz.func36 Tryz.cal36 Tryz.p36 h (by kernel_rfl)
def Tryz.S37(u1:OA)(t2:AV)(la3:Int)(H:Heap)(R:Kv):Prop:=
 alc H (.cells t2 98) fun b4 H5=>alc H5 (.cells (Array.replicate 64 (Value.int .i64 0)) 48) fun b6 H7=>0≤(0:Int)∧(0:Int)<((2:Nat):Int)∧ ∃v8,cell H7 (.add ⟨b4,0,none⟩ (toNat (0:Int)*1))=some (.pointer v8)∧Tryz.C 73 #[.pointer u1,.pointer v8] H7 fun r9 H10=> ∃n11,r9= .int .i64 n11∧ ∀J12:Kl,(∀H13,(∃a14,u1=some a14∧ ∃ok15,cell H13 (.add a14 1)=some (.bool ok15)∧br (!ok15)
 (∃v16,v16.size=64∧rowIn H13 ⟨b6,0,none⟩ v16∧v16.size=64∧stAt H13 ⟨b6,0,none⟩ v16.toList fun H17=> ∃re18,re18.size=64∧rowIn H17 ⟨b6,0,none⟩ re18∧R (.agg re18) H17)
 (Tryz.C 75 #[.pointer u1,.int .i64 n11] H13 fun r19 H20=> ∃r21,r19= .int .i64 r21∧Tryz.C 74 #[.int .i64 (wrap .i64 (la3+r21))] H20 fun r22 H23=> ∃r24,r22= .int .i64 r24∧0≤(0:Int)∧(0:Int)<((64:Nat):Int)∧stAt H23 (.add ⟨b6,0,none⟩ (toNat (0:Int)*1)) [.int .i64 r24] fun H25=>Tryz.C 15 #[] H25 fun r26 H27=> ∃r28,r26= .agg r28∧alc H27 (.cells (Array.replicate 64 (Value.int .i64 0)) 48) fun b29 H30=>r28.size=64∧stAt H30 ⟨b29,0,none⟩ r28.toList fun H31=> ∀X32:Kl,(∀(k33:Int) H34,(∀J35:Kl,(∀H36,(0≤(1:Int)∧(1:Int)<((2:Nat):Int)∧ ∃v37,cell H36 (.add ⟨b4,0,none⟩ (toNat (1:Int)*1))=some (.pointer v37)∧Tryz.C 73 #[.pointer u1,.pointer v37] H36 fun r38 H39=> ∃s40,r38= .int .i64 s40∧0≤(4:Int)∧ ∀J41:Kl,(∀H42,(br (decide (((andI .i64 s40 15):Int)>0))
 (0≤(wrap .i64 (k33+(shrI .i64 s40 4)))∧(wrap .i64 (k33+(shrI .i64 s40 4)))<((64:Nat):Int)∧ ∃v43,cell H42 (.add ⟨b29,0,none⟩ (toNat (wrap .i64 (k33+(shrI .i64 s40 4)))*1))=some (.int .i64 v43)∧Tryz.C 75 #[.pointer u1,.int .i64 (andI .i64 s40 15)] H42 fun r44 H45=> ∃r46,r44= .int .i64 r46∧(Ext H42 H45∨(∃v48,cell H45 (.add ⟨b29,0,none⟩ (toNat (wrap .i64 (k33+(shrI .i64 s40 4)))*1))=some (.int .i64 v48)∧Value.int .i64 v48= .int .i64 v43))∧0≤v43∧v43<((64:Nat):Int)∧stAt H45 (.add ⟨b6,0,none⟩ (toNat v43*1)) [.int .i64 r46] fun H47=>X32 [.int .i64 (wrap .i64 ((wrap .i64 (k33+(shrI .i64 s40 4)))+1))] H47)
 (X32 [.int .i64 (wrap .i64 ((wrap .i64 (k33+(shrI .i64 s40 4)))+1))] H42))→J41 [] H42)→
 ∃a49,u1=some a49∧ ∃ok50,cell H39 (.add a49 1)=some (.bool ok50)∧br (!ok50) (∃v51,v51.size=64∧rowIn H39 ⟨b6,0,none⟩ v51∧v51.size=64∧stAt H39 ⟨b6,0,none⟩ v51.toList fun H52=> ∃re53,re53.size=64∧rowIn H52 ⟨b6,0,none⟩ re53∧R (.agg re53) H52) (br (s40==0)
 (∃v54,v54.size=64∧rowIn H39 ⟨b6,0,none⟩ v54∧v54.size=64∧stAt H39 ⟨b6,0,none⟩ v54.toList fun H55=> ∃re56,re56.size=64∧rowIn H55 ⟨b6,0,none⟩ re56∧R (.agg re56) H55)
 (br (decide (((andI .i64 s40 15):Int)>10)) (∃a57,u1=some a57∧stAt H39 (.add a57 1) [.bool false] fun H58=> ∃v59,v59.size=64∧rowIn H58 ⟨b6,0,none⟩ v59∧v59.size=64∧stAt H58 ⟨b6,0,none⟩ v59.toList fun H60=> ∃re61,re61.size=64∧rowIn H60 ⟨b6,0,none⟩ re61∧R (.agg re61) H60) (br (((andI .i64 s40 15):Int)==0) (br (((shrI .i64 s40 4):Int) != 15) (∃a62,u1=some a62∧stAt H39 (.add a62 1) [.bool false] fun H63=> ∃v64,v64.size=64∧rowIn H63 ⟨b6,0,none⟩ v64∧v64.size=64∧stAt H63 ⟨b6,0,none⟩ v64.toList fun H65=> ∃re66,re66.size=64∧rowIn H65 ⟨b6,0,none⟩ re66∧R (.agg re66) H65) (br (decide (((wrap .i64 (k33+(shrI .i64 s40 4))):Int)>63))
 (∃a67,u1=some a67∧stAt H39 (.add a67 1) [.bool false] fun H68=> ∃v69,v69.size=64∧rowIn H68 ⟨b6,0,none⟩ v69∧v69.size=64∧stAt H68 ⟨b6,0,none⟩ v69.toList fun H70=> ∃re71,re71.size=64∧rowIn H70 ⟨b6,0,none⟩ re71∧R (.agg re71) H70)
 (J41 [] H39))) (br (decide (((wrap .i64 (k33+(shrI .i64 s40 4))):Int)>63))
 (∃a72,u1=some a72∧stAt H39 (.add a72 1) [.bool false] fun H73=> ∃v74,v74.size=64∧rowIn H73 ⟨b6,0,none⟩ v74∧v74.size=64∧stAt H73 ⟨b6,0,none⟩ v74.toList fun H75=> ∃re76,re76.size=64∧rowIn H75 ⟨b6,0,none⟩ re76∧R (.agg re76) H75)
 (J41 [] H39))))))→J35 [] H36)→
 br (decide (k33<64)) (∃a77,u1=some a77∧ ∃ok78,cell H34 (.add a77 1)=some (.bool ok78)∧br ok78
 (J35 [] H34)
 (∃v79,v79.size=64∧rowIn H34 ⟨b6,0,none⟩ v79∧v79.size=64∧stAt H34 ⟨b6,0,none⟩ v79.toList fun H80=> ∃re81,re81.size=64∧rowIn H80 ⟨b6,0,none⟩ re81∧R (.agg re81) H80)) (∃v82,v82.size=64∧rowIn H34 ⟨b6,0,none⟩ v82∧v82.size=64∧stAt H34 ⟨b6,0,none⟩ v82.toList fun H83=> ∃re84,re84.size=64∧rowIn H83 ⟨b6,0,none⟩ re84∧R (.agg re84) H83))→X32 [.int .i64 k33] H34)→X32 [.int .i64 1] H31))→J12 [] H13)→
 br (decide (n11>11))
 (∃a85,u1=some a85∧stAt H10 (.add a85 1) [.bool false] fun H86=>J12 [] H86)
 (J12 [] H10)
def Tryz.p37:Plan:=(tl (tl (two (join [] [0,2,4,6,7] (tl (tl leaf))) (tg (tl (tl (two (tl (one (loop [(9,3)] [0,4,6,8] (two (join [] [0,4,6,8,9] (tl (tl leaf))) (two (one (tl (tl (two (join [] [0,4,6,8,9,11,12] (one (tl (two (tl leaf) (tl (two (tl (tl leaf)) leaf)))))) (tl (tl (tl leaf))))))) leaf))))) (tl leaf))))))))
theorem Tryz.s37{u1:OA}{t2:AV}{la3:Int}{H R}(h:Tryz.S37 u1 t2 la3 H R):Tryz.C 37 #[.pointer u1,.agg t2,.int .i64 la3] H R:=vcs Tryz.tab_ok Tryz.mixed Tryz.func37 Tryz.cal37 Tryz.p37 h (by kernel_rfl)
def Tryz.S38(r1:OA)(H:Heap)(R:Kv):Prop:=
 ∃a2,r1=some a2∧ ∃b3p b3l b3c,cell H (.add a2 0)=some (.slice b3p b3l b3c)∧ ∃a4,r1=some a4∧ ∃at_5,cell H (.add a4 1)=some (.int .i64 at_5)∧R (.int .i64 (wrap .i64 ((wrap .i64 ((8:Int)*(b3l:Int)))-at_5))) H
def Tryz.p38:Plan:=(tl (tl leaf))
theorem Tryz.s38{r1:OA}{H R}(h:Tryz.S38 r1 H R):Tryz.C 38 #[.pointer r1] H R:=vcs Tryz.tab_ok Tryz.mixed Tryz.func38 Tryz.cal38 Tryz.p38 h (by kernel_rfl)
def Tryz.S39(m1:OA)(st2:AV)(H:Heap)(R:Kv):Prop:=
 alc H (.cells st2 90) fun b3 H4=>alc H4 (.cells #[.int .i64 0,.int .i64 0,.slice none 0 0,.int .i64 0,.int .i64 0,.slice none 0 0,.int .i64 0,.int .i64 0,.slice none 0 0] 119) fun b5 H6=> ∀X7:Kl,(∀(k8:Int) H9,(br (decide (k8<3))
 (∃a10,m1=some a10∧ ∃W11,cell H9 (.add a10 0)=some (.int .i64 W11)∧(16:Int)≠0∧ ∃a12,m1=some a12∧ ∃H13,cell H9 (.add a12 1)=some (.int .i64 H13)∧(16:Int)≠0∧0≤(wrap .i64 ((wrap .i64 ((wrap .i64 (Int.tdiv (wrap .i64 (W11+15)) 16))*16))*(wrap .i64 ((wrap .i64 (Int.tdiv (wrap .i64 (H13+15)) 16))*16))))∧(wrap .i64 ((wrap .i64 ((wrap .i64 (Int.tdiv (wrap .i64 (W11+15)) 16))*16))*(wrap .i64 ((wrap .i64 (Int.tdiv (wrap .i64 (H13+15)) 16))*16))))≤(wrap .i64 ((wrap .i64 ((wrap .i64 (Int.tdiv (wrap .i64 (W11+15)) 16))*16))*(wrap .i64 ((wrap .i64 (Int.tdiv (wrap .i64 (H13+15)) 16))*16))))∧((8:Nat):Int)*(wrap .i64 ((wrap .i64 ((wrap .i64 (Int.tdiv (wrap .i64 (W11+15)) 16))*16))*(wrap .i64 ((wrap .i64 (Int.tdiv (wrap .i64 (H13+15)) 16))*16))))≤281474976710656∧(wrap .i64 ((wrap .i64 ((wrap .i64 (Int.tdiv (wrap .i64 (W11+15)) 16))*16))*(wrap .i64 ((wrap .i64 (Int.tdiv (wrap .i64 (H13+15)) 16))*16))))≤281474976710656∧alc H9 (.cells (List.toArray (reps (toNat (wrap .i64 ((wrap .i64 ((wrap .i64 (Int.tdiv (wrap .i64 (W11+15)) 16))*16))*(wrap .i64 ((wrap .i64 (Int.tdiv (wrap .i64 (H13+15)) 16))*16))))) (Array.toList #[.int .i64 0]))) 3) fun b14 H15=>0≤k8∧k8<((3:Nat):Int)∧#[Value.int .i64 (wrap .i64 ((wrap .i64 (Int.tdiv (wrap .i64 (W11+15)) 16))*16)),Value.int .i64 (wrap .i64 ((wrap .i64 (Int.tdiv (wrap .i64 (H13+15)) 16))*16)),Value.slice (some ⟨b14,0,none⟩) (toNat (wrap .i64 ((wrap .i64 ((wrap .i64 (Int.tdiv (wrap .i64 (W11+15)) 16))*16))*(wrap .i64 ((wrap .i64 (Int.tdiv (wrap .i64 (H13+15)) 16))*16))))) (toNat (wrap .i64 ((wrap .i64 ((wrap .i64 (Int.tdiv (wrap .i64 (W11+15)) 16))*16))*(wrap .i64 ((wrap .i64 (Int.tdiv (wrap .i64 (H13+15)) 16))*16)))))].size=3∧stAt H15 (.add ⟨b5,0,none⟩ (toNat k8*3)) (Array.toList #[.int .i64 (wrap .i64 ((wrap .i64 (Int.tdiv (wrap .i64 (W11+15)) 16))*16)),.int .i64 (wrap .i64 ((wrap .i64 (Int.tdiv (wrap .i64 (H13+15)) 16))*16)),.slice (some ⟨b14,0,none⟩) (toNat (wrap .i64 ((wrap .i64 ((wrap .i64 (Int.tdiv (wrap .i64 (W11+15)) 16))*16))*(wrap .i64 ((wrap .i64 (Int.tdiv (wrap .i64 (H13+15)) 16))*16))))) (toNat (wrap .i64 ((wrap .i64 ((wrap .i64 (Int.tdiv (wrap .i64 (W11+15)) 16))*16))*(wrap .i64 ((wrap .i64 (Int.tdiv (wrap .i64 (H13+15)) 16))*16)))))]) fun H16=>X7 [.int .i64 (wrap .i64 (k8+1))] H16)
 (∃a17,m1=some a17∧ ∃W18,cell H9 (.add a17 0)=some (.int .i64 W18)∧ ∃a19,m1=some a19∧ ∃H20,cell H9 (.add a19 1)=some (.int .i64 H20)∧ ∃a21,m1=some a21∧ ∃Ha22,cell H9 (.add a21 3)=some (.bool Ha22)∧Tryz.C 35 #[.int .i64 W18,.int .i64 H20,.bool Ha22] H9 fun r23 H24=> ∃r25p r25l r25c,r23= .slice r25p r25l r25c∧ ∀X26:Kl,(∀(n27:Int) H28,(br (decide (n27<(r25l:Int)))
 (∃a29,r25p=some a29∧0≤n27∧n27<(r25l:Int)∧ ∃v30,v30.size=3∧rowIn H28 (.add a29 (toNat n27*3)) v30∧alc H28 (.cells #[.int .i64 0,.int .i64 0,.int .i64 0] 112) fun b31 H32=>v30.size=3∧stAt H32 ⟨b31,0,none⟩ v30.toList fun H33=>alc H33 (.cells (Array.replicate 64 (Value.int .i64 0)) 48) fun b34 H35=> ∃a36,m1=some a36∧ ∃Bl37p Bl37l Bl37c,cell H35 (.add a36 4)=some (.slice Bl37p Bl37l Bl37c)∧ ∃a38,Bl37p=some a38∧0≤n27∧n27<(Bl37l:Int)∧ ∃v39,v39.size=64∧rowIn H35 (.add a38 (toNat n27*64)) v39∧ ∀X40:Kl,(∀(i41:Int) H42,(br (decide (i41<64))
 (0≤i41∧i41<((64:Nat):Int)∧ ∃v43,v39[(toNat i41*1)]?=some (.int .i64 v43)∧ ∃pa44,cell H42 (.add ⟨b31,0,none⟩ 0)=some (.int .i64 pa44)∧0≤pa44∧pa44<((3:Nat):Int)∧0≤i41∧i41<((64:Nat):Int)∧ ∃v45,cell H42 (.add (.add ⟨b3,0,none⟩ (toNat pa44*64)) (toNat i41*1))=some (.int .i64 v45)∧0≤i41∧i41<((64:Nat):Int)∧stAt H42 (.add ⟨b34,0,none⟩ (toNat i41*1)) [.int .i64 (wrap .i64 (v43*v45))] fun H46=>X40 [.int .i64 (wrap .i64 (i41+1))] H46)
 (∃v47,v47.size=64∧rowIn H42 ⟨b34,0,none⟩ v47∧Tryz.C 76 #[.agg v47] H42 fun r48 H49=> ∃r50,r48= .agg r50∧ ∀X51:Kl,(∀(i52:Int) H53,(br (decide (i52<64))
 (0≤i52∧i52<((64:Nat):Int)∧ ∃v54,r50[(toNat i52*1)]?=some (.int .i64 v54)∧ ∃pa55,cell H53 (.add ⟨b31,0,none⟩ 0)=some (.int .i64 pa55)∧0≤pa55∧pa55<((3:Nat):Int)∧ ∃s56p s56l s56c,cell H53 (.add (.add ⟨b5,0,none⟩ (toNat pa55*3)) 2)=some (.slice s56p s56l s56c)∧ ∃y57,cell H53 (.add ⟨b31,0,none⟩ 2)=some (.int .i64 y57)∧(8:Int)≠0∧ ∃pa58,cell H53 (.add ⟨b31,0,none⟩ 0)=some (.int .i64 pa58)∧0≤pa58∧pa58<((3:Nat):Int)∧ ∃w59,cell H53 (.add (.add ⟨b5,0,none⟩ (toNat pa58*3)) 0)=some (.int .i64 w59)∧ ∃x60,cell H53 (.add ⟨b31,0,none⟩ 1)=some (.int .i64 x60)∧(8:Int)≠0∧ ∃a61,s56p=some a61∧0≤(wrap .i64 ((wrap .i64 ((wrap .i64 ((wrap .i64 (y57+(wrap .i64 (Int.tdiv i52 8))))*w59))+x60))+(Int.tmod i52 8)))∧(wrap .i64 ((wrap .i64 ((wrap .i64 ((wrap .i64 (y57+(wrap .i64 (Int.tdiv i52 8))))*w59))+x60))+(Int.tmod i52 8)))<(s56l:Int)∧stAt H53 (.add a61 (toNat (wrap .i64 ((wrap .i64 ((wrap .i64 ((wrap .i64 (y57+(wrap .i64 (Int.tdiv i52 8))))*w59))+x60))+(Int.tmod i52 8)))*1)) [.int .i64 (min 255 (max 0 (wrap .i64 (v54+128))))] fun H62=>X51 [.int .i64 (wrap .i64 (i52+1))] H62)
 (X26 [.int .i64 (wrap .i64 (n27+1))] H53))→X51 [.int .i64 i52] H53)→X51 [.int .i64 0] H49))→X40 [.int .i64 i41] H42)→X40 [.int .i64 0] H35)
 (∃a63,m1=some a63∧ ∃W64,cell H28 (.add a63 0)=some (.int .i64 W64)∧ ∃a65,m1=some a65∧ ∃H66,cell H28 (.add a65 1)=some (.int .i64 H66)∧ ∀X67:Kl,(∀(i68:Int) H69,(br (decide (i68<(wrap .i64 (W64*H66))))
 (∃a70,m1=some a70∧ ∃W71,cell H69 (.add a70 0)=some (.int .i64 W71)∧W71≠0∧ ∃a72,m1=some a72∧ ∃W73,cell H69 (.add a72 0)=some (.int .i64 W73)∧W73≠0∧ ∀J74:Kl,(∀(hx75 hy76:Int) H77,(0≤(0:Int)∧(0:Int)<((3:Nat):Int)∧ ∃v78,v78.size=3∧rowIn H77 (.add ⟨b5,0,none⟩ (toNat (0:Int)*3)) v78∧0≤(1:Int)∧(1:Int)<((3:Nat):Int)∧ ∃v79,v79.size=3∧rowIn H77 (.add ⟨b5,0,none⟩ (toNat (1:Int)*3)) v79∧0≤(2:Int)∧(2:Int)<((3:Nat):Int)∧ ∃v80,v80.size=3∧rowIn H77 (.add ⟨b5,0,none⟩ (toNat (2:Int)*3)) v80∧Tryz.C 43 #[.agg v78,.int .i64 (Int.tmod i68 W71),.int .i64 (wrap .i64 (Int.tdiv i68 W73))] H77 fun r81 H82=> ∃r83,r81= .int .i64 r83∧(Ext H77 H82∨(∃v106,v106.size=3∧rowIn H82 (.add ⟨b5,0,none⟩ (toNat (2:Int)*3)) v106∧Value.agg v106= .agg v80)∧(∃v107,v107.size=3∧rowIn H82 (.add ⟨b5,0,none⟩ (toNat (1:Int)*3)) v107∧Value.agg v107= .agg v79))∧Tryz.C 43 #[.agg v79,.int .i64 hx75,.int .i64 hy76] H82 fun r84 H85=> ∃r86,r84= .int .i64 r86∧(Ext H82 H85∨(∃v105,v105.size=3∧rowIn H85 (.add ⟨b5,0,none⟩ (toNat (2:Int)*3)) v105∧Value.agg v105= .agg v80))∧Tryz.C 43 #[.agg v80,.int .i64 hx75,.int .i64 hy76] H85 fun r87 H88=> ∃r89,r87= .int .i64 r89∧Tryz.C 77 #[.agg #[.int .i64 r83,.int .i64 r86,.int .i64 r89]] H88 fun r90 H91=> ∃r92,r90= .agg r92∧ ∀X93:Kl,(∀(t94:Int) H95,(br (decide (t94<3))
 (0≤t94∧t94<((3:Nat):Int)∧ ∃v96,r92[(toNat t94*1)]?=some (.int .i64 v96)∧ ∃a97,m1=some a97∧ ∃RG98p RG98l RG98c,cell H95 (.add a97 2)=some (.slice RG98p RG98l RG98c)∧alc H95 (.cells #[.int .u8 (wrap .u8 v96)] 5) fun b99 H100=>appQ 1 1 #[.int .u8 0] H100 RG98p RG98l RG98c (some ⟨b99,0,none⟩) 1 5 fun ap101p ap101l ap101c H102=> ∃a103,m1=some a103∧stAt H102 (.add a103 2) [.slice ap101p ap101l ap101c] fun H104=>X93 [.int .i64 (wrap .i64 (t94+1))] H104)
 (X67 [.int .i64 (wrap .i64 (i68+1))] H95))→X93 [.int .i64 t94] H95)→X93 [.int .i64 0] H91)→J74 [.int .i64 hx75,.int .i64 hy76] H77)→
 ∃a108,m1=some a108∧ ∃Ha109,cell H69 (.add a108 3)=some (.bool Ha109)∧br Ha109
 ((2:Int)≠0∧(2:Int)≠0∧J74 [.int .i64 (wrap .i64 (Int.tdiv (Int.tmod i68 W71) 2)),.int .i64 (wrap .i64 (Int.tdiv (wrap .i64 (Int.tdiv i68 W73)) 2))] H69)
 (J74 [.int .i64 (Int.tmod i68 W71),.int .i64 (wrap .i64 (Int.tdiv i68 W73))] H69))
 (R (.tuple #[]) H69))→X67 [.int .i64 i68] H69)→X67 [.int .i64 0] H28))→X26 [.int .i64 n27] H28)→X26 [.int .i64 0] H24))→X7 [.int .i64 k8] H9)→X7 [.int .i64 0] H6
def Tryz.p39:Plan:=(tl (tl (two (tl (one (loop [(22,3)] [0,3,4] (tl (two (tl leaf) (two (one (tl (tl leaf))) leaf)))))) (two (tl (one (loop [(63,3)] [0,3,4,61,62] (tl (two (tl leaf) (two (one (tl (tl (two (tl (one (loop [(75,3)] [0,3,4,9,10,61,62,63,74] (tl (two (tl leaf) (two (one (tl leaf)) leaf)))))) (tl (one (loop [(92,3)] [0,3,4,9,61,62,63,91] (tl (two (tl leaf) (two (one (tl leaf)) leaf)))))))))) leaf)))))) (tl (one (loop [(134,3)] [0,4,133] (tl (two (tl leaf) (two (one (tl (tl (tl (two (join [(18,3),(19,3)] [0,4,16,17,133,134] (tl (tl leaf))) (tl (one (loop [(176,3)] [0,4,133,134,175] (tl (two (tl leaf) (two (one (tl leaf)) leaf))))))))))) leaf))))))))))
theorem Tryz.s39{m1:OA}{st2:AV}{H R}(h:Tryz.S39 m1 st2 H R):Tryz.C 39 #[.pointer m1,.agg st2] H R:=vcs Tryz.tab_ok Tryz.mixed Tryz.func39 Tryz.cal39 Tryz.p39 h (by kernel_rfl)
end Go.Proofs
