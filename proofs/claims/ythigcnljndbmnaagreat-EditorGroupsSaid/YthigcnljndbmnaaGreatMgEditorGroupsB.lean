/-
  OWN WORK. Several texts in one: ShP, ShL, TileW, TileStay, ShG, GTab, GFunA, GFunB, GFunC, GFunD, GFunE, GFunF, GFunG, GFunH.
-/
import Derived.Test.YthigcnljndbmnaaGreatMgEditorGroupsA
import Derived.ProofKit
import Derived.OpenShut
import Derived.RangeFuncRecord
import Derived.Test.YthigcnljndbmnaaGreatProg
import Derived.KernelRfl

set_option linter.unusedSimpArgs false
set_option linter.unusedVariables false
set_option maxRecDepth 100000
namespace Go.Sh
def br(t:Bool)(A B:Prop):Prop:=(t=true→A)∧(t=false→B)
def alc(H:Heap)(o:Obj)(K:Nat→Heap→Prop):Prop:=K H.size (H.push o)
abbrev Kv:=Value→Heap→Prop
namespace Plan
def tl(a:Plan):Plan:=two leaf a
def g0:Plan:=tl (two (tl leaf) leaf)
def tg(a:Plan):Plan:=two g0 a
end Plan
theorem vcs{P:Program}{T:Tab}(hT:TabOk P T)(hm:P.follows .mixedOrders=true){g:FuncId}{fn:Func}(hg:P.funcs[g]?=some fn)(hc:callable P g)(p:Plan){args:Array Value}{H:Heap}
 {R:Value→Heap→Prop}{A:Prop}(h:A)(e:A=vcFun P T fn p args.toList H R):CallsH P g args H R:=by
 have:=vcFun_sound hT hm hg hc (p:=p) (args:=args.toList) (H:=H) (R:=R) (Eq.mp e h)
 simpa using this
end Go.Sh
namespace Go.Sh
theorem br_dec{p:Prop}[Decidable p]{A B:Prop}(h:p→A)(h': ¬p→B):br (decide p) A B:=⟨fun e=>h (of_decide_eq_true e),fun e=>h' (of_decide_eq_false e)⟩
theorem br_n{p:Prop}[Decidable p]{A B:Prop}(hp: ¬p)(h:B):br (decide p) A B:=br_dec (fun y=>absurd y hp) (fun _=>h)
theorem lt_of_get{H:Heap}{b:Nat}{o:Obj}(h:H[b]?=some o):b<H.size:=(Array.getElem?_eq_some_iff.1 h).1
theorem get_push_self(H:Heap)(o:Obj):(H.push o)[H.size]?=some o:=by simp
theorem get_push{H:Heap}{b:Nat}{o x:Obj}(h:H[b]?=some x):(H.push o)[b]?=some x:=Ext.push H o b x h
theorem get_set_ne{H:Heap}{b r:Nat}{o x:Obj}(hne:r≠b)(h:H[b]?=some x):(H.setIfInBounds r o)[b]?=some x:=by
 rw[Array.getElem?_setIfInBounds_ne hne];exact h
theorem get_set_self{H:Heap}{r:Nat}{o x:Obj}(h:H[r]?=some x):(H.setIfInBounds r o)[r]?=some o:=by
 rw[Array.getElem?_setIfInBounds_self_of_lt (lt_of_get h)]
theorem cell_block{H:Heap}{b i:Nat}{c:Array Value}{t:TypeId}{f:Nat×Nat}(h:H[b]?=some (.cells c t f)):cell H ⟨b,i,none⟩=c[i]?:=by
 simp[cell,h]
theorem cell_get{H:Heap}{b i:Nat}{c:Array Value}{t:TypeId}{f:Nat×Nat}{v:Value}(h:H[b]?=some (.cells c t f))(hv:c[i]?=some v):cell H ⟨b,i,none⟩=some v:=by
 rw[cell_block h];exact hv
@[simp] theorem add_none(b i n:Nat):Addr.add ⟨b,i,none⟩ n=⟨b,i+n,none⟩:=by
 unfold Addr.add;split<;>simp_all
theorem rowIn_block{H:Heap}{b i:Nat}{c cs:Array Value}{t:TypeId}{f:Nat×Nat}(h:H[b]?=some (.cells c t f))(hc: ∀j v,cs[j]?=some v→c[i+j]?=some v):
 rowIn H ⟨b,i,none⟩ cs:=by
 intro j v hv
 rw[add_none,cell_block h]
 exact hc j v hv
theorem stAt_one{H:Heap}{b i:Nat}{c:Array Value}{t:TypeId}{v:Value}{f:Heap→Prop}(h:H[b]?=some (.cells c t (0,0)))(hi:i<c.size)(ho:v.oneCell'=true)
 (hf:f (H.setIfInBounds b (.cells (c.setIfInBounds i v) t (0,0)))):stAt H ⟨b,i,none⟩ [v] f:=by
 refine⟨c,t,h,rfl,(by simp;omega),by simpa using ho,?_⟩
 have:(setL c.toList i [v]).toArray=c.setIfInBounds i v:=by
  rw[setL_one (by simpa using hi)]
  apply Array.toList_inj.1
  simp
 simp only[this]
 exact hf
theorem stAt_whole{H:Heap}{b:Nat}{c:Array Value}{t:TypeId}{vs:List Value}{f:Heap→Prop}(h:H[b]?=some (.cells c t (0,0)))(hl:vs.length=c.size)(ho: ∀v∈vs,v.oneCell'=true)
 (hf:f (H.setIfInBounds b (.cells vs.toArray t (0,0)))):stAt H ⟨b,0,none⟩ vs f:=by
 refine⟨c,t,h,rfl,by simp;omega,ho,?_⟩
 have:setL c.toList 0 vs=vs:=by simp[setL,hl]
 simp only[this]
 exact hf
end Go.Sh
namespace Go.Sh
open Go.RowKit
end Go.Sh
namespace Go.Sh
open Go.RowKit Go.ChangeShapes Go.WideShapes Go.ChangeAt
section
variable {H:Type} {enc:TypeId×Value→H} {P:Program} {W W':World}
end
end Go.Sh
namespace Go.Sh
variable {P:Program}
def Mk(m:Option Nat)(a:Act):Prop:=a.defers=match m with
 |none=>[]
 |some D=>[{target:= .collected D,args:=#[]}]
theorem Mk.put{m:Option Nat}{a:Act}(h:Mk m a)(d:Option Tmp)(v:Value):Mk m (a.put d v):=by
 unfold Mk at*;rw[put_defers];exact h
end Go.Sh
namespace Go.Proofs
open Go.Sh
def Tryz.i0:TI:=⟨.tuple [],1,0,Value.tuple #[]⟩
theorem Tryz.tok0:TIok Tryz.prog 0 Tryz.i0:=⟨by kernel_rfl,by kernel_rfl⟩
def Tryz.i3:TI:=⟨.int .i64,1,8,Value.int .i64 0⟩
theorem Tryz.tok3:TIok Tryz.prog 3 Tryz.i3:=⟨by kernel_rfl,by kernel_rfl⟩
def Tryz.i4:TI:=⟨.bool,1,1,Value.bool false⟩
theorem Tryz.tok4:TIok Tryz.prog 4 Tryz.i4:=⟨by kernel_rfl,by kernel_rfl⟩
def Tryz.i5:TI:=⟨.int .u8,1,1,Value.int .u8 0⟩
theorem Tryz.tok5:TIok Tryz.prog 5 Tryz.i5:=⟨by kernel_rfl,by kernel_rfl⟩
def Tryz.i9:TI:=⟨.str,1,16,Value.string ByteArray.empty⟩
theorem Tryz.tok9:TIok Tryz.prog 9 Tryz.i9:=⟨by kernel_rfl,by kernel_rfl⟩
def Tryz.i23:TI:=⟨.ptr 53,1,8,Value.pointer none⟩
theorem Tryz.tok23:TIok Tryz.prog 23 Tryz.i23:=⟨by kernel_rfl,by kernel_rfl⟩
def Tryz.i25:TI:=⟨.ptr 68,1,8,Value.pointer none⟩
theorem Tryz.tok25:TIok Tryz.prog 25 Tryz.i25:=⟨by kernel_rfl,by kernel_rfl⟩
def Tryz.i26:TI:=⟨.int .i64,1,8,Value.int .i64 0⟩
theorem Tryz.tok26:TIok Tryz.prog 26 Tryz.i26:=⟨by kernel_rfl,by kernel_rfl⟩
def Tryz.i27:TI:=⟨.tuple [25,26],1,0,Value.tuple #[Value.pointer none,Value.int .i64 0]⟩
theorem Tryz.tok27:TIok Tryz.prog 27 Tryz.i27:=⟨by kernel_rfl,by kernel_rfl⟩
def Tryz.i30:TI:=⟨.struct [(0,3),(1,3),(2,3)],3,24,Value.agg #[Value.int .i64 0,Value.int .i64 0,Value.int .i64 0]⟩
theorem Tryz.tok30:TIok Tryz.prog 30 Tryz.i30:=⟨by kernel_rfl,by kernel_rfl⟩
def Tryz.i31:TI:=⟨.sl 3,1,24,Value.slice none 0 0⟩
theorem Tryz.tok31:TIok Tryz.prog 31 Tryz.i31:=⟨by kernel_rfl,by kernel_rfl⟩
def Tryz.i32:TI:=⟨.sl 5,1,24,Value.slice none 0 0⟩
theorem Tryz.tok32:TIok Tryz.prog 32 Tryz.i32:=⟨by kernel_rfl,by kernel_rfl⟩
def Tryz.i34:TI:=⟨.struct [(0,26),(1,31),(2,32)],3,56,Value.agg #[Value.int .i64 0,Value.slice none 0 0,Value.slice none 0 0]⟩
theorem Tryz.tok34:TIok Tryz.prog 34 Tryz.i34:=⟨by kernel_rfl,by kernel_rfl⟩
def Tryz.i36:TI:=⟨.sl 146,1,24,Value.slice none 0 0⟩
theorem Tryz.tok36:TIok Tryz.prog 36 Tryz.i36:=⟨by kernel_rfl,by kernel_rfl⟩
def Tryz.i38:TI:=⟨.arr 6 3,6,48,Value.agg #[Value.int .i64 0,Value.int .i64 0,Value.int .i64 0,Value.int .i64 0,Value.int .i64 0,Value.int .i64 0]⟩
theorem Tryz.tok38:TIok Tryz.prog 38 Tryz.i38:=⟨by kernel_rfl,by kernel_rfl⟩
def Tryz.i40:TI:=⟨.struct [(0,3),(1,3),(2,3),(3,3),(4,3),(5,3),(6,3),(7,3),(8,3),(9,3),(10,31),(11,36),(12,38),(18,31)],19,200,Value.agg #[Value.int .i64 0,Value.int .i64 0,Value.int .i64 0,Value.int .i64 0,Value.int .i64 0,Value.int .i64 0,Value.int .i64 0,Value.int .i64 0,Value.int .i64 0,Value.int .i64 0,Value.slice none 0 0,Value.slice none 0 0,Value.int .i64 0,Value.int .i64 0,Value.int .i64 0,Value.int .i64 0,Value.int .i64 0,Value.int .i64 0,Value.slice none 0 0]⟩
theorem Tryz.tok40:TIok Tryz.prog 40 Tryz.i40:=⟨by kernel_rfl,by kernel_rfl⟩
def Tryz.i42:TI:=⟨.struct [(0,3),(1,40),(20,3),(21,3),(22,3),(23,3),(24,3),(25,4)],26,256,Value.agg #[Value.int .i64 0,Value.int .i64 0,Value.int .i64 0,Value.int .i64 0,Value.int .i64 0,Value.int .i64 0,Value.int .i64 0,Value.int .i64 0,Value.int .i64 0,Value.int .i64 0,Value.int .i64 0,Value.slice none 0 0,Value.slice none 0 0,Value.int .i64 0,Value.int .i64 0,Value.int .i64 0,Value.int .i64 0,Value.int .i64 0,Value.int .i64 0,Value.slice none 0 0,Value.int .i64 0,Value.int .i64 0,Value.int .i64 0,Value.int .i64 0,Value.int .i64 0,Value.bool false]⟩
theorem Tryz.tok42:TIok Tryz.prog 42 Tryz.i42:=⟨by kernel_rfl,by kernel_rfl⟩
def Tryz.i44:TI:=⟨.sl 118,1,24,Value.slice none 0 0⟩
theorem Tryz.tok44:TIok Tryz.prog 44 Tryz.i44:=⟨by kernel_rfl,by kernel_rfl⟩
def Tryz.i46:TI:=⟨.struct [(0,3),(1,3),(2,3),(3,44)],4,48,Value.agg #[Value.int .i64 0,Value.int .i64 0,Value.int .i64 0,Value.slice none 0 0]⟩
theorem Tryz.tok46:TIok Tryz.prog 46 Tryz.i46:=⟨by kernel_rfl,by kernel_rfl⟩
def Tryz.i47:TI:=⟨.sl 46,1,24,Value.slice none 0 0⟩
theorem Tryz.tok47:TIok Tryz.prog 47 Tryz.i47:=⟨by kernel_rfl,by kernel_rfl⟩
def Tryz.i49:TI:=⟨.struct [(0,46),(4,47),(5,47)],6,96,Value.agg #[Value.int .i64 0,Value.int .i64 0,Value.int .i64 0,Value.slice none 0 0,Value.slice none 0 0,Value.slice none 0 0]⟩
theorem Tryz.tok49:TIok Tryz.prog 49 Tryz.i49:=⟨by kernel_rfl,by kernel_rfl⟩
def Tryz.i53:TI:=⟨.struct [(0,32),(1,3),(2,3),(3,3),(4,4)],5,56,Value.agg #[Value.slice none 0 0,Value.int .i64 0,Value.int .i64 0,Value.int .i64 0,Value.bool false]⟩
theorem Tryz.tok53:TIok Tryz.prog 53 Tryz.i53:=⟨by kernel_rfl,by kernel_rfl⟩
def Tryz.i54:TI:=⟨.tuple [32,26],1,0,Value.tuple #[Value.slice none 0 0,Value.int .i64 0]⟩
theorem Tryz.tok54:TIok Tryz.prog 54 Tryz.i54:=⟨by kernel_rfl,by kernel_rfl⟩
def Tryz.i57:TI:=⟨.ptr 84,1,8,Value.pointer none⟩
theorem Tryz.tok57:TIok Tryz.prog 57 Tryz.i57:=⟨by kernel_rfl,by kernel_rfl⟩
def Tryz.i58:TI:=⟨.sl 32,1,24,Value.slice none 0 0⟩
theorem Tryz.tok58:TIok Tryz.prog 58 Tryz.i58:=⟨by kernel_rfl,by kernel_rfl⟩
def Tryz.i59:TI:=⟨.tuple [57,58,26],1,0,Value.tuple #[Value.pointer none,Value.slice none 0 0,Value.int .i64 0]⟩
theorem Tryz.tok59:TIok Tryz.prog 59 Tryz.i59:=⟨by kernel_rfl,by kernel_rfl⟩
def Tryz.i61:TI:=⟨.ptr 115,1,8,Value.pointer none⟩
theorem Tryz.tok61:TIok Tryz.prog 61 Tryz.i61:=⟨by kernel_rfl,by kernel_rfl⟩
def Tryz.i62:TI:=⟨.ptr 101,1,8,Value.pointer none⟩
theorem Tryz.tok62:TIok Tryz.prog 62 Tryz.i62:=⟨by kernel_rfl,by kernel_rfl⟩
def Tryz.i63:TI:=⟨.ptr 110,1,8,Value.pointer none⟩
theorem Tryz.tok63:TIok Tryz.prog 63 Tryz.i63:=⟨by kernel_rfl,by kernel_rfl⟩
def Tryz.i65:TI:=⟨.map 3 133,1,8,Value.map none⟩
theorem Tryz.tok65:TIok Tryz.prog 65 Tryz.i65:=⟨by kernel_rfl,by kernel_rfl⟩
def Tryz.i66:TI:=⟨.sl 65,1,24,Value.slice none 0 0⟩
theorem Tryz.tok66:TIok Tryz.prog 66 Tryz.i66:=⟨by kernel_rfl,by kernel_rfl⟩
def Tryz.i68:TI:=⟨.struct [(0,30),(3,61),(4,62),(5,57),(6,63),(7,65),(8,66),(9,66)],10,112,Value.agg #[Value.int .i64 0,Value.int .i64 0,Value.int .i64 0,Value.pointer none,Value.pointer none,Value.pointer none,Value.pointer none,Value.map none,Value.slice none 0 0,Value.slice none 0 0]⟩
theorem Tryz.tok68:TIok Tryz.prog 68 Tryz.i68:=⟨by kernel_rfl,by kernel_rfl⟩
def Tryz.i71:TI:=⟨.fn,1,8,Value.nilFunc⟩
theorem Tryz.tok71:TIok Tryz.prog 71 Tryz.i71:=⟨by kernel_rfl,by kernel_rfl⟩
def Tryz.i73:TI:=⟨.tuple [31,26],1,0,Value.tuple #[Value.slice none 0 0,Value.int .i64 0]⟩
theorem Tryz.tok73:TIok Tryz.prog 73 Tryz.i73:=⟨by kernel_rfl,by kernel_rfl⟩
def Tryz.i77:TI:=⟨.tuple [46,26],1,0,Value.tuple #[Value.agg #[Value.int .i64 0,Value.int .i64 0,Value.int .i64 0,Value.slice none 0 0],Value.int .i64 0]⟩
theorem Tryz.tok77:TIok Tryz.prog 77 Tryz.i77:=⟨by kernel_rfl,by kernel_rfl⟩
def Tryz.i80:TI:=⟨.tuple [58,3],1,0,Value.tuple #[Value.slice none 0 0,Value.int .i64 0]⟩
theorem Tryz.tok80:TIok Tryz.prog 80 Tryz.i80:=⟨by kernel_rfl,by kernel_rfl⟩
def Tryz.i84:TI:=⟨.struct [(0,23),(1,4)],2,16,Value.agg #[Value.pointer none,Value.bool false]⟩
theorem Tryz.tok84:TIok Tryz.prog 84 Tryz.i84:=⟨by kernel_rfl,by kernel_rfl⟩
def Tryz.i85:TI:=⟨.int .u64,1,8,Value.int .u64 0⟩
theorem Tryz.tok85:TIok Tryz.prog 85 Tryz.i85:=⟨by kernel_rfl,by kernel_rfl⟩
def Tryz.i90:TI:=⟨.tuple [65,4],1,0,Value.tuple #[Value.map none,Value.bool false]⟩
theorem Tryz.tok90:TIok Tryz.prog 90 Tryz.i90:=⟨by kernel_rfl,by kernel_rfl⟩
def Tryz.i96:TI:=⟨.ptr 66,1,8,Value.pointer none⟩
theorem Tryz.tok96:TIok Tryz.prog 96 Tryz.i96:=⟨by kernel_rfl,by kernel_rfl⟩
def Tryz.i99:TI:=⟨.map 153 31,1,8,Value.map none⟩
theorem Tryz.tok99:TIok Tryz.prog 99 Tryz.i99:=⟨by kernel_rfl,by kernel_rfl⟩
def Tryz.i101:TI:=⟨.struct [(0,46),(4,99),(5,3)],6,64,Value.agg #[Value.int .i64 0,Value.int .i64 0,Value.int .i64 0,Value.slice none 0 0,Value.map none,Value.int .i64 0]⟩
theorem Tryz.tok101:TIok Tryz.prog 101 Tryz.i101:=⟨by kernel_rfl,by kernel_rfl⟩
def Tryz.i104:TI:=⟨.struct [(0,3),(1,3),(2,31)],3,40,Value.agg #[Value.int .i64 0,Value.int .i64 0,Value.slice none 0 0]⟩
theorem Tryz.tok104:TIok Tryz.prog 104 Tryz.i104:=⟨by kernel_rfl,by kernel_rfl⟩
def Tryz.i110:TI:=⟨.struct [(0,3)],1,8,Value.agg #[Value.int .i64 0]⟩
theorem Tryz.tok110:TIok Tryz.prog 110 Tryz.i110:=⟨by kernel_rfl,by kernel_rfl⟩
def Tryz.i113:TI:=⟨.struct [(0,47)],1,24,Value.agg #[Value.slice none 0 0]⟩
theorem Tryz.tok113:TIok Tryz.prog 113 Tryz.i113:=⟨by kernel_rfl,by kernel_rfl⟩
def Tryz.i115:TI:=⟨.struct [(0,46),(4,113),(5,113)],6,96,Value.agg #[Value.int .i64 0,Value.int .i64 0,Value.int .i64 0,Value.slice none 0 0,Value.slice none 0 0,Value.slice none 0 0]⟩
theorem Tryz.tok115:TIok Tryz.prog 115 Tryz.i115:=⟨by kernel_rfl,by kernel_rfl⟩
def Tryz.i118:TI:=⟨.struct [(0,3),(1,3),(2,4),(3,3),(4,3),(5,3),(6,3),(7,31),(8,32),(9,38),(15,4),(16,3),(17,31),(18,44)],19,216,Value.agg #[Value.int .i64 0,Value.int .i64 0,Value.bool false,Value.int .i64 0,Value.int .i64 0,Value.int .i64 0,Value.int .i64 0,Value.slice none 0 0,Value.slice none 0 0,Value.int .i64 0,Value.int .i64 0,Value.int .i64 0,Value.int .i64 0,Value.int .i64 0,Value.int .i64 0,Value.bool false,Value.int .i64 0,Value.slice none 0 0,Value.slice none 0 0]⟩
theorem Tryz.tok118:TIok Tryz.prog 118 Tryz.i118:=⟨by kernel_rfl,by kernel_rfl⟩
def Tryz.i126:TI:=⟨.ptr 118,1,8,Value.pointer none⟩
theorem Tryz.tok126:TIok Tryz.prog 126 Tryz.i126:=⟨by kernel_rfl,by kernel_rfl⟩
def Tryz.i128:TI:=⟨.ptr 46,1,8,Value.pointer none⟩
theorem Tryz.tok128:TIok Tryz.prog 128 Tryz.i128:=⟨by kernel_rfl,by kernel_rfl⟩
def Tryz.i130:TI:=⟨.struct [(0,126),(1,128),(2,40)],21,216,Value.agg #[Value.pointer none,Value.pointer none,Value.int .i64 0,Value.int .i64 0,Value.int .i64 0,Value.int .i64 0,Value.int .i64 0,Value.int .i64 0,Value.int .i64 0,Value.int .i64 0,Value.int .i64 0,Value.int .i64 0,Value.slice none 0 0,Value.slice none 0 0,Value.int .i64 0,Value.int .i64 0,Value.int .i64 0,Value.int .i64 0,Value.int .i64 0,Value.int .i64 0,Value.slice none 0 0]⟩
theorem Tryz.tok130:TIok Tryz.prog 130 Tryz.i130:=⟨by kernel_rfl,by kernel_rfl⟩
def Tryz.i131:TI:=⟨.fn,1,8,Value.nilFunc⟩
theorem Tryz.tok131:TIok Tryz.prog 131 Tryz.i131:=⟨by kernel_rfl,by kernel_rfl⟩
def Tryz.i132:TI:=⟨.sl 131,1,24,Value.slice none 0 0⟩
theorem Tryz.tok132:TIok Tryz.prog 132 Tryz.i132:=⟨by kernel_rfl,by kernel_rfl⟩
def Tryz.i133:TI:=⟨.ptr 203,1,8,Value.pointer none⟩
theorem Tryz.tok133:TIok Tryz.prog 133 Tryz.i133:=⟨by kernel_rfl,by kernel_rfl⟩
def Tryz.i136:TI:=⟨.tuple [133,26],1,0,Value.tuple #[Value.pointer none,Value.int .i64 0]⟩
theorem Tryz.tok136:TIok Tryz.prog 136 Tryz.i136:=⟨by kernel_rfl,by kernel_rfl⟩
def Tryz.i139:TI:=⟨.fn,1,8,Value.nilFunc⟩
theorem Tryz.tok139:TIok Tryz.prog 139 Tryz.i139:=⟨by kernel_rfl,by kernel_rfl⟩
def Tryz.i140:TI:=⟨.ptr 142,1,8,Value.pointer none⟩
theorem Tryz.tok140:TIok Tryz.prog 140 Tryz.i140:=⟨by kernel_rfl,by kernel_rfl⟩
def Tryz.i142:TI:=⟨.struct [(0,32)],1,24,Value.agg #[Value.slice none 0 0]⟩
theorem Tryz.tok142:TIok Tryz.prog 142 Tryz.i142:=⟨by kernel_rfl,by kernel_rfl⟩
def Tryz.i146:TI:=⟨.struct [(0,3),(1,3)],2,16,Value.agg #[Value.int .i64 0,Value.int .i64 0]⟩
theorem Tryz.tok146:TIok Tryz.prog 146 Tryz.i146:=⟨by kernel_rfl,by kernel_rfl⟩
def Tryz.i149:TI:=⟨.tuple [118,4],1,0,Value.tuple #[Value.agg #[Value.int .i64 0,Value.int .i64 0,Value.bool false,Value.int .i64 0,Value.int .i64 0,Value.int .i64 0,Value.int .i64 0,Value.slice none 0 0,Value.slice none 0 0,Value.int .i64 0,Value.int .i64 0,Value.int .i64 0,Value.int .i64 0,Value.int .i64 0,Value.int .i64 0,Value.bool false,Value.int .i64 0,Value.slice none 0 0,Value.slice none 0 0],Value.bool false]⟩
theorem Tryz.tok149:TIok Tryz.prog 149 Tryz.i149:=⟨by kernel_rfl,by kernel_rfl⟩
def Tryz.i153:TI:=⟨.arr 2 3,2,16,Value.agg #[Value.int .i64 0,Value.int .i64 0]⟩
theorem Tryz.tok153:TIok Tryz.prog 153 Tryz.i153:=⟨by kernel_rfl,by kernel_rfl⟩
def Tryz.i155:TI:=⟨.ptr 113,1,8,Value.pointer none⟩
theorem Tryz.tok155:TIok Tryz.prog 155 Tryz.i155:=⟨by kernel_rfl,by kernel_rfl⟩
def Tryz.i157:TI:=⟨.tuple [31,4],1,0,Value.tuple #[Value.slice none 0 0,Value.bool false]⟩
theorem Tryz.tok157:TIok Tryz.prog 157 Tryz.i157:=⟨by kernel_rfl,by kernel_rfl⟩
def Tryz.i162:TI:=⟨.fn,1,8,Value.nilFunc⟩
theorem Tryz.tok162:TIok Tryz.prog 162 Tryz.i162:=⟨by kernel_rfl,by kernel_rfl⟩
def Tryz.i164:TI:=⟨.arr 4 3,4,32,Value.agg #[Value.int .i64 0,Value.int .i64 0,Value.int .i64 0,Value.int .i64 0]⟩
theorem Tryz.tok164:TIok Tryz.prog 164 Tryz.i164:=⟨by kernel_rfl,by kernel_rfl⟩
def Tryz.i167:TI:=⟨.sl 170,1,24,Value.slice none 0 0⟩
theorem Tryz.tok167:TIok Tryz.prog 167 Tryz.i167:=⟨by kernel_rfl,by kernel_rfl⟩
def Tryz.i168:TI:=⟨.tuple [167,26],1,0,Value.tuple #[Value.slice none 0 0,Value.int .i64 0]⟩
theorem Tryz.tok168:TIok Tryz.prog 168 Tryz.i168:=⟨by kernel_rfl,by kernel_rfl⟩
def Tryz.i170:TI:=⟨.arr 64 3,64,512,Value.agg (Array.replicate 64 (Value.int .i64 0))⟩
theorem Tryz.tok170:TIok Tryz.prog 170 Tryz.i170:=⟨by kernel_rfl,by kernel_rfl⟩
def Tryz.i172:TI:=⟨.tuple [170,4],1,0,Value.tuple #[Value.agg (Array.replicate 64 (Value.int .i64 0)),Value.bool false]⟩
theorem Tryz.tok172:TIok Tryz.prog 172 Tryz.i172:=⟨by kernel_rfl,by kernel_rfl⟩
def Tryz.i175:TI:=⟨.sl 179,1,24,Value.slice none 0 0⟩
theorem Tryz.tok175:TIok Tryz.prog 175 Tryz.i175:=⟨by kernel_rfl,by kernel_rfl⟩
def Tryz.i177:TI:=⟨.arr 4 31,4,96,Value.agg #[Value.slice none 0 0,Value.slice none 0 0,Value.slice none 0 0,Value.slice none 0 0]⟩
theorem Tryz.tok177:TIok Tryz.prog 177 Tryz.i177:=⟨by kernel_rfl,by kernel_rfl⟩
def Tryz.i179:TI:=⟨.struct [(0,3),(1,3),(2,3),(3,3)],4,32,Value.agg #[Value.int .i64 0,Value.int .i64 0,Value.int .i64 0,Value.int .i64 0]⟩
theorem Tryz.tok179:TIok Tryz.prog 179 Tryz.i179:=⟨by kernel_rfl,by kernel_rfl⟩
def Tryz.i180:TI:=⟨.tuple [32,31,31],1,0,Value.tuple #[Value.slice none 0 0,Value.slice none 0 0,Value.slice none 0 0]⟩
theorem Tryz.tok180:TIok Tryz.prog 180 Tryz.i180:=⟨by kernel_rfl,by kernel_rfl⟩
def Tryz.i182:TI:=⟨.ptr 252,1,8,Value.pointer none⟩
theorem Tryz.tok182:TIok Tryz.prog 182 Tryz.i182:=⟨by kernel_rfl,by kernel_rfl⟩
def Tryz.i188:TI:=⟨.tuple [126,26],1,0,Value.tuple #[Value.pointer none,Value.int .i64 0]⟩
theorem Tryz.tok188:TIok Tryz.prog 188 Tryz.i188:=⟨by kernel_rfl,by kernel_rfl⟩
def Tryz.i191:TI:=⟨.tuple [126,126,3],1,0,Value.tuple #[Value.pointer none,Value.pointer none,Value.int .i64 0]⟩
theorem Tryz.tok191:TIok Tryz.prog 191 Tryz.i191:=⟨by kernel_rfl,by kernel_rfl⟩
def Tryz.i195:TI:=⟨.fn,1,8,Value.nilFunc⟩
theorem Tryz.tok195:TIok Tryz.prog 195 Tryz.i195:=⟨by kernel_rfl,by kernel_rfl⟩
def Tryz.i197:TI:=⟨.tuple [38,26],1,0,Value.tuple #[Value.agg #[Value.int .i64 0,Value.int .i64 0,Value.int .i64 0,Value.int .i64 0,Value.int .i64 0,Value.int .i64 0],Value.int .i64 0]⟩
theorem Tryz.tok197:TIok Tryz.prog 197 Tryz.i197:=⟨by kernel_rfl,by kernel_rfl⟩
def Tryz.i201:TI:=⟨.map 153 204,1,8,Value.map none⟩
theorem Tryz.tok201:TIok Tryz.prog 201 Tryz.i201:=⟨by kernel_rfl,by kernel_rfl⟩
def Tryz.i203:TI:=⟨.struct [(0,63),(1,3),(2,3),(3,201)],4,32,Value.agg #[Value.pointer none,Value.int .i64 0,Value.int .i64 0,Value.map none]⟩
theorem Tryz.tok203:TIok Tryz.prog 203 Tryz.i203:=⟨by kernel_rfl,by kernel_rfl⟩
def Tryz.i204:TI:=⟨.ptr 208,1,8,Value.pointer none⟩
theorem Tryz.tok204:TIok Tryz.prog 204 Tryz.i204:=⟨by kernel_rfl,by kernel_rfl⟩
def Tryz.i205:TI:=⟨.int .u32,1,4,Value.int .u32 0⟩
theorem Tryz.tok205:TIok Tryz.prog 205 Tryz.i205:=⟨by kernel_rfl,by kernel_rfl⟩
def Tryz.i206:TI:=⟨.arr 256 205,256,1024,Value.agg (Array.replicate 256 (Value.int .u32 0))⟩
theorem Tryz.tok206:TIok Tryz.prog 206 Tryz.i206:=⟨by kernel_rfl,by kernel_rfl⟩
def Tryz.i208:TI:=⟨.struct [(0,206),(256,3)],257,1032,Value.agg (Array.replicate 256 (Value.int .u32 0)++#[Value.int .i64 0])⟩
theorem Tryz.tok208:TIok Tryz.prog 208 Tryz.i208:=⟨by kernel_rfl,by kernel_rfl⟩
def Tryz.i210:TI:=⟨.tuple [153,3],1,0,Value.tuple #[Value.agg #[Value.int .i64 0,Value.int .i64 0],Value.int .i64 0]⟩
theorem Tryz.tok210:TIok Tryz.prog 210 Tryz.i210:=⟨by kernel_rfl,by kernel_rfl⟩
def Tryz.i213:TI:=⟨.int .u64,1,8,Value.int .u64 0⟩
theorem Tryz.tok213:TIok Tryz.prog 213 Tryz.i213:=⟨by kernel_rfl,by kernel_rfl⟩
def Tryz.i214:TI:=⟨.tuple [3,3,4],1,0,Value.tuple #[Value.int .i64 0,Value.int .i64 0,Value.bool false]⟩
theorem Tryz.tok214:TIok Tryz.prog 214 Tryz.i214:=⟨by kernel_rfl,by kernel_rfl⟩
def Tryz.i216:TI:=⟨.tuple [46,4],1,0,Value.tuple #[Value.agg #[Value.int .i64 0,Value.int .i64 0,Value.int .i64 0,Value.slice none 0 0],Value.bool false]⟩
theorem Tryz.tok216:TIok Tryz.prog 216 Tryz.i216:=⟨by kernel_rfl,by kernel_rfl⟩
def Tryz.i219:TI:=⟨.sl 261,1,24,Value.slice none 0 0⟩
theorem Tryz.tok219:TIok Tryz.prog 219 Tryz.i219:=⟨by kernel_rfl,by kernel_rfl⟩
def Tryz.i222:TI:=⟨.struct [(0,182)],1,8,Value.agg #[Value.pointer none]⟩
theorem Tryz.tok222:TIok Tryz.prog 222 Tryz.i222:=⟨by kernel_rfl,by kernel_rfl⟩
def Tryz.i225:TI:=⟨.struct [(0,31),(1,31),(2,31),(3,31)],4,96,Value.agg #[Value.slice none 0 0,Value.slice none 0 0,Value.slice none 0 0,Value.slice none 0 0]⟩
theorem Tryz.tok225:TIok Tryz.prog 225 Tryz.i225:=⟨by kernel_rfl,by kernel_rfl⟩
def Tryz.i227:TI:=⟨.tuple [31,31],1,0,Value.tuple #[Value.slice none 0 0,Value.slice none 0 0]⟩
theorem Tryz.tok227:TIok Tryz.prog 227 Tryz.i227:=⟨by kernel_rfl,by kernel_rfl⟩
def Tryz.i231:TI:=⟨.struct [(0,46),(4,3),(5,3),(6,3),(7,3)],8,80,Value.agg #[Value.int .i64 0,Value.int .i64 0,Value.int .i64 0,Value.slice none 0 0,Value.int .i64 0,Value.int .i64 0,Value.int .i64 0,Value.int .i64 0]⟩
theorem Tryz.tok231:TIok Tryz.prog 231 Tryz.i231:=⟨by kernel_rfl,by kernel_rfl⟩
def Tryz.i237:TI:=⟨.struct [(0,3),(1,3),(2,31)],3,40,Value.agg #[Value.int .i64 0,Value.int .i64 0,Value.slice none 0 0]⟩
theorem Tryz.tok237:TIok Tryz.prog 237 Tryz.i237:=⟨by kernel_rfl,by kernel_rfl⟩
def Tryz.i238:TI:=⟨.arr 3 237,9,120,Value.agg #[Value.int .i64 0,Value.int .i64 0,Value.slice none 0 0,Value.int .i64 0,Value.int .i64 0,Value.slice none 0 0,Value.int .i64 0,Value.int .i64 0,Value.slice none 0 0]⟩
theorem Tryz.tok238:TIok Tryz.prog 238 Tryz.i238:=⟨by kernel_rfl,by kernel_rfl⟩
def Tryz.i240:TI:=⟨.sl 243,1,24,Value.slice none 0 0⟩
theorem Tryz.tok240:TIok Tryz.prog 240 Tryz.i240:=⟨by kernel_rfl,by kernel_rfl⟩
def Tryz.i243:TI:=⟨.struct [(0,3),(1,3),(2,3)],3,24,Value.agg #[Value.int .i64 0,Value.int .i64 0,Value.int .i64 0]⟩
theorem Tryz.tok243:TIok Tryz.prog 243 Tryz.i243:=⟨by kernel_rfl,by kernel_rfl⟩
def Tryz.i246:TI:=⟨.arr 3 3,3,24,Value.agg #[Value.int .i64 0,Value.int .i64 0,Value.int .i64 0]⟩
theorem Tryz.tok246:TIok Tryz.prog 246 Tryz.i246:=⟨by kernel_rfl,by kernel_rfl⟩
def Tryz.i247:TI:=⟨.tuple [3,3],1,0,Value.tuple #[Value.int .i64 0,Value.int .i64 0]⟩
theorem Tryz.tok247:TIok Tryz.prog 247 Tryz.i247:=⟨by kernel_rfl,by kernel_rfl⟩
def Tryz.i248:TI:=⟨.fn,1,8,Value.nilFunc⟩
theorem Tryz.tok248:TIok Tryz.prog 248 Tryz.i248:=⟨by kernel_rfl,by kernel_rfl⟩
def Tryz.i252:TI:=⟨.struct [(0,32),(1,3),(2,4)],3,40,Value.agg #[Value.slice none 0 0,Value.int .i64 0,Value.bool false]⟩
theorem Tryz.tok252:TIok Tryz.prog 252 Tryz.i252:=⟨by kernel_rfl,by kernel_rfl⟩
def Tryz.i261:TI:=⟨.struct [(0,3),(1,3),(2,5)],3,24,Value.agg #[Value.int .i64 0,Value.int .i64 0,Value.int .u8 0]⟩
theorem Tryz.tok261:TIok Tryz.prog 261 Tryz.i261:=⟨by kernel_rfl,by kernel_rfl⟩
def Tryz.i262:TI:=⟨.ptr 264,1,8,Value.pointer none⟩
theorem Tryz.tok262:TIok Tryz.prog 262 Tryz.i262:=⟨by kernel_rfl,by kernel_rfl⟩
def Tryz.i264:TI:=⟨.struct [(0,32),(1,31),(2,31)],3,72,Value.agg #[Value.slice none 0 0,Value.slice none 0 0,Value.slice none 0 0]⟩
theorem Tryz.tok264:TIok Tryz.prog 264 Tryz.i264:=⟨by kernel_rfl,by kernel_rfl⟩
def Tryz.i267:TI:=⟨.tuple [3,3,3],1,0,Value.tuple #[Value.int .i64 0,Value.int .i64 0,Value.int .i64 0]⟩
theorem Tryz.tok267:TIok Tryz.prog 267 Tryz.i267:=⟨by kernel_rfl,by kernel_rfl⟩
def Tryz.i280:TI:=⟨.fn,1,8,Value.nilFunc⟩
theorem Tryz.tok280:TIok Tryz.prog 280 Tryz.i280:=⟨by kernel_rfl,by kernel_rfl⟩
def Tryz.i284:TI:=⟨.arr 8 3,8,64,Value.agg #[Value.int .i64 0,Value.int .i64 0,Value.int .i64 0,Value.int .i64 0,Value.int .i64 0,Value.int .i64 0,Value.int .i64 0,Value.int .i64 0]⟩
theorem Tryz.tok284:TIok Tryz.prog 284 Tryz.i284:=⟨by kernel_rfl,by kernel_rfl⟩
def Tryz.i285:TI:=⟨.arr 8 284,64,512,Value.agg (Array.replicate 64 (Value.int .i64 0))⟩
theorem Tryz.tok285:TIok Tryz.prog 285 Tryz.i285:=⟨by kernel_rfl,by kernel_rfl⟩
def Tryz.i288:TI:=⟨.sl 31,1,24,Value.slice none 0 0⟩
theorem Tryz.tok288:TIok Tryz.prog 288 Tryz.i288:=⟨by kernel_rfl,by kernel_rfl⟩
def Tryz.i290:TI:=⟨.sl 292,1,24,Value.slice none 0 0⟩
theorem Tryz.tok290:TIok Tryz.prog 290 Tryz.i290:=⟨by kernel_rfl,by kernel_rfl⟩
def Tryz.i292:TI:=⟨.struct [(0,3),(1,31)],2,32,Value.agg #[Value.int .i64 0,Value.slice none 0 0]⟩
theorem Tryz.tok292:TIok Tryz.prog 292 Tryz.i292:=⟨by kernel_rfl,by kernel_rfl⟩
def Tryz.i294:TI:=⟨.fn,1,8,Value.nilFunc⟩
theorem Tryz.tok294:TIok Tryz.prog 294 Tryz.i294:=⟨by kernel_rfl,by kernel_rfl⟩
def Tryz.i297:TI:=⟨.tuple [3,4],1,0,Value.tuple #[Value.int .i64 0,Value.bool false]⟩
theorem Tryz.tok297:TIok Tryz.prog 297 Tryz.i297:=⟨by kernel_rfl,by kernel_rfl⟩
def Tryz.i302:TI:=⟨.sl 36,1,24,Value.slice none 0 0⟩
theorem Tryz.tok302:TIok Tryz.prog 302 Tryz.i302:=⟨by kernel_rfl,by kernel_rfl⟩
def Tryz.i303:TI:=⟨.cpl .f64,1,16,Value.complex .f64 0 0⟩
theorem Tryz.tok303:TIok Tryz.prog 303 Tryz.i303:=⟨by kernel_rfl,by kernel_rfl⟩
def Tryz.i304:TI:=⟨.flt .f64,1,8,Value.float .f64 0⟩
theorem Tryz.tok304:TIok Tryz.prog 304 Tryz.i304:=⟨by kernel_rfl,by kernel_rfl⟩
def Tryz.i312:TI:=⟨.tuple [85,85],1,0,Value.tuple #[Value.int .u64 0,Value.int .u64 0]⟩
theorem Tryz.tok312:TIok Tryz.prog 312 Tryz.i312:=⟨by kernel_rfl,by kernel_rfl⟩
def Tryz.i320:TI:=⟨.tuple [213,213],1,0,Value.tuple #[Value.int .u64 0,Value.int .u64 0]⟩
theorem Tryz.tok320:TIok Tryz.prog 320 Tryz.i320:=⟨by kernel_rfl,by kernel_rfl⟩
def Tryz.i324:TI:=⟨.sl 290,1,24,Value.slice none 0 0⟩
theorem Tryz.tok324:TIok Tryz.prog 324 Tryz.i324:=⟨by kernel_rfl,by kernel_rfl⟩
def Tryz.i326:TI:=⟨.arr 4 164,16,128,Value.agg #[Value.int .i64 0,Value.int .i64 0,Value.int .i64 0,Value.int .i64 0,Value.int .i64 0,Value.int .i64 0,Value.int .i64 0,Value.int .i64 0,Value.int .i64 0,Value.int .i64 0,Value.int .i64 0,Value.int .i64 0,Value.int .i64 0,Value.int .i64 0,Value.int .i64 0,Value.int .i64 0]⟩
theorem Tryz.tok326:TIok Tryz.prog 326 Tryz.i326:=⟨by kernel_rfl,by kernel_rfl⟩
def Tryz.i327:TI:=⟨.arr 9 3,9,72,Value.agg #[Value.int .i64 0,Value.int .i64 0,Value.int .i64 0,Value.int .i64 0,Value.int .i64 0,Value.int .i64 0,Value.int .i64 0,Value.int .i64 0,Value.int .i64 0]⟩
theorem Tryz.tok327:TIok Tryz.prog 327 Tryz.i327:=⟨by kernel_rfl,by kernel_rfl⟩
def Tryz.tab:Tab:=[(0,Tryz.i0),(3,Tryz.i3),(4,Tryz.i4),(5,Tryz.i5),(9,Tryz.i9),(23,Tryz.i23),(25,Tryz.i25),(26,Tryz.i26),(27,Tryz.i27),(30,Tryz.i30),(31,Tryz.i31),(32,Tryz.i32),(34,Tryz.i34),(36,Tryz.i36),(38,Tryz.i38),(40,Tryz.i40),(42,Tryz.i42),(44,Tryz.i44),(46,Tryz.i46),(47,Tryz.i47),(49,Tryz.i49),(53,Tryz.i53),(54,Tryz.i54),(57,Tryz.i57),(58,Tryz.i58),(59,Tryz.i59),(61,Tryz.i61),(62,Tryz.i62),(63,Tryz.i63),(65,Tryz.i65),(66,Tryz.i66),(68,Tryz.i68),(71,Tryz.i71),(73,Tryz.i73),(77,Tryz.i77),(80,Tryz.i80),(84,Tryz.i84),(85,Tryz.i85),(90,Tryz.i90),(96,Tryz.i96),(99,Tryz.i99),(101,Tryz.i101),(104,Tryz.i104),(110,Tryz.i110),(113,Tryz.i113),(115,Tryz.i115),(118,Tryz.i118),(126,Tryz.i126),(128,Tryz.i128),(130,Tryz.i130),(131,Tryz.i131),(132,Tryz.i132),(133,Tryz.i133),(136,Tryz.i136),(139,Tryz.i139),(140,Tryz.i140),(142,Tryz.i142),(146,Tryz.i146),(149,Tryz.i149),(153,Tryz.i153),(155,Tryz.i155),(157,Tryz.i157),(162,Tryz.i162),(164,Tryz.i164),(167,Tryz.i167),(168,Tryz.i168),(170,Tryz.i170),(172,Tryz.i172),(175,Tryz.i175),(177,Tryz.i177),(179,Tryz.i179),(180,Tryz.i180),(182,Tryz.i182),(188,Tryz.i188),(191,Tryz.i191),(195,Tryz.i195),(197,Tryz.i197),(201,Tryz.i201),(203,Tryz.i203),(204,Tryz.i204),(205,Tryz.i205),(206,Tryz.i206),(208,Tryz.i208),(210,Tryz.i210),(213,Tryz.i213),(214,Tryz.i214),(216,Tryz.i216),(219,Tryz.i219),(222,Tryz.i222),(225,Tryz.i225),(227,Tryz.i227),(231,Tryz.i231),(237,Tryz.i237),(238,Tryz.i238),(240,Tryz.i240),(243,Tryz.i243),(246,Tryz.i246),(247,Tryz.i247),(248,Tryz.i248),(252,Tryz.i252),(261,Tryz.i261),(262,Tryz.i262),(264,Tryz.i264),(267,Tryz.i267),(280,Tryz.i280),(284,Tryz.i284),(285,Tryz.i285),(288,Tryz.i288),(290,Tryz.i290),(292,Tryz.i292),(294,Tryz.i294),(297,Tryz.i297),(302,Tryz.i302),(303,Tryz.i303),(304,Tryz.i304),(312,Tryz.i312),(320,Tryz.i320),(324,Tryz.i324),(326,Tryz.i326),(327,Tryz.i327)]
theorem Tryz.tab_ok:TabOk Tryz.prog Tryz.tab:=by
 unfold TabOk Tryz.tab
 simp only[List.forall_mem_cons]
 exact⟨Tryz.tok0,Tryz.tok3,Tryz.tok4,Tryz.tok5,Tryz.tok9,Tryz.tok23,Tryz.tok25,Tryz.tok26,Tryz.tok27,Tryz.tok30,Tryz.tok31,Tryz.tok32,Tryz.tok34,Tryz.tok36,Tryz.tok38,Tryz.tok40,Tryz.tok42,Tryz.tok44,Tryz.tok46,Tryz.tok47,Tryz.tok49,Tryz.tok53,Tryz.tok54,Tryz.tok57,Tryz.tok58,Tryz.tok59,Tryz.tok61,Tryz.tok62,Tryz.tok63,Tryz.tok65,Tryz.tok66,Tryz.tok68,Tryz.tok71,Tryz.tok73,Tryz.tok77,Tryz.tok80,Tryz.tok84,Tryz.tok85,Tryz.tok90,Tryz.tok96,Tryz.tok99,Tryz.tok101,Tryz.tok104,Tryz.tok110,Tryz.tok113,Tryz.tok115,Tryz.tok118,Tryz.tok126,Tryz.tok128,Tryz.tok130,Tryz.tok131,Tryz.tok132,Tryz.tok133,Tryz.tok136,Tryz.tok139,Tryz.tok140,Tryz.tok142,Tryz.tok146,Tryz.tok149,Tryz.tok153,Tryz.tok155,Tryz.tok157,Tryz.tok162,Tryz.tok164,Tryz.tok167,Tryz.tok168,Tryz.tok170,Tryz.tok172,Tryz.tok175,Tryz.tok177,Tryz.tok179,Tryz.tok180,Tryz.tok182,Tryz.tok188,Tryz.tok191,Tryz.tok195,Tryz.tok197,Tryz.tok201,Tryz.tok203,Tryz.tok204,Tryz.tok205,Tryz.tok206,Tryz.tok208,Tryz.tok210,Tryz.tok213,Tryz.tok214,Tryz.tok216,Tryz.tok219,Tryz.tok222,Tryz.tok225,Tryz.tok227,Tryz.tok231,Tryz.tok237,Tryz.tok238,Tryz.tok240,Tryz.tok243,Tryz.tok246,Tryz.tok247,Tryz.tok248,Tryz.tok252,Tryz.tok261,Tryz.tok262,Tryz.tok264,Tryz.tok267,Tryz.tok280,Tryz.tok284,Tryz.tok285,Tryz.tok288,Tryz.tok290,Tryz.tok292,Tryz.tok294,Tryz.tok297,Tryz.tok302,Tryz.tok303,Tryz.tok304,Tryz.tok312,Tryz.tok320,Tryz.tok324,Tryz.tok326,Tryz.tok327,fun _ h=>by cases h⟩
abbrev Tryz.C:=CallsH Tryz.prog
theorem Tryz.mixed:Tryz.prog.follows .mixedOrders=true:=by kernel_rfl
theorem Tryz.cal5:callable Tryz.prog 5:=⟨Tryz.f5,Tryz.func5,by kernel_rfl,by kernel_rfl⟩
end Go.Proofs
namespace Go.Proofs
open Go.Sh Go.Sh.Plan
open Go.IntKind (wrap)
open Int (toNat)
def Tryz.S5(ca1:Int)(H:Heap)(R:Kv):Prop:=
 br (decide (ca1<0)) (R (.pointer none) H) (br (decide (ca1>16777216)) (R (.pointer none) H) (alc H (.cells #[.slice none 0 0,.int .i64 ca1,.int .i64 0,.int .i64 (-1:Int),.bool false] 53) fun b2 H3=>R (.pointer (some ⟨b2,0,none⟩)) H3))
def Tryz.p5:Plan:=(tl (tg (tl leaf)))
theorem Tryz.s5{ca1:Int}{H R}(h:Tryz.S5 ca1 H R):Tryz.C 5 #[.int .i64 ca1] H R:=vcs Tryz.tab_ok Tryz.mixed Tryz.func5 Tryz.cal5 Tryz.p5 h (by kernel_rfl)
end Go.Proofs
namespace Go.Proofs
open Go.Sh Go.Sh.Plan
open Go.IntKind (wrap)
open Int (toNat)
end Go.Proofs
namespace Go.Proofs
open Go.Sh Go.Sh.Plan
open Go.IntKind (wrap)
open Int (toNat)
end Go.Proofs
namespace Go.Proofs
open Go.Sh Go.Sh.Plan
open Go.IntKind (wrap)
open Int (toNat)
end Go.Proofs
namespace Go.Proofs
open Go.Sh Go.Sh.Plan
open Go.IntKind (wrap)
open Int (toNat)
end Go.Proofs
namespace Go.Proofs
open Go.Sh Go.Sh.Plan
open Go.IntKind (wrap)
open Int (toNat)
end Go.Proofs
namespace Go.Proofs
open Go.Sh Go.Sh.Plan
open Go.IntKind (wrap)
open Int (toNat)
end Go.Proofs
namespace Go.Proofs
open Go.Sh Go.Sh.Plan
open Go.IntKind (wrap)
open Int (toNat)
end Go.Proofs
