/-
  OWN WORK. Several texts in one: ShP, ShL, TileW, TileStay, GTab, GFunA, GFunB, GFunC.
-/
import Derived.Test.YtcggbdggpdcnjaaMgJpegNearA
import Derived.ProofKit
import Derived.OpenShut
import Derived.Test.YtcggbdggpdcnjaaProg
import Derived.KernelRfl

set_option linter.unusedSimpArgs false
set_option linter.unusedVariables false
set_option maxRecDepth 100000
namespace Go.Sh
def br (t : Bool) (A B : Prop) : Prop := (t = true → A) ∧ (t = false → B)
def alc (H : Heap) (o : Obj) (K : Nat → Heap → Prop) : Prop := K H.size (H.push o)
abbrev OA := Option Addr
abbrev AV := Array Value
abbrev Kv := Value → Heap → Prop
abbrev Kl := List Value → Heap → Prop
namespace Plan
def tl (a : Plan) : Plan := two leaf a
def g0 : Plan := tl (two (tl leaf) leaf)
def tg (a : Plan) : Plan := two g0 a
end Plan
theorem vcs {P : Program} {T : Tab} (hT : TabOk P T) (hm : P.follows .mixedOrders = true) {g : FuncId} {fn : Func} (hg : P.funcs[g]? = some fn) (hc : callable P g) (p : Plan) {args : Array Value} {H : Heap}
    {R : Value → Heap → Prop} {A : Prop} (h : A) (e : A = vcFun P T fn p args.toList H R) : CallsH P g args H R := by
  have := vcFun_sound hT hm hg hc (p := p) (args := args.toList) (H := H) (R := R) (Eq.mp e h)
  simpa using this
end Go.Sh
namespace Go.Sh
theorem br_i {t : Bool} {A B : Prop} (h : t = true → A) (h' : t = false → B) : br t A B := ⟨h, h'⟩
theorem br_dec {p : Prop} [Decidable p] {A B : Prop} (h : p → A) (h' : ¬ p → B) : br (decide p) A B := ⟨fun e => h (of_decide_eq_true e), fun e => h' (of_decide_eq_false e)⟩
theorem br_eq {a b : Int} {A B : Prop} (h : a = b → A) (h' : a ≠ b → B) : br (a == b) A B := ⟨fun e => h (by simpa using e), fun e => h' (by simpa using e)⟩
theorem br_ne {a b : Int} {A B : Prop} (h : a ≠ b → A) (h' : a = b → B) : br (a != b) A B := ⟨fun e => h (by simpa using e), fun e => h' (by simpa using e)⟩
theorem br_not {t : Bool} {A B : Prop} (h : t = false → A) (h' : t = true → B) : br (!t) A B := ⟨fun e => h (by simpa using e), fun e => h' (by simpa using e)⟩
theorem br_true {A B : Prop} (h : A) : br true A B := ⟨fun _ => h, fun e => (by cases e)⟩
theorem br_false {A B : Prop} (h : B) : br false A B := ⟨fun e => (by cases e), fun _ => h⟩
theorem br_t {t : Bool} {A B : Prop} (ht : t = true) (h : A) : br t A B := by subst ht; exact br_true h
theorem br_f {t : Bool} {A B : Prop} (ht : t = false) (h : B) : br t A B := by subst ht; exact br_false h
theorem br_y {p : Prop} [Decidable p] {A B : Prop} (hp : p) (h : A) : br (decide p) A B := br_dec (fun _ => h) (fun n => absurd hp n)
theorem br_n {p : Prop} [Decidable p] {A B : Prop} (hp : ¬ p) (h : B) : br (decide p) A B := br_dec (fun y => absurd y hp) (fun _ => h)
theorem br_none {α : Type} {p : Option α} {A B : Prop} (h : p = none → A) (h' : ∀ a, p = some a → B) : br (Option.isNone p) A B := by
 cases p with
 | none => exact br_true (h rfl)
 | some a => exact br_false (h' a rfl)
theorem lt_of_get {H : Heap} {b : Nat} {o : Obj} (h : H[b]? = some o) : b < H.size := (Array.getElem?_eq_some_iff.1 h).1
theorem get_push_self (H : Heap) (o : Obj) : (H.push o)[H.size]? = some o := by simp
theorem get_push {H : Heap} {b : Nat} {o x : Obj} (h : H[b]? = some x) : (H.push o)[b]? = some x := Ext.push H o b x h
theorem get_set_ne {H : Heap} {b r : Nat} {o x : Obj} (hne : r ≠ b) (h : H[b]? = some x) : (H.setIfInBounds r o)[b]? = some x := by
 rw [Array.getElem?_setIfInBounds_ne hne]; exact h
theorem get_set_self {H : Heap} {r : Nat} {o x : Obj} (h : H[r]? = some x) : (H.setIfInBounds r o)[r]? = some o := by
 rw [Array.getElem?_setIfInBounds_self_of_lt (lt_of_get h)]
theorem cell_block {H : Heap} {b i : Nat} {c : Array Value} {t : TypeId} {f : Nat × Nat} (h : H[b]? = some (.cells c t f)) : cell H ⟨b, i, none⟩ = c[i]? := by
 simp [cell, h]
theorem cell_get {H : Heap} {b i : Nat} {c : Array Value} {t : TypeId} {f : Nat × Nat} {v : Value} (h : H[b]? = some (.cells c t f)) (hv : c[i]? = some v) : cell H ⟨b, i, none⟩ = some v := by
 rw [cell_block h]; exact hv
@[simp] theorem add_none (b i n : Nat) : Addr.add ⟨b, i, none⟩ n = ⟨b, i + n, none⟩ := by
 unfold Addr.add; split <;> simp_all
theorem rowIn_block {H : Heap} {b i : Nat} {c cs : Array Value} {t : TypeId} {f : Nat × Nat} (h : H[b]? = some (.cells c t f)) (hc : ∀ j v, cs[j]? = some v → c[i + j]? = some v) :
    rowIn H ⟨b, i, none⟩ cs := by
  intro j v hv
  rw [add_none, cell_block h]
  exact hc j v hv
theorem rowIn_whole {H : Heap} {b : Nat} {c : Array Value} {t : TypeId} {f : Nat × Nat} (h : H[b]? = some (.cells c t f)) : rowIn H ⟨b, 0, none⟩ c :=
 rowIn_block h fun j v hv => by rw [Nat.zero_add]; exact hv
theorem stAt_one {H : Heap} {b i : Nat} {c : Array Value} {t : TypeId} {v : Value} {f : Heap → Prop} (h : H[b]? = some (.cells c t (0, 0))) (hi : i < c.size) (ho : v.oneCell' = true)
    (hf : f (H.setIfInBounds b (.cells (c.setIfInBounds i v) t (0, 0)))) : stAt H ⟨b, i, none⟩ [v] f := by
  refine ⟨c, t, h, rfl, (by simp; omega), by simpa using ho, ?_⟩
  have : (setL c.toList i [v]).toArray = c.setIfInBounds i v := by
    rw [setL_one (by simpa using hi)]
    apply Array.toList_inj.1
    simp
  simp only [this]
  exact hf
theorem stAt_whole {H : Heap} {b : Nat} {c : Array Value} {t : TypeId} {vs : List Value} {f : Heap → Prop} (h : H[b]? = some (.cells c t (0, 0))) (hl : vs.length = c.size) (ho : ∀ v ∈ vs, v.oneCell' = true)
    (hf : f (H.setIfInBounds b (.cells vs.toArray t (0, 0)))) : stAt H ⟨b, 0, none⟩ vs f := by
  refine ⟨c, t, h, rfl, by simp; omega, ho, ?_⟩
  have : setL c.toList 0 vs = vs := by simp [setL, hl]
  simp only [this]
  exact hf
theorem wrap_id {n : Int} (h0 : -9223372036854775808 ≤ n) (h1 : n ≤ 9223372036854775807) : IntKind.wrap .i64 n = n := wrap_i64 h0 h1
theorem wrap_u8 {n : Int} (h0 : 0 ≤ n) (h1 : n < 256) : IntKind.wrap .u8 n = n := by
 simp only [IntKind.wrap, IntKind.signed, IntKind.bits]; simp; omega
end Go.Sh
namespace Go.Sh
open Go.RowKit
theorem grown_of {W w' : World} (hos : w'.os = W.os) (ho : Out W w') (hx : Ext W.heap w'.heap) : Grown W w' := by
 refine ⟨⟨hos, ho.output, fun i hi => ?_⟩, ho.froz, hx.size⟩
 obtain ⟨o, h⟩ : ∃ o, W.heap[i]? = some o := ⟨_, Array.getElem?_eq_getElem hi⟩
 rw [hx i o h, h]
 cases o with
 | cells c t fr => exact ⟨rfl, rfl, rfl, fun _ _ => rfl⟩
 | map es k => exact .inr ⟨rfl, rfl⟩
 | _ => rfl
end Go.Sh
namespace Go.Sh
open Go.RowKit Go.ChangeShapes Go.WideShapes Go.ChangeAt
section
variable {H : Type} {enc : TypeId × Value → H} {P : Program} {W W' : World}
theorem same_of (hx : Ext W.heap W'.heap) {p : MemPlace} (hp : p.block < W.heap.size) : W.sameAt W' p := by
 have h : W'.heap[p.block]? = W.heap[p.block]? := by
  obtain ⟨o, h⟩ : ∃ o, W.heap[p.block]? = some o := ⟨_, Array.getElem?_eq_getElem hp⟩
  rw [hx _ o h, h]
 cases p with
 | cell b o => exact World.cell?_of_block (w := W) h
 | map b => exact h
theorem trodAll_ext (hl : laidOutB P = true) (hx : Ext W.heap W'.heap) {sp : Nat → Bool} : ∀ {ts : List TypeId} {vs : List Value} {ds : List (DataW H)} {ps : List MemPlace}, (ts.all fun t => P.readableRec t && decide (t < P.types.size)) = true →
    DataW.TrodAll enc P W 0 (fun _ => true) true ts vs ds ps → (∀ x ∈ ps, x.block < W.heap.size) → (∀ x ∈ ps, sp x.block = true) → DataW.TrodAll enc P W' 0 sp true ts vs ds ps
  | [], vs, ds, ps, _, h, _, _ => by
    obtain ⟨rfl, rfl, rfl⟩ := trodAll_nil h
    exact trodAll_mk0
  | t :: ts, vs, ds, ps, hr, h, hlt, hs => by
    obtain ⟨v, vs1, d, ds1, a, b, rfl, rfl, rfl, h1, h2⟩ := trodAll_cons h
    simp only [List.all_cons, Bool.and_eq_true, decide_eq_true_eq] at hr
    exact trodAll_cons_mk (WideElems.Trod_stays hl hr.1.1 hr.1.2 h1 (fun x hx' => same_of hx (hlt x (List.mem_append_left _ hx'))) (fun x hx' => hs x (List.mem_append_left _ hx')))
      (trodAll_ext hl hx (by simpa using hr.2) h2 (fun x hx' => hlt x (List.mem_append_right _ hx')) (fun x hx' => hs x (List.mem_append_right _ hx')))
theorem wf_range {a : Int} (h : (Lit.int .i64 a).wf = true) : -9223372036854775808 ≤ a ∧ a ≤ 9223372036854775807 := by
 simpa [Lit.wf, IntKind.min, IntKind.max, IntKind.signed, IntKind.bits] using h
end
end Go.Sh
namespace Go.Proofs
open Go.Sh
def Try.i0 : TI := ⟨.tuple [], 1, 0, Value.tuple #[]⟩
theorem Try.tok0 : TIok Try.prog 0 Try.i0 := ⟨by kernel_rfl, by kernel_rfl⟩
def Try.i3 : TI := ⟨.int .i64, 1, 8, Value.int .i64 0⟩
theorem Try.tok3 : TIok Try.prog 3 Try.i3 := ⟨by kernel_rfl, by kernel_rfl⟩
def Try.i4 : TI := ⟨.bool, 1, 1, Value.bool false⟩
theorem Try.tok4 : TIok Try.prog 4 Try.i4 := ⟨by kernel_rfl, by kernel_rfl⟩
def Try.i5 : TI := ⟨.int .u8, 1, 1, Value.int .u8 0⟩
theorem Try.tok5 : TIok Try.prog 5 Try.i5 := ⟨by kernel_rfl, by kernel_rfl⟩
def Try.i9 : TI := ⟨.str, 1, 16, Value.string ByteArray.empty⟩
theorem Try.tok9 : TIok Try.prog 9 Try.i9 := ⟨by kernel_rfl, by kernel_rfl⟩
def Try.i22 : TI := ⟨.sl 5, 1, 24, Value.slice none 0 0⟩
theorem Try.tok22 : TIok Try.prog 22 Try.i22 := ⟨by kernel_rfl, by kernel_rfl⟩
def Try.i24 : TI := ⟨.int .i64, 1, 8, Value.int .i64 0⟩
theorem Try.tok24 : TIok Try.prog 24 Try.i24 := ⟨by kernel_rfl, by kernel_rfl⟩
def Try.i25 : TI := ⟨.tuple [22, 24], 1, 0, Value.tuple #[Value.slice none 0 0, Value.int .i64 0]⟩
theorem Try.tok25 : TIok Try.prog 25 Try.i25 := ⟨by kernel_rfl, by kernel_rfl⟩
def Try.i27 : TI := ⟨.sl 40, 1, 24, Value.slice none 0 0⟩
theorem Try.tok27 : TIok Try.prog 27 Try.i27 := ⟨by kernel_rfl, by kernel_rfl⟩
def Try.i28 : TI := ⟨.tuple [27, 24], 1, 0, Value.tuple #[Value.slice none 0 0, Value.int .i64 0]⟩
theorem Try.tok28 : TIok Try.prog 28 Try.i28 := ⟨by kernel_rfl, by kernel_rfl⟩
def Try.i31 : TI := ⟨.struct [(0, 3), (1, 3), (2, 22), (3, 4), (4, 27)], 5, 72, Value.agg #[Value.int .i64 0, Value.int .i64 0, Value.slice none 0 0, Value.bool false, Value.slice none 0 0]⟩
theorem Try.tok31 : TIok Try.prog 31 Try.i31 := ⟨by kernel_rfl, by kernel_rfl⟩
def Try.i32 : TI := ⟨.tuple [31, 24], 1, 0, Value.tuple #[Value.agg #[Value.int .i64 0, Value.int .i64 0, Value.slice none 0 0, Value.bool false, Value.slice none 0 0], Value.int .i64 0]⟩
theorem Try.tok32 : TIok Try.prog 32 Try.i32 := ⟨by kernel_rfl, by kernel_rfl⟩
def Try.i40 : TI := ⟨.arr 64 3, 64, 512, Value.agg (Array.replicate 64 (Value.int .i64 0))⟩
theorem Try.tok40 : TIok Try.prog 40 Try.i40 := ⟨by kernel_rfl, by kernel_rfl⟩
def Try.i42 : TI := ⟨.tuple [40, 4], 1, 0, Value.tuple #[Value.agg (Array.replicate 64 (Value.int .i64 0)), Value.bool false]⟩
theorem Try.tok42 : TIok Try.prog 42 Try.i42 := ⟨by kernel_rfl, by kernel_rfl⟩
def Try.i45 : TI := ⟨.int .u64, 1, 8, Value.int .u64 0⟩
theorem Try.tok45 : TIok Try.prog 45 Try.i45 := ⟨by kernel_rfl, by kernel_rfl⟩
def Try.i46 : TI := ⟨.sl 51, 1, 24, Value.slice none 0 0⟩
theorem Try.tok46 : TIok Try.prog 46 Try.i46 := ⟨by kernel_rfl, by kernel_rfl⟩
def Try.i48 : TI := ⟨.sl 3, 1, 24, Value.slice none 0 0⟩
theorem Try.tok48 : TIok Try.prog 48 Try.i48 := ⟨by kernel_rfl, by kernel_rfl⟩
def Try.i49 : TI := ⟨.arr 4 48, 4, 96, Value.agg #[Value.slice none 0 0, Value.slice none 0 0, Value.slice none 0 0, Value.slice none 0 0]⟩
theorem Try.tok49 : TIok Try.prog 49 Try.i49 := ⟨by kernel_rfl, by kernel_rfl⟩
def Try.i51 : TI := ⟨.struct [(0, 3), (1, 3), (2, 3), (3, 3)], 4, 32, Value.agg #[Value.int .i64 0, Value.int .i64 0, Value.int .i64 0, Value.int .i64 0]⟩
theorem Try.tok51 : TIok Try.prog 51 Try.i51 := ⟨by kernel_rfl, by kernel_rfl⟩
def Try.i52 : TI := ⟨.tuple [22, 48, 48], 1, 0, Value.tuple #[Value.slice none 0 0, Value.slice none 0 0, Value.slice none 0 0]⟩
theorem Try.tok52 : TIok Try.prog 52 Try.i52 := ⟨by kernel_rfl, by kernel_rfl⟩
def Try.i54 : TI := ⟨.ptr 101, 1, 8, Value.pointer none⟩
theorem Try.tok54 : TIok Try.prog 54 Try.i54 := ⟨by kernel_rfl, by kernel_rfl⟩
def Try.i59 : TI := ⟨.struct [(0, 3), (1, 3), (2, 48)], 3, 40, Value.agg #[Value.int .i64 0, Value.int .i64 0, Value.slice none 0 0]⟩
theorem Try.tok59 : TIok Try.prog 59 Try.i59 := ⟨by kernel_rfl, by kernel_rfl⟩
def Try.i60 : TI := ⟨.arr 3 59, 9, 120, Value.agg #[Value.int .i64 0, Value.int .i64 0, Value.slice none 0 0, Value.int .i64 0, Value.int .i64 0, Value.slice none 0 0, Value.int .i64 0, Value.int .i64 0, Value.slice none 0 0]⟩
theorem Try.tok60 : TIok Try.prog 60 Try.i60 := ⟨by kernel_rfl, by kernel_rfl⟩
def Try.i62 : TI := ⟨.sl 65, 1, 24, Value.slice none 0 0⟩
theorem Try.tok62 : TIok Try.prog 62 Try.i62 := ⟨by kernel_rfl, by kernel_rfl⟩
def Try.i65 : TI := ⟨.struct [(0, 3), (1, 3), (2, 3)], 3, 24, Value.agg #[Value.int .i64 0, Value.int .i64 0, Value.int .i64 0]⟩
theorem Try.tok65 : TIok Try.prog 65 Try.i65 := ⟨by kernel_rfl, by kernel_rfl⟩
def Try.i68 : TI := ⟨.ptr 75, 1, 8, Value.pointer none⟩
theorem Try.tok68 : TIok Try.prog 68 Try.i68 := ⟨by kernel_rfl, by kernel_rfl⟩
def Try.i69 : TI := ⟨.arr 3 3, 3, 24, Value.agg #[Value.int .i64 0, Value.int .i64 0, Value.int .i64 0]⟩
theorem Try.tok69 : TIok Try.prog 69 Try.i69 := ⟨by kernel_rfl, by kernel_rfl⟩
def Try.i70 : TI := ⟨.ptr 40, 1, 8, Value.pointer none⟩
theorem Try.tok70 : TIok Try.prog 70 Try.i70 := ⟨by kernel_rfl, by kernel_rfl⟩
def Try.i71 : TI := ⟨.arr 4 70, 4, 32, Value.agg #[Value.pointer none, Value.pointer none, Value.pointer none, Value.pointer none]⟩
theorem Try.tok71 : TIok Try.prog 71 Try.i71 := ⟨by kernel_rfl, by kernel_rfl⟩
def Try.i72 : TI := ⟨.ptr 135, 1, 8, Value.pointer none⟩
theorem Try.tok72 : TIok Try.prog 72 Try.i72 := ⟨by kernel_rfl, by kernel_rfl⟩
def Try.i73 : TI := ⟨.arr 8 72, 8, 64, Value.agg #[Value.pointer none, Value.pointer none, Value.pointer none, Value.pointer none, Value.pointer none, Value.pointer none, Value.pointer none, Value.pointer none]⟩
theorem Try.tok73 : TIok Try.prog 73 Try.i73 := ⟨by kernel_rfl, by kernel_rfl⟩
def Try.i75 : TI := ⟨.struct [(0, 22), (1, 31), (6, 4), (7, 69), (10, 71), (14, 73)], 22, 224, Value.agg #[Value.slice none 0 0, Value.int .i64 0, Value.int .i64 0, Value.slice none 0 0, Value.bool false, Value.slice none 0 0, Value.bool false, Value.int .i64 0, Value.int .i64 0, Value.int .i64 0, Value.pointer none, Value.pointer none, Value.pointer none, Value.pointer none, Value.pointer none, Value.pointer none, Value.pointer none, Value.pointer none, Value.pointer none, Value.pointer none, Value.pointer none, Value.pointer none]⟩
theorem Try.tok75 : TIok Try.prog 75 Try.i75 := ⟨by kernel_rfl, by kernel_rfl⟩
def Try.i76 : TI := ⟨.arr 2 72, 2, 16, Value.agg #[Value.pointer none, Value.pointer none]⟩
theorem Try.tok76 : TIok Try.prog 76 Try.i76 := ⟨by kernel_rfl, by kernel_rfl⟩
def Try.i77 : TI := ⟨.arr 3 76, 6, 48, Value.agg #[Value.pointer none, Value.pointer none, Value.pointer none, Value.pointer none, Value.pointer none, Value.pointer none]⟩
theorem Try.tok77 : TIok Try.prog 77 Try.i77 := ⟨by kernel_rfl, by kernel_rfl⟩
def Try.i78 : TI := ⟨.tuple [77, 4], 1, 0, Value.tuple #[Value.agg #[Value.pointer none, Value.pointer none, Value.pointer none, Value.pointer none, Value.pointer none, Value.pointer none], Value.bool false]⟩
theorem Try.tok78 : TIok Try.prog 78 Try.i78 := ⟨by kernel_rfl, by kernel_rfl⟩
def Try.i80 : TI := ⟨.tuple [22, 4], 1, 0, Value.tuple #[Value.slice none 0 0, Value.bool false]⟩
theorem Try.tok80 : TIok Try.prog 80 Try.i80 := ⟨by kernel_rfl, by kernel_rfl⟩
def Try.i82 : TI := ⟨.ptr 86, 1, 8, Value.pointer none⟩
theorem Try.tok82 : TIok Try.prog 82 Try.i82 := ⟨by kernel_rfl, by kernel_rfl⟩
def Try.i83 : TI := ⟨.ptr 112, 1, 8, Value.pointer none⟩
theorem Try.tok83 : TIok Try.prog 83 Try.i83 := ⟨by kernel_rfl, by kernel_rfl⟩
def Try.i86 : TI := ⟨.struct [(0, 83), (1, 4)], 2, 16, Value.agg #[Value.pointer none, Value.bool false]⟩
theorem Try.tok86 : TIok Try.prog 86 Try.i86 := ⟨by kernel_rfl, by kernel_rfl⟩
def Try.i90 : TI := ⟨.arr 3 40, 192, 1536, Value.agg (Array.replicate 192 (Value.int .i64 0))⟩
theorem Try.tok90 : TIok Try.prog 90 Try.i90 := ⟨by kernel_rfl, by kernel_rfl⟩
def Try.i94 : TI := ⟨.tuple [3, 3], 1, 0, Value.tuple #[Value.int .i64 0, Value.int .i64 0]⟩
theorem Try.tok94 : TIok Try.prog 94 Try.i94 := ⟨by kernel_rfl, by kernel_rfl⟩
def Try.i96 : TI := ⟨.tuple [48, 4], 1, 0, Value.tuple #[Value.slice none 0 0, Value.bool false]⟩
theorem Try.tok96 : TIok Try.prog 96 Try.i96 := ⟨by kernel_rfl, by kernel_rfl⟩
def Try.i101 : TI := ⟨.struct [(0, 22), (1, 3), (2, 4)], 3, 40, Value.agg #[Value.slice none 0 0, Value.int .i64 0, Value.bool false]⟩
theorem Try.tok101 : TIok Try.prog 101 Try.i101 := ⟨by kernel_rfl, by kernel_rfl⟩
def Try.i105 : TI := ⟨.arr 8 3, 8, 64, Value.agg #[Value.int .i64 0, Value.int .i64 0, Value.int .i64 0, Value.int .i64 0, Value.int .i64 0, Value.int .i64 0, Value.int .i64 0, Value.int .i64 0]⟩
theorem Try.tok105 : TIok Try.prog 105 Try.i105 := ⟨by kernel_rfl, by kernel_rfl⟩
def Try.i106 : TI := ⟨.arr 8 105, 64, 512, Value.agg (Array.replicate 64 (Value.int .i64 0))⟩
theorem Try.tok106 : TIok Try.prog 106 Try.i106 := ⟨by kernel_rfl, by kernel_rfl⟩
def Try.i112 : TI := ⟨.struct [(0, 22), (1, 3), (2, 4)], 3, 40, Value.agg #[Value.slice none 0 0, Value.int .i64 0, Value.bool false]⟩
theorem Try.tok112 : TIok Try.prog 112 Try.i112 := ⟨by kernel_rfl, by kernel_rfl⟩
def Try.i114 : TI := ⟨.ptr 31, 1, 8, Value.pointer none⟩
theorem Try.tok114 : TIok Try.prog 114 Try.i114 := ⟨by kernel_rfl, by kernel_rfl⟩
def Try.i116 : TI := ⟨.sl 48, 1, 24, Value.slice none 0 0⟩
theorem Try.tok116 : TIok Try.prog 116 Try.i116 := ⟨by kernel_rfl, by kernel_rfl⟩
def Try.i117 : TI := ⟨.sl 22, 1, 24, Value.slice none 0 0⟩
theorem Try.tok117 : TIok Try.prog 117 Try.i117 := ⟨by kernel_rfl, by kernel_rfl⟩
def Try.i120 : TI := ⟨.sl 122, 1, 24, Value.slice none 0 0⟩
theorem Try.tok120 : TIok Try.prog 120 Try.i120 := ⟨by kernel_rfl, by kernel_rfl⟩
def Try.i122 : TI := ⟨.struct [(0, 3), (1, 48)], 2, 32, Value.agg #[Value.int .i64 0, Value.slice none 0 0]⟩
theorem Try.tok122 : TIok Try.prog 122 Try.i122 := ⟨by kernel_rfl, by kernel_rfl⟩
def Try.i124 : TI := ⟨.fn, 1, 8, Value.nilFunc⟩
theorem Try.tok124 : TIok Try.prog 124 Try.i124 := ⟨by kernel_rfl, by kernel_rfl⟩
def Try.i127 : TI := ⟨.tuple [3, 4], 1, 0, Value.tuple #[Value.int .i64 0, Value.bool false]⟩
theorem Try.tok127 : TIok Try.prog 127 Try.i127 := ⟨by kernel_rfl, by kernel_rfl⟩
def Try.i131 : TI := ⟨.ptr 149, 1, 8, Value.pointer none⟩
theorem Try.tok131 : TIok Try.prog 131 Try.i131 := ⟨by kernel_rfl, by kernel_rfl⟩
def Try.i132 : TI := ⟨.tuple [131, 4], 1, 0, Value.tuple #[Value.pointer none, Value.bool false]⟩
theorem Try.tok132 : TIok Try.prog 132 Try.i132 := ⟨by kernel_rfl, by kernel_rfl⟩
def Try.i135 : TI := ⟨.struct [(0, 131), (1, 22)], 2, 32, Value.agg #[Value.pointer none, Value.slice none 0 0]⟩
theorem Try.tok135 : TIok Try.prog 135 Try.i135 := ⟨by kernel_rfl, by kernel_rfl⟩
def Try.i138 : TI := ⟨.tuple [45, 45], 1, 0, Value.tuple #[Value.int .u64 0, Value.int .u64 0]⟩
theorem Try.tok138 : TIok Try.prog 138 Try.i138 := ⟨by kernel_rfl, by kernel_rfl⟩
def Try.i141 : TI := ⟨.int .u32, 1, 4, Value.int .u32 0⟩
theorem Try.tok141 : TIok Try.prog 141 Try.i141 := ⟨by kernel_rfl, by kernel_rfl⟩
def Try.i143 : TI := ⟨.int .u64, 1, 8, Value.int .u64 0⟩
theorem Try.tok143 : TIok Try.prog 143 Try.i143 := ⟨by kernel_rfl, by kernel_rfl⟩
def Try.i147 : TI := ⟨.sl 150, 1, 24, Value.slice none 0 0⟩
theorem Try.tok147 : TIok Try.prog 147 Try.i147 := ⟨by kernel_rfl, by kernel_rfl⟩
def Try.i149 : TI := ⟨.struct [(0, 147)], 1, 24, Value.agg #[Value.slice none 0 0]⟩
theorem Try.tok149 : TIok Try.prog 149 Try.i149 := ⟨by kernel_rfl, by kernel_rfl⟩
def Try.i150 : TI := ⟨.arr 2 3, 2, 16, Value.agg #[Value.int .i64 0, Value.int .i64 0]⟩
theorem Try.tok150 : TIok Try.prog 150 Try.i150 := ⟨by kernel_rfl, by kernel_rfl⟩
def Try.i153 : TI := ⟨.tuple [143, 143], 1, 0, Value.tuple #[Value.int .u64 0, Value.int .u64 0]⟩
theorem Try.tok153 : TIok Try.prog 153 Try.i153 := ⟨by kernel_rfl, by kernel_rfl⟩
def Try.i157 : TI := ⟨.sl 120, 1, 24, Value.slice none 0 0⟩
theorem Try.tok157 : TIok Try.prog 157 Try.i157 := ⟨by kernel_rfl, by kernel_rfl⟩
def Try.i159 : TI := ⟨.arr 9 3, 9, 72, Value.agg #[Value.int .i64 0, Value.int .i64 0, Value.int .i64 0, Value.int .i64 0, Value.int .i64 0, Value.int .i64 0, Value.int .i64 0, Value.int .i64 0, Value.int .i64 0]⟩
theorem Try.tok159 : TIok Try.prog 159 Try.i159 := ⟨by kernel_rfl, by kernel_rfl⟩
def Try.tab : Tab := [(0, Try.i0), (3, Try.i3), (4, Try.i4), (5, Try.i5), (9, Try.i9), (22, Try.i22), (24, Try.i24), (25, Try.i25), (27, Try.i27), (28, Try.i28), (31, Try.i31), (32, Try.i32), (40, Try.i40), (42, Try.i42), (45, Try.i45), (46, Try.i46), (48, Try.i48), (49, Try.i49), (51, Try.i51), (52, Try.i52), (54, Try.i54), (59, Try.i59), (60, Try.i60), (62, Try.i62), (65, Try.i65), (68, Try.i68), (69, Try.i69), (70, Try.i70), (71, Try.i71), (72, Try.i72), (73, Try.i73), (75, Try.i75), (76, Try.i76), (77, Try.i77), (78, Try.i78), (80, Try.i80), (82, Try.i82), (83, Try.i83), (86, Try.i86), (90, Try.i90), (94, Try.i94), (96, Try.i96), (101, Try.i101), (105, Try.i105), (106, Try.i106), (112, Try.i112), (114, Try.i114), (116, Try.i116), (117, Try.i117), (120, Try.i120), (122, Try.i122), (124, Try.i124), (127, Try.i127), (131, Try.i131), (132, Try.i132), (135, Try.i135), (138, Try.i138), (141, Try.i141), (143, Try.i143), (147, Try.i147), (149, Try.i149), (150, Try.i150), (153, Try.i153), (157, Try.i157), (159, Try.i159)]
theorem Try.tab_ok : TabOk Try.prog Try.tab := by
 unfold TabOk Try.tab
 simp only [List.forall_mem_cons]
 exact ⟨Try.tok0, Try.tok3, Try.tok4, Try.tok5, Try.tok9, Try.tok22, Try.tok24, Try.tok25, Try.tok27, Try.tok28, Try.tok31, Try.tok32, Try.tok40, Try.tok42, Try.tok45, Try.tok46, Try.tok48, Try.tok49, Try.tok51, Try.tok52, Try.tok54, Try.tok59, Try.tok60, Try.tok62, Try.tok65, Try.tok68, Try.tok69, Try.tok70, Try.tok71, Try.tok72, Try.tok73, Try.tok75, Try.tok76, Try.tok77, Try.tok78, Try.tok80, Try.tok82, Try.tok83, Try.tok86, Try.tok90, Try.tok94, Try.tok96, Try.tok101, Try.tok105, Try.tok106, Try.tok112, Try.tok114, Try.tok116, Try.tok117, Try.tok120, Try.tok122, Try.tok124, Try.tok127, Try.tok131, Try.tok132, Try.tok135, Try.tok138, Try.tok141, Try.tok143, Try.tok147, Try.tok149, Try.tok150, Try.tok153, Try.tok157, Try.tok159, fun _ h => by cases h⟩
abbrev Try.C := CallsH Try.prog
theorem Try.mixed : Try.prog.follows .mixedOrders = true := by kernel_rfl
theorem Try.cal3 : callable Try.prog 3 := ⟨Try.f3, Try.func3, by kernel_rfl, by kernel_rfl⟩
theorem Try.cal4 : callable Try.prog 4 := ⟨Try.f4, Try.func4, by kernel_rfl, by kernel_rfl⟩
theorem Try.cal6 : callable Try.prog 6 := ⟨Try.f6, Try.func6, by kernel_rfl, by kernel_rfl⟩
theorem Try.cal7 : callable Try.prog 7 := ⟨Try.f7, Try.func7, by kernel_rfl, by kernel_rfl⟩
theorem Try.cal8 : callable Try.prog 8 := ⟨Try.f8, Try.func8, by kernel_rfl, by kernel_rfl⟩
theorem Try.cal9 : callable Try.prog 9 := ⟨Try.f9, Try.func9, by kernel_rfl, by kernel_rfl⟩
theorem Try.cal10 : callable Try.prog 10 := ⟨Try.f10, Try.func10, by kernel_rfl, by kernel_rfl⟩
theorem Try.cal11 : callable Try.prog 11 := ⟨Try.f11, Try.func11, by kernel_rfl, by kernel_rfl⟩
theorem Try.cal13 : callable Try.prog 13 := ⟨Try.f13, Try.func13, by kernel_rfl, by kernel_rfl⟩
theorem Try.cal14 : callable Try.prog 14 := ⟨Try.f14, Try.func14, by kernel_rfl, by kernel_rfl⟩
theorem Try.cal15 : callable Try.prog 15 := ⟨Try.f15, Try.func15, by kernel_rfl, by kernel_rfl⟩
theorem Try.cal16 : callable Try.prog 16 := ⟨Try.f16, Try.func16, by kernel_rfl, by kernel_rfl⟩
theorem Try.cal17 : callable Try.prog 17 := ⟨Try.f17, Try.func17, by kernel_rfl, by kernel_rfl⟩
theorem Try.cal18 : callable Try.prog 18 := ⟨Try.f18, Try.func18, by kernel_rfl, by kernel_rfl⟩
theorem Try.cal19 : callable Try.prog 19 := ⟨Try.f19, Try.func19, by kernel_rfl, by kernel_rfl⟩
theorem Try.cal20 : callable Try.prog 20 := ⟨Try.f20, Try.func20, by kernel_rfl, by kernel_rfl⟩
theorem Try.cal21 : callable Try.prog 21 := ⟨Try.f21, Try.func21, by kernel_rfl, by kernel_rfl⟩
theorem Try.cal22 : callable Try.prog 22 := ⟨Try.f22, Try.func22, by kernel_rfl, by kernel_rfl⟩
theorem Try.cal23 : callable Try.prog 23 := ⟨Try.f23, Try.func23, by kernel_rfl, by kernel_rfl⟩
theorem Try.cal24 : callable Try.prog 24 := ⟨Try.f24, Try.func24, by kernel_rfl, by kernel_rfl⟩
theorem Try.cal25 : callable Try.prog 25 := ⟨Try.f25, Try.func25, by kernel_rfl, by kernel_rfl⟩
theorem Try.cal26 : callable Try.prog 26 := ⟨Try.f26, Try.func26, by kernel_rfl, by kernel_rfl⟩
theorem Try.cal27 : callable Try.prog 27 := ⟨Try.f27, Try.func27, by kernel_rfl, by kernel_rfl⟩
theorem Try.cal28 : callable Try.prog 28 := ⟨Try.f28, Try.func28, by kernel_rfl, by kernel_rfl⟩
theorem Try.cal29 : callable Try.prog 29 := ⟨Try.f29, Try.func29, by kernel_rfl, by kernel_rfl⟩
theorem Try.cal30 : callable Try.prog 30 := ⟨Try.f30, Try.func30, by kernel_rfl, by kernel_rfl⟩
theorem Try.cal31 : callable Try.prog 31 := ⟨Try.f31, Try.func31, by kernel_rfl, by kernel_rfl⟩
theorem Try.cal32 : callable Try.prog 32 := ⟨Try.f32, Try.func32, by kernel_rfl, by kernel_rfl⟩
theorem Try.cal33 : callable Try.prog 33 := ⟨Try.f33, Try.func33, by kernel_rfl, by kernel_rfl⟩
theorem Try.cal34 : callable Try.prog 34 := ⟨Try.f34, Try.func34, by kernel_rfl, by kernel_rfl⟩
theorem Try.cal35 : callable Try.prog 35 := ⟨Try.f35, Try.func35, by kernel_rfl, by kernel_rfl⟩
theorem Try.cal36 : callable Try.prog 36 := ⟨Try.f36, Try.func36, by kernel_rfl, by kernel_rfl⟩
theorem Try.cal37 : callable Try.prog 37 := ⟨Try.f37, Try.func37, by kernel_rfl, by kernel_rfl⟩
theorem Try.cal38 : callable Try.prog 38 := ⟨Try.f38, Try.func38, by kernel_rfl, by kernel_rfl⟩
theorem Try.cal39 : callable Try.prog 39 := ⟨Try.f39, Try.func39, by kernel_rfl, by kernel_rfl⟩
theorem Try.cal40 : callable Try.prog 40 := ⟨Try.f40, Try.func40, by kernel_rfl, by kernel_rfl⟩
theorem Try.cal41 : callable Try.prog 41 := ⟨Try.f41, Try.func41, by kernel_rfl, by kernel_rfl⟩
theorem Try.cal42 : callable Try.prog 42 := ⟨Try.f42, Try.func42, by kernel_rfl, by kernel_rfl⟩
theorem Try.cal43 : callable Try.prog 43 := ⟨Try.f43, Try.func43, by kernel_rfl, by kernel_rfl⟩
theorem Try.cal44 : callable Try.prog 44 := ⟨Try.f44, Try.func44, by kernel_rfl, by kernel_rfl⟩
theorem Try.cal45 : callable Try.prog 45 := ⟨Try.f45, Try.func45, by kernel_rfl, by kernel_rfl⟩
theorem Try.cal46 : callable Try.prog 46 := ⟨Try.f46, Try.func46, by kernel_rfl, by kernel_rfl⟩
theorem Try.cal47 : callable Try.prog 47 := ⟨Try.f47, Try.func47, by kernel_rfl, by kernel_rfl⟩
theorem Try.cal48 : callable Try.prog 48 := ⟨Try.f48, Try.func48, by kernel_rfl, by kernel_rfl⟩
theorem Try.cal49 : callable Try.prog 49 := ⟨Try.f49, Try.func49, by kernel_rfl, by kernel_rfl⟩
theorem Try.cal50 : callable Try.prog 50 := ⟨Try.f50, Try.func50, by kernel_rfl, by kernel_rfl⟩
theorem Try.cal51 : callable Try.prog 51 := ⟨Try.f51, Try.func51, by kernel_rfl, by kernel_rfl⟩
theorem Try.cal52 : callable Try.prog 52 := ⟨Try.f52, Try.func52, by kernel_rfl, by kernel_rfl⟩
theorem Try.cal53 : callable Try.prog 53 := ⟨Try.f53, Try.func53, by kernel_rfl, by kernel_rfl⟩
theorem Try.cal54 : callable Try.prog 54 := ⟨Try.f54, Try.func54, by kernel_rfl, by kernel_rfl⟩
theorem Try.cal55 : callable Try.prog 55 := ⟨Try.f55, Try.func55, by kernel_rfl, by kernel_rfl⟩
theorem Try.cal56 : callable Try.prog 56 := ⟨Try.f56, Try.func56, by kernel_rfl, by kernel_rfl⟩
theorem Try.cal57 : callable Try.prog 57 := ⟨Try.f57, Try.func57, by kernel_rfl, by kernel_rfl⟩
theorem Try.cal58 : callable Try.prog 58 := ⟨Try.f58, Try.func58, by kernel_rfl, by kernel_rfl⟩
theorem Try.cal59 : callable Try.prog 59 := ⟨Try.f59, Try.func59, by kernel_rfl, by kernel_rfl⟩
theorem Try.cal60 : callable Try.prog 60 := ⟨Try.f60, Try.func60, by kernel_rfl, by kernel_rfl⟩
theorem Try.cal61 : callable Try.prog 61 := ⟨Try.f61, Try.func61, by kernel_rfl, by kernel_rfl⟩
theorem Try.cal62 : callable Try.prog 62 := ⟨Try.f62, Try.func62, by kernel_rfl, by kernel_rfl⟩
theorem Try.cal63 : callable Try.prog 63 := ⟨Try.f63, Try.func63, by kernel_rfl, by kernel_rfl⟩
theorem Try.cal64 : callable Try.prog 64 := ⟨Try.f64, Try.func64, by kernel_rfl, by kernel_rfl⟩
theorem Try.cal65 : callable Try.prog 65 := ⟨Try.f65, Try.func65, by kernel_rfl, by kernel_rfl⟩
theorem Try.cal66 : callable Try.prog 66 := ⟨Try.f66, Try.func66, by kernel_rfl, by kernel_rfl⟩
theorem Try.cal67 : callable Try.prog 67 := ⟨Try.f67, Try.func67, by kernel_rfl, by kernel_rfl⟩
theorem Try.cal68 : callable Try.prog 68 := ⟨Try.f68, Try.func68, by kernel_rfl, by kernel_rfl⟩
theorem Try.cal69 : callable Try.prog 69 := ⟨Try.f69, Try.func69, by kernel_rfl, by kernel_rfl⟩
theorem Try.cal70 : callable Try.prog 70 := ⟨Try.f70, Try.func70, by kernel_rfl, by kernel_rfl⟩
theorem Try.cal71 : callable Try.prog 71 := ⟨Try.f71, Try.func71, by kernel_rfl, by kernel_rfl⟩
theorem Try.cal73 : callable Try.prog 73 := ⟨Try.f73, Try.func73, by kernel_rfl, by kernel_rfl⟩
theorem Try.cal74 : callable Try.prog 74 := ⟨Try.f74, Try.func74, by kernel_rfl, by kernel_rfl⟩
theorem Try.cal75 : callable Try.prog 75 := ⟨Try.f75, Try.func75, by kernel_rfl, by kernel_rfl⟩
theorem Try.cal76 : callable Try.prog 76 := ⟨Try.f76, Try.func76, by kernel_rfl, by kernel_rfl⟩
theorem Try.cal77 : callable Try.prog 77 := ⟨Try.f77, Try.func77, by kernel_rfl, by kernel_rfl⟩
theorem Try.cal78 : callable Try.prog 78 := ⟨Try.f78, Try.func78, by kernel_rfl, by kernel_rfl⟩
theorem Try.cal80 : callable Try.prog 80 := ⟨Try.f80, Try.func80, by kernel_rfl, by kernel_rfl⟩
theorem Try.cal81 : callable Try.prog 81 := ⟨Try.f81, Try.func81, by kernel_rfl, by kernel_rfl⟩
theorem Try.cal82 : callable Try.prog 82 := ⟨Try.f82, Try.func82, by kernel_rfl, by kernel_rfl⟩
theorem Try.cal83 : callable Try.prog 83 := ⟨Try.f83, Try.func83, by kernel_rfl, by kernel_rfl⟩
theorem Try.cal84 : callable Try.prog 84 := ⟨Try.f84, Try.func84, by kernel_rfl, by kernel_rfl⟩
theorem Try.cal85 : callable Try.prog 85 := ⟨Try.f85, Try.func85, by kernel_rfl, by kernel_rfl⟩
theorem Try.cal86 : callable Try.prog 86 := ⟨Try.f86, Try.func86, by kernel_rfl, by kernel_rfl⟩
end Go.Proofs
namespace Go.Proofs
open Go.Sh Go.Sh.Plan
open Go.IntKind (wrap)
open Int (toNat)
def Try.S3 (w1 h2 : Int) (rg3p : OA) (rg3l rg3c : Nat) (qu4 : Int) (ha5 : Bool) (H : Heap) (R : Kv) : Prop :=
 Try.C 6 #[] H fun r6 H7 => ∃ r8, r6 = .bool r8 ∧ br (!r8)
 (R (.bool false) H7)
 (br (decide (((rg3l : Int) : Int) > 3000))
 (R (.bool true) H7)
 (Try.C 7 #[.int .i64 w1, .int .i64 h2, .slice rg3p rg3l rg3c, .int .i64 qu4, .bool ha5] H7 fun r9 H10 => ∃ r11p r11l r11c r12, r9 = .tuple #[.slice r11p r11l r11c, .int .i64 r12] ∧ Try.C 8 #[.int .i64 w1, .int .i64 h2, .slice rg3p rg3l rg3c, .int .i64 qu4, .bool ha5] H10 fun r13 H14 => ∃ r15p r15l r15c r16, r13 = .tuple #[.slice r15p r15l r15c, .int .i64 r16] ∧ br (r12 != r16)
 (R (.bool false) H14)
 (br (r12 != 0)
 (R (.bool (((r11l : Int) : Int) == 0)) H14)
 (Try.C 9 #[.slice r11p r11l r11c] H14 fun r17 H18 => ∃ r19 r20, r17 = .tuple #[.agg r19, .int .i64 r20] ∧ alc H18 (.cells #[.int .i64 0, .int .i64 0, .slice none 0 0, .bool false, .slice none 0 0] 31) fun b21 H22 => r19.size = 5 ∧ stAt H22 ⟨b21, 0, none⟩ r19.toList fun H23 => br (r20 == 0) (∃ W24, cell H23 (.add ⟨b21, 0, none⟩ 0) = some (.int .i64 W24) ∧ br (W24 == w1) (∃ H25, cell H23 (.add ⟨b21, 0, none⟩ 1) = some (.int .i64 H25) ∧ br (H25 == h2) (∃ Ha26, cell H23 (.add ⟨b21, 0, none⟩ 3) = some (.bool Ha26) ∧ br (Ha26 == ha5) (∃ Bl27p Bl27l Bl27c, cell H23 (.add ⟨b21, 0, none⟩ 4) = some (.slice Bl27p Bl27l Bl27c) ∧ Try.C 10 #[.slice Bl27p Bl27l Bl27c, .slice r15p r15l r15c] H23 fun r28 H29 => ∃ r30, r28 = .bool r30 ∧ br r30 (∃ RG31p RG31l RG31c, cell H29 (.add ⟨b21, 0, none⟩ 2) = some (.slice RG31p RG31l RG31c) ∧ R (.bool (((RG31l : Int) : Int) == (rg3l : Int))) H29) (R (.bool false) H29)) (R (.bool false) H23)) (R (.bool false) H23)) (R (.bool false) H23)) (R (.bool false) H23)))))
def Try.p3 : Plan := (tl (tg (tg (tl (tl (tg (tg (tl (tl leaf)))))))))
theorem Try.s3 {w1 h2 : Int} {rg3p : OA} {rg3l rg3c : Nat} {qu4 : Int} {ha5 : Bool} {H R} (h : Try.S3 w1 h2 rg3p rg3l rg3c qu4 ha5 H R) : Try.C 3 #[.int .i64 w1, .int .i64 h2, .slice rg3p rg3l rg3c, .int .i64 qu4, .bool ha5] H R := vcs Try.tab_ok Try.mixed Try.func3 Try.cal3 Try.p3 h (by kernel_rfl)
def Try.S4 (w1 h2 : Int) (rg3p : OA) (rg3l rg3c : Nat) (H : Heap) (R : Kv) : Prop :=
 Try.C 6 #[] H fun r4 H5 => ∃ r6, r4 = .bool r6 ∧ br (!r6)
 (R (.bool false) H5)
 (∀ J7 : Kl, (∀ H8, (Try.C 7 #[.int .i64 w1, .int .i64 h2, .slice rg3p rg3l rg3c, .int .i64 100, .bool false] H8 fun r9 H10 => ∃ r11p r11l r11c r12, r9 = .tuple #[.slice r11p r11l r11c, .int .i64 r12] ∧ Try.C 9 #[.slice r11p r11l r11c] H10 fun r13 H14 => ∃ r15 r16, r13 = .tuple #[.agg r15, .int .i64 r16] ∧ alc H14 (.cells #[.int .i64 0, .int .i64 0, .slice none 0 0, .bool false, .slice none 0 0] 31) fun b17 H18 => r15.size = 5 ∧ stAt H18 ⟨b17, 0, none⟩ r15.toList fun H19 => ∀ J20 : Kl, (∀ H21, (∃ RG22p RG22l RG22c, cell H21 (.add ⟨b17, 0, none⟩ 2) = some (.slice RG22p RG22l RG22c) ∧ ∀ X23 : Kl, (∀ (i24 : Int) H25, (br (decide (i24 < (RG22l : Int)))
 (∃ a26, RG22p = some a26 ∧ 0 ≤ i24 ∧ i24 < (RG22l : Int) ∧ ∃ c27, cell H25 (.add a26 (toNat i24 * 1)) = some (.int .u8 c27) ∧ ∃ a28, rg3p = some a28 ∧ 0 ≤ i24 ∧ i24 < (rg3l : Int) ∧ ∃ v29, cell H25 (.add a28 (toNat i24 * 1)) = some (.int .u8 v29) ∧ br (decide (((wrap .i64 ((wrap .i64 c27) - (wrap .i64 v29))) : Int) > 15)) (R (.bool false) H25) (br (decide (((wrap .i64 ((wrap .i64 c27) - (wrap .i64 v29))) : Int) < (-15 : Int)))
 (R (.bool false) H25)
 (X23 [.int .i64 (wrap .i64 (i24 + 1))] H25)))
 (R (.bool true) H25)) → X23 [.int .i64 i24] H25) → X23 [.int .i64 0] H21) → J20 [] H21) →
 br (r12 != 0) (R (.bool false) H19) (br (r16 != 0) (R (.bool false) H19) (∃ RG30p RG30l RG30c, cell H19 (.add ⟨b17, 0, none⟩ 2) = some (.slice RG30p RG30l RG30c) ∧ br (((RG30l : Int) : Int) != (rg3l : Int))
 (R (.bool false) H19)
 (J20 [] H19)))) → J7 [] H8) →
 br (decide (((rg3l : Int) : Int) > 3000)) (R (.bool true) H5) (Try.C 11 #[.int .i64 w1, .int .i64 h2] H5 fun r31 H32 => ∃ r33, r31 = .bool r33 ∧ br (!r33) (R (.bool true) H32) (br (((rg3l : Int) : Int) != (wrap .i64 ((wrap .i64 ((3 : Int) * w1)) * h2)))
 (R (.bool true) H32)
 (J7 [] H32))))
def Try.p4 : Plan := (tl (tg (two (join [] [0, 1, 2] g0) (tl (tl (two (join [] [2, 9] g0) (two (tl (one (loop [(63, 3)] [2, 61, 62] (tl (two (tl leaf) (two (one (tl (tl g0))) leaf)))))) (tl leaf))))))))
theorem Try.s4 {w1 h2 : Int} {rg3p : OA} {rg3l rg3c : Nat} {H R} (h : Try.S4 w1 h2 rg3p rg3l rg3c H R) : Try.C 4 #[.int .i64 w1, .int .i64 h2, .slice rg3p rg3l rg3c] H R := vcs Try.tab_ok Try.mixed Try.func4 Try.cal4 Try.p4 h (by kernel_rfl)
def Try.p5 : Plan := (tl (tg (two (join [] [0, 1, 2, 3, 4, 5, 6] g0) (tl (two (join [] [5, 6, 15] g0) (tl (tl (tl (tl (tl leaf))))))))))
def Try.S6  (H : Heap) (R : Kv) : Prop :=
 alc H (.cells #[.int .u8 255, .int .u8 255, .int .u8 255] 5) fun b1 H2 => Try.C 8 #[.int .i64 1, .int .i64 1, .slice (some ⟨b1, 0, none⟩) 3 3, .int .i64 100, .bool false] H2 fun r3 H4 => ∃ r5p r5l r5c r6, r3 = .tuple #[.slice r5p r5l r5c, .int .i64 r6] ∧ Try.C 9 #[.slice none 0 0] H4 fun r7 H8 => ∃ r9 r10, r7 = .tuple #[.agg r9, .int .i64 r10] ∧ alc H8 (.cells #[.int .i64 0, .int .i64 0, .slice none 0 0, .bool false, .slice none 0 0] 31) fun b11 H12 => r9.size = 5 ∧ stAt H12 ⟨b11, 0, none⟩ r9.toList fun H13 => br (r6 == 0) (br (((r5l : Int) : Int) == 3) (∃ a14, r5p = some a14 ∧ 0 ≤ (0 : Int) ∧ (0 : Int) < (r5l : Int) ∧ 0 ≤ (0 : Int) ∧ (0 : Int) < ((64 : Nat) : Int) ∧ ∃ v15, cell H13 (.add (.add a14 (toNat (0 : Int) * 64)) (toNat (0 : Int) * 1)) = some (.int .i64 v15) ∧ br (v15 == 1016) (∃ a16, r5p = some a16 ∧ 0 ≤ (0 : Int) ∧ (0 : Int) < (r5l : Int) ∧ 0 ≤ (1 : Int) ∧ (1 : Int) < ((64 : Nat) : Int) ∧ ∃ v17, cell H13 (.add (.add a16 (toNat (0 : Int) * 64)) (toNat (1 : Int) * 1)) = some (.int .i64 v17) ∧ br (v17 == 0) (∃ a18, r5p = some a18 ∧ 0 ≤ (1 : Int) ∧ (1 : Int) < (r5l : Int) ∧ 0 ≤ (0 : Int) ∧ (0 : Int) < ((64 : Nat) : Int) ∧ ∃ v19, cell H13 (.add (.add a18 (toNat (1 : Int) * 64)) (toNat (0 : Int) * 1)) = some (.int .i64 v19) ∧ br (v19 == 0) (R (.bool (r10 == 51)) H13) (R (.bool false) H13)) (R (.bool false) H13)) (R (.bool false) H13)) (R (.bool false) H13)) (R (.bool false) H13)
def Try.p6 : Plan := (tl (tl (tl (tl leaf))))
theorem Try.s6 {_u : Unit} {H R} (h : Try.S6  H R) : Try.C 6 #[] H R := vcs Try.tab_ok Try.mixed Try.func6 Try.cal6 Try.p6 h (by kernel_rfl)
def Try.S7 (w1 h2 : Int) (rg3p : OA) (rg3l rg3c : Nat) (qu4 : Int) (ha5 : Bool) (H : Heap) (R : Kv) : Prop :=
 Try.C 8 #[.int .i64 w1, .int .i64 h2, .slice rg3p rg3l rg3c, .int .i64 qu4, .bool ha5] H fun r6 H7 => ∃ r8p r8l r8c r9, r6 = .tuple #[.slice r8p r8l r8c, .int .i64 r9] ∧ br (r9 != 0)
 (R (.tuple #[.slice none 0 0, .int .i64 r9]) H7)
 (Try.C 13 #[] H7 fun r10 H11 => ∃ r12, r10 = .agg r12 ∧ alc H11 (.cells (Array.replicate 64 (Value.int .i64 0)) 40) fun b13 H14 => r12.size = 64 ∧ stAt H14 ⟨b13, 0, none⟩ r12.toList fun H15 => alc H15 (.cells #[.int .u8 255, .int .u8 216] 5) fun b16 H17 => ∀ X18 : Kl, (∀ (ou19p : OA) (ou19l ou19c : Nat) (k20 : Int) H21, (br (decide (k20 < 2))
 (Try.C 14 #[.int .i64 qu4, .bool (k20 == 1)] H21 fun r22 H23 => ∃ r24 r25, r22 = .tuple #[.agg r24, .bool r25] ∧ alc H23 (.cells (Array.replicate 64 (Value.int .i64 0)) 40) fun b26 H27 => r24.size = 64 ∧ stAt H27 ⟨b26, 0, none⟩ r24.toList fun H28 => alc H28 (.cells #[.int .u8 (wrap .u8 k20)] 5) fun b29 H30 => ∃ v31, v31.size = 64 ∧ rowIn H30 ⟨b13, 0, none⟩ v31 ∧ ∀ X32 : Kl, (∀ (da33p : OA) (da33l da33c : Nat) (t34 : Int) H35, (br (decide (t34 < 64))
 (0 ≤ t34 ∧ t34 < ((64 : Nat) : Int) ∧ ∃ at_36, v31[(toNat t34 * 1)]? = some (.int .i64 at_36) ∧ 0 ≤ at_36 ∧ at_36 < ((64 : Nat) : Int) ∧ ∃ v37, cell H35 (.add ⟨b26, 0, none⟩ (toNat at_36 * 1)) = some (.int .i64 v37) ∧ alc H35 (.cells #[.int .u8 (wrap .u8 v37)] 5) fun b38 H39 => appQ 1 1 #[.int .u8 0] H39 da33p da33l da33c (some ⟨b38, 0, none⟩) 1 5 fun da40p da40l da40c H41 => X32 [.slice da40p da40l da40c, .int .i64 (wrap .i64 (t34 + 1))] H41)
 (Try.C 15 #[.int .u8 219, .slice da33p da33l da33c] H35 fun r42 H43 => ∃ r44p r44l r44c, r42 = .slice r44p r44l r44c ∧ appQ 1 1 #[.int .u8 0] H43 ou19p ou19l ou19c r44p r44l 5 fun ou45p ou45l ou45c H46 => X18 [.slice ou45p ou45l ou45c, .int .i64 (wrap .i64 (k20 + 1))] H46)) → X32 [.slice da33p da33l da33c, .int .i64 t34] H35) → X32 [.slice (some ⟨b29, 0, none⟩) 1 1, .int .i64 0] H30)
 (∀ J47 : Kl, (∀ (fi48 : Int) H49, (0 ≤ (8 : Int) ∧ 0 ≤ (8 : Int) ∧ alc H49 (.cells #[.int .u8 8, .int .u8 (wrap .u8 (shrI .i64 h2 8)), .int .u8 (wrap .u8 h2), .int .u8 (wrap .u8 (shrI .i64 w1 8)), .int .u8 (wrap .u8 w1), .int .u8 3, .int .u8 1, .int .u8 fi48, .int .u8 0, .int .u8 2, .int .u8 17, .int .u8 1, .int .u8 3, .int .u8 17, .int .u8 1] 5) fun b50 H51 => Try.C 15 #[.int .u8 192, .slice (some ⟨b50, 0, none⟩) 15 15] H51 fun r52 H53 => ∃ r54p r54l r54c, r52 = .slice r54p r54l r54c ∧ appQ 1 1 #[.int .u8 0] H53 ou19p ou19l ou19c r54p r54l 5 fun ou55p ou55l ou55c H56 => Try.C 16 #[.int .i64 w1, .int .i64 h2, .bool ha5, .slice r8p r8l r8c] H56 fun r57 H58 => ∃ li59p li59l li59c, r57 = .slice li59p li59l li59c ∧ alc H58 (.cells #[.slice none 0 0, .slice none 0 0, .slice none 0 0, .slice none 0 0] 49) fun b60 H61 => ∀ X62 : Kl, (∀ (t63 : Int) H64, (br (decide (t63 < 4))
 (0 ≤ (256 : Int) ∧ (256 : Int) ≤ (256 : Int) ∧ ((8 : Nat) : Int) * (256 : Int) ≤ 281474976710656 ∧ (256 : Int) ≤ 281474976710656 ∧ alc H64 (.cells (List.toArray (reps (toNat 256) (Array.toList #[.int .i64 0]))) 3) fun b65 H66 => 0 ≤ t63 ∧ t63 < ((4 : Nat) : Int) ∧ stAt H66 (.add ⟨b60, 0, none⟩ (toNat t63 * 1)) [.slice (some ⟨b65, 0, none⟩) (toNat 256) (toNat 256)] fun H67 => X62 [.int .i64 (wrap .i64 (t63 + 1))] H67)
 (∀ X68 : Kl, (∀ (t69 : Int) H70, (br (decide (t69 < (li59l : Int)))
 (∃ a71, li59p = some a71 ∧ 0 ≤ t69 ∧ t69 < (li59l : Int) ∧ ∃ v72, v72.size = 4 ∧ rowIn H70 (.add a71 (toNat t69 * 4)) v72 ∧ alc H70 (.cells #[.int .i64 0, .int .i64 0, .int .i64 0, .int .i64 0] 51) fun b73 H74 => v72.size = 4 ∧ stAt H74 ⟨b73, 0, none⟩ v72.toList fun H75 => ∃ ta76, cell H75 (.add ⟨b73, 0, none⟩ 0) = some (.int .i64 ta76) ∧ 0 ≤ ta76 ∧ ta76 < ((4 : Nat) : Int) ∧ ∃ v77p v77l v77c, cell H75 (.add ⟨b60, 0, none⟩ (toNat ta76 * 1)) = some (.slice v77p v77l v77c) ∧ ∃ sy78, cell H75 (.add ⟨b73, 0, none⟩ 1) = some (.int .i64 sy78) ∧ ∃ a79, v77p = some a79 ∧ 0 ≤ sy78 ∧ sy78 < (v77l : Int) ∧ ∃ v80, cell H75 (.add a79 (toNat sy78 * 1)) = some (.int .i64 v80) ∧ ∃ a81, v77p = some a81 ∧ 0 ≤ sy78 ∧ sy78 < (v77l : Int) ∧ stAt H75 (.add a81 (toNat sy78 * 1)) [.int .i64 (wrap .i64 (v80 + 1))] fun H82 => X68 [.int .i64 (wrap .i64 (t69 + 1))] H82)
 (alc H70 (.cells #[.slice none 0 0, .slice none 0 0, .slice none 0 0, .slice none 0 0] 49) fun b83 H84 => alc H84 (.cells #[.slice none 0 0, .slice none 0 0, .slice none 0 0, .slice none 0 0] 49) fun b85 H86 => ∀ X87 : Kl, (∀ (ou88p : OA) (ou88l ou88c : Nat) (t89 : Int) H90, (br (decide (t89 < 4))
 (0 ≤ t89 ∧ t89 < ((4 : Nat) : Int) ∧ ∃ v91p v91l v91c, cell H90 (.add ⟨b60, 0, none⟩ (toNat t89 * 1)) = some (.slice v91p v91l v91c) ∧ Try.C 17 #[.slice v91p v91l v91c] H90 fun r92 H93 => ∃ r94p r94l r94c r95p r95l r95c r96p r96l r96c, r92 = .tuple #[.slice r94p r94l r94c, .slice r95p r95l r95c, .slice r96p r96l r96c] ∧ 0 ≤ t89 ∧ t89 < ((4 : Nat) : Int) ∧ stAt H93 (.add ⟨b83, 0, none⟩ (toNat t89 * 1)) [.slice r95p r95l r95c] fun H97 => 0 ≤ t89 ∧ t89 < ((4 : Nat) : Int) ∧ stAt H97 (.add ⟨b85, 0, none⟩ (toNat t89 * 1)) [.slice r96p r96l r96c] fun H98 => (2 : Int) ≠ 0 ∧ (2 : Int) ≠ 0 ∧ alc H98 (.cells #[.int .u8 (wrap .u8 (wrap .i64 ((Int.tmod t89 2) + (wrap .i64 ((wrap .i64 (Int.tdiv t89 2)) * 16)))))] 5) fun b99 H100 => appQ 1 1 #[.int .u8 0] H100 (some ⟨b99, 0, none⟩) 1 1 r94p r94l 5 fun ap101p ap101l ap101c H102 => Try.C 15 #[.int .u8 196, .slice ap101p ap101l ap101c] H102 fun r103 H104 => ∃ r105p r105l r105c, r103 = .slice r105p r105l r105c ∧ appQ 1 1 #[.int .u8 0] H104 ou88p ou88l ou88c r105p r105l 5 fun ou106p ou106l ou106c H107 => X87 [.slice ou106p ou106l ou106c, .int .i64 (wrap .i64 (t89 + 1))] H107)
 (alc H90 (.cells #[.int .u8 3, .int .u8 1, .int .u8 0, .int .u8 2, .int .u8 17, .int .u8 3, .int .u8 17, .int .u8 0, .int .u8 63, .int .u8 0] 5) fun b108 H109 => Try.C 15 #[.int .u8 218, .slice (some ⟨b108, 0, none⟩) 10 10] H109 fun r110 H111 => ∃ r112p r112l r112c, r110 = .slice r112p r112l r112c ∧ appQ 1 1 #[.int .u8 0] H111 ou88p ou88l ou88c r112p r112l 5 fun ou113p ou113l ou113c H114 => Try.C 18 #[.bool true] H114 fun r115 H116 => ∃ wr117, r115 = .pointer wr117 ∧ ∀ X118 : Kl, (∀ (t119 : Int) H120, (br (decide (t119 < (li59l : Int)))
 (∃ a121, li59p = some a121 ∧ 0 ≤ t119 ∧ t119 < (li59l : Int) ∧ ∃ v122, v122.size = 4 ∧ rowIn H120 (.add a121 (toNat t119 * 4)) v122 ∧ alc H120 (.cells #[.int .i64 0, .int .i64 0, .int .i64 0, .int .i64 0] 51) fun b123 H124 => v122.size = 4 ∧ stAt H124 ⟨b123, 0, none⟩ v122.toList fun H125 => ∃ ta126, cell H125 (.add ⟨b123, 0, none⟩ 0) = some (.int .i64 ta126) ∧ 0 ≤ ta126 ∧ ta126 < ((4 : Nat) : Int) ∧ ∃ v127p v127l v127c, cell H125 (.add ⟨b85, 0, none⟩ (toNat ta126 * 1)) = some (.slice v127p v127l v127c) ∧ ∃ sy128, cell H125 (.add ⟨b123, 0, none⟩ 1) = some (.int .i64 sy128) ∧ ∃ a129, v127p = some a129 ∧ 0 ≤ sy128 ∧ sy128 < (v127l : Int) ∧ ∃ v130, cell H125 (.add a129 (toNat sy128 * 1)) = some (.int .i64 v130) ∧ ∃ ta131, cell H125 (.add ⟨b123, 0, none⟩ 0) = some (.int .i64 ta131) ∧ 0 ≤ ta131 ∧ ta131 < ((4 : Nat) : Int) ∧ ∃ v132p v132l v132c, cell H125 (.add ⟨b83, 0, none⟩ (toNat ta131 * 1)) = some (.slice v132p v132l v132c) ∧ ∃ sy133, cell H125 (.add ⟨b123, 0, none⟩ 1) = some (.int .i64 sy133) ∧ ∃ a134, v132p = some a134 ∧ 0 ≤ sy133 ∧ sy133 < (v132l : Int) ∧ ∃ v135, cell H125 (.add a134 (toNat sy133 * 1)) = some (.int .i64 v135) ∧ Try.C 19 #[.pointer wr117, .int .i64 v130, .int .i64 v135] H125 fun r136 H137 => ∃ r138, r136 = .bool r138 ∧ ∃ bi139, cell H137 (.add ⟨b123, 0, none⟩ 2) = some (.int .i64 bi139) ∧ ∃ n140, cell H137 (.add ⟨b123, 0, none⟩ 3) = some (.int .i64 n140) ∧ Try.C 19 #[.pointer wr117, .int .i64 bi139, .int .i64 n140] H137 fun r141 H142 => ∃ r143, r141 = .bool r143 ∧ X118 [.int .i64 (wrap .i64 (t119 + 1))] H142)
 (Try.C 20 #[.pointer wr117, .int .i64 1] H120 fun r144 H145 => r144 = .tuple #[] ∧ Try.C 21 #[.pointer wr117] H145 fun r146 H147 => ∃ r148p r148l r148c, r146 = .slice r148p r148l r148c ∧ ∀ X149 : Kl, (∀ (ou150p : OA) (ou150l ou150c : Nat) (t151 : Int) H152, (br (decide (t151 < (r148l : Int)))
 (∃ a153, r148p = some a153 ∧ 0 ≤ t151 ∧ t151 < (r148l : Int) ∧ ∃ c154, cell H152 (.add a153 (toNat t151 * 1)) = some (.int .u8 c154) ∧ alc H152 (.cells #[.int .u8 c154] 5) fun b155 H156 => appQ 1 1 #[.int .u8 0] H156 ou150p ou150l ou150c (some ⟨b155, 0, none⟩) 1 5 fun ou157p ou157l ou157c H158 => br (c154 == 255)
 (alc H158 (.cells #[.int .u8 0] 5) fun b159 H160 => appQ 1 1 #[.int .u8 0] H160 ou157p ou157l ou157c (some ⟨b159, 0, none⟩) 1 5 fun ou161p ou161l ou161c H162 => X149 [.slice ou161p ou161l ou161c, .int .i64 (wrap .i64 (t151 + 1))] H162)
 (X149 [.slice ou157p ou157l ou157c, .int .i64 (wrap .i64 (t151 + 1))] H158))
 (alc H152 (.cells #[.int .u8 255, .int .u8 217] 5) fun b163 H164 => appQ 1 1 #[.int .u8 0] H164 ou150p ou150l ou150c (some ⟨b163, 0, none⟩) 2 5 fun ap165p ap165l ap165c H166 => R (.tuple #[.slice ap165p ap165l ap165c, .int .i64 0]) H166)) → X149 [.slice ou150p ou150l ou150c, .int .i64 t151] H152) → X149 [.slice ou113p ou113l ou113c, .int .i64 0] H147)) → X118 [.int .i64 t119] H120) → X118 [.int .i64 0] H116)) → X87 [.slice ou88p ou88l ou88c, .int .i64 t89] H90) → X87 [.slice ou55p ou55l ou55c, .int .i64 0] H86)) → X68 [.int .i64 t69] H70) → X68 [.int .i64 0] H64)) → X62 [.int .i64 t63] H64) → X62 [.int .i64 0] H61) → J47 [.int .u8 fi48] H49) →
 br ha5
 (J47 [.int .u8 34] H21)
 (J47 [.int .u8 17] H21))) → X18 [.slice ou19p ou19l ou19c, .int .i64 k20] H21) → X18 [.slice (some ⟨b16, 0, none⟩) 2 2, .int .i64 0] H17)
def Try.p7 : Plan := (tl (tl (tg (tl (tl (two (tl (one (loop [(15, 22), (51, 3)] [0, 1, 3, 4, 12, 14] (tl (two (tl leaf) (two (one (tl (tl (tl (two (tl (one (loop [(19, 22), (65, 3)] [0, 1, 3, 4, 12, 14, 15, 17, 51, 64] (tl (two (tl leaf) (two (one (tl leaf)) leaf)))))) leaf))))) leaf)))))) (tl (two (join [(22, 5)] [0, 1, 4, 12, 15] (tl (tl leaf))) (tl (tl (tl (two (tl (one (loop [(102, 3)] [15, 23, 24] (tl (two (tl leaf) (two (one (tl leaf)) leaf)))))) (two (tl (one (loop [(111, 3)] [15, 23, 24, 109, 110] (tl (two (tl leaf) (two (one (tl leaf)) leaf)))))) (tl (two (tl (one (loop [(15, 22), (126, 3)] [23, 24, 28, 29] (tl (two (tl leaf) (two (one (tl (tl (tl leaf)))) leaf)))))) (tl (tl (two (tl (one (loop [(162, 3)] [15, 28, 29, 32, 160, 161] (tl (two (tl leaf) (two (one (tl (tl leaf))) leaf)))))) (tl (two (tl (one (loop [(15, 22), (196, 3)] [194, 195] (tl (two (tl leaf) (two (one (tl (tl (tl (tl leaf))))) leaf)))))) (tl leaf)))))))))))))))))))))
theorem Try.s7 {w1 h2 : Int} {rg3p : OA} {rg3l rg3c : Nat} {qu4 : Int} {ha5 : Bool} {H R} (h : Try.S7 w1 h2 rg3p rg3l rg3c qu4 ha5 H R) : Try.C 7 #[.int .i64 w1, .int .i64 h2, .slice rg3p rg3l rg3c, .int .i64 qu4, .bool ha5] H R := vcs Try.tab_ok Try.mixed Try.func7 Try.cal7 Try.p7 h (by kernel_rfl)
def Try.S8 (w1 h2 : Int) (rg3p : OA) (rg3l rg3c : Nat) (qu4 : Int) (ha5 : Bool) (H : Heap) (R : Kv) : Prop :=
 Try.C 14 #[.int .i64 qu4, .bool false] H fun r6 H7 => ∃ r8 r9, r6 = .tuple #[.agg r8, .bool r9] ∧ alc H7 (.cells (Array.replicate 64 (Value.int .i64 0)) 40) fun b10 H11 => r8.size = 64 ∧ stAt H11 ⟨b10, 0, none⟩ r8.toList fun H12 => Try.C 14 #[.int .i64 qu4, .bool true] H12 fun r13 H14 => ∃ r15 r16, r13 = .tuple #[.agg r15, .bool r16] ∧ alc H14 (.cells (Array.replicate 64 (Value.int .i64 0)) 40) fun b17 H18 => r15.size = 64 ∧ stAt H18 ⟨b17, 0, none⟩ r15.toList fun H19 => Try.C 22 #[.int .i64 w1, .int .i64 h2] H19 fun r20 H21 => ∃ r22, r20 = .bool r22 ∧ br (!r22)
 (R (.tuple #[.slice none 0 0, .int .i64 31]) H21)
 (br (((rg3l : Int) : Int) != (wrap .i64 ((wrap .i64 ((3 : Int) * w1)) * h2)))
 (R (.tuple #[.slice none 0 0, .int .i64 25]) H21)
 (br (!r9)
 (R (.tuple #[.slice none 0 0, .int .i64 32]) H21)
 (Try.C 23 #[.int .i64 w1, .int .i64 h2, .slice rg3p rg3l rg3c, .bool ha5] H21 fun r23 H24 => ∃ r25, r23 = .agg r25 ∧ alc H24 (.cells #[.int .i64 0, .int .i64 0, .slice none 0 0, .int .i64 0, .int .i64 0, .slice none 0 0, .int .i64 0, .int .i64 0, .slice none 0 0] 60) fun b26 H27 => r25.size = 9 ∧ stAt H27 ⟨b26, 0, none⟩ r25.toList fun H28 => Try.C 24 #[.int .i64 w1, .int .i64 h2, .bool ha5] H28 fun r29 H30 => ∃ r31p r31l r31c, r29 = .slice r31p r31l r31c ∧ ∀ X32 : Kl, (∀ (ou33p : OA) (ou33l ou33c : Nat) (t34 : Int) H35, (br (decide (t34 < (r31l : Int)))
 (∃ a36, r31p = some a36 ∧ 0 ≤ t34 ∧ t34 < (r31l : Int) ∧ ∃ v37, v37.size = 3 ∧ rowIn H35 (.add a36 (toNat t34 * 3)) v37 ∧ alc H35 (.cells #[.int .i64 0, .int .i64 0, .int .i64 0] 65) fun b38 H39 => v37.size = 3 ∧ stAt H39 ⟨b38, 0, none⟩ v37.toList fun H40 => alc H40 (.cells (Array.replicate 64 (Value.int .i64 0)) 40) fun b41 H42 => ∀ X43 : Kl, (∀ (i44 : Int) H45, (br (decide (i44 < 64))
 (∃ pa46, cell H45 (.add ⟨b38, 0, none⟩ 0) = some (.int .i64 pa46) ∧ 0 ≤ pa46 ∧ pa46 < ((3 : Nat) : Int) ∧ ∃ v47, v47.size = 3 ∧ rowIn H45 (.add ⟨b26, 0, none⟩ (toNat pa46 * 3)) v47 ∧ ∃ x48, cell H45 (.add ⟨b38, 0, none⟩ 1) = some (.int .i64 x48) ∧ (8 : Int) ≠ 0 ∧ ∃ y49, cell H45 (.add ⟨b38, 0, none⟩ 2) = some (.int .i64 y49) ∧ (8 : Int) ≠ 0 ∧ Try.C 25 #[.agg v47, .int .i64 (wrap .i64 (x48 + (Int.tmod i44 8))), .int .i64 (wrap .i64 (y49 + (wrap .i64 (Int.tdiv i44 8))))] H45 fun r50 H51 => ∃ r52, r50 = .int .i64 r52 ∧ 0 ≤ i44 ∧ i44 < ((64 : Nat) : Int) ∧ stAt H51 (.add ⟨b41, 0, none⟩ (toNat i44 * 1)) [.int .i64 (wrap .i64 (r52 - 128))] fun H53 => X43 [.int .i64 (wrap .i64 (i44 + 1))] H53)
 (∃ v54, v54.size = 64 ∧ rowIn H45 ⟨b41, 0, none⟩ v54 ∧ Try.C 26 #[.agg v54] H45 fun r55 H56 => ∃ r57, r55 = .agg r57 ∧ alc H56 (.cells (Array.replicate 64 (Value.int .i64 0)) 40) fun b58 H59 => r57.size = 64 ∧ stAt H59 ⟨b58, 0, none⟩ r57.toList fun H60 => ∀ X61 : Kl, (∀ (i62 : Int) H63, (br (decide (i62 < 64))
 (0 ≤ i62 ∧ i62 < ((64 : Nat) : Int) ∧ ∃ t64, cell H63 (.add ⟨b10, 0, none⟩ (toNat i62 * 1)) = some (.int .i64 t64) ∧ ∀ J65 : Kl, (∀ (t66 : Int) H67, (0 ≤ i62 ∧ i62 < ((64 : Nat) : Int) ∧ ∃ v68, cell H67 (.add ⟨b58, 0, none⟩ (toNat i62 * 1)) = some (.int .i64 v68) ∧ Try.C 27 #[.int .i64 v68, .int .i64 t66] H67 fun r69 H70 => ∃ r71, r69 = .int .i64 r71 ∧ 0 ≤ i62 ∧ i62 < ((64 : Nat) : Int) ∧ stAt H70 (.add ⟨b58, 0, none⟩ (toNat i62 * 1)) [.int .i64 r71] fun H72 => X61 [.int .i64 (wrap .i64 (i62 + 1))] H72) → J65 [.int .i64 t66] H67) →
 ∃ pa73, cell H63 (.add ⟨b38, 0, none⟩ 0) = some (.int .i64 pa73) ∧ br (decide (pa73 > 0))
 (0 ≤ i62 ∧ i62 < ((64 : Nat) : Int) ∧ ∃ t74, cell H63 (.add ⟨b17, 0, none⟩ (toNat i62 * 1)) = some (.int .i64 t74) ∧ J65 [.int .i64 t74] H63)
 (J65 [.int .i64 t64] H63))
 (∃ v75, v75.size = 64 ∧ rowIn H63 ⟨b58, 0, none⟩ v75 ∧ v75.size = 64 ∧ 0 + 64 ≤ 64 ∧ alc H63 (.cells (List.toArray (setL [.int .i64 0, .int .i64 0, .int .i64 0, .int .i64 0, .int .i64 0, .int .i64 0, .int .i64 0, .int .i64 0, .int .i64 0, .int .i64 0, .int .i64 0, .int .i64 0, .int .i64 0, .int .i64 0, .int .i64 0, .int .i64 0, .int .i64 0, .int .i64 0, .int .i64 0, .int .i64 0, .int .i64 0, .int .i64 0, .int .i64 0, .int .i64 0, .int .i64 0, .int .i64 0, .int .i64 0, .int .i64 0, .int .i64 0, .int .i64 0, .int .i64 0, .int .i64 0, .int .i64 0, .int .i64 0, .int .i64 0, .int .i64 0, .int .i64 0, .int .i64 0, .int .i64 0, .int .i64 0, .int .i64 0, .int .i64 0, .int .i64 0, .int .i64 0, .int .i64 0, .int .i64 0, .int .i64 0, .int .i64 0, .int .i64 0, .int .i64 0, .int .i64 0, .int .i64 0, .int .i64 0, .int .i64 0, .int .i64 0, .int .i64 0, .int .i64 0, .int .i64 0, .int .i64 0, .int .i64 0, .int .i64 0, .int .i64 0, .int .i64 0, .int .i64 0] 0 v75.toList)) 40) fun b76 H77 => appQ 64 512 (Array.replicate 64 (Value.int .i64 0)) H77 ou33p ou33l ou33c (some ⟨b76, 0, none⟩) 1 40 fun ou78p ou78l ou78c H79 => X32 [.slice ou78p ou78l ou78c, .int .i64 (wrap .i64 (t34 + 1))] H79)) → X61 [.int .i64 i62] H63) → X61 [.int .i64 0] H60)) → X43 [.int .i64 i44] H45) → X43 [.int .i64 0] H42)
 (R (.tuple #[.slice ou33p ou33l ou33c, .int .i64 0]) H35)) → X32 [.slice ou33p ou33l ou33c, .int .i64 t34] H35) → X32 [.slice none 0 0, .int .i64 0] H30)))
def Try.p8 : Plan := (tl (tl (tl (two (one (tl (two (tl leaf) (tl (two (tl leaf) g0))))) (tl (tl (two (tl (one (loop [(17, 27), (61, 3)] [12, 14, 16, 59, 60] (tl (two (tl leaf) (two (one (tl (tl (two (tl (one (loop [(65, 3)] [12, 14, 16, 17, 19, 20, 59, 60, 61] (tl (two (tl leaf) (two (one (tl leaf)) leaf)))))) (tl (two (tl (one (loop [(89, 3)] [12, 14, 16, 17, 19, 22, 59, 60, 61] (tl (two (tl leaf) (two (one (tl (tl (two (join [(24, 3)] [12, 14, 16, 17, 19, 22, 23, 59, 60, 61, 89] (tl (tl leaf))) leaf)))) leaf)))))) leaf)))))) leaf)))))) (tl leaf))))))))
theorem Try.s8 {w1 h2 : Int} {rg3p : OA} {rg3l rg3c : Nat} {qu4 : Int} {ha5 : Bool} {H R} (h : Try.S8 w1 h2 rg3p rg3l rg3c qu4 ha5 H R) : Try.C 8 #[.int .i64 w1, .int .i64 h2, .slice rg3p rg3l rg3c, .int .i64 qu4, .bool ha5] H R := vcs Try.tab_ok Try.mixed Try.func8 Try.cal8 Try.p8 h (by kernel_rfl)
def Try.S9 (b1p : OA) (b1l b1c : Nat) (H : Heap) (R : Kv) : Prop :=
 alc H (.cells #[.int .i64 0, .int .i64 0, .slice none 0 0, .bool false, .slice none 0 0] 31) fun b2 H3 => ∀ J4 : Kl, (∀ H5, (0 ≤ (2 : Int) ∧ (2 : Int) ≤ (b1l : Int) ∧ alc H5 (.cells #[.slice (if b1c = (toNat 2) then b1p else Option.map (fun x => Addr.add x ((toNat 2) * 1)) b1p) (b1l - (toNat 2)) (b1c - (toNat 2)), .int .i64 0, .int .i64 0, .slice none 0 0, .bool false, .slice none 0 0, .bool false, .int .i64 0, .int .i64 0, .int .i64 0, .pointer none, .pointer none, .pointer none, .pointer none, .pointer none, .pointer none, .pointer none, .pointer none, .pointer none, .pointer none, .pointer none, .pointer none] 75) fun b6 H7 => Try.C 28 #[.pointer (some ⟨b6, 0, none⟩)] H7 fun r8 H9 => ∃ r10 r11, r8 = .tuple #[.agg r10, .bool r11] ∧ alc H9 (.cells #[.pointer none, .pointer none, .pointer none, .pointer none, .pointer none, .pointer none] 77) fun b12 H13 => r10.size = 6 ∧ stAt H13 ⟨b12, 0, none⟩ r10.toList fun H14 => br (!r11)
 (#[Value.int .i64 0, Value.int .i64 0, Value.slice none 0 0, Value.bool false, Value.slice none 0 0].size = 5 ∧ stAt H14 ⟨b2, 0, none⟩ (Array.toList #[.int .i64 0, .int .i64 0, .slice none 0 0, .bool false, .slice none 0 0]) fun H15 => ∃ re16, re16.size = 5 ∧ rowIn H15 ⟨b2, 0, none⟩ re16 ∧ R (.tuple #[.agg re16, .int .i64 51]) H15)
 (Try.C 29 #[.pointer (some ⟨b6, 0, none⟩)] H14 fun r17 H18 => ∃ r19p r19l r19c r20, r17 = .tuple #[.slice r19p r19l r19c, .bool r20] ∧ br (!r20)
 (#[Value.int .i64 0, Value.int .i64 0, Value.slice none 0 0, Value.bool false, Value.slice none 0 0].size = 5 ∧ stAt H18 ⟨b2, 0, none⟩ (Array.toList #[.int .i64 0, .int .i64 0, .slice none 0 0, .bool false, .slice none 0 0]) fun H21 => ∃ re22, re22.size = 5 ∧ rowIn H21 ⟨b2, 0, none⟩ re22 ∧ R (.tuple #[.agg re22, .int .i64 51]) H21)
 (∃ a23, (some ⟨b6, 0, none⟩) = some a23 ∧ ∃ W24, cell H18 (.add (.add a23 1) 0) = some (.int .i64 W24) ∧ ∃ a25, (some ⟨b6, 0, none⟩) = some a25 ∧ ∃ H26, cell H18 (.add (.add a25 1) 1) = some (.int .i64 H26) ∧ ∃ a27, (some ⟨b6, 0, none⟩) = some a27 ∧ ∃ Ha28, cell H18 (.add (.add a27 1) 3) = some (.bool Ha28) ∧ Try.C 24 #[.int .i64 W24, .int .i64 H26, .bool Ha28] H18 fun r29 H30 => ∃ pl31p pl31l pl31c, r29 = .slice pl31p pl31l pl31c ∧ br (decide (((pl31l : Int) : Int) > (wrap .i64 ((8 : Int) * (r19l : Int)))))
 (#[Value.int .i64 0, Value.int .i64 0, Value.slice none 0 0, Value.bool false, Value.slice none 0 0].size = 5 ∧ stAt H30 ⟨b2, 0, none⟩ (Array.toList #[.int .i64 0, .int .i64 0, .slice none 0 0, .bool false, .slice none 0 0]) fun H32 => ∃ re33, re33.size = 5 ∧ rowIn H32 ⟨b2, 0, none⟩ re33 ∧ R (.tuple #[.agg re33, .int .i64 51]) H32)
 (Try.C 30 #[.slice r19p r19l r19c, .bool true] H30 fun r34 H35 => ∃ r36, r34 = .pointer r36 ∧ alc H35 (.cells #[.pointer r36, .bool true] 86) fun b37 H38 => alc H38 (.cells #[.int .i64 0, .int .i64 0, .int .i64 0] 69) fun b39 H40 => ∀ X41 : Kl, (∀ (t42 : Int) H43, (br (decide (t42 < (pl31l : Int)))
 (∃ a44, pl31p = some a44 ∧ 0 ≤ t42 ∧ t42 < (pl31l : Int) ∧ ∃ v45, v45.size = 3 ∧ rowIn H43 (.add a44 (toNat t42 * 3)) v45 ∧ alc H43 (.cells #[.int .i64 0, .int .i64 0, .int .i64 0] 65) fun b46 H47 => v45.size = 3 ∧ stAt H47 ⟨b46, 0, none⟩ v45.toList fun H48 => ∀ J49 : Kl, (∀ (x50 : Addr) H51, (∃ a52, (some ⟨b37, 0, none⟩) = some a52 ∧ ∃ ok53, cell H51 (.add a52 1) = some (.bool ok53) ∧ br (!ok53)
 (#[Value.int .i64 0, Value.int .i64 0, Value.slice none 0 0, Value.bool false, Value.slice none 0 0].size = 5 ∧ stAt H51 ⟨b2, 0, none⟩ (Array.toList #[.int .i64 0, .int .i64 0, .slice none 0 0, .bool false, .slice none 0 0]) fun H54 => ∃ re55, re55.size = 5 ∧ rowIn H54 ⟨b2, 0, none⟩ re55 ∧ R (.tuple #[.agg re55, .int .i64 51]) H54)
 (∃ pa56, cell H51 (.add ⟨b46, 0, none⟩ 0) = some (.int .i64 pa56) ∧ 0 ≤ (0 : Int) ∧ (0 : Int) < ((64 : Nat) : Int) ∧ ∃ v57, cell H51 (Addr.add x50 (toNat (0 : Int) * 1)) = some (.int .i64 v57) ∧ 0 ≤ pa56 ∧ pa56 < ((3 : Nat) : Int) ∧ stAt H51 (.add ⟨b39, 0, none⟩ (toNat pa56 * 1)) [.int .i64 v57] fun H58 => ∃ a59, (some ⟨b6, 0, none⟩) = some a59 ∧ ∃ Bl60p Bl60l Bl60c, cell H58 (.add (.add a59 1) 4) = some (.slice Bl60p Bl60l Bl60c) ∧ ∃ v61, v61.size = 64 ∧ rowIn H58 x50 v61 ∧ v61.size = 64 ∧ 0 + 64 ≤ 64 ∧ alc H58 (.cells (List.toArray (setL [.int .i64 0, .int .i64 0, .int .i64 0, .int .i64 0, .int .i64 0, .int .i64 0, .int .i64 0, .int .i64 0, .int .i64 0, .int .i64 0, .int .i64 0, .int .i64 0, .int .i64 0, .int .i64 0, .int .i64 0, .int .i64 0, .int .i64 0, .int .i64 0, .int .i64 0, .int .i64 0, .int .i64 0, .int .i64 0, .int .i64 0, .int .i64 0, .int .i64 0, .int .i64 0, .int .i64 0, .int .i64 0, .int .i64 0, .int .i64 0, .int .i64 0, .int .i64 0, .int .i64 0, .int .i64 0, .int .i64 0, .int .i64 0, .int .i64 0, .int .i64 0, .int .i64 0, .int .i64 0, .int .i64 0, .int .i64 0, .int .i64 0, .int .i64 0, .int .i64 0, .int .i64 0, .int .i64 0, .int .i64 0, .int .i64 0, .int .i64 0, .int .i64 0, .int .i64 0, .int .i64 0, .int .i64 0, .int .i64 0, .int .i64 0, .int .i64 0, .int .i64 0, .int .i64 0, .int .i64 0, .int .i64 0, .int .i64 0, .int .i64 0, .int .i64 0] 0 v61.toList)) 40) fun b62 H63 => (Ext H58 H63 ∨ (∃ Bl68p Bl68l Bl68c, cell H63 (.add (.add a59 1) 4) = some (.slice Bl68p Bl68l Bl68c) ∧ Value.slice Bl68p Bl68l Bl68c = .slice Bl60p Bl60l Bl60c)) ∧ appQ 64 512 (Array.replicate 64 (Value.int .i64 0)) H63 Bl60p Bl60l Bl60c (some ⟨b62, 0, none⟩) 1 40 fun ap64p ap64l ap64c H65 => ∃ a66, (some ⟨b6, 0, none⟩) = some a66 ∧ stAt H65 (.add (.add a66 1) 4) [.slice ap64p ap64l ap64c] fun H67 => X41 [.int .i64 (wrap .i64 (t42 + 1))] H67)) → J49 [.pointer (some x50)] H51) →
 ∃ pa69, cell H48 (.add ⟨b46, 0, none⟩ 0) = some (.int .i64 pa69) ∧ 0 ≤ pa69 ∧ pa69 < ((3 : Nat) : Int) ∧ ∃ v70, v70.size = 2 ∧ rowIn H48 (.add ⟨b12, 0, none⟩ (toNat pa69 * 2)) v70 ∧ ∃ pa71, cell H48 (.add ⟨b46, 0, none⟩ 0) = some (.int .i64 pa71) ∧ 0 ≤ pa71 ∧ pa71 < ((3 : Nat) : Int) ∧ ∃ v72, cell H48 (.add ⟨b39, 0, none⟩ (toNat pa71 * 1)) = some (.int .i64 v72) ∧ (Try.C 31 #[.pointer (some ⟨b37, 0, none⟩), .agg v70, .int .i64 v72] H48 fun r73 H74 => ∃ r75, r73 = .agg r75 ∧ alc H74 (.cells (Array.replicate 64 (Value.int .i64 0)) 40) fun b76 H77 => r75.size = 64 ∧ stAt H77 ⟨b76, 0, none⟩ r75.toList fun H78 => J49 [.pointer (some ⟨b76, 0, none⟩)] H78) ∧ (alc H48 (.cells (Array.replicate 64 (Value.int .i64 0)) 40) fun b79 H80 => (Ext H48 H80 ∨ (∃ v85, cell H80 (.add ⟨b39, 0, none⟩ (toNat pa71 * 1)) = some (.int .i64 v85) ∧ Value.int .i64 v85 = .int .i64 v72) ∧ (∃ pa86, cell H80 (.add ⟨b46, 0, none⟩ 0) = some (.int .i64 pa86) ∧ Value.int .i64 pa86 = .int .i64 pa71) ∧ (∃ v87, v87.size = 2 ∧ rowIn H80 (.add ⟨b12, 0, none⟩ (toNat pa69 * 2)) v87 ∧ Value.agg v87 = .agg v70) ∧ (∃ pa88, cell H80 (.add ⟨b46, 0, none⟩ 0) = some (.int .i64 pa88) ∧ Value.int .i64 pa88 = .int .i64 pa69)) ∧ Try.C 31 #[.pointer (some ⟨b37, 0, none⟩), .agg v70, .int .i64 v72] H80 fun r81 H82 => ∃ r83, r81 = .agg r83 ∧ r83.size = 64 ∧ stAt H82 ⟨b79, 0, none⟩ r83.toList fun H84 => J49 [.pointer (some ⟨b79, 0, none⟩)] H84))
 (∃ a89, (some ⟨b37, 0, none⟩) = some a89 ∧ ∃ r90, cell H43 (.add a89 0) = some (.pointer r90) ∧ Try.C 32 #[.pointer r90] H43 fun r91 H92 => ∃ r93, r91 = .int .i64 r93 ∧ br (decide (r93 ≥ 8))
 (#[Value.int .i64 0, Value.int .i64 0, Value.slice none 0 0, Value.bool false, Value.slice none 0 0].size = 5 ∧ stAt H92 ⟨b2, 0, none⟩ (Array.toList #[.int .i64 0, .int .i64 0, .slice none 0 0, .bool false, .slice none 0 0]) fun H94 => ∃ re95, re95.size = 5 ∧ rowIn H94 ⟨b2, 0, none⟩ re95 ∧ R (.tuple #[.agg re95, .int .i64 51]) H94)
 (∃ a96, (some ⟨b6, 0, none⟩) = some a96 ∧ ∃ a97, (some ⟨b6, 0, none⟩) = some a97 ∧ 0 ≤ (0 : Int) ∧ (0 : Int) < ((3 : Nat) : Int) ∧ ∃ v98, cell H92 (.add (.add a97 7) (toNat (0 : Int) * 1)) = some (.int .i64 v98) ∧ ∃ a99, (some ⟨b6, 0, none⟩) = some a99 ∧ 0 ≤ v98 ∧ v98 < ((4 : Nat) : Int) ∧ ∃ v100, cell H92 (.add (.add a99 10) (toNat v98 * 1)) = some (.pointer v100) ∧ ∃ a101, v100 = some a101 ∧ ∃ v102, v102.size = 64 ∧ rowIn H92 a101 v102 ∧ ∃ a103, (some ⟨b6, 0, none⟩) = some a103 ∧ 0 ≤ (1 : Int) ∧ (1 : Int) < ((3 : Nat) : Int) ∧ ∃ v104, cell H92 (.add (.add a103 7) (toNat (1 : Int) * 1)) = some (.int .i64 v104) ∧ ∃ a105, (some ⟨b6, 0, none⟩) = some a105 ∧ 0 ≤ v104 ∧ v104 < ((4 : Nat) : Int) ∧ ∃ v106, cell H92 (.add (.add a105 10) (toNat v104 * 1)) = some (.pointer v106) ∧ ∃ a107, v106 = some a107 ∧ ∃ v108, v108.size = 64 ∧ rowIn H92 a107 v108 ∧ ∃ a109, (some ⟨b6, 0, none⟩) = some a109 ∧ 0 ≤ (2 : Int) ∧ (2 : Int) < ((3 : Nat) : Int) ∧ ∃ v110, cell H92 (.add (.add a109 7) (toNat (2 : Int) * 1)) = some (.int .i64 v110) ∧ ∃ a111, (some ⟨b6, 0, none⟩) = some a111 ∧ 0 ≤ v110 ∧ v110 < ((4 : Nat) : Int) ∧ ∃ v112, cell H92 (.add (.add a111 10) (toNat v110 * 1)) = some (.pointer v112) ∧ ∃ a113, v112 = some a113 ∧ ∃ v114, v114.size = 64 ∧ rowIn H92 a113 v114 ∧ v102.size = 64 ∧ 0 + 64 ≤ 192 ∧ v108.size = 64 ∧ 64 + 64 ≤ 192 ∧ v114.size = 64 ∧ 128 + 64 ≤ 192 ∧ Try.C 33 #[.pointer (some (.add a96 1)), .agg (List.toArray (setL (setL (setL (Array.toList ((Array.replicate 192 (Value.int .i64 0)))) 0 v102.toList) 64 v108.toList) 128 v114.toList))] H92 fun r115 H116 => r115 = .tuple #[] ∧ ∃ a117, (some ⟨b6, 0, none⟩) = some a117 ∧ ∃ m118, m118.size = 5 ∧ rowIn H116 (.add a117 1) m118 ∧ m118.size = 5 ∧ stAt H116 ⟨b2, 0, none⟩ m118.toList fun H119 => ∃ re120, re120.size = 5 ∧ rowIn H119 ⟨b2, 0, none⟩ re120 ∧ R (.tuple #[.agg re120, .int .i64 0]) H119))) → X41 [.int .i64 t42] H43) → X41 [.int .i64 0] H40)))) → J4 [] H5) →
 br (decide (((b1l : Int) : Int) < 2)) (#[Value.int .i64 0, Value.int .i64 0, Value.slice none 0 0, Value.bool false, Value.slice none 0 0].size = 5 ∧ stAt H3 ⟨b2, 0, none⟩ (Array.toList #[.int .i64 0, .int .i64 0, .slice none 0 0, .bool false, .slice none 0 0]) fun H121 => ∃ re122, re122.size = 5 ∧ rowIn H121 ⟨b2, 0, none⟩ re122 ∧ R (.tuple #[.agg re122, .int .i64 51]) H121) (∃ a123, b1p = some a123 ∧ 0 ≤ (0 : Int) ∧ (0 : Int) < (b1l : Int) ∧ ∃ v124, cell H3 (.add a123 (toNat (0 : Int) * 1)) = some (.int .u8 v124) ∧ br (v124 != 255) (#[Value.int .i64 0, Value.int .i64 0, Value.slice none 0 0, Value.bool false, Value.slice none 0 0].size = 5 ∧ stAt H3 ⟨b2, 0, none⟩ (Array.toList #[.int .i64 0, .int .i64 0, .slice none 0 0, .bool false, .slice none 0 0]) fun H125 => ∃ re126, re126.size = 5 ∧ rowIn H125 ⟨b2, 0, none⟩ re126 ∧ R (.tuple #[.agg re126, .int .i64 51]) H125) (∃ a127, b1p = some a127 ∧ 0 ≤ (1 : Int) ∧ (1 : Int) < (b1l : Int) ∧ ∃ v128, cell H3 (.add a127 (toNat (1 : Int) * 1)) = some (.int .u8 v128) ∧ br (v128 != 216)
 (#[Value.int .i64 0, Value.int .i64 0, Value.slice none 0 0, Value.bool false, Value.slice none 0 0].size = 5 ∧ stAt H3 ⟨b2, 0, none⟩ (Array.toList #[.int .i64 0, .int .i64 0, .slice none 0 0, .bool false, .slice none 0 0]) fun H129 => ∃ re130, re130.size = 5 ∧ rowIn H129 ⟨b2, 0, none⟩ re130 ∧ R (.tuple #[.agg re130, .int .i64 51]) H129)
 (J4 [] H3)))
def Try.p9 : Plan := (tl (two (join [] [0, 2] g0) (tl (tl (tg (tl (tg (tl (tg (tl (tl (two (tl (one (loop [(79, 3)] [2, 4, 5, 9, 10, 77, 78] (tl (two (tl leaf) (two (one (tl (two (join [(13, 999999)] [2, 4, 5, 9, 10, 12, 77, 78, 79] leaf) (tg (tl leaf))))) leaf)))))) (tg (tl (tl leaf)))))))))))))))
theorem Try.s9 {b1p : OA} {b1l b1c : Nat} {H R} (h : Try.S9 b1p b1l b1c H R) : Try.C 9 #[.slice b1p b1l b1c] H R := vcs Try.tab_ok Try.mixed Try.func9 Try.cal9 Try.p9 h (by kernel_rfl)
def Try.S10 (a1p : OA) (a1l a1c : Nat) (b2p : OA) (b2l b2c : Nat) (H : Heap) (R : Kv) : Prop :=
 br (((a1l : Int) : Int) != (b2l : Int))
 (R (.bool false) H)
 (∀ X3 : Kl, (∀ (i4 : Int) H5, (br (decide (i4 < (a1l : Int)))
 (∃ a6, a1p = some a6 ∧ 0 ≤ i4 ∧ i4 < (a1l : Int) ∧ ∃ v7, v7.size = 64 ∧ rowIn H5 (.add a6 (toNat i4 * 64)) v7 ∧ alc H5 (.cells (Array.replicate 64 (Value.int .i64 0)) 40) fun b8 H9 => v7.size = 64 ∧ stAt H9 ⟨b8, 0, none⟩ v7.toList fun H10 => ∃ v11, v11.size = 64 ∧ rowIn H10 ⟨b8, 0, none⟩ v11 ∧ ∃ a12, b2p = some a12 ∧ 0 ≤ i4 ∧ i4 < (b2l : Int) ∧ ∃ v13, v13.size = 64 ∧ rowIn H10 (.add a12 (toNat i4 * 64)) v13 ∧ (1 = 1 ∧ ∃ as_14 bs15 : List Int, as_14.length = 64 ∧ bs15.length = 64 ∧ v11 = (as_14.map (Value.int .i64)).toArray ∧ v13 = (bs15.map (Value.int .i64)).toArray ∧ br (!(decide (as_14 = bs15)))
 (R (.bool false) H10)
 (X3 [.int .i64 (wrap .i64 (i4 + 1))] H10)))
 (R (.bool true) H5)) → X3 [.int .i64 i4] H5) → X3 [.int .i64 0] H)
def Try.p10 : Plan := (tl (tg (two (tl (one (loop [(14, 3)] [1, 12, 13] (tl (two (tl leaf) (two (one (tl g0)) leaf)))))) (tl leaf))))
theorem Try.s10 {a1p : OA} {a1l a1c : Nat} {b2p : OA} {b2l b2c : Nat} {H R} (h : Try.S10 a1p a1l a1c b2p b2l b2c H R) : Try.C 10 #[.slice a1p a1l a1c, .slice b2p b2l b2c] H R := vcs Try.tab_ok Try.mixed Try.func10 Try.cal10 Try.p10 h (by kernel_rfl)
def Try.S11 (w1 h2 : Int) (H : Heap) (R : Kv) : Prop :=
 br (decide (w1 ≥ 1)) (br (decide (h2 ≥ 1)) (br (decide (w1 ≤ 32768)) (br (decide (h2 ≤ 32768)) (R (.bool (decide (((wrap .i64 (w1 * h2)) : Int) ≤ 4194304))) H) (R (.bool false) H)) (R (.bool false) H)) (R (.bool false) H)) (R (.bool false) H)
def Try.p11 : Plan := (tl (tl leaf))
theorem Try.s11 {w1 h2 : Int} {H R} (h : Try.S11 w1 h2 H R) : Try.C 11 #[.int .i64 w1, .int .i64 h2] H R := vcs Try.tab_ok Try.mixed Try.func11 Try.cal11 Try.p11 h (by kernel_rfl)
def Try.S13  (H : Heap) (R : Kv) : Prop :=
 alc H (.cells (Array.replicate 64 (Value.int .i64 0)) 40) fun b1 H2 => ∀ X3 : Kl, (∀ (at_4 n5 : Int) H6, (br (decide (n5 < 15))
 (∀ X7 : Kl, (∀ (li8p : OA) (li8l li8c : Nat) (v9 : Int) H10, (br (decide (v9 < 8))
 (∀ J11 : Kl, (∀ (li12p : OA) (li12l li12c : Nat) H13, (X7 [.slice li12p li12l li12c, .int .i64 (wrap .i64 (v9 + 1))] H13) → J11 [.slice li12p li12l li12c] H13) →
 br (decide (((wrap .i64 (n5 - v9)) : Int) ≥ 0)) (br (decide (((wrap .i64 (n5 - v9)) : Int) < 8))
 (alc H10 (.cells #[.int .i64 (wrap .i64 ((wrap .i64 ((8 : Int) * v9)) + (wrap .i64 (n5 - v9))))] 3) fun b14 H15 => appQ 1 8 #[.int .i64 0] H15 li8p li8l li8c (some ⟨b14, 0, none⟩) 1 3 fun li16p li16l li16c H17 => J11 [.slice li16p li16l li16c] H17)
 (J11 [.slice li8p li8l li8c] H10)) (J11 [.slice li8p li8l li8c] H10))
 (∀ J18 : Kl, (∀ H19, (0 ≤ at_4 ∧ at_4 ≤ ((64 : Nat) : Int) ∧ ∃ xs20, rowOf H19 li8p (min li8l (64 - (toNat at_4)) * 1) xs20 ∧ stAt H19 (if 64 = (toNat at_4) then ⟨b1, 0, none⟩ else Addr.add ⟨b1, 0, none⟩ ((toNat at_4) * 1)) xs20.toList fun H21 => X3 [.int .i64 (wrap .i64 (at_4 + ((min li8l (64 - (toNat at_4)) : Nat) : Int))), .int .i64 (wrap .i64 (n5 + 1))] H21) → J18 [] H19) →
 (2 : Int) ≠ 0 ∧ br (((Int.tmod n5 2) : Int) == 0)
 (Try.C 34 #[.slice li8p li8l li8c] H10 fun r22 H23 => r22 = .tuple #[] ∧ J18 [] H23)
 (J18 [] H10))) → X7 [.slice li8p li8l li8c, .int .i64 v9] H10) → X7 [.slice none 0 0, .int .i64 0] H6)
 (∃ v24, v24.size = 64 ∧ rowIn H6 ⟨b1, 0, none⟩ v24 ∧ v24.size = 64 ∧ stAt H6 ⟨b1, 0, none⟩ v24.toList fun H25 => ∃ re26, re26.size = 64 ∧ rowIn H25 ⟨b1, 0, none⟩ re26 ∧ R (.agg re26) H25)) → X3 [.int .i64 at_4, .int .i64 n5] H6) → X3 [.int .i64 0, .int .i64 0] H2
def Try.p13 : Plan := (tl (tl (two (tl (one (loop [(1, 3), (6, 3)] [0] (tl (two (tl leaf) (two (one (tl (tl (two (tl (one (loop [(3, 48), (9, 3)] [0, 1, 2, 6] (tl (two (tl leaf) (two (join [(3, 48)] [0, 1, 2, 6, 9] (one (tl (tl (tl (tl leaf)))))) leaf)))))) (two (join [] [0, 1, 3, 6] (tl (tl leaf))) leaf))))) leaf)))))) (tl leaf))))
theorem Try.s13 {_u : Unit} {H R} (h : Try.S13  H R) : Try.C 13 #[] H R := vcs Try.tab_ok Try.mixed Try.func13 Try.cal13 Try.p13 h (by kernel_rfl)
def Try.S14 (qu1 : Int) (di2 : Bool) (H : Heap) (R : Kv) : Prop :=
 alc H (.cells (Array.replicate 64 (Value.int .i64 0)) 40) fun b3 H4 => alc H4 (.cells (Array.replicate 64 (Value.int .i64 0)) 40) fun b5 H6 => ∀ J7 : Kl, (∀ H8, (∀ J9 : Kl, (∀ (s10 : Int) H11, (Try.C 35 #[.bool di2] H11 fun r12 H13 => ∃ r14p r14l r14c, r12 = .slice r14p r14l r14c ∧ ∀ X15 : Kl, (∀ (i16 : Int) H17, (br (decide (i16 < (r14l : Int)))
 (∃ a18, r14p = some a18 ∧ 0 ≤ i16 ∧ i16 < (r14l : Int) ∧ ∃ t19, cell H17 (.add a18 (toNat i16 * 1)) = some (.int .i64 t19) ∧ (100 : Int) ≠ 0 ∧ 0 ≤ i16 ∧ i16 < ((64 : Nat) : Int) ∧ stAt H17 (.add ⟨b5, 0, none⟩ (toNat i16 * 1)) [.int .i64 (min 255 (max 1 (wrap .i64 (Int.tdiv (wrap .i64 ((wrap .i64 (t19 * s10)) + 50)) 100))))] fun H20 => X15 [.int .i64 (wrap .i64 (i16 + 1))] H20)
 (∃ v21, v21.size = 64 ∧ rowIn H17 ⟨b5, 0, none⟩ v21 ∧ v21.size = 64 ∧ stAt H17 ⟨b3, 0, none⟩ v21.toList fun H22 => ∃ re23, re23.size = 64 ∧ rowIn H22 ⟨b3, 0, none⟩ re23 ∧ R (.tuple #[.agg re23, .bool true]) H22)) → X15 [.int .i64 i16] H17) → X15 [.int .i64 0] H13) → J9 [.int .i64 s10] H11) →
 br (decide (qu1 < 50))
 (qu1 ≠ 0 ∧ J9 [.int .i64 (wrap .i64 (Int.tdiv 5000 qu1))] H8)
 (J9 [.int .i64 (wrap .i64 ((200 : Int) - (wrap .i64 ((2 : Int) * qu1))))] H8)) → J7 [] H8) →
 br (decide (qu1 < 1)) (∃ v24, v24.size = 64 ∧ rowIn H6 ⟨b5, 0, none⟩ v24 ∧ v24.size = 64 ∧ stAt H6 ⟨b3, 0, none⟩ v24.toList fun H25 => ∃ re26, re26.size = 64 ∧ rowIn H25 ⟨b3, 0, none⟩ re26 ∧ R (.tuple #[.agg re26, .bool false]) H25) (br (decide (qu1 > 100))
 (∃ v27, v27.size = 64 ∧ rowIn H6 ⟨b5, 0, none⟩ v27 ∧ v27.size = 64 ∧ stAt H6 ⟨b3, 0, none⟩ v27.toList fun H28 => ∃ re29, re29.size = 64 ∧ rowIn H28 ⟨b3, 0, none⟩ re29 ∧ R (.tuple #[.agg re29, .bool false]) H28)
 (J7 [] H6))
def Try.p14 : Plan := (tl (tl (two (join [] [0, 1, 4, 6] g0) (tl (two (join [(7, 3)] [1, 4, 6] (tl (tl leaf))) (two (tl (one (loop [(27, 3)] [4, 6, 7, 25, 26] (tl (two (tl leaf) (two (one (tl leaf)) leaf)))))) (tl leaf)))))))
theorem Try.s14 {qu1 : Int} {di2 : Bool} {H R} (h : Try.S14 qu1 di2 H R) : Try.C 14 #[.int .i64 qu1, .bool di2] H R := vcs Try.tab_ok Try.mixed Try.func14 Try.cal14 Try.p14 h (by kernel_rfl)
def Try.S15 (ma1 : Int) (da2p : OA) (da2l da2c : Nat) (H : Heap) (R : Kv) : Prop :=
 0 ≤ (8 : Int) ∧ alc H (.cells #[.int .u8 255, .int .u8 ma1, .int .u8 (wrap .u8 (shrI .i64 (wrap .i64 ((da2l : Int) + 2)) 8)), .int .u8 (wrap .u8 (wrap .i64 ((da2l : Int) + 2)))] 5) fun b3 H4 => alc H4 (.cells #[.slice (some ⟨b3, 0, none⟩) 4 4, .slice da2p da2l da2c] 22) fun b5 H6 => Try.C 36 #[.slice (some ⟨b5, 0, none⟩) 2 2] H6 fun r7 H8 => ∃ r9p r9l r9c, r7 = .slice r9p r9l r9c ∧ R (.slice r9p r9l r9c) H8
def Try.p15 : Plan := (tl (tl (tl leaf)))
theorem Try.s15 {ma1 : Int} {da2p : OA} {da2l da2c : Nat} {H R} (h : Try.S15 ma1 da2p da2l da2c H R) : Try.C 15 #[.int .u8 ma1, .slice da2p da2l da2c] H R := vcs Try.tab_ok Try.mixed Try.func15 Try.cal15 Try.p15 h (by kernel_rfl)
def Try.S16 (w1 h2 : Int) (ha3 : Bool) (bl4p : OA) (bl4l bl4c : Nat) (H : Heap) (R : Kv) : Prop :=
 alc H (.cells #[.int .i64 0, .int .i64 0, .int .i64 0] 69) fun b5 H6 => Try.C 13 #[] H6 fun r7 H8 => ∃ r9, r7 = .agg r9 ∧ alc H8 (.cells (Array.replicate 64 (Value.int .i64 0)) 40) fun b10 H11 => r9.size = 64 ∧ stAt H11 ⟨b10, 0, none⟩ r9.toList fun H12 => Try.C 24 #[.int .i64 w1, .int .i64 h2, .bool ha3] H12 fun r13 H14 => ∃ r15p r15l r15c, r13 = .slice r15p r15l r15c ∧ ∀ X16 : Kl, (∀ (ou17p : OA) (ou17l ou17c : Nat) (k18 : Int) H19, (br (decide (k18 < (r15l : Int)))
 (∃ a20, r15p = some a20 ∧ 0 ≤ k18 ∧ k18 < (r15l : Int) ∧ ∃ v21, v21.size = 3 ∧ rowIn H19 (.add a20 (toNat k18 * 3)) v21 ∧ alc H19 (.cells #[.int .i64 0, .int .i64 0, .int .i64 0] 65) fun b22 H23 => v21.size = 3 ∧ stAt H23 ⟨b22, 0, none⟩ v21.toList fun H24 => ∃ a25, bl4p = some a25 ∧ 0 ≤ k18 ∧ k18 < (bl4l : Int) ∧ ∃ v26, v26.size = 64 ∧ rowIn H24 (.add a25 (toNat k18 * 64)) v26 ∧ ∃ pa27, cell H24 (.add ⟨b22, 0, none⟩ 0) = some (.int .i64 pa27) ∧ alc H24 (.cells (Array.replicate 64 (Value.int .i64 0)) 40) fun b28 H29 => (Ext H24 H29 ∨ (Value.int .i64 (min pa27 1) = .int .i64 (min pa27 1)) ∧ (∃ pa75, cell H29 (.add ⟨b22, 0, none⟩ 0) = some (.int .i64 pa75) ∧ Value.int .i64 pa75 = .int .i64 pa27) ∧ (∃ v76, v76.size = 64 ∧ rowIn H29 (.add a25 (toNat k18 * 64)) v76 ∧ Value.agg v76 = .agg v26)) ∧ v26.size = 64 ∧ stAt H29 ⟨b28, 0, none⟩ v26.toList fun H30 => (Ext H29 H30 ∨ (Value.int .i64 (min pa27 1) = .int .i64 (min pa27 1)) ∧ (∃ pa74, cell H30 (.add ⟨b22, 0, none⟩ 0) = some (.int .i64 pa74) ∧ Value.int .i64 pa74 = .int .i64 pa27)) ∧ 0 ≤ (0 : Int) ∧ (0 : Int) < ((64 : Nat) : Int) ∧ ∃ v31, cell H30 (.add ⟨b28, 0, none⟩ (toNat (0 : Int) * 1)) = some (.int .i64 v31) ∧ ∃ pa32, cell H30 (.add ⟨b22, 0, none⟩ 0) = some (.int .i64 pa32) ∧ 0 ≤ pa32 ∧ pa32 < ((3 : Nat) : Int) ∧ ∃ v33, cell H30 (.add ⟨b5, 0, none⟩ (toNat pa32 * 1)) = some (.int .i64 v33) ∧ Try.C 37 #[.int .i64 (wrap .i64 (v31 - v33))] H30 fun r34 H35 => ∃ r36 r37, r34 = .tuple #[.int .i64 r36, .int .i64 r37] ∧ ∃ pa38, cell H35 (.add ⟨b22, 0, none⟩ 0) = some (.int .i64 pa38) ∧ 0 ≤ (0 : Int) ∧ (0 : Int) < ((64 : Nat) : Int) ∧ ∃ v39, cell H35 (.add ⟨b28, 0, none⟩ (toNat (0 : Int) * 1)) = some (.int .i64 v39) ∧ 0 ≤ pa38 ∧ pa38 < ((3 : Nat) : Int) ∧ stAt H35 (.add ⟨b5, 0, none⟩ (toNat pa38 * 1)) [.int .i64 v39] fun H40 => #[Value.int .i64 (min pa27 1), Value.int .i64 r36, Value.int .i64 r37, Value.int .i64 r36].size = 4 ∧ 0 + 4 ≤ 4 ∧ alc H40 (.cells (List.toArray (setL [.int .i64 0, .int .i64 0, .int .i64 0, .int .i64 0] 0 (Array.toList #[.int .i64 (min pa27 1), .int .i64 r36, .int .i64 r37, .int .i64 r36]))) 51) fun b41 H42 => appQ 4 32 #[.int .i64 0, .int .i64 0, .int .i64 0, .int .i64 0] H42 ou17p ou17l ou17c (some ⟨b41, 0, none⟩) 1 51 fun ou43p ou43l ou43c H44 => 0 ≤ (1 : Int) ∧ (1 : Int) ≤ ((64 : Nat) : Int) ∧ ∀ X45 : Kl, (∀ (ou46p : OA) (ou46l ou46c : Nat) (no47 t48 : Int) H49, (br (decide (t48 < (((64 - (toNat 1)) : Nat) : Int)))
 (∃ a50, (some (if 64 = (toNat 1) then ⟨b10, 0, none⟩ else Addr.add ⟨b10, 0, none⟩ ((toNat 1) * 1))) = some a50 ∧ 0 ≤ t48 ∧ t48 < (((64 - (toNat 1)) : Nat) : Int) ∧ ∃ at_51, cell H49 (.add a50 (toNat t48 * 1)) = some (.int .i64 at_51) ∧ 0 ≤ at_51 ∧ at_51 < ((64 : Nat) : Int) ∧ ∃ v52, cell H49 (.add ⟨b28, 0, none⟩ (toNat at_51 * 1)) = some (.int .i64 v52) ∧ br (v52 == 0)
 (X45 [.slice ou46p ou46l ou46c, .int .i64 (wrap .i64 (no47 + 1)), .int .i64 (wrap .i64 (t48 + 1))] H49)
 (∀ X53 : Kl, (∀ (ou54p : OA) (ou54l ou54c : Nat) (no55 : Int) H56, (br (decide (no55 > 15))
 (#[Value.int .i64 (wrap .i64 ((min pa27 1) + 2)), Value.int .i64 240, Value.int .i64 0, Value.int .i64 0].size = 4 ∧ 0 + 4 ≤ 4 ∧ alc H56 (.cells (List.toArray (setL [.int .i64 0, .int .i64 0, .int .i64 0, .int .i64 0] 0 (Array.toList #[.int .i64 (wrap .i64 ((min pa27 1) + 2)), .int .i64 240, .int .i64 0, .int .i64 0]))) 51) fun b57 H58 => appQ 4 32 #[.int .i64 0, .int .i64 0, .int .i64 0, .int .i64 0] H58 ou54p ou54l ou54c (some ⟨b57, 0, none⟩) 1 51 fun ou59p ou59l ou59c H60 => X53 [.slice ou59p ou59l ou59c, .int .i64 (wrap .i64 (no55 - 16))] H60)
 (0 ≤ at_51 ∧ at_51 < ((64 : Nat) : Int) ∧ ∃ v61, cell H56 (.add ⟨b28, 0, none⟩ (toNat at_51 * 1)) = some (.int .i64 v61) ∧ Try.C 37 #[.int .i64 v61] H56 fun r62 H63 => ∃ r64 r65, r62 = .tuple #[.int .i64 r64, .int .i64 r65] ∧ #[Value.int .i64 (wrap .i64 ((min pa27 1) + 2)), Value.int .i64 (wrap .i64 ((wrap .i64 ((16 : Int) * no55)) + r64)), Value.int .i64 r65, Value.int .i64 r64].size = 4 ∧ 0 + 4 ≤ 4 ∧ alc H63 (.cells (List.toArray (setL [.int .i64 0, .int .i64 0, .int .i64 0, .int .i64 0] 0 (Array.toList #[.int .i64 (wrap .i64 ((min pa27 1) + 2)), .int .i64 (wrap .i64 ((wrap .i64 ((16 : Int) * no55)) + r64)), .int .i64 r65, .int .i64 r64]))) 51) fun b66 H67 => appQ 4 32 #[.int .i64 0, .int .i64 0, .int .i64 0, .int .i64 0] H67 ou54p ou54l ou54c (some ⟨b66, 0, none⟩) 1 51 fun ou68p ou68l ou68c H69 => X45 [.slice ou68p ou68l ou68c, .int .i64 0, .int .i64 (wrap .i64 (t48 + 1))] H69)) → X53 [.slice ou54p ou54l ou54c, .int .i64 no55] H56) → X53 [.slice ou46p ou46l ou46c, .int .i64 no47] H49))
 (br (decide (no47 > 0))
 (#[Value.int .i64 (wrap .i64 ((min pa27 1) + 2)), Value.int .i64 0, Value.int .i64 0, Value.int .i64 0].size = 4 ∧ 0 + 4 ≤ 4 ∧ alc H49 (.cells (List.toArray (setL [.int .i64 0, .int .i64 0, .int .i64 0, .int .i64 0] 0 (Array.toList #[.int .i64 (wrap .i64 ((min pa27 1) + 2)), .int .i64 0, .int .i64 0, .int .i64 0]))) 51) fun b70 H71 => appQ 4 32 #[.int .i64 0, .int .i64 0, .int .i64 0, .int .i64 0] H71 ou46p ou46l ou46c (some ⟨b70, 0, none⟩) 1 51 fun ou72p ou72l ou72c H73 => X16 [.slice ou72p ou72l ou72c, .int .i64 (wrap .i64 (k18 + 1))] H73)
 (X16 [.slice ou46p ou46l ou46c, .int .i64 (wrap .i64 (k18 + 1))] H49))) → X45 [.slice ou46p ou46l ou46c, .int .i64 no47, .int .i64 t48] H49) → X45 [.slice ou43p ou43l ou43c, .int .i64 0, .int .i64 0] H44)
 (R (.slice ou17p ou17l ou17c) H19)) → X16 [.slice ou17p ou17l ou17c, .int .i64 k18] H19) → X16 [.slice none 0 0, .int .i64 0] H14
def Try.p16 : Plan := (tl (tl (tl (tl (two (tl (one (loop [(9, 46), (29, 3)] [3, 10, 11, 27, 28] (tl (two (tl leaf) (two (one (tl (tl (tl (tl (tl (tl (two (tl (one (loop [(9, 46), (18, 3), (67, 3)] [3, 10, 11, 14, 15, 27, 28, 29, 65, 66] (tl (two (tl leaf) (two (one (tl (tg (two (one (loop [(9, 46), (18, 3)] [3, 10, 11, 14, 15, 20, 27, 28, 29, 65, 66, 67] (two (tl (tl leaf)) (two (one leaf) leaf)))) (tl (tl leaf)))))) leaf)))))) (tl (tl leaf)))))))))) leaf)))))) (tl leaf))))))
theorem Try.s16 {w1 h2 : Int} {ha3 : Bool} {bl4p : OA} {bl4l bl4c : Nat} {H R} (h : Try.S16 w1 h2 ha3 bl4p bl4l bl4c H R) : Try.C 16 #[.int .i64 w1, .int .i64 h2, .bool ha3, .slice bl4p bl4l bl4c] H R := vcs Try.tab_ok Try.mixed Try.func16 Try.cal16 Try.p16 h (by kernel_rfl)
end Go.Proofs
namespace Go.Proofs
open Go.Sh Go.Sh.Plan
open Go.IntKind (wrap)
open Int (toNat)
def Try.S17 (co1p : OA) (co1l co1c : Nat) (H : Heap) (R : Kv) : Prop :=
 ∀ X2 : Kl, (∀ (i3 : Int) H4, (br (decide (i3 < (co1l : Int)))
 (∃ a5, co1p = some a5 ∧ 0 ≤ i3 ∧ i3 < (co1l : Int) ∧ ∃ v6, cell H4 (.add a5 (toNat i3 * 1)) = some (.int .i64 v6) ∧ ∃ a7, co1p = some a7 ∧ 0 ≤ i3 ∧ i3 < (co1l : Int) ∧ stAt H4 (.add a7 (toNat i3 * 1)) [.int .i64 (wrap .i64 (v6 * 2))] fun H8 => X2 [.int .i64 (wrap .i64 (i3 + 1))] H8)
 (Try.C 39 #[.slice co1p co1l co1c] H4 fun r9 H10 => ∃ r11p r11l r11c, r9 = .slice r11p r11l r11c ∧ alc H10 (.cells #[.int .i64 1] 3) fun b12 H13 => appQ 1 8 #[.int .i64 0] H13 r11p r11l r11c (some ⟨b12, 0, none⟩) 1 3 fun ap14p ap14l ap14c H15 => Try.C 38 #[.slice ap14p ap14l ap14c, .int .i64 16] H15 fun r16 H17 => ∃ r18p r18l r18c r19, r16 = .tuple #[.slice r18p r18l r18c, .bool r19] ∧ 0 ≤ (256 : Int) ∧ (256 : Int) ≤ (r18c : Int) ∧ ∀ X20 : Kl, (∀ (lo21 s22 : Int) H23, (br (decide (s22 < ((((toNat 256) - 0) : Nat) : Int)))
 (∀ J24 : Kl, (∀ (lo25 : Int) H26, (X20 [.int .i64 lo25, .int .i64 (wrap .i64 (s22 + 1))] H26) → J24 [.int .i64 lo25] H26) →
 ∃ a27, (if r18c = 0 then r18p else Option.map (fun x => Addr.add x (0 * 1)) r18p) = some a27 ∧ 0 ≤ s22 ∧ s22 < ((((toNat 256) - 0) : Nat) : Int) ∧ ∃ l28, cell H23 (.add a27 (toNat s22 * 1)) = some (.int .i64 l28) ∧ ∃ a29, co1p = some a29 ∧ 0 ≤ s22 ∧ s22 < (co1l : Int) ∧ ∃ v30, cell H23 (.add a29 (toNat s22 * 1)) = some (.int .i64 v30) ∧ br (decide (v30 > 0)) (∃ a31, r18p = some a31 ∧ 0 ≤ (256 : Int) ∧ (256 : Int) < (r18l : Int) ∧ ∃ v32, cell H23 (.add a31 (toNat (256 : Int) * 1)) = some (.int .i64 v32) ∧ br (decide (l28 ≥ v32))
 (J24 [.int .i64 (max lo21 l28)] H23)
 (J24 [.int .i64 lo21] H23)) (J24 [.int .i64 lo21] H23))
 (∃ a33, r18p = some a33 ∧ 0 ≤ (256 : Int) ∧ (256 : Int) < (r18l : Int) ∧ ∃ v34, cell H23 (.add a33 (toNat (256 : Int) * 1)) = some (.int .i64 v34) ∧ ∃ a35, r18p = some a35 ∧ 0 ≤ (256 : Int) ∧ (256 : Int) < (r18l : Int) ∧ stAt H23 (.add a35 (toNat (256 : Int) * 1)) [.int .i64 (max v34 lo21)] fun H36 => Try.C 40 #[.slice r18p r18l r18c] H36 fun r37 H38 => ∃ r39p r39l r39c r40, r37 = .tuple #[.slice r39p r39l r39c, .bool r40] ∧ 0 ≤ (256 : Int) ∧ (256 : Int) ≤ (r18c : Int) ∧ 0 ≤ (256 : Int) ∧ (256 : Int) ≤ (r39c : Int) ∧ 0 ≤ (16 : Int) ∧ (16 : Int) ≤ (16 : Int) ∧ ((1 : Nat) : Int) * (16 : Int) ≤ 281474976710656 ∧ (16 : Int) ≤ 281474976710656 ∧ alc H38 (.cells (List.toArray (reps (toNat 16) (Array.toList #[.int .u8 0]))) 5) fun b41 H42 => ∀ X43 : Kl, (∀ (da44p : OA) (da44l da44c : Nat) (n45 : Int) H46, (br (decide (n45 ≤ 16))
 (∀ X47 : Kl, (∀ (da48p : OA) (da48l da48c : Nat) (s49 : Int) H50, (br (decide (s49 < ((((toNat 256) - 0) : Nat) : Int)))
 (∃ a51, (if r18c = 0 then r18p else Option.map (fun x => Addr.add x (0 * 1)) r18p) = some a51 ∧ 0 ≤ s49 ∧ s49 < ((((toNat 256) - 0) : Nat) : Int) ∧ ∃ l52, cell H50 (.add a51 (toNat s49 * 1)) = some (.int .i64 l52) ∧ br (l52 == n45)
 (∃ a53, da48p = some a53 ∧ 0 ≤ (wrap .i64 (n45 - 1)) ∧ (wrap .i64 (n45 - 1)) < (da48l : Int) ∧ ∃ v54, cell H50 (.add a53 (toNat (wrap .i64 (n45 - 1)) * 1)) = some (.int .u8 v54) ∧ ∃ a55, da48p = some a55 ∧ 0 ≤ (wrap .i64 (n45 - 1)) ∧ (wrap .i64 (n45 - 1)) < (da48l : Int) ∧ stAt H50 (.add a55 (toNat (wrap .i64 (n45 - 1)) * 1)) [.int .u8 (wrap .u8 (v54 + 1))] fun H56 => alc H56 (.cells #[.int .u8 (wrap .u8 s49)] 5) fun b57 H58 => appQ 1 1 #[.int .u8 0] H58 da48p da48l da48c (some ⟨b57, 0, none⟩) 1 5 fun da59p da59l da59c H60 => X47 [.slice da59p da59l da59c, .int .i64 (wrap .i64 (s49 + 1))] H60)
 (X47 [.slice da48p da48l da48c, .int .i64 (wrap .i64 (s49 + 1))] H50))
 (X43 [.slice da48p da48l da48c, .int .i64 (wrap .i64 (n45 + 1))] H50)) → X47 [.slice da48p da48l da48c, .int .i64 s49] H50) → X47 [.slice da44p da44l da44c, .int .i64 0] H46)
 (R (.tuple #[.slice da44p da44l da44c, .slice (if r18c = 0 then r18p else Option.map (fun x => Addr.add x (0 * 1)) r18p) ((toNat 256) - 0) (r18c - 0), .slice (if r39c = 0 then r39p else Option.map (fun x => Addr.add x (0 * 1)) r39p) ((toNat 256) - 0) (r39c - 0)]) H46)) → X43 [.slice da44p da44l da44c, .int .i64 n45] H46) → X43 [.slice (some ⟨b41, 0, none⟩) (toNat 16) (toNat 16), .int .i64 1] H42)) → X20 [.int .i64 lo21, .int .i64 s22] H23) → X20 [.int .i64 0, .int .i64 0] H17)) → X2 [.int .i64 i3] H4) → X2 [.int .i64 0] H
def Try.p17 : Plan := (tl (two (tl (one (loop [(14, 3)] [0, 13] (tl (two (tl leaf) (two (one (tl leaf)) leaf)))))) (tl (tl (two (tl (one (loop [(6, 3), (35, 3)] [0, 3, 33, 34] (tl (two (tl leaf) (two (join [(6, 3)] [0, 3, 33, 34, 35] (one (tl (tl (tl leaf))))) leaf)))))) (tl (tl (tl (tl (two (tl (one (loop [(2, 22), (9, 3)] [3, 4] (two (tl (tl leaf)) (two (one (tl (one (loop [(2, 22), (79, 3)] [3, 4, 9, 77, 78] (tl (two (tl leaf) (two (one (tl g0)) leaf))))))) leaf))))) (tl leaf)))))))))))
theorem Try.s17 {co1p : OA} {co1l co1c : Nat} {H R} (h : Try.S17 co1p co1l co1c H R) : Try.C 17 #[.slice co1p co1l co1c] H R := vcs Try.tab_ok Try.mixed Try.func17 Try.cal17 Try.p17 h (by kernel_rfl)
def Try.S18 (hi1 : Bool) (H : Heap) (R : Kv) : Prop :=
 alc H (.cells #[.slice none 0 0, .int .i64 0, .bool hi1] 101) fun b2 H3 => R (.pointer (some ⟨b2, 0, none⟩)) H3
def Try.p18 : Plan := (tl (tl leaf))
theorem Try.s18 {hi1 : Bool} {H R} (h : Try.S18 hi1 H R) : Try.C 18 #[.bool hi1] H R := vcs Try.tab_ok Try.mixed Try.func18 Try.cal18 Try.p18 h (by kernel_rfl)
def Try.S19 (w1 : OA) (v2 n3 : Int) (H : Heap) (R : Kv) : Prop :=
 ∀ J4 : Kl, (∀ H5, (∀ X6 : Kl, (∀ (k7 : Int) H8, (br (decide (k7 < n3))
 (∀ J9 : Kl, (∀ (k10 : Int) H11, (0 ≤ k10 ∧ Try.C 41 #[.pointer w1, .int .i64 (shrI .i64 v2 k10)] H11 fun r12 H13 => r12 = .tuple #[] ∧ X6 [.int .i64 (wrap .i64 (k7 + 1))] H13) → J9 [.int .i64 k10] H11) →
 ∃ a14, w1 = some a14 ∧ ∃ hi15, cell H8 (.add a14 2) = some (.bool hi15) ∧ br hi15
 (J9 [.int .i64 (wrap .i64 ((wrap .i64 (n3 - 1)) - k7))] H8)
 (J9 [.int .i64 k7] H8))
 (R (.bool true) H8)) → X6 [.int .i64 k7] H8) → X6 [.int .i64 0] H5) → J4 [] H5) →
 br (decide (n3 < 0)) (R (.bool false) H) (br (decide (n3 > 24)) (R (.bool false) H) (br (decide (v2 < 0)) (R (.bool false) H) (0 ≤ n3 ∧ br (decide (v2 ≥ (shlI .i64 1 n3)))
 (R (.bool false) H)
 (J4 [] H))))
def Try.p19 : Plan := (tl (two (join [] [0, 1, 2] g0) (two (tl (one (loop [(25, 3)] [0, 1, 2, 24] (tl (two (tl leaf) (two (one (tl (two (join [(7, 3)] [0, 1, 2, 24, 25] (tl (tl leaf))) leaf))) leaf)))))) (tl leaf))))
theorem Try.s19 {w1 : OA} {v2 n3 : Int} {H R} (h : Try.S19 w1 v2 n3 H R) : Try.C 19 #[.pointer w1, .int .i64 v2, .int .i64 n3] H R := vcs Try.tab_ok Try.mixed Try.func19 Try.cal19 Try.p19 h (by kernel_rfl)
def Try.S20 (w1 : OA) (v2 : Int) (H : Heap) (R : Kv) : Prop :=
 ∀ X3 : Kl, (∀ H4, (∃ a5, w1 = some a5 ∧ ∃ n6, cell H4 (.add a5 1) = some (.int .i64 n6) ∧ (8 : Int) ≠ 0 ∧ br (((Int.tmod n6 8) : Int) != 0)
 (Try.C 41 #[.pointer w1, .int .i64 v2] H4 fun r7 H8 => r7 = .tuple #[] ∧ X3 [] H8)
 (R (.tuple #[]) H4)) → X3 [] H4) → X3 [] H
def Try.p20 : Plan := (one (loop [] [0, 1] (two (tl (tl leaf)) (one leaf))))
theorem Try.s20 {w1 : OA} {v2 : Int} {H R} (h : Try.S20 w1 v2 H R) : Try.C 20 #[.pointer w1, .int .i64 v2] H R := vcs Try.tab_ok Try.mixed Try.func20 Try.cal20 Try.p20 h (by kernel_rfl)
def Try.S21 (w1 : OA) (H : Heap) (R : Kv) : Prop :=
 ∃ a2, w1 = some a2 ∧ ∃ b3p b3l b3c, cell H (.add a2 0) = some (.slice b3p b3l b3c) ∧ Try.C 42 #[.slice b3p b3l b3c] H fun r4 H5 => ∃ r6p r6l r6c, r4 = .slice r6p r6l r6c ∧ R (.slice r6p r6l r6c) H5
def Try.p21 : Plan := (tl (tl leaf))
theorem Try.s21 {w1 : OA} {H R} (h : Try.S21 w1 H R) : Try.C 21 #[.pointer w1] H R := vcs Try.tab_ok Try.mixed Try.func21 Try.cal21 Try.p21 h (by kernel_rfl)
def Try.S22 (w1 h2 : Int) (H : Heap) (R : Kv) : Prop :=
 br (decide (w1 ≥ 1)) (br (decide (h2 ≥ 1)) (br (decide (w1 ≤ 32768)) (br (decide (h2 ≤ 32768)) (R (.bool (decide (((wrap .i64 (w1 * h2)) : Int) ≤ 4194304))) H) (R (.bool false) H)) (R (.bool false) H)) (R (.bool false) H)) (R (.bool false) H)
def Try.p22 : Plan := (tl (tl leaf))
theorem Try.s22 {w1 h2 : Int} {H R} (h : Try.S22 w1 h2 H R) : Try.C 22 #[.int .i64 w1, .int .i64 h2] H R := vcs Try.tab_ok Try.mixed Try.func22 Try.cal22 Try.p22 h (by kernel_rfl)
def Try.S23 (w1 h2 : Int) (rg3p : OA) (rg3l rg3c : Nat) (ha4 : Bool) (H : Heap) (R : Kv) : Prop :=
 alc H (.cells #[.int .i64 0, .int .i64 0, .slice none 0 0, .int .i64 0, .int .i64 0, .slice none 0 0, .int .i64 0, .int .i64 0, .slice none 0 0] 60) fun b5 H6 => alc H6 (.cells #[.int .i64 0, .int .i64 0, .slice none 0 0, .int .i64 0, .int .i64 0, .slice none 0 0, .int .i64 0, .int .i64 0, .slice none 0 0] 60) fun b7 H8 => ∀ X9 : Kl, (∀ (k10 : Int) H11, (br (decide (k10 < 3))
 (0 ≤ (wrap .i64 (w1 * h2)) ∧ (wrap .i64 (w1 * h2)) ≤ (wrap .i64 (w1 * h2)) ∧ ((8 : Nat) : Int) * (wrap .i64 (w1 * h2)) ≤ 281474976710656 ∧ (wrap .i64 (w1 * h2)) ≤ 281474976710656 ∧ alc H11 (.cells (List.toArray (reps (toNat (wrap .i64 (w1 * h2))) (Array.toList #[.int .i64 0]))) 3) fun b12 H13 => 0 ≤ k10 ∧ k10 < ((3 : Nat) : Int) ∧ #[Value.int .i64 w1, Value.int .i64 h2, Value.slice (some ⟨b12, 0, none⟩) (toNat (wrap .i64 (w1 * h2))) (toNat (wrap .i64 (w1 * h2)))].size = 3 ∧ stAt H13 (.add ⟨b7, 0, none⟩ (toNat k10 * 3)) (Array.toList #[.int .i64 w1, .int .i64 h2, .slice (some ⟨b12, 0, none⟩) (toNat (wrap .i64 (w1 * h2))) (toNat (wrap .i64 (w1 * h2)))]) fun H14 => X9 [.int .i64 (wrap .i64 (k10 + 1))] H14)
 (∀ X15 : Kl, (∀ (i16 : Int) H17, (br (decide (i16 < (wrap .i64 (w1 * h2))))
 (∀ J18 : Kl, (∀ (c19 : Addr) H20, (∀ X21 : Kl, (∀ (k22 : Int) H23, (br (decide (k22 < 3))
 (0 ≤ k22 ∧ k22 < ((3 : Nat) : Int) ∧ ∃ s24p s24l s24c, cell H23 (.add (.add ⟨b7, 0, none⟩ (toNat k22 * 3)) 2) = some (.slice s24p s24l s24c) ∧ 0 ≤ k22 ∧ k22 < ((3 : Nat) : Int) ∧ ∃ v25, cell H23 (.add c19 (toNat k22 * 1)) = some (.int .i64 v25) ∧ ∃ a26, s24p = some a26 ∧ 0 ≤ i16 ∧ i16 < (s24l : Int) ∧ stAt H23 (.add a26 (toNat i16 * 1)) [.int .i64 v25] fun H27 => X21 [.int .i64 (wrap .i64 (k22 + 1))] H27)
 (X15 [.int .i64 (wrap .i64 (i16 + 1))] H23)) → X21 [.int .i64 k22] H23) → X21 [.int .i64 0] H20) → J18 [.pointer (some c19)] H20) →
 ∃ a28, rg3p = some a28 ∧ 0 ≤ (wrap .i64 ((3 : Int) * i16)) ∧ (wrap .i64 ((3 : Int) * i16)) < (rg3l : Int) ∧ ∃ v29, cell H17 (.add a28 (toNat (wrap .i64 ((3 : Int) * i16)) * 1)) = some (.int .u8 v29) ∧ ∃ a30, rg3p = some a30 ∧ 0 ≤ (wrap .i64 ((wrap .i64 ((3 : Int) * i16)) + 1)) ∧ (wrap .i64 ((wrap .i64 ((3 : Int) * i16)) + 1)) < (rg3l : Int) ∧ ∃ v31, cell H17 (.add a30 (toNat (wrap .i64 ((wrap .i64 ((3 : Int) * i16)) + 1)) * 1)) = some (.int .u8 v31) ∧ ∃ a32, rg3p = some a32 ∧ 0 ≤ (wrap .i64 ((wrap .i64 ((3 : Int) * i16)) + 2)) ∧ (wrap .i64 ((wrap .i64 ((3 : Int) * i16)) + 2)) < (rg3l : Int) ∧ ∃ v33, cell H17 (.add a32 (toNat (wrap .i64 ((wrap .i64 ((3 : Int) * i16)) + 2)) * 1)) = some (.int .u8 v33) ∧ (Try.C 43 #[.agg #[.int .i64 (wrap .i64 v29), .int .i64 (wrap .i64 v31), .int .i64 (wrap .i64 v33)]] H17 fun r34 H35 => ∃ r36, r34 = .agg r36 ∧ alc H35 (.cells #[.int .i64 0, .int .i64 0, .int .i64 0] 69) fun b37 H38 => r36.size = 3 ∧ stAt H38 ⟨b37, 0, none⟩ r36.toList fun H39 => J18 [.pointer (some ⟨b37, 0, none⟩)] H39) ∧ (alc H17 (.cells #[.int .i64 0, .int .i64 0, .int .i64 0] 69) fun b40 H41 => (Ext H17 H41 ∨ (∃ v46, cell H41 (.add a32 (toNat (wrap .i64 ((wrap .i64 ((3 : Int) * i16)) + 2)) * 1)) = some (.int .u8 v46) ∧ Value.int .u8 v46 = .int .u8 v33) ∧ (∃ v47, cell H41 (.add a30 (toNat (wrap .i64 ((wrap .i64 ((3 : Int) * i16)) + 1)) * 1)) = some (.int .u8 v47) ∧ Value.int .u8 v47 = .int .u8 v31) ∧ (∃ v48, cell H41 (.add a28 (toNat (wrap .i64 ((3 : Int) * i16)) * 1)) = some (.int .u8 v48) ∧ Value.int .u8 v48 = .int .u8 v29)) ∧ Try.C 43 #[.agg #[.int .i64 (wrap .i64 v29), .int .i64 (wrap .i64 v31), .int .i64 (wrap .i64 v33)]] H41 fun r42 H43 => ∃ r44, r42 = .agg r44 ∧ r44.size = 3 ∧ stAt H43 ⟨b40, 0, none⟩ r44.toList fun H45 => J18 [.pointer (some ⟨b40, 0, none⟩)] H45))
 (br ha4
 (0 ≤ (1 : Int) ∧ (1 : Int) < ((3 : Nat) : Int) ∧ ∃ v49, v49.size = 3 ∧ rowIn H17 (.add ⟨b7, 0, none⟩ (toNat (1 : Int) * 3)) v49 ∧ 0 ≤ (2 : Int) ∧ (2 : Int) < ((3 : Nat) : Int) ∧ ∃ v50, v50.size = 3 ∧ rowIn H17 (.add ⟨b7, 0, none⟩ (toNat (2 : Int) * 3)) v50 ∧ Try.C 44 #[.agg v49] H17 fun r51 H52 => ∃ r53, r51 = .agg r53 ∧ (Ext H17 H52 ∨ (∃ v62, v62.size = 3 ∧ rowIn H52 (.add ⟨b7, 0, none⟩ (toNat (2 : Int) * 3)) v62 ∧ Value.agg v62 = .agg v50)) ∧ 0 ≤ (1 : Int) ∧ (1 : Int) < ((3 : Nat) : Int) ∧ Try.C 44 #[.agg v50] H52 fun r54 H55 => ∃ r56, r54 = .agg r56 ∧ r53.size = 3 ∧ stAt H55 (.add ⟨b7, 0, none⟩ (toNat (1 : Int) * 3)) r53.toList fun H57 => 0 ≤ (2 : Int) ∧ (2 : Int) < ((3 : Nat) : Int) ∧ r56.size = 3 ∧ stAt H57 (.add ⟨b7, 0, none⟩ (toNat (2 : Int) * 3)) r56.toList fun H58 => ∃ v59, v59.size = 9 ∧ rowIn H58 ⟨b7, 0, none⟩ v59 ∧ v59.size = 9 ∧ stAt H58 ⟨b5, 0, none⟩ v59.toList fun H60 => ∃ re61, re61.size = 9 ∧ rowIn H60 ⟨b5, 0, none⟩ re61 ∧ R (.agg re61) H60)
 (∃ v63, v63.size = 9 ∧ rowIn H17 ⟨b7, 0, none⟩ v63 ∧ v63.size = 9 ∧ stAt H17 ⟨b5, 0, none⟩ v63.toList fun H64 => ∃ re65, re65.size = 9 ∧ rowIn H64 ⟨b5, 0, none⟩ re65 ∧ R (.agg re65) H64))) → X15 [.int .i64 i16] H17) → X15 [.int .i64 0] H11)) → X9 [.int .i64 k10] H11) → X9 [.int .i64 0] H8
def Try.p23 : Plan := (tl (tl (two (tl (one (loop [(14, 3)] [0, 1, 2, 3, 8, 9] (tl (two (tl leaf) (two (one (tl leaf)) leaf)))))) (two (tl (one (loop [(30, 3)] [2, 3, 8, 9, 29] (tl (two (tl leaf) (two (one (tl (two (join [(12, 999999)] [2, 3, 8, 9, 11, 29, 30] leaf) (tl (one (loop [(55, 3)] [2, 3, 8, 9, 11, 12, 29, 30] (tl (two (tl leaf) (two (one (tl leaf)) leaf))))))))) leaf)))))) (two (tl (tl leaf)) (tl leaf))))))
theorem Try.s23 {w1 h2 : Int} {rg3p : OA} {rg3l rg3c : Nat} {ha4 : Bool} {H R} (h : Try.S23 w1 h2 rg3p rg3l rg3c ha4 H R) : Try.C 23 #[.int .i64 w1, .int .i64 h2, .slice rg3p rg3l rg3c, .bool ha4] H R := vcs Try.tab_ok Try.mixed Try.func23 Try.cal23 Try.p23 h (by kernel_rfl)
def Try.S24 (w1 h2 : Int) (ha3 : Bool) (H : Heap) (R : Kv) : Prop :=
 ∀ J4 : Kl, (∀ (si5 : Int) H6, (∀ X7 : Kl, (∀ (ou8p : OA) (ou8l ou8c : Nat) (y9 : Int) H10, (br (decide (y9 < h2))
 (∀ X11 : Kl, (∀ (ou12p : OA) (ou12l ou12c : Nat) (x13 : Int) H14, (br (decide (x13 < w1))
 (#[Value.int .i64 0, Value.int .i64 x13, Value.int .i64 y9].size = 3 ∧ 0 + 3 ≤ 3 ∧ alc H14 (.cells (List.toArray (setL [.int .i64 0, .int .i64 0, .int .i64 0] 0 (Array.toList #[.int .i64 0, .int .i64 x13, .int .i64 y9]))) 65) fun b15 H16 => appQ 3 24 #[.int .i64 0, .int .i64 0, .int .i64 0] H16 ou12p ou12l ou12c (some ⟨b15, 0, none⟩) 1 65 fun ou17p ou17l ou17c H18 => ∀ J19 : Kl, (∀ (ou20p : OA) (ou20l ou20c : Nat) H21, (si5 ≠ 0 ∧ si5 ≠ 0 ∧ si5 ≠ 0 ∧ si5 ≠ 0 ∧ #[Value.int .i64 1, Value.int .i64 (wrap .i64 (Int.tdiv (wrap .i64 (x13 * 8)) si5)), Value.int .i64 (wrap .i64 (Int.tdiv (wrap .i64 (y9 * 8)) si5))].size = 3 ∧ 0 + 3 ≤ 6 ∧ #[Value.int .i64 2, Value.int .i64 (wrap .i64 (Int.tdiv (wrap .i64 (x13 * 8)) si5)), Value.int .i64 (wrap .i64 (Int.tdiv (wrap .i64 (y9 * 8)) si5))].size = 3 ∧ 3 + 3 ≤ 6 ∧ alc H21 (.cells (List.toArray (setL (setL [.int .i64 0, .int .i64 0, .int .i64 0, .int .i64 0, .int .i64 0, .int .i64 0] 0 (Array.toList #[.int .i64 1, .int .i64 (wrap .i64 (Int.tdiv (wrap .i64 (x13 * 8)) si5)), .int .i64 (wrap .i64 (Int.tdiv (wrap .i64 (y9 * 8)) si5))])) 3 (Array.toList #[.int .i64 2, .int .i64 (wrap .i64 (Int.tdiv (wrap .i64 (x13 * 8)) si5)), .int .i64 (wrap .i64 (Int.tdiv (wrap .i64 (y9 * 8)) si5))]))) 65) fun b22 H23 => appQ 3 24 #[.int .i64 0, .int .i64 0, .int .i64 0] H23 ou20p ou20l ou20c (some ⟨b22, 0, none⟩) 2 65 fun ou24p ou24l ou24c H25 => X11 [.slice ou24p ou24l ou24c, .int .i64 (wrap .i64 (x13 + si5))] H25) → J19 [.slice ou20p ou20l ou20c] H21) →
 br ha3
 (#[Value.int .i64 0, Value.int .i64 (wrap .i64 (x13 + 8)), Value.int .i64 y9].size = 3 ∧ 0 + 3 ≤ 9 ∧ #[Value.int .i64 0, Value.int .i64 x13, Value.int .i64 (wrap .i64 (y9 + 8))].size = 3 ∧ 3 + 3 ≤ 9 ∧ #[Value.int .i64 0, Value.int .i64 (wrap .i64 (x13 + 8)), Value.int .i64 (wrap .i64 (y9 + 8))].size = 3 ∧ 6 + 3 ≤ 9 ∧ alc H18 (.cells (List.toArray (setL (setL (setL [.int .i64 0, .int .i64 0, .int .i64 0, .int .i64 0, .int .i64 0, .int .i64 0, .int .i64 0, .int .i64 0, .int .i64 0] 0 (Array.toList #[.int .i64 0, .int .i64 (wrap .i64 (x13 + 8)), .int .i64 y9])) 3 (Array.toList #[.int .i64 0, .int .i64 x13, .int .i64 (wrap .i64 (y9 + 8))])) 6 (Array.toList #[.int .i64 0, .int .i64 (wrap .i64 (x13 + 8)), .int .i64 (wrap .i64 (y9 + 8))]))) 65) fun b26 H27 => appQ 3 24 #[.int .i64 0, .int .i64 0, .int .i64 0] H27 ou17p ou17l ou17c (some ⟨b26, 0, none⟩) 3 65 fun ou28p ou28l ou28c H29 => J19 [.slice ou28p ou28l ou28c] H29)
 (J19 [.slice ou17p ou17l ou17c] H18))
 (X7 [.slice ou12p ou12l ou12c, .int .i64 (wrap .i64 (y9 + si5))] H14)) → X11 [.slice ou12p ou12l ou12c, .int .i64 x13] H14) → X11 [.slice ou8p ou8l ou8c, .int .i64 0] H10)
 (R (.slice ou8p ou8l ou8c) H10)) → X7 [.slice ou8p ou8l ou8c, .int .i64 y9] H10) → X7 [.slice none 0 0, .int .i64 0] H6) → J4 [.int .i64 si5] H6) →
 br ha3
 (J4 [.int .i64 16] H)
 (J4 [.int .i64 8] H)
def Try.p24 : Plan := (tl (tl (tl (two (join [(8, 3)] [0, 1, 2, 7] (tl (tl leaf))) (two (tl (one (loop [(7, 62), (9, 3)] [0, 1, 2, 8] (two (tl (tl leaf)) (two (one (tl (one (loop [(7, 62), (10, 3)] [0, 1, 2, 8, 9] (two (tl (tl leaf)) (two (one (tl (two (join [(7, 62)] [0, 1, 2, 8, 9, 10] (tl (tl leaf))) leaf))) leaf)))))) leaf))))) (tl leaf))))))
theorem Try.s24 {w1 h2 : Int} {ha3 : Bool} {H R} (h : Try.S24 w1 h2 ha3 H R) : Try.C 24 #[.int .i64 w1, .int .i64 h2, .bool ha3] H R := vcs Try.tab_ok Try.mixed Try.func24 Try.cal24 Try.p24 h (by kernel_rfl)
def Try.S25 (p1 : AV) (x2 y3 : Int) (H : Heap) (R : Kv) : Prop :=
 alc H (.cells p1 59) fun b4 H5 => ∃ s6p s6l s6c, cell H5 (.add ⟨b4, 0, none⟩ 2) = some (.slice s6p s6l s6c) ∧ ∃ h7, cell H5 (.add ⟨b4, 0, none⟩ 1) = some (.int .i64 h7) ∧ ∃ w8, cell H5 (.add ⟨b4, 0, none⟩ 0) = some (.int .i64 w8) ∧ ∃ w9, cell H5 (.add ⟨b4, 0, none⟩ 0) = some (.int .i64 w9) ∧ ∃ a10, s6p = some a10 ∧ 0 ≤ (wrap .i64 ((wrap .i64 ((min y3 (wrap .i64 (h7 - 1))) * w8)) + (min x2 (wrap .i64 (w9 - 1))))) ∧ (wrap .i64 ((wrap .i64 ((min y3 (wrap .i64 (h7 - 1))) * w8)) + (min x2 (wrap .i64 (w9 - 1))))) < (s6l : Int) ∧ ∃ v11, cell H5 (.add a10 (toNat (wrap .i64 ((wrap .i64 ((min y3 (wrap .i64 (h7 - 1))) * w8)) + (min x2 (wrap .i64 (w9 - 1))))) * 1)) = some (.int .i64 v11) ∧ R (.int .i64 v11) H5
def Try.p25 : Plan := (tl (tl leaf))
theorem Try.s25 {p1 : AV} {x2 y3 : Int} {H R} (h : Try.S25 p1 x2 y3 H R) : Try.C 25 #[.agg p1, .int .i64 x2, .int .i64 y3] H R := vcs Try.tab_ok Try.mixed Try.func25 Try.cal25 Try.p25 h (by kernel_rfl)
def Try.S26 (s1 : AV) (H : Heap) (R : Kv) : Prop :=
 alc H (.cells s1 40) fun b2 H3 => alc H3 (.cells (Array.replicate 64 (Value.int .i64 0)) 40) fun b4 H5 => Try.C 45 #[] H5 fun r6 H7 => ∃ r8, r6 = .agg r8 ∧ alc H7 (.cells (Array.replicate 64 (Value.int .i64 0)) 106) fun b9 H10 => r8.size = 64 ∧ stAt H10 ⟨b9, 0, none⟩ r8.toList fun H11 => alc H11 (.cells (Array.replicate 64 (Value.int .i64 0)) 40) fun b12 H13 => alc H13 (.cells (Array.replicate 64 (Value.int .i64 0)) 40) fun b14 H15 => ∀ X16 : Kl, (∀ (i17 : Int) H18, (br (decide (i17 < 64))
 (∀ X19 : Kl, (∀ (x20 : Int) H21, (br (decide (x20 < 8))
 (0 ≤ i17 ∧ i17 < ((64 : Nat) : Int) ∧ ∃ v22, cell H21 (.add ⟨b12, 0, none⟩ (toNat i17 * 1)) = some (.int .i64 v22) ∧ (8 : Int) ≠ 0 ∧ 0 ≤ (wrap .i64 ((wrap .i64 ((wrap .i64 (Int.tdiv i17 8)) * 8)) + x20)) ∧ (wrap .i64 ((wrap .i64 ((wrap .i64 (Int.tdiv i17 8)) * 8)) + x20)) < ((64 : Nat) : Int) ∧ ∃ v23, cell H21 (.add ⟨b2, 0, none⟩ (toNat (wrap .i64 ((wrap .i64 ((wrap .i64 (Int.tdiv i17 8)) * 8)) + x20)) * 1)) = some (.int .i64 v23) ∧ (8 : Int) ≠ 0 ∧ 0 ≤ (Int.tmod i17 8) ∧ (Int.tmod i17 8) < ((8 : Nat) : Int) ∧ 0 ≤ x20 ∧ x20 < ((8 : Nat) : Int) ∧ ∃ v24, cell H21 (.add (.add ⟨b9, 0, none⟩ (toNat (Int.tmod i17 8) * 8)) (toNat x20 * 1)) = some (.int .i64 v24) ∧ 0 ≤ i17 ∧ i17 < ((64 : Nat) : Int) ∧ stAt H21 (.add ⟨b12, 0, none⟩ (toNat i17 * 1)) [.int .i64 (wrap .i64 (v22 + (wrap .i64 (v23 * v24))))] fun H25 => X19 [.int .i64 (wrap .i64 (x20 + 1))] H25)
 (X16 [.int .i64 (wrap .i64 (i17 + 1))] H21)) → X19 [.int .i64 x20] H21) → X19 [.int .i64 0] H18)
 (∀ X26 : Kl, (∀ (i27 : Int) H28, (br (decide (i27 < 64))
 (∀ X29 : Kl, (∀ (su30 y31 : Int) H32, (br (decide (y31 < 8))
 ((8 : Int) ≠ 0 ∧ 0 ≤ (wrap .i64 ((wrap .i64 (y31 * 8)) + (Int.tmod i27 8))) ∧ (wrap .i64 ((wrap .i64 (y31 * 8)) + (Int.tmod i27 8))) < ((64 : Nat) : Int) ∧ ∃ v33, cell H32 (.add ⟨b12, 0, none⟩ (toNat (wrap .i64 ((wrap .i64 (y31 * 8)) + (Int.tmod i27 8))) * 1)) = some (.int .i64 v33) ∧ (8 : Int) ≠ 0 ∧ 0 ≤ (wrap .i64 (Int.tdiv i27 8)) ∧ (wrap .i64 (Int.tdiv i27 8)) < ((8 : Nat) : Int) ∧ 0 ≤ y31 ∧ y31 < ((8 : Nat) : Int) ∧ ∃ v34, cell H32 (.add (.add ⟨b9, 0, none⟩ (toNat (wrap .i64 (Int.tdiv i27 8)) * 8)) (toNat y31 * 1)) = some (.int .i64 v34) ∧ X29 [.int .i64 (wrap .i64 (su30 + (wrap .i64 (v33 * v34)))), .int .i64 (wrap .i64 (y31 + 1))] H32)
 (Try.C 46 #[.int .i64 su30] H32 fun r35 H36 => ∃ r37, r35 = .int .i64 r37 ∧ 0 ≤ i27 ∧ i27 < ((64 : Nat) : Int) ∧ stAt H36 (.add ⟨b14, 0, none⟩ (toNat i27 * 1)) [.int .i64 r37] fun H38 => X26 [.int .i64 (wrap .i64 (i27 + 1))] H38)) → X29 [.int .i64 su30, .int .i64 y31] H32) → X29 [.int .i64 0, .int .i64 0] H28)
 (∃ v39, v39.size = 64 ∧ rowIn H28 ⟨b14, 0, none⟩ v39 ∧ v39.size = 64 ∧ stAt H28 ⟨b4, 0, none⟩ v39.toList fun H40 => ∃ re41, re41.size = 64 ∧ rowIn H40 ⟨b4, 0, none⟩ re41 ∧ R (.agg re41) H40)) → X26 [.int .i64 i27] H28) → X26 [.int .i64 0] H18)) → X16 [.int .i64 i17] H18) → X16 [.int .i64 0] H15
def Try.p26 : Plan := (tl (tl (tl (two (tl (one (loop [(12, 3)] [1, 2, 3, 4, 5] (tl (two (tl leaf) (two (one (tl (tl (one (loop [(15, 3)] [1, 2, 3, 4, 5, 6, 12] (tl (two (tl leaf) (two (one (tl leaf)) leaf)))))))) leaf)))))) (two (tl (one (loop [(39, 3)] [2, 3, 4, 5] (tl (two (tl leaf) (two (one (tl (tl (two (tl (one (loop [(9, 3), (42, 3)] [2, 3, 4, 5, 8, 39] (tl (two (tl leaf) (two (one (tl leaf)) leaf)))))) leaf)))) leaf)))))) (tl leaf))))))
theorem Try.s26 {s1 : AV} {H R} (h : Try.S26 s1 H R) : Try.C 26 #[.agg s1] H R := vcs Try.tab_ok Try.mixed Try.func26 Try.cal26 Try.p26 h (by kernel_rfl)
def Try.S27 (f1 t2 : Int) (H : Heap) (R : Kv) : Prop :=
 br (decide (f1 < 0))
 (Try.C 27 #[.int .i64 (wrap .i64 (0 - f1)), .int .i64 t2] H fun r3 H4 => ∃ r5, r3 = .int .i64 r5 ∧ R (.int .i64 (wrap .i64 (0 - r5))) H4)
 ((2 : Int) ≠ 0 ∧ t2 ≠ 0 ∧ R (.int .i64 (wrap .i64 (Int.tdiv (wrap .i64 (f1 + (wrap .i64 (Int.tdiv t2 2)))) t2))) H)
def Try.p27 : Plan := (tl (tg (tl leaf)))
theorem Try.s27 {f1 t2 : Int} {H R} (h : Try.S27 f1 t2 H R) : Try.C 27 #[.int .i64 f1, .int .i64 t2] H R := vcs Try.tab_ok Try.mixed Try.func27 Try.cal27 Try.p27 h (by kernel_rfl)
def Try.S28 (r1 : OA) (H : Heap) (R : Kv) : Prop :=
 alc H (.cells #[.pointer none, .pointer none, .pointer none, .pointer none, .pointer none, .pointer none] 77) fun b2 H3 => ∀ X4 : Kl, (∀ H5, (∀ J6 : Kl, (∀ H7, (∃ a8, r1 = some a8 ∧ ∃ b9p b9l b9c, cell H7 (.add a8 0) = some (.slice b9p b9l b9c) ∧ ∃ a10, b9p = some a10 ∧ 0 ≤ (1 : Int) ∧ (1 : Int) < (b9l : Int) ∧ ∃ ma11, cell H7 (.add a10 (toNat (1 : Int) * 1)) = some (.int .u8 ma11) ∧ ∃ a12, r1 = some a12 ∧ ∃ b13p b13l b13c, cell H7 (.add a12 0) = some (.slice b13p b13l b13c) ∧ 0 ≤ (2 : Int) ∧ (2 : Int) ≤ (b13l : Int) ∧ ∃ a14, r1 = some a14 ∧ stAt H7 (.add a14 0) [.slice (if b13c = (toNat 2) then b13p else Option.map (fun x => Addr.add x ((toNat 2) * 1)) b13p) (b13l - (toNat 2)) (b13c - (toNat 2))] fun H15 => Try.C 47 #[.pointer r1] H15 fun r16 H17 => ∃ r18p r18l r18c r19, r16 = .tuple #[.slice r18p r18l r18c, .bool r19] ∧ br (!r19)
 (∃ v20, v20.size = 6 ∧ rowIn H17 ⟨b2, 0, none⟩ v20 ∧ v20.size = 6 ∧ stAt H17 ⟨b2, 0, none⟩ v20.toList fun H21 => ∃ re22, re22.size = 6 ∧ rowIn H21 ⟨b2, 0, none⟩ re22 ∧ R (.tuple #[.agg re22, .bool false]) H21)
 (∀ J23 : Kl, (∀ (fi24 : Bool) H25, (br (!fi24)
 (∃ v26, v26.size = 6 ∧ rowIn H25 ⟨b2, 0, none⟩ v26 ∧ v26.size = 6 ∧ stAt H25 ⟨b2, 0, none⟩ v26.toList fun H27 => ∃ re28, re28.size = 6 ∧ rowIn H27 ⟨b2, 0, none⟩ re28 ∧ R (.tuple #[.agg re28, .bool false]) H27)
 (X4 [] H25)) → J23 [.bool fi24] H25) →
 br (decide (ma11 ≥ 224)) (br (decide (ma11 ≤ 239)) (J23 [.bool r19] H17) (br (ma11 == 254)
 (J23 [.bool r19] H17)
 (br (ma11 == 219)
 (Try.C 48 #[.pointer r1, .slice r18p r18l r18c] H17 fun r29 H30 => ∃ fi31, r29 = .bool fi31 ∧ J23 [.bool fi31] H30)
 (br (ma11 == 192)
 (Try.C 49 #[.pointer r1, .slice r18p r18l r18c] H17 fun r32 H33 => ∃ fi34, r32 = .bool fi34 ∧ J23 [.bool fi34] H33)
 (br (ma11 == 196)
 (Try.C 50 #[.pointer r1, .slice r18p r18l r18c] H17 fun r35 H36 => ∃ fi37, r35 = .bool fi37 ∧ J23 [.bool fi37] H36)
 (br (ma11 == 218)
 (Try.C 51 #[.pointer r1, .slice r18p r18l r18c] H17 fun r38 H39 => ∃ r40 r41, r38 = .tuple #[.agg r40, .bool r41] ∧ r40.size = 6 ∧ stAt H39 ⟨b2, 0, none⟩ r40.toList fun H42 => ∃ re43, re43.size = 6 ∧ rowIn H42 ⟨b2, 0, none⟩ re43 ∧ R (.tuple #[.agg re43, .bool r41]) H42)
 (J23 [.bool false] H17))))))) (br (ma11 == 254)
 (J23 [.bool r19] H17)
 (br (ma11 == 219)
 (Try.C 48 #[.pointer r1, .slice r18p r18l r18c] H17 fun r44 H45 => ∃ fi46, r44 = .bool fi46 ∧ J23 [.bool fi46] H45)
 (br (ma11 == 192)
 (Try.C 49 #[.pointer r1, .slice r18p r18l r18c] H17 fun r47 H48 => ∃ fi49, r47 = .bool fi49 ∧ J23 [.bool fi49] H48)
 (br (ma11 == 196)
 (Try.C 50 #[.pointer r1, .slice r18p r18l r18c] H17 fun r50 H51 => ∃ fi52, r50 = .bool fi52 ∧ J23 [.bool fi52] H51)
 (br (ma11 == 218)
 (Try.C 51 #[.pointer r1, .slice r18p r18l r18c] H17 fun r53 H54 => ∃ r55 r56, r53 = .tuple #[.agg r55, .bool r56] ∧ r55.size = 6 ∧ stAt H54 ⟨b2, 0, none⟩ r55.toList fun H57 => ∃ re58, re58.size = 6 ∧ rowIn H57 ⟨b2, 0, none⟩ re58 ∧ R (.tuple #[.agg re58, .bool r56]) H57)
 (J23 [.bool false] H17)))))))) → J6 [] H7) →
 ∃ a59, r1 = some a59 ∧ ∃ b60p b60l b60c, cell H5 (.add a59 0) = some (.slice b60p b60l b60c) ∧ br (decide (((b60l : Int) : Int) < 2)) (∃ v61, v61.size = 6 ∧ rowIn H5 ⟨b2, 0, none⟩ v61 ∧ v61.size = 6 ∧ stAt H5 ⟨b2, 0, none⟩ v61.toList fun H62 => ∃ re63, re63.size = 6 ∧ rowIn H62 ⟨b2, 0, none⟩ re63 ∧ R (.tuple #[.agg re63, .bool false]) H62) (∃ a64, r1 = some a64 ∧ ∃ b65p b65l b65c, cell H5 (.add a64 0) = some (.slice b65p b65l b65c) ∧ ∃ a66, b65p = some a66 ∧ 0 ≤ (0 : Int) ∧ (0 : Int) < (b65l : Int) ∧ ∃ v67, cell H5 (.add a66 (toNat (0 : Int) * 1)) = some (.int .u8 v67) ∧ br (v67 != 255)
 (∃ v68, v68.size = 6 ∧ rowIn H5 ⟨b2, 0, none⟩ v68 ∧ v68.size = 6 ∧ stAt H5 ⟨b2, 0, none⟩ v68.toList fun H69 => ∃ re70, re70.size = 6 ∧ rowIn H69 ⟨b2, 0, none⟩ re70 ∧ R (.tuple #[.agg re70, .bool false]) H69)
 (J6 [] H5))) → X4 [] H5) → X4 [] H3
def Try.p28 : Plan := (tl (scope [] [0, 2] leaf (two (join [] [0, 2] g0) (tl (tl (tl (tg (two (join [(6, 4)] [0, 2] (one (tl (tl (tl (tl (tl (tl (tl (tl g0)))))))))) (tg leaf)))))))))
theorem Try.s28 {r1 : OA} {H R} (h : Try.S28 r1 H R) : Try.C 28 #[.pointer r1] H R := vcs Try.tab_ok Try.mixed Try.func28 Try.cal28 Try.p28 h (by kernel_rfl)
def Try.S29 (r1 : OA) (H : Heap) (R : Kv) : Prop :=
 ∀ X2 : Kl, (∀ (ou3p : OA) (ou3l ou3c : Nat) (i4 : Int) H5, (∃ a6, r1 = some a6 ∧ ∃ b7p b7l b7c, cell H5 (.add a6 0) = some (.slice b7p b7l b7c) ∧ br (decide (((wrap .i64 (i4 + 1)) : Int) < (b7l : Int)))
 (∃ a8, r1 = some a8 ∧ ∃ b9p b9l b9c, cell H5 (.add a8 0) = some (.slice b9p b9l b9c) ∧ ∃ a10, b9p = some a10 ∧ 0 ≤ i4 ∧ i4 < (b9l : Int) ∧ ∃ c11, cell H5 (.add a10 (toNat i4 * 1)) = some (.int .u8 c11) ∧ br (c11 != 255)
 (alc H5 (.cells #[.int .u8 c11] 5) fun b12 H13 => appQ 1 1 #[.int .u8 0] H13 ou3p ou3l ou3c (some ⟨b12, 0, none⟩) 1 5 fun ou14p ou14l ou14c H15 => X2 [.slice ou14p ou14l ou14c, .int .i64 (wrap .i64 (i4 + 1))] H15)
 (∃ a16, r1 = some a16 ∧ ∃ b17p b17l b17c, cell H5 (.add a16 0) = some (.slice b17p b17l b17c) ∧ ∃ a18, b17p = some a18 ∧ 0 ≤ (wrap .i64 (i4 + 1)) ∧ (wrap .i64 (i4 + 1)) < (b17l : Int) ∧ ∃ v19, cell H5 (.add a18 (toNat (wrap .i64 (i4 + 1)) * 1)) = some (.int .u8 v19) ∧ br (v19 != 0)
 (∃ a20, r1 = some a20 ∧ ∃ b21p b21l b21c, cell H5 (.add a20 0) = some (.slice b21p b21l b21c) ∧ ∃ a22, b21p = some a22 ∧ 0 ≤ (wrap .i64 (i4 + 1)) ∧ (wrap .i64 (i4 + 1)) < (b21l : Int) ∧ ∃ v23, cell H5 (.add a22 (toNat (wrap .i64 (i4 + 1)) * 1)) = some (.int .u8 v23) ∧ br (v23 == 217) (∃ a24, r1 = some a24 ∧ ∃ b25p b25l b25c, cell H5 (.add a24 0) = some (.slice b25p b25l b25c) ∧ R (.tuple #[.slice ou3p ou3l ou3c, .bool (((wrap .i64 (i4 + 2)) : Int) == (b25l : Int))]) H5) (R (.tuple #[.slice ou3p ou3l ou3c, .bool false]) H5))
 (alc H5 (.cells #[.int .u8 c11] 5) fun b26 H27 => appQ 1 1 #[.int .u8 0] H27 ou3p ou3l ou3c (some ⟨b26, 0, none⟩) 1 5 fun ou28p ou28l ou28c H29 => X2 [.slice ou28p ou28l ou28c, .int .i64 (wrap .i64 ((wrap .i64 (i4 + 1)) + 1))] H29)))
 (R (.tuple #[.slice none 0 0, .bool false]) H5)) → X2 [.slice ou3p ou3l ou3c, .int .i64 i4] H5) → X2 [.slice none 0 0, .int .i64 0] H
def Try.p29 : Plan := (tl (tl (two (tl (one (loop [(4, 22), (5, 3)] [0] (two (tl (tl leaf)) (two (one (tl (tg (tg (tl leaf))))) leaf))))) (tl leaf))))
theorem Try.s29 {r1 : OA} {H R} (h : Try.S29 r1 H R) : Try.C 29 #[.pointer r1] H R := vcs Try.tab_ok Try.mixed Try.func29 Try.cal29 Try.p29 h (by kernel_rfl)
def Try.S30 (b1p : OA) (b1l b1c : Nat) (hi2 : Bool) (H : Heap) (R : Kv) : Prop :=
 Try.C 42 #[.slice b1p b1l b1c] H fun r3 H4 => ∃ r5p r5l r5c, r3 = .slice r5p r5l r5c ∧ alc H4 (.cells #[.slice r5p r5l r5c, .int .i64 0, .bool hi2] 112) fun b6 H7 => R (.pointer (some ⟨b6, 0, none⟩)) H7
def Try.p30 : Plan := (tl (tl leaf))
theorem Try.s30 {b1p : OA} {b1l b1c : Nat} {hi2 : Bool} {H R} (h : Try.S30 b1p b1l b1c hi2 H R) : Try.C 30 #[.slice b1p b1l b1c, .bool hi2] H R := vcs Try.tab_ok Try.mixed Try.func30 Try.cal30 Try.p30 h (by kernel_rfl)
def Try.S31 (u1 : OA) (t2 : AV) (la3 : Int) (H : Heap) (R : Kv) : Prop :=
 alc H (.cells t2 76) fun b4 H5 => alc H5 (.cells (Array.replicate 64 (Value.int .i64 0)) 40) fun b6 H7 => 0 ≤ (0 : Int) ∧ (0 : Int) < ((2 : Nat) : Int) ∧ ∃ v8, cell H7 (.add ⟨b4, 0, none⟩ (toNat (0 : Int) * 1)) = some (.pointer v8) ∧ Try.C 52 #[.pointer u1, .pointer v8] H7 fun r9 H10 => ∃ n11, r9 = .int .i64 n11 ∧ ∀ J12 : Kl, (∀ H13, (∃ a14, u1 = some a14 ∧ ∃ ok15, cell H13 (.add a14 1) = some (.bool ok15) ∧ br (!ok15)
 (∃ v16, v16.size = 64 ∧ rowIn H13 ⟨b6, 0, none⟩ v16 ∧ v16.size = 64 ∧ stAt H13 ⟨b6, 0, none⟩ v16.toList fun H17 => ∃ re18, re18.size = 64 ∧ rowIn H17 ⟨b6, 0, none⟩ re18 ∧ R (.agg re18) H17)
 (Try.C 54 #[.pointer u1, .int .i64 n11] H13 fun r19 H20 => ∃ r21, r19 = .int .i64 r21 ∧ Try.C 53 #[.int .i64 (wrap .i64 (la3 + r21))] H20 fun r22 H23 => ∃ r24, r22 = .int .i64 r24 ∧ 0 ≤ (0 : Int) ∧ (0 : Int) < ((64 : Nat) : Int) ∧ stAt H23 (.add ⟨b6, 0, none⟩ (toNat (0 : Int) * 1)) [.int .i64 r24] fun H25 => Try.C 13 #[] H25 fun r26 H27 => ∃ r28, r26 = .agg r28 ∧ alc H27 (.cells (Array.replicate 64 (Value.int .i64 0)) 40) fun b29 H30 => r28.size = 64 ∧ stAt H30 ⟨b29, 0, none⟩ r28.toList fun H31 => ∀ X32 : Kl, (∀ (k33 : Int) H34, (∀ J35 : Kl, (∀ H36, (0 ≤ (1 : Int) ∧ (1 : Int) < ((2 : Nat) : Int) ∧ ∃ v37, cell H36 (.add ⟨b4, 0, none⟩ (toNat (1 : Int) * 1)) = some (.pointer v37) ∧ Try.C 52 #[.pointer u1, .pointer v37] H36 fun r38 H39 => ∃ s40, r38 = .int .i64 s40 ∧ 0 ≤ (4 : Int) ∧ ∀ J41 : Kl, (∀ H42, (br (decide (((andI .i64 s40 15) : Int) > 0))
 (0 ≤ (wrap .i64 (k33 + (shrI .i64 s40 4))) ∧ (wrap .i64 (k33 + (shrI .i64 s40 4))) < ((64 : Nat) : Int) ∧ ∃ v43, cell H42 (.add ⟨b29, 0, none⟩ (toNat (wrap .i64 (k33 + (shrI .i64 s40 4))) * 1)) = some (.int .i64 v43) ∧ Try.C 54 #[.pointer u1, .int .i64 (andI .i64 s40 15)] H42 fun r44 H45 => ∃ r46, r44 = .int .i64 r46 ∧ (Ext H42 H45 ∨ (∃ v48, cell H45 (.add ⟨b29, 0, none⟩ (toNat (wrap .i64 (k33 + (shrI .i64 s40 4))) * 1)) = some (.int .i64 v48) ∧ Value.int .i64 v48 = .int .i64 v43)) ∧ 0 ≤ v43 ∧ v43 < ((64 : Nat) : Int) ∧ stAt H45 (.add ⟨b6, 0, none⟩ (toNat v43 * 1)) [.int .i64 r46] fun H47 => X32 [.int .i64 (wrap .i64 ((wrap .i64 (k33 + (shrI .i64 s40 4))) + 1))] H47)
 (X32 [.int .i64 (wrap .i64 ((wrap .i64 (k33 + (shrI .i64 s40 4))) + 1))] H42)) → J41 [] H42) →
 ∃ a49, u1 = some a49 ∧ ∃ ok50, cell H39 (.add a49 1) = some (.bool ok50) ∧ br (!ok50) (∃ v51, v51.size = 64 ∧ rowIn H39 ⟨b6, 0, none⟩ v51 ∧ v51.size = 64 ∧ stAt H39 ⟨b6, 0, none⟩ v51.toList fun H52 => ∃ re53, re53.size = 64 ∧ rowIn H52 ⟨b6, 0, none⟩ re53 ∧ R (.agg re53) H52) (br (s40 == 0)
 (∃ v54, v54.size = 64 ∧ rowIn H39 ⟨b6, 0, none⟩ v54 ∧ v54.size = 64 ∧ stAt H39 ⟨b6, 0, none⟩ v54.toList fun H55 => ∃ re56, re56.size = 64 ∧ rowIn H55 ⟨b6, 0, none⟩ re56 ∧ R (.agg re56) H55)
 (br (decide (((andI .i64 s40 15) : Int) > 10)) (∃ a57, u1 = some a57 ∧ stAt H39 (.add a57 1) [.bool false] fun H58 => ∃ v59, v59.size = 64 ∧ rowIn H58 ⟨b6, 0, none⟩ v59 ∧ v59.size = 64 ∧ stAt H58 ⟨b6, 0, none⟩ v59.toList fun H60 => ∃ re61, re61.size = 64 ∧ rowIn H60 ⟨b6, 0, none⟩ re61 ∧ R (.agg re61) H60) (br (((andI .i64 s40 15) : Int) == 0) (br (((shrI .i64 s40 4) : Int) != 15) (∃ a62, u1 = some a62 ∧ stAt H39 (.add a62 1) [.bool false] fun H63 => ∃ v64, v64.size = 64 ∧ rowIn H63 ⟨b6, 0, none⟩ v64 ∧ v64.size = 64 ∧ stAt H63 ⟨b6, 0, none⟩ v64.toList fun H65 => ∃ re66, re66.size = 64 ∧ rowIn H65 ⟨b6, 0, none⟩ re66 ∧ R (.agg re66) H65) (br (decide (((wrap .i64 (k33 + (shrI .i64 s40 4))) : Int) > 63))
 (∃ a67, u1 = some a67 ∧ stAt H39 (.add a67 1) [.bool false] fun H68 => ∃ v69, v69.size = 64 ∧ rowIn H68 ⟨b6, 0, none⟩ v69 ∧ v69.size = 64 ∧ stAt H68 ⟨b6, 0, none⟩ v69.toList fun H70 => ∃ re71, re71.size = 64 ∧ rowIn H70 ⟨b6, 0, none⟩ re71 ∧ R (.agg re71) H70)
 (J41 [] H39))) (br (decide (((wrap .i64 (k33 + (shrI .i64 s40 4))) : Int) > 63))
 (∃ a72, u1 = some a72 ∧ stAt H39 (.add a72 1) [.bool false] fun H73 => ∃ v74, v74.size = 64 ∧ rowIn H73 ⟨b6, 0, none⟩ v74 ∧ v74.size = 64 ∧ stAt H73 ⟨b6, 0, none⟩ v74.toList fun H75 => ∃ re76, re76.size = 64 ∧ rowIn H75 ⟨b6, 0, none⟩ re76 ∧ R (.agg re76) H75)
 (J41 [] H39)))))) → J35 [] H36) →
 br (decide (k33 < 64)) (∃ a77, u1 = some a77 ∧ ∃ ok78, cell H34 (.add a77 1) = some (.bool ok78) ∧ br ok78
 (J35 [] H34)
 (∃ v79, v79.size = 64 ∧ rowIn H34 ⟨b6, 0, none⟩ v79 ∧ v79.size = 64 ∧ stAt H34 ⟨b6, 0, none⟩ v79.toList fun H80 => ∃ re81, re81.size = 64 ∧ rowIn H80 ⟨b6, 0, none⟩ re81 ∧ R (.agg re81) H80)) (∃ v82, v82.size = 64 ∧ rowIn H34 ⟨b6, 0, none⟩ v82 ∧ v82.size = 64 ∧ stAt H34 ⟨b6, 0, none⟩ v82.toList fun H83 => ∃ re84, re84.size = 64 ∧ rowIn H83 ⟨b6, 0, none⟩ re84 ∧ R (.agg re84) H83)) → X32 [.int .i64 k33] H34) → X32 [.int .i64 1] H31)) → J12 [] H13) →
 br (decide (n11 > 11))
 (∃ a85, u1 = some a85 ∧ stAt H10 (.add a85 1) [.bool false] fun H86 => J12 [] H86)
 (J12 [] H10)
def Try.p31 : Plan := (tl (tl (two (join [] [0, 2, 4, 6, 7] (tl (tl leaf))) (tg (tl (tl (two (tl (one (loop [(9, 3)] [0, 4, 6, 8] (two (join [] [0, 4, 6, 8, 9] (tl (tl leaf))) (two (one (tl (tl (two (join [] [0, 4, 6, 8, 9, 11, 12] (one (tl (two (tl leaf) (tl (two (tl (tl leaf)) leaf)))))) (tl (tl (tl leaf))))))) leaf))))) (tl leaf))))))))
theorem Try.s31 {u1 : OA} {t2 : AV} {la3 : Int} {H R} (h : Try.S31 u1 t2 la3 H R) : Try.C 31 #[.pointer u1, .agg t2, .int .i64 la3] H R := vcs Try.tab_ok Try.mixed Try.func31 Try.cal31 Try.p31 h (by kernel_rfl)
def Try.S32 (r1 : OA) (H : Heap) (R : Kv) : Prop :=
 ∃ a2, r1 = some a2 ∧ ∃ b3p b3l b3c, cell H (.add a2 0) = some (.slice b3p b3l b3c) ∧ ∃ a4, r1 = some a4 ∧ ∃ at_5, cell H (.add a4 1) = some (.int .i64 at_5) ∧ R (.int .i64 (wrap .i64 ((wrap .i64 ((8 : Int) * (b3l : Int))) - at_5))) H
def Try.p32 : Plan := (tl (tl leaf))
theorem Try.s32 {r1 : OA} {H R} (h : Try.S32 r1 H R) : Try.C 32 #[.pointer r1] H R := vcs Try.tab_ok Try.mixed Try.func32 Try.cal32 Try.p32 h (by kernel_rfl)
def Try.S33 (m1 : OA) (st2 : AV) (H : Heap) (R : Kv) : Prop :=
 alc H (.cells st2 90) fun b3 H4 => alc H4 (.cells #[.int .i64 0, .int .i64 0, .slice none 0 0, .int .i64 0, .int .i64 0, .slice none 0 0, .int .i64 0, .int .i64 0, .slice none 0 0] 60) fun b5 H6 => ∀ X7 : Kl, (∀ (k8 : Int) H9, (br (decide (k8 < 3))
 (∃ a10, m1 = some a10 ∧ ∃ W11, cell H9 (.add a10 0) = some (.int .i64 W11) ∧ (16 : Int) ≠ 0 ∧ ∃ a12, m1 = some a12 ∧ ∃ H13, cell H9 (.add a12 1) = some (.int .i64 H13) ∧ (16 : Int) ≠ 0 ∧ 0 ≤ (wrap .i64 ((wrap .i64 ((wrap .i64 (Int.tdiv (wrap .i64 (W11 + 15)) 16)) * 16)) * (wrap .i64 ((wrap .i64 (Int.tdiv (wrap .i64 (H13 + 15)) 16)) * 16)))) ∧ (wrap .i64 ((wrap .i64 ((wrap .i64 (Int.tdiv (wrap .i64 (W11 + 15)) 16)) * 16)) * (wrap .i64 ((wrap .i64 (Int.tdiv (wrap .i64 (H13 + 15)) 16)) * 16)))) ≤ (wrap .i64 ((wrap .i64 ((wrap .i64 (Int.tdiv (wrap .i64 (W11 + 15)) 16)) * 16)) * (wrap .i64 ((wrap .i64 (Int.tdiv (wrap .i64 (H13 + 15)) 16)) * 16)))) ∧ ((8 : Nat) : Int) * (wrap .i64 ((wrap .i64 ((wrap .i64 (Int.tdiv (wrap .i64 (W11 + 15)) 16)) * 16)) * (wrap .i64 ((wrap .i64 (Int.tdiv (wrap .i64 (H13 + 15)) 16)) * 16)))) ≤ 281474976710656 ∧ (wrap .i64 ((wrap .i64 ((wrap .i64 (Int.tdiv (wrap .i64 (W11 + 15)) 16)) * 16)) * (wrap .i64 ((wrap .i64 (Int.tdiv (wrap .i64 (H13 + 15)) 16)) * 16)))) ≤ 281474976710656 ∧ alc H9 (.cells (List.toArray (reps (toNat (wrap .i64 ((wrap .i64 ((wrap .i64 (Int.tdiv (wrap .i64 (W11 + 15)) 16)) * 16)) * (wrap .i64 ((wrap .i64 (Int.tdiv (wrap .i64 (H13 + 15)) 16)) * 16))))) (Array.toList #[.int .i64 0]))) 3) fun b14 H15 => 0 ≤ k8 ∧ k8 < ((3 : Nat) : Int) ∧ #[Value.int .i64 (wrap .i64 ((wrap .i64 (Int.tdiv (wrap .i64 (W11 + 15)) 16)) * 16)), Value.int .i64 (wrap .i64 ((wrap .i64 (Int.tdiv (wrap .i64 (H13 + 15)) 16)) * 16)), Value.slice (some ⟨b14, 0, none⟩) (toNat (wrap .i64 ((wrap .i64 ((wrap .i64 (Int.tdiv (wrap .i64 (W11 + 15)) 16)) * 16)) * (wrap .i64 ((wrap .i64 (Int.tdiv (wrap .i64 (H13 + 15)) 16)) * 16))))) (toNat (wrap .i64 ((wrap .i64 ((wrap .i64 (Int.tdiv (wrap .i64 (W11 + 15)) 16)) * 16)) * (wrap .i64 ((wrap .i64 (Int.tdiv (wrap .i64 (H13 + 15)) 16)) * 16)))))].size = 3 ∧ stAt H15 (.add ⟨b5, 0, none⟩ (toNat k8 * 3)) (Array.toList #[.int .i64 (wrap .i64 ((wrap .i64 (Int.tdiv (wrap .i64 (W11 + 15)) 16)) * 16)), .int .i64 (wrap .i64 ((wrap .i64 (Int.tdiv (wrap .i64 (H13 + 15)) 16)) * 16)), .slice (some ⟨b14, 0, none⟩) (toNat (wrap .i64 ((wrap .i64 ((wrap .i64 (Int.tdiv (wrap .i64 (W11 + 15)) 16)) * 16)) * (wrap .i64 ((wrap .i64 (Int.tdiv (wrap .i64 (H13 + 15)) 16)) * 16))))) (toNat (wrap .i64 ((wrap .i64 ((wrap .i64 (Int.tdiv (wrap .i64 (W11 + 15)) 16)) * 16)) * (wrap .i64 ((wrap .i64 (Int.tdiv (wrap .i64 (H13 + 15)) 16)) * 16)))))]) fun H16 => X7 [.int .i64 (wrap .i64 (k8 + 1))] H16)
 (∃ a17, m1 = some a17 ∧ ∃ W18, cell H9 (.add a17 0) = some (.int .i64 W18) ∧ ∃ a19, m1 = some a19 ∧ ∃ H20, cell H9 (.add a19 1) = some (.int .i64 H20) ∧ ∃ a21, m1 = some a21 ∧ ∃ Ha22, cell H9 (.add a21 3) = some (.bool Ha22) ∧ Try.C 24 #[.int .i64 W18, .int .i64 H20, .bool Ha22] H9 fun r23 H24 => ∃ r25p r25l r25c, r23 = .slice r25p r25l r25c ∧ ∀ X26 : Kl, (∀ (n27 : Int) H28, (br (decide (n27 < (r25l : Int)))
 (∃ a29, r25p = some a29 ∧ 0 ≤ n27 ∧ n27 < (r25l : Int) ∧ ∃ v30, v30.size = 3 ∧ rowIn H28 (.add a29 (toNat n27 * 3)) v30 ∧ alc H28 (.cells #[.int .i64 0, .int .i64 0, .int .i64 0] 65) fun b31 H32 => v30.size = 3 ∧ stAt H32 ⟨b31, 0, none⟩ v30.toList fun H33 => alc H33 (.cells (Array.replicate 64 (Value.int .i64 0)) 40) fun b34 H35 => ∃ a36, m1 = some a36 ∧ ∃ Bl37p Bl37l Bl37c, cell H35 (.add a36 4) = some (.slice Bl37p Bl37l Bl37c) ∧ ∃ a38, Bl37p = some a38 ∧ 0 ≤ n27 ∧ n27 < (Bl37l : Int) ∧ ∃ v39, v39.size = 64 ∧ rowIn H35 (.add a38 (toNat n27 * 64)) v39 ∧ ∀ X40 : Kl, (∀ (i41 : Int) H42, (br (decide (i41 < 64))
 (0 ≤ i41 ∧ i41 < ((64 : Nat) : Int) ∧ ∃ v43, v39[(toNat i41 * 1)]? = some (.int .i64 v43) ∧ ∃ pa44, cell H42 (.add ⟨b31, 0, none⟩ 0) = some (.int .i64 pa44) ∧ 0 ≤ pa44 ∧ pa44 < ((3 : Nat) : Int) ∧ 0 ≤ i41 ∧ i41 < ((64 : Nat) : Int) ∧ ∃ v45, cell H42 (.add (.add ⟨b3, 0, none⟩ (toNat pa44 * 64)) (toNat i41 * 1)) = some (.int .i64 v45) ∧ 0 ≤ i41 ∧ i41 < ((64 : Nat) : Int) ∧ stAt H42 (.add ⟨b34, 0, none⟩ (toNat i41 * 1)) [.int .i64 (wrap .i64 (v43 * v45))] fun H46 => X40 [.int .i64 (wrap .i64 (i41 + 1))] H46)
 (∃ v47, v47.size = 64 ∧ rowIn H42 ⟨b34, 0, none⟩ v47 ∧ Try.C 55 #[.agg v47] H42 fun r48 H49 => ∃ r50, r48 = .agg r50 ∧ ∀ X51 : Kl, (∀ (i52 : Int) H53, (br (decide (i52 < 64))
 (0 ≤ i52 ∧ i52 < ((64 : Nat) : Int) ∧ ∃ v54, r50[(toNat i52 * 1)]? = some (.int .i64 v54) ∧ ∃ pa55, cell H53 (.add ⟨b31, 0, none⟩ 0) = some (.int .i64 pa55) ∧ 0 ≤ pa55 ∧ pa55 < ((3 : Nat) : Int) ∧ ∃ s56p s56l s56c, cell H53 (.add (.add ⟨b5, 0, none⟩ (toNat pa55 * 3)) 2) = some (.slice s56p s56l s56c) ∧ ∃ y57, cell H53 (.add ⟨b31, 0, none⟩ 2) = some (.int .i64 y57) ∧ (8 : Int) ≠ 0 ∧ ∃ pa58, cell H53 (.add ⟨b31, 0, none⟩ 0) = some (.int .i64 pa58) ∧ 0 ≤ pa58 ∧ pa58 < ((3 : Nat) : Int) ∧ ∃ w59, cell H53 (.add (.add ⟨b5, 0, none⟩ (toNat pa58 * 3)) 0) = some (.int .i64 w59) ∧ ∃ x60, cell H53 (.add ⟨b31, 0, none⟩ 1) = some (.int .i64 x60) ∧ (8 : Int) ≠ 0 ∧ ∃ a61, s56p = some a61 ∧ 0 ≤ (wrap .i64 ((wrap .i64 ((wrap .i64 ((wrap .i64 (y57 + (wrap .i64 (Int.tdiv i52 8)))) * w59)) + x60)) + (Int.tmod i52 8))) ∧ (wrap .i64 ((wrap .i64 ((wrap .i64 ((wrap .i64 (y57 + (wrap .i64 (Int.tdiv i52 8)))) * w59)) + x60)) + (Int.tmod i52 8))) < (s56l : Int) ∧ stAt H53 (.add a61 (toNat (wrap .i64 ((wrap .i64 ((wrap .i64 ((wrap .i64 (y57 + (wrap .i64 (Int.tdiv i52 8)))) * w59)) + x60)) + (Int.tmod i52 8))) * 1)) [.int .i64 (min 255 (max 0 (wrap .i64 (v54 + 128))))] fun H62 => X51 [.int .i64 (wrap .i64 (i52 + 1))] H62)
 (X26 [.int .i64 (wrap .i64 (n27 + 1))] H53)) → X51 [.int .i64 i52] H53) → X51 [.int .i64 0] H49)) → X40 [.int .i64 i41] H42) → X40 [.int .i64 0] H35)
 (∃ a63, m1 = some a63 ∧ ∃ W64, cell H28 (.add a63 0) = some (.int .i64 W64) ∧ ∃ a65, m1 = some a65 ∧ ∃ H66, cell H28 (.add a65 1) = some (.int .i64 H66) ∧ ∀ X67 : Kl, (∀ (i68 : Int) H69, (br (decide (i68 < (wrap .i64 (W64 * H66))))
 (∃ a70, m1 = some a70 ∧ ∃ W71, cell H69 (.add a70 0) = some (.int .i64 W71) ∧ W71 ≠ 0 ∧ ∃ a72, m1 = some a72 ∧ ∃ W73, cell H69 (.add a72 0) = some (.int .i64 W73) ∧ W73 ≠ 0 ∧ ∀ J74 : Kl, (∀ (hx75 hy76 : Int) H77, (0 ≤ (0 : Int) ∧ (0 : Int) < ((3 : Nat) : Int) ∧ ∃ v78, v78.size = 3 ∧ rowIn H77 (.add ⟨b5, 0, none⟩ (toNat (0 : Int) * 3)) v78 ∧ 0 ≤ (1 : Int) ∧ (1 : Int) < ((3 : Nat) : Int) ∧ ∃ v79, v79.size = 3 ∧ rowIn H77 (.add ⟨b5, 0, none⟩ (toNat (1 : Int) * 3)) v79 ∧ 0 ≤ (2 : Int) ∧ (2 : Int) < ((3 : Nat) : Int) ∧ ∃ v80, v80.size = 3 ∧ rowIn H77 (.add ⟨b5, 0, none⟩ (toNat (2 : Int) * 3)) v80 ∧ Try.C 25 #[.agg v78, .int .i64 (Int.tmod i68 W71), .int .i64 (wrap .i64 (Int.tdiv i68 W73))] H77 fun r81 H82 => ∃ r83, r81 = .int .i64 r83 ∧ (Ext H77 H82 ∨ (∃ v106, v106.size = 3 ∧ rowIn H82 (.add ⟨b5, 0, none⟩ (toNat (2 : Int) * 3)) v106 ∧ Value.agg v106 = .agg v80) ∧ (∃ v107, v107.size = 3 ∧ rowIn H82 (.add ⟨b5, 0, none⟩ (toNat (1 : Int) * 3)) v107 ∧ Value.agg v107 = .agg v79)) ∧ Try.C 25 #[.agg v79, .int .i64 hx75, .int .i64 hy76] H82 fun r84 H85 => ∃ r86, r84 = .int .i64 r86 ∧ (Ext H82 H85 ∨ (∃ v105, v105.size = 3 ∧ rowIn H85 (.add ⟨b5, 0, none⟩ (toNat (2 : Int) * 3)) v105 ∧ Value.agg v105 = .agg v80)) ∧ Try.C 25 #[.agg v80, .int .i64 hx75, .int .i64 hy76] H85 fun r87 H88 => ∃ r89, r87 = .int .i64 r89 ∧ Try.C 56 #[.agg #[.int .i64 r83, .int .i64 r86, .int .i64 r89]] H88 fun r90 H91 => ∃ r92, r90 = .agg r92 ∧ ∀ X93 : Kl, (∀ (t94 : Int) H95, (br (decide (t94 < 3))
 (0 ≤ t94 ∧ t94 < ((3 : Nat) : Int) ∧ ∃ v96, r92[(toNat t94 * 1)]? = some (.int .i64 v96) ∧ ∃ a97, m1 = some a97 ∧ ∃ RG98p RG98l RG98c, cell H95 (.add a97 2) = some (.slice RG98p RG98l RG98c) ∧ alc H95 (.cells #[.int .u8 (wrap .u8 v96)] 5) fun b99 H100 => appQ 1 1 #[.int .u8 0] H100 RG98p RG98l RG98c (some ⟨b99, 0, none⟩) 1 5 fun ap101p ap101l ap101c H102 => ∃ a103, m1 = some a103 ∧ stAt H102 (.add a103 2) [.slice ap101p ap101l ap101c] fun H104 => X93 [.int .i64 (wrap .i64 (t94 + 1))] H104)
 (X67 [.int .i64 (wrap .i64 (i68 + 1))] H95)) → X93 [.int .i64 t94] H95) → X93 [.int .i64 0] H91) → J74 [.int .i64 hx75, .int .i64 hy76] H77) →
 ∃ a108, m1 = some a108 ∧ ∃ Ha109, cell H69 (.add a108 3) = some (.bool Ha109) ∧ br Ha109
 ((2 : Int) ≠ 0 ∧ (2 : Int) ≠ 0 ∧ J74 [.int .i64 (wrap .i64 (Int.tdiv (Int.tmod i68 W71) 2)), .int .i64 (wrap .i64 (Int.tdiv (wrap .i64 (Int.tdiv i68 W73)) 2))] H69)
 (J74 [.int .i64 (Int.tmod i68 W71), .int .i64 (wrap .i64 (Int.tdiv i68 W73))] H69))
 (R (.tuple #[]) H69)) → X67 [.int .i64 i68] H69) → X67 [.int .i64 0] H28)) → X26 [.int .i64 n27] H28) → X26 [.int .i64 0] H24)) → X7 [.int .i64 k8] H9) → X7 [.int .i64 0] H6
def Try.p33 : Plan := (tl (tl (two (tl (one (loop [(22, 3)] [0, 3, 4] (tl (two (tl leaf) (two (one (tl (tl leaf))) leaf)))))) (two (tl (one (loop [(63, 3)] [0, 3, 4, 61, 62] (tl (two (tl leaf) (two (one (tl (tl (two (tl (one (loop [(75, 3)] [0, 3, 4, 9, 10, 61, 62, 63, 74] (tl (two (tl leaf) (two (one (tl leaf)) leaf)))))) (tl (one (loop [(92, 3)] [0, 3, 4, 9, 61, 62, 63, 91] (tl (two (tl leaf) (two (one (tl leaf)) leaf)))))))))) leaf)))))) (tl (one (loop [(134, 3)] [0, 4, 133] (tl (two (tl leaf) (two (one (tl (tl (tl (two (join [(18, 3), (19, 3)] [0, 4, 16, 17, 133, 134] (tl (tl leaf))) (tl (one (loop [(176, 3)] [0, 4, 133, 134, 175] (tl (two (tl leaf) (two (one (tl leaf)) leaf))))))))))) leaf))))))))))
theorem Try.s33 {m1 : OA} {st2 : AV} {H R} (h : Try.S33 m1 st2 H R) : Try.C 33 #[.pointer m1, .agg st2] H R := vcs Try.tab_ok Try.mixed Try.func33 Try.cal33 Try.p33 h (by kernel_rfl)
def Try.S34 (s1p : OA) (s1l s1c : Nat) (H : Heap) (R : Kv) : Prop :=
 ∀ X2 : Kl, (∀ (i3 j4 : Int) H5, (br (decide (i3 < j4))
 (∃ a6, s1p = some a6 ∧ 0 ≤ j4 ∧ j4 < (s1l : Int) ∧ ∃ v7, cell H5 (.add a6 (toNat j4 * 1)) = some (.int .i64 v7) ∧ ∃ a8, s1p = some a8 ∧ 0 ≤ i3 ∧ i3 < (s1l : Int) ∧ ∃ v9, cell H5 (.add a8 (toNat i3 * 1)) = some (.int .i64 v9) ∧ ∃ a10, s1p = some a10 ∧ 0 ≤ i3 ∧ i3 < (s1l : Int) ∧ stAt H5 (.add a10 (toNat i3 * 1)) [.int .i64 v7] fun H11 => ∃ a12, s1p = some a12 ∧ 0 ≤ j4 ∧ j4 < (s1l : Int) ∧ stAt H11 (.add a12 (toNat j4 * 1)) [.int .i64 v9] fun H13 => X2 [.int .i64 (wrap .i64 (i3 + 1)), .int .i64 (wrap .i64 (j4 - 1))] H13)
 (R (.tuple #[]) H5)) → X2 [.int .i64 i3, .int .i64 j4] H5) → X2 [.int .i64 0, .int .i64 (wrap .i64 ((s1l : Int) - 1))] H
def Try.p34 : Plan := (tl (one (loop [(2, 3), (3, 3)] [0] (two (tl (tl leaf)) (two (one leaf) leaf)))))
theorem Try.s34 {s1p : OA} {s1l s1c : Nat} {H R} (h : Try.S34 s1p s1l s1c H R) : Try.C 34 #[.slice s1p s1l s1c] H R := vcs Try.tab_ok Try.mixed Try.func34 Try.cal34 Try.p34 h (by kernel_rfl)
def Try.S35 (di1 : Bool) (H : Heap) (R : Kv) : Prop :=
 br di1
 (alc H (.cells #[.int .i64 99] 3) fun b2 H3 => Try.C 57 #[.slice (some ⟨b2, 0, none⟩) 1 1, .int .i64 64] H3 fun r4 H5 => ∃ ou6p ou6l ou6c, r4 = .slice ou6p ou6l ou6c ∧ alc H5 (.cells #[.int .i64 17, .int .i64 18, .int .i64 24, .int .i64 47] 3) fun b7 H8 => alc H8 (.cells #[.int .i64 18, .int .i64 21, .int .i64 26, .int .i64 66] 3) fun b9 H10 => alc H10 (.cells #[.int .i64 24, .int .i64 26, .int .i64 56, .int .i64 99] 3) fun b11 H12 => alc H12 (.cells #[.int .i64 47, .int .i64 66, .int .i64 99, .int .i64 99] 3) fun b13 H14 => alc H14 (.cells #[.slice (some ⟨b7, 0, none⟩) 4 4, .slice (some ⟨b9, 0, none⟩) 4 4, .slice (some ⟨b11, 0, none⟩) 4 4, .slice (some ⟨b13, 0, none⟩) 4 4] 48) fun b15 H16 => ∀ X17 : Kl, (∀ (v18 : Int) H19, (br (decide (v18 < ((4 : Nat) : Int)))
 (∃ a20, (some ⟨b15, 0, none⟩) = some a20 ∧ 0 ≤ v18 ∧ v18 < ((4 : Nat) : Int) ∧ ∃ l21p l21l l21c, cell H19 (.add a20 (toNat v18 * 1)) = some (.slice l21p l21l l21c) ∧ 0 ≤ (wrap .i64 ((8 : Int) * v18)) ∧ (wrap .i64 ((8 : Int) * v18)) ≤ (ou6l : Int) ∧ ∃ xs22, rowOf H19 l21p (min l21l (ou6l - (toNat (wrap .i64 ((8 : Int) * v18)))) * 1) xs22 ∧ copQ H19 (if ou6c = (toNat (wrap .i64 ((8 : Int) * v18))) then ou6p else Option.map (fun x => Addr.add x ((toNat (wrap .i64 ((8 : Int) * v18))) * 1)) ou6p) xs22 fun H23 => X17 [.int .i64 (wrap .i64 (v18 + 1))] H23)
 (R (.slice ou6p ou6l ou6c) H19)) → X17 [.int .i64 v18] H19) → X17 [.int .i64 0] H16)
 (alc H (.cells #[.int .i64 16, .int .i64 11, .int .i64 10, .int .i64 16, .int .i64 24, .int .i64 40, .int .i64 51, .int .i64 61, .int .i64 12, .int .i64 12, .int .i64 14, .int .i64 19, .int .i64 26, .int .i64 58, .int .i64 60, .int .i64 55, .int .i64 14, .int .i64 13, .int .i64 16, .int .i64 24, .int .i64 40, .int .i64 57, .int .i64 69, .int .i64 56, .int .i64 14, .int .i64 17, .int .i64 22, .int .i64 29, .int .i64 51, .int .i64 87, .int .i64 80, .int .i64 62, .int .i64 18, .int .i64 22, .int .i64 37, .int .i64 56, .int .i64 68, .int .i64 109, .int .i64 103, .int .i64 77, .int .i64 24, .int .i64 35, .int .i64 55, .int .i64 64, .int .i64 81, .int .i64 104, .int .i64 113, .int .i64 92, .int .i64 49, .int .i64 64, .int .i64 78, .int .i64 87, .int .i64 103, .int .i64 121, .int .i64 120, .int .i64 101, .int .i64 72, .int .i64 92, .int .i64 95, .int .i64 98, .int .i64 112, .int .i64 100, .int .i64 103, .int .i64 99] 3) fun b24 H25 => R (.slice (some ⟨b24, 0, none⟩) 64 64) H25)
def Try.p35 : Plan := (tl (two (tl (two (tl (two (tl (one (loop [(15, 3)] [3, 13, 14] (tl (two (tl leaf) (two (one (tl leaf)) leaf)))))) (tl leaf))) leaf)) (tl leaf)))
theorem Try.s35 {di1 : Bool} {H R} (h : Try.S35 di1 H R) : Try.C 35 #[.bool di1] H R := vcs Try.tab_ok Try.mixed Try.func35 Try.cal35 Try.p35 h (by kernel_rfl)
end Go.Proofs
namespace Go.Proofs
open Go.Sh Go.Sh.Plan
open Go.IntKind (wrap)
open Int (toNat)
def Try.S36 (sl1p : OA) (sl1l sl1c : Nat) (H : Heap) (R : Kv) : Prop :=
 ∀ X2 : Kl, (∀ (si3 t4 : Int) H5, (br (decide (t4 < (sl1l : Int)))
 (∃ a6, sl1p = some a6 ∧ 0 ≤ t4 ∧ t4 < (sl1l : Int) ∧ ∃ s7p s7l s7c, cell H5 (.add a6 (toNat t4 * 1)) = some (.slice s7p s7l s7c) ∧ br (decide (((wrap .i64 (si3 + (s7l : Int))) : Int) < 0))
 (False)
 (X2 [.int .i64 (wrap .i64 (si3 + (s7l : Int))), .int .i64 (wrap .i64 (t4 + 1))] H5))
 (Try.C 58 #[.slice none 0 0, .int .i64 si3] H5 fun r8 H9 => ∃ ne10p ne10l ne10c, r8 = .slice ne10p ne10l ne10c ∧ ∀ X11 : Kl, (∀ (ne12p : OA) (ne12l ne12c : Nat) (t13 : Int) H14, (br (decide (t13 < (sl1l : Int)))
 (∃ a15, sl1p = some a15 ∧ 0 ≤ t13 ∧ t13 < (sl1l : Int) ∧ ∃ s16p s16l s16c, cell H14 (.add a15 (toNat t13 * 1)) = some (.slice s16p s16l s16c) ∧ appQ 1 1 #[.int .u8 0] H14 ne12p ne12l ne12c s16p s16l 5 fun ne17p ne17l ne17c H18 => X11 [.slice ne17p ne17l ne17c, .int .i64 (wrap .i64 (t13 + 1))] H18)
 (R (.slice ne12p ne12l ne12c) H14)) → X11 [.slice ne12p ne12l ne12c, .int .i64 t13] H14) → X11 [.slice ne10p ne10l ne10c, .int .i64 0] H9)) → X2 [.int .i64 si3, .int .i64 t4] H5) → X2 [.int .i64 0, .int .i64 0] H
def Try.p36 : Plan := (tl (tl (two (tl (one (loop [(3, 3), (11, 3)] [0, 9, 10] (tl (two (tl leaf) (two (one (tl (tl (tl (tl leaf))))) leaf)))))) (tl (two (tl (one (loop [(6, 22), (27, 3)] [25, 26] (tl (two (tl leaf) (two (one (tl leaf)) leaf)))))) (tl leaf))))))
theorem Try.s36 {sl1p : OA} {sl1l sl1c : Nat} {H R} (h : Try.S36 sl1p sl1l sl1c H R) : Try.C 36 #[.slice sl1p sl1l sl1c] H R := vcs Try.tab_ok Try.mixed Try.func36 Try.cal36 Try.p36 h (by kernel_rfl)
def Try.S37 (v1 : Int) (H : Heap) (R : Kv) : Prop :=
 Try.C 59 #[.int .u64 (wrap .u64 (max v1 (wrap .i64 (0 - v1))))] H fun r2 H3 => ∃ si4, r2 = .int .i64 si4 ∧ br (decide (v1 < 0))
 (0 ≤ si4 ∧ R (.tuple #[.int .i64 si4, .int .i64 (wrap .i64 ((wrap .i64 (v1 + (shlI .i64 1 si4))) - 1))]) H3)
 (R (.tuple #[.int .i64 si4, .int .i64 v1]) H3)
def Try.p37 : Plan := (tl (tl (tg (tl leaf))))
theorem Try.s37 {v1 : Int} {H R} (h : Try.S37 v1 H R) : Try.C 37 #[.int .i64 v1] H R := vcs Try.tab_ok Try.mixed Try.func37 Try.cal37 Try.p37 h (by kernel_rfl)
def Try.S38 (co1p : OA) (co1l co1c : Nat) (mo2 : Int) (H : Heap) (R : Kv) : Prop :=
 ∀ J3 : Kl, (∀ H4, (∀ X5 : Kl, (∀ (le6p : OA) (le6l le6c : Nat) (s7 : Int) H8, (br (decide (s7 < (co1l : Int)))
 (∃ a9, co1p = some a9 ∧ 0 ≤ s7 ∧ s7 < (co1l : Int) ∧ ∃ n10, cell H8 (.add a9 (toNat s7 * 1)) = some (.int .i64 n10) ∧ ∀ J11 : Kl, (∀ H12, (br (decide (n10 > 0))
 (alc H12 (.cells #[.int .i64 s7] 3) fun b13 H14 => #[Value.int .i64 n10, Value.slice (some ⟨b13, 0, none⟩) 1 1].size = 2 ∧ 0 + 2 ≤ 2 ∧ alc H14 (.cells (List.toArray (setL [.int .i64 0, .slice none 0 0] 0 (Array.toList #[.int .i64 n10, .slice (some ⟨b13, 0, none⟩) 1 1]))) 122) fun b15 H16 => appQ 2 32 #[.int .i64 0, .slice none 0 0] H16 le6p le6l le6c (some ⟨b15, 0, none⟩) 1 122 fun le17p le17l le17c H18 => X5 [.slice le17p le17l le17c, .int .i64 (wrap .i64 (s7 + 1))] H18)
 (X5 [.slice le6p le6l le6c, .int .i64 (wrap .i64 (s7 + 1))] H12)) → J11 [] H12) →
 br (decide (n10 < 0)) (R (.tuple #[.slice none 0 0, .bool false]) H8) (br (decide (n10 > 1099511627776))
 (R (.tuple #[.slice none 0 0, .bool false]) H8)
 (J11 [] H8)))
 (0 ≤ (co1l : Int) ∧ (co1l : Int) ≤ (co1l : Int) ∧ ((8 : Nat) : Int) * (co1l : Int) ≤ 281474976710656 ∧ (co1l : Int) ≤ 281474976710656 ∧ alc H8 (.cells (List.toArray (reps (toNat (co1l : Int)) (Array.toList #[.int .i64 0]))) 3) fun b19 H20 => 0 ≤ mo2 ∧ br (decide (((le6l : Int) : Int) > (shlI .i64 1 mo2)))
 (R (.tuple #[.slice none 0 0, .bool false]) H20)
 (br (((le6l : Int) : Int) == 1)
 (∃ a21, le6p = some a21 ∧ 0 ≤ (0 : Int) ∧ (0 : Int) < (le6l : Int) ∧ ∃ sy22p sy22l sy22c, cell H20 (.add (.add a21 (toNat (0 : Int) * 2)) 1) = some (.slice sy22p sy22l sy22c) ∧ ∃ a23, sy22p = some a23 ∧ 0 ≤ (0 : Int) ∧ (0 : Int) < (sy22l : Int) ∧ ∃ v24, cell H20 (.add a23 (toNat (0 : Int) * 1)) = some (.int .i64 v24) ∧ ∃ a25, (some ⟨b19, 0, none⟩) = some a25 ∧ 0 ≤ v24 ∧ v24 < (((toNat (co1l : Int)) : Nat) : Int) ∧ stAt H20 (.add a25 (toNat v24 * 1)) [.int .i64 1] fun H26 => R (.tuple #[.slice (some ⟨b19, 0, none⟩) (toNat (co1l : Int)) (toNat (co1l : Int)), .bool true]) H26)
 (Try.C 60 #[.slice le6p le6l le6c, .func (.func 61) #[] #[]] H20 fun r27 H28 => r27 = .tuple #[] ∧ ∀ X29 : Kl, (∀ (ro30p : OA) (ro30l ro30c : Nat) (t31 : Int) H32, (br (decide (t31 < mo2))
 (Try.C 63 #[.slice ro30p ro30l ro30c] H32 fun r33 H34 => ∃ r35p r35l r35c, r33 = .slice r35p r35l r35c ∧ Try.C 62 #[.slice le6p le6l le6c, .slice r35p r35l r35c] H34 fun r36 H37 => ∃ ro38p ro38l ro38c, r36 = .slice ro38p ro38l ro38c ∧ X29 [.slice ro38p ro38l ro38c, .int .i64 (wrap .i64 (t31 + 1))] H37)
 (0 ≤ (max 0 (wrap .i64 ((wrap .i64 ((2 : Int) * (le6l : Int))) - 2))) ∧ (max 0 (wrap .i64 ((wrap .i64 ((2 : Int) * (le6l : Int))) - 2))) ≤ (ro30c : Int) ∧ ∀ X39 : Kl, (∀ (t40 : Int) H41, (br (decide (t40 < ((((toNat (max 0 (wrap .i64 ((wrap .i64 ((2 : Int) * (le6l : Int))) - 2)))) - 0) : Nat) : Int)))
 (∃ a42, (if ro30c = 0 then ro30p else Option.map (fun x => Addr.add x (0 * 2)) ro30p) = some a42 ∧ 0 ≤ t40 ∧ t40 < ((((toNat (max 0 (wrap .i64 ((wrap .i64 ((2 : Int) * (le6l : Int))) - 2)))) - 0) : Nat) : Int) ∧ ∃ v43, v43.size = 2 ∧ rowIn H41 (.add a42 (toNat t40 * 2)) v43 ∧ alc H41 (.cells #[.int .i64 0, .slice none 0 0] 122) fun b44 H45 => v43.size = 2 ∧ stAt H45 ⟨b44, 0, none⟩ v43.toList fun H46 => ∃ sy47p sy47l sy47c, cell H46 (.add ⟨b44, 0, none⟩ 1) = some (.slice sy47p sy47l sy47c) ∧ ∀ X48 : Kl, (∀ (t49 : Int) H50, (br (decide (t49 < (sy47l : Int)))
 (∃ a51, sy47p = some a51 ∧ 0 ≤ t49 ∧ t49 < (sy47l : Int) ∧ ∃ s52, cell H50 (.add a51 (toNat t49 * 1)) = some (.int .i64 s52) ∧ ∃ a53, (some ⟨b19, 0, none⟩) = some a53 ∧ 0 ≤ s52 ∧ s52 < (((toNat (co1l : Int)) : Nat) : Int) ∧ ∃ v54, cell H50 (.add a53 (toNat s52 * 1)) = some (.int .i64 v54) ∧ ∃ a55, (some ⟨b19, 0, none⟩) = some a55 ∧ 0 ≤ s52 ∧ s52 < (((toNat (co1l : Int)) : Nat) : Int) ∧ stAt H50 (.add a55 (toNat s52 * 1)) [.int .i64 (wrap .i64 (v54 + 1))] fun H56 => X48 [.int .i64 (wrap .i64 (t49 + 1))] H56)
 (X39 [.int .i64 (wrap .i64 (t40 + 1))] H50)) → X48 [.int .i64 t49] H50) → X48 [.int .i64 0] H46)
 (R (.tuple #[.slice (some ⟨b19, 0, none⟩) (toNat (co1l : Int)) (toNat (co1l : Int)), .bool true]) H41)) → X39 [.int .i64 t40] H41) → X39 [.int .i64 0] H32)) → X29 [.slice ro30p ro30l ro30c, .int .i64 t31] H32) → X29 [.slice none 0 0, .int .i64 0] H28)))) → X5 [.slice le6p le6l le6c, .int .i64 s7] H8) → X5 [.slice none 0 0, .int .i64 0] H4) → J3 [] H4) →
 br (decide (mo2 < 1)) (R (.tuple #[.slice none 0 0, .bool false]) H) (br (decide (mo2 > 16)) (R (.tuple #[.slice none 0 0, .bool false]) H) (br (decide (((co1l : Int) : Int) > 300))
 (R (.tuple #[.slice none 0 0, .bool false]) H)
 (J3 [] H)))
def Try.p38 : Plan := (tl (two (join [] [0, 1] g0) (tl (two (tl (one (loop [(6, 120), (29, 3)] [0, 1, 27, 28] (tl (two (tl leaf) (two (one (tl (two (join [] [0, 1, 6, 7, 8, 27, 28, 29] g0) (tl (tl leaf))))) leaf)))))) (tl (two (tl (one (tl (two (tl leaf) (tl (two (tl (tl leaf)) leaf)))))) (tl (tl (two (tl (one (loop [(11, 120), (75, 3)] [6, 9, 74] (tl (two (tl leaf) (two (one leaf) leaf)))))) (two (tl (one (loop [(90, 3)] [9, 88, 89] (tl (two (tl leaf) (two (one (tl (tl (one (loop [(97, 3)] [9, 88, 89, 90, 95, 96] (tl (two (tl leaf) (two (one (tl leaf)) leaf)))))))) leaf)))))) (tl leaf)))))))))))
theorem Try.s38 {co1p : OA} {co1l co1c : Nat} {mo2 : Int} {H R} (h : Try.S38 co1p co1l co1c mo2 H R) : Try.C 38 #[.slice co1p co1l co1c, .int .i64 mo2] H R := vcs Try.tab_ok Try.mixed Try.func38 Try.cal38 Try.p38 h (by kernel_rfl)
def Try.S39 (s1p : OA) (s1l s1c : Nat) (H : Heap) (R : Kv) : Prop :=
 br (Option.isNone s1p)
 (R (.slice none 0 0) H)
 (alc H (.cells #[] 3) fun b2 H3 => appQ 1 8 #[.int .i64 0] H3 (some ⟨b2, 0, none⟩) 0 0 s1p s1l 3 fun ap4p ap4l ap4c H5 => R (.slice ap4p ap4l ap4c) H5)
def Try.p39 : Plan := (tl (tg (tl leaf)))
theorem Try.s39 {s1p : OA} {s1l s1c : Nat} {H R} (h : Try.S39 s1p s1l s1c H R) : Try.C 39 #[.slice s1p s1l s1c] H R := vcs Try.tab_ok Try.mixed Try.func39 Try.cal39 Try.p39 h (by kernel_rfl)
def Try.S40 (le1p : OA) (le1l le1c : Nat) (H : Heap) (R : Kv) : Prop :=
 Try.C 64 #[.slice le1p le1l le1c] H fun r2 H3 => ∃ r4 r5, r2 = .tuple #[.int .i64 r4, .bool r5] ∧ ∀ J6 : Kl, (∀ H7, (0 ≤ (le1l : Int) ∧ (le1l : Int) ≤ (le1l : Int) ∧ ((8 : Nat) : Int) * (le1l : Int) ≤ 281474976710656 ∧ (le1l : Int) ≤ 281474976710656 ∧ alc H7 (.cells (List.toArray (reps (toNat (le1l : Int)) (Array.toList #[.int .i64 0]))) 3) fun b8 H9 => ∀ X10 : Kl, (∀ (ne11 n12 : Int) H13, (br (decide (n12 ≤ 16))
 (0 ≤ (1 : Int) ∧ ∀ X14 : Kl, (∀ (ne15 s16 : Int) H17, (br (decide (s16 < (le1l : Int)))
 (∃ a18, le1p = some a18 ∧ 0 ≤ s16 ∧ s16 < (le1l : Int) ∧ ∃ l19, cell H17 (.add a18 (toNat s16 * 1)) = some (.int .i64 l19) ∧ br (l19 == n12)
 (∃ a20, (some ⟨b8, 0, none⟩) = some a20 ∧ 0 ≤ s16 ∧ s16 < (((toNat (le1l : Int)) : Nat) : Int) ∧ stAt H17 (.add a20 (toNat s16 * 1)) [.int .i64 ne15] fun H21 => X14 [.int .i64 (wrap .i64 (ne15 + 1)), .int .i64 (wrap .i64 (s16 + 1))] H21)
 (X14 [.int .i64 ne15, .int .i64 (wrap .i64 (s16 + 1))] H17))
 (X10 [.int .i64 ne15, .int .i64 (wrap .i64 (n12 + 1))] H17)) → X14 [.int .i64 ne15, .int .i64 s16] H17) → X14 [.int .i64 (shlI .i64 ne11 1), .int .i64 0] H13)
 (R (.tuple #[.slice (some ⟨b8, 0, none⟩) (toNat (le1l : Int)) (toNat (le1l : Int)), .bool true]) H13)) → X10 [.int .i64 ne11, .int .i64 n12] H13) → X10 [.int .i64 0, .int .i64 1] H9) → J6 [] H7) →
 br (!r5) (R (.tuple #[.slice none 0 0, .bool false]) H3) (br (decide (r4 > 65536))
 (R (.tuple #[.slice none 0 0, .bool false]) H3)
 (J6 [] H3))
def Try.p40 : Plan := (tl (tl (two (join [] [0] g0) (tl (tl (two (tl (one (loop [(7, 3), (8, 3)] [0, 6] (two (tl (tl leaf)) (two (one (tl (tl (one (loop [(7, 3), (33, 3)] [0, 6, 8, 31, 32] (tl (two (tl leaf) (two (one (tl g0)) leaf)))))))) leaf))))) (tl leaf)))))))
theorem Try.s40 {le1p : OA} {le1l le1c : Nat} {H R} (h : Try.S40 le1p le1l le1c H R) : Try.C 40 #[.slice le1p le1l le1c] H R := vcs Try.tab_ok Try.mixed Try.func40 Try.cal40 Try.p40 h (by kernel_rfl)
def Try.S41 (w1 : OA) (v2 : Int) (H : Heap) (R : Kv) : Prop :=
 ∀ J3 : Kl, (∀ H4, (∃ a5, w1 = some a5 ∧ ∃ b6p b6l b6c, cell H4 (.add a5 0) = some (.slice b6p b6l b6c) ∧ ∃ a7, w1 = some a7 ∧ ∃ n8, cell H4 (.add a7 1) = some (.int .i64 n8) ∧ (8 : Int) ≠ 0 ∧ ∃ a9, b6p = some a9 ∧ 0 ≤ (wrap .i64 (Int.tdiv n8 8)) ∧ (wrap .i64 (Int.tdiv n8 8)) < (b6l : Int) ∧ ∃ v10, cell H4 (.add a9 (toNat (wrap .i64 (Int.tdiv n8 8)) * 1)) = some (.int .u8 v10) ∧ ∃ a11, w1 = some a11 ∧ ∃ n12, cell H4 (.add a11 1) = some (.int .i64 n12) ∧ ∃ a13, w1 = some a13 ∧ ∃ hi14, cell H4 (.add a13 2) = some (.bool hi14) ∧ Try.C 65 #[.int .i64 n12, .bool hi14] H4 fun r15 H16 => ∃ r17, r15 = .int .i64 r17 ∧ (Ext H4 H16 ∨ (∃ v24, cell H16 (.add a9 (toNat (wrap .i64 (Int.tdiv n8 8)) * 1)) = some (.int .u8 v24) ∧ Value.int .u8 v24 = .int .u8 v10) ∧ (∃ n25, cell H16 (.add a7 1) = some (.int .i64 n25) ∧ Value.int .i64 n25 = .int .i64 n8) ∧ (∃ b26p b26l b26c, cell H16 (.add a5 0) = some (.slice b26p b26l b26c) ∧ Value.slice b26p b26l b26c = .slice b6p b6l b6c)) ∧ 0 ≤ r17 ∧ ∃ a18, b6p = some a18 ∧ 0 ≤ (wrap .i64 (Int.tdiv n8 8)) ∧ (wrap .i64 (Int.tdiv n8 8)) < (b6l : Int) ∧ stAt H16 (.add a18 (toNat (wrap .i64 (Int.tdiv n8 8)) * 1)) [.int .u8 (orI .u8 v10 (shlI .u8 (wrap .u8 (andI .i64 v2 1)) r17))] fun H19 => ∃ a20, w1 = some a20 ∧ ∃ n21, cell H19 (.add a20 1) = some (.int .i64 n21) ∧ ∃ a22, w1 = some a22 ∧ stAt H19 (.add a22 1) [.int .i64 (wrap .i64 (n21 + 1))] fun H23 => R (.tuple #[]) H23) → J3 [] H4) →
 ∃ a27, w1 = some a27 ∧ ∃ n28, cell H (.add a27 1) = some (.int .i64 n28) ∧ (8 : Int) ≠ 0 ∧ br (((Int.tmod n28 8) : Int) == 0)
 (∃ a29, w1 = some a29 ∧ ∃ b30p b30l b30c, cell H (.add a29 0) = some (.slice b30p b30l b30c) ∧ alc H (.cells #[.int .u8 0] 5) fun b31 H32 => appQ 1 1 #[.int .u8 0] H32 b30p b30l b30c (some ⟨b31, 0, none⟩) 1 5 fun ap33p ap33l ap33c H34 => ∃ a35, w1 = some a35 ∧ stAt H34 (.add a35 0) [.slice ap33p ap33l ap33c] fun H36 => J3 [] H36)
 (J3 [] H)
def Try.p41 : Plan := (two (join [] [0, 1] (tl (tl leaf))) (tl leaf))
theorem Try.s41 {w1 : OA} {v2 : Int} {H R} (h : Try.S41 w1 v2 H R) : Try.C 41 #[.pointer w1, .int .i64 v2] H R := vcs Try.tab_ok Try.mixed Try.func41 Try.cal41 Try.p41 h (by kernel_rfl)
def Try.S42 (s1p : OA) (s1l s1c : Nat) (H : Heap) (R : Kv) : Prop :=
 br (Option.isNone s1p)
 (R (.slice none 0 0) H)
 (alc H (.cells #[] 5) fun b2 H3 => appQ 1 1 #[.int .u8 0] H3 (some ⟨b2, 0, none⟩) 0 0 s1p s1l 5 fun ap4p ap4l ap4c H5 => R (.slice ap4p ap4l ap4c) H5)
def Try.p42 : Plan := (tl (tg (tl leaf)))
theorem Try.s42 {s1p : OA} {s1l s1c : Nat} {H R} (h : Try.S42 s1p s1l s1c H R) : Try.C 42 #[.slice s1p s1l s1c] H R := vcs Try.tab_ok Try.mixed Try.func42 Try.cal42 Try.p42 h (by kernel_rfl)
def Try.S43 (p1 : AV) (H : Heap) (R : Kv) : Prop :=
 alc H (.cells p1 69) fun b2 H3 => alc H3 (.cells #[.int .i64 0, .int .i64 0, .int .i64 0] 69) fun b4 H5 => 0 ≤ (0 : Int) ∧ (0 : Int) < ((3 : Nat) : Int) ∧ ∃ r6, cell H5 (.add ⟨b2, 0, none⟩ (toNat (0 : Int) * 1)) = some (.int .i64 r6) ∧ 0 ≤ (1 : Int) ∧ (1 : Int) < ((3 : Nat) : Int) ∧ ∃ g7, cell H5 (.add ⟨b2, 0, none⟩ (toNat (1 : Int) * 1)) = some (.int .i64 g7) ∧ 0 ≤ (2 : Int) ∧ (2 : Int) < ((3 : Nat) : Int) ∧ ∃ b8, cell H5 (.add ⟨b2, 0, none⟩ (toNat (2 : Int) * 1)) = some (.int .i64 b8) ∧ 0 ≤ (16 : Int) ∧ Try.C 66 #[.int .i64 (shrI .i64 (wrap .i64 ((wrap .i64 ((wrap .i64 ((wrap .i64 ((19595 : Int) * r6)) + (wrap .i64 ((38470 : Int) * g7)))) + (wrap .i64 ((7471 : Int) * b8)))) + 32768)) 16)] H5 fun r9 H10 => ∃ r11, r9 = .int .i64 r11 ∧ 0 ≤ (16 : Int) ∧ Try.C 66 #[.int .i64 (wrap .i64 ((shrI .i64 (wrap .i64 ((wrap .i64 ((wrap .i64 ((wrap .i64 ((32768 : Int) * b8)) - (wrap .i64 ((11059 : Int) * r6)))) - (wrap .i64 ((21709 : Int) * g7)))) + 32768)) 16) + 128))] H10 fun r12 H13 => ∃ r14, r12 = .int .i64 r14 ∧ 0 ≤ (16 : Int) ∧ Try.C 66 #[.int .i64 (wrap .i64 ((shrI .i64 (wrap .i64 ((wrap .i64 ((wrap .i64 ((wrap .i64 ((32768 : Int) * r6)) - (wrap .i64 ((27439 : Int) * g7)))) - (wrap .i64 ((5329 : Int) * b8)))) + 32768)) 16) + 128))] H13 fun r15 H16 => ∃ r17, r15 = .int .i64 r17 ∧ #[Value.int .i64 r11, Value.int .i64 r14, Value.int .i64 r17].size = 3 ∧ stAt H16 ⟨b4, 0, none⟩ (Array.toList #[.int .i64 r11, .int .i64 r14, .int .i64 r17]) fun H18 => ∃ re19, re19.size = 3 ∧ rowIn H18 ⟨b4, 0, none⟩ re19 ∧ R (.agg re19) H18
def Try.p43 : Plan := (tl (tl (tl leaf)))
theorem Try.s43 {p1 : AV} {H R} (h : Try.S43 p1 H R) : Try.C 43 #[.agg p1] H R := vcs Try.tab_ok Try.mixed Try.func43 Try.cal43 Try.p43 h (by kernel_rfl)
def Try.S44 (p1 : AV) (H : Heap) (R : Kv) : Prop :=
 alc H (.cells p1 59) fun b2 H3 => alc H3 (.cells #[.int .i64 0, .int .i64 0, .slice none 0 0] 59) fun b4 H5 => ∃ w6, cell H5 (.add ⟨b2, 0, none⟩ 0) = some (.int .i64 w6) ∧ (2 : Int) ≠ 0 ∧ ∃ h7, cell H5 (.add ⟨b2, 0, none⟩ 1) = some (.int .i64 h7) ∧ (2 : Int) ≠ 0 ∧ alc H5 (.cells #[.int .i64 0, .int .i64 0, .slice none 0 0] 59) fun b8 H9 => #[Value.int .i64 (wrap .i64 (Int.tdiv (wrap .i64 (w6 + 1)) 2)), Value.int .i64 (wrap .i64 (Int.tdiv (wrap .i64 (h7 + 1)) 2)), Value.slice none 0 0].size = 3 ∧ stAt H9 ⟨b8, 0, none⟩ (Array.toList #[.int .i64 (wrap .i64 (Int.tdiv (wrap .i64 (w6 + 1)) 2)), .int .i64 (wrap .i64 (Int.tdiv (wrap .i64 (h7 + 1)) 2)), .slice none 0 0]) fun H10 => ∃ w11, cell H10 (.add ⟨b8, 0, none⟩ 0) = some (.int .i64 w11) ∧ ∃ h12, cell H10 (.add ⟨b8, 0, none⟩ 1) = some (.int .i64 h12) ∧ ∀ X13 : Kl, (∀ (i14 : Int) H15, (br (decide (i14 < (wrap .i64 (w11 * h12))))
 (∃ w16, cell H15 (.add ⟨b8, 0, none⟩ 0) = some (.int .i64 w16) ∧ w16 ≠ 0 ∧ ∃ w17, cell H15 (.add ⟨b8, 0, none⟩ 0) = some (.int .i64 w17) ∧ w17 ≠ 0 ∧ ∃ s18p s18l s18c, cell H15 (.add ⟨b8, 0, none⟩ 2) = some (.slice s18p s18l s18c) ∧ ∃ v19, v19.size = 3 ∧ rowIn H15 ⟨b2, 0, none⟩ v19 ∧ ∃ v20, v20.size = 3 ∧ rowIn H15 ⟨b2, 0, none⟩ v20 ∧ ∃ v21, v21.size = 3 ∧ rowIn H15 ⟨b2, 0, none⟩ v21 ∧ ∃ v22, v22.size = 3 ∧ rowIn H15 ⟨b2, 0, none⟩ v22 ∧ Try.C 25 #[.agg v19, .int .i64 (wrap .i64 ((2 : Int) * (Int.tmod i14 w16))), .int .i64 (wrap .i64 ((2 : Int) * (wrap .i64 (Int.tdiv i14 w17))))] H15 fun r23 H24 => ∃ r25, r23 = .int .i64 r25 ∧ (Ext H15 H24 ∨ (∃ v47, v47.size = 3 ∧ rowIn H24 ⟨b2, 0, none⟩ v47 ∧ Value.agg v47 = .agg v22) ∧ (∃ v48, v48.size = 3 ∧ rowIn H24 ⟨b2, 0, none⟩ v48 ∧ Value.agg v48 = .agg v21) ∧ (∃ v49, v49.size = 3 ∧ rowIn H24 ⟨b2, 0, none⟩ v49 ∧ Value.agg v49 = .agg v20) ∧ (∃ s50p s50l s50c, cell H24 (.add ⟨b8, 0, none⟩ 2) = some (.slice s50p s50l s50c) ∧ Value.slice s50p s50l s50c = .slice s18p s18l s18c)) ∧ Try.C 25 #[.agg v20, .int .i64 (wrap .i64 ((wrap .i64 ((2 : Int) * (Int.tmod i14 w16))) + 1)), .int .i64 (wrap .i64 ((2 : Int) * (wrap .i64 (Int.tdiv i14 w17))))] H24 fun r26 H27 => ∃ r28, r26 = .int .i64 r28 ∧ (Ext H24 H27 ∨ (∃ v44, v44.size = 3 ∧ rowIn H27 ⟨b2, 0, none⟩ v44 ∧ Value.agg v44 = .agg v22) ∧ (∃ v45, v45.size = 3 ∧ rowIn H27 ⟨b2, 0, none⟩ v45 ∧ Value.agg v45 = .agg v21) ∧ (∃ s46p s46l s46c, cell H27 (.add ⟨b8, 0, none⟩ 2) = some (.slice s46p s46l s46c) ∧ Value.slice s46p s46l s46c = .slice s18p s18l s18c)) ∧ Try.C 25 #[.agg v21, .int .i64 (wrap .i64 ((2 : Int) * (Int.tmod i14 w16))), .int .i64 (wrap .i64 ((wrap .i64 ((2 : Int) * (wrap .i64 (Int.tdiv i14 w17)))) + 1))] H27 fun r29 H30 => ∃ r31, r29 = .int .i64 r31 ∧ (Ext H27 H30 ∨ (∃ v42, v42.size = 3 ∧ rowIn H30 ⟨b2, 0, none⟩ v42 ∧ Value.agg v42 = .agg v22) ∧ (∃ s43p s43l s43c, cell H30 (.add ⟨b8, 0, none⟩ 2) = some (.slice s43p s43l s43c) ∧ Value.slice s43p s43l s43c = .slice s18p s18l s18c)) ∧ Try.C 25 #[.agg v22, .int .i64 (wrap .i64 ((wrap .i64 ((2 : Int) * (Int.tmod i14 w16))) + 1)), .int .i64 (wrap .i64 ((wrap .i64 ((2 : Int) * (wrap .i64 (Int.tdiv i14 w17)))) + 1))] H30 fun r32 H33 => ∃ r34, r32 = .int .i64 r34 ∧ (Ext H30 H33 ∨ (∃ s41p s41l s41c, cell H33 (.add ⟨b8, 0, none⟩ 2) = some (.slice s41p s41l s41c) ∧ Value.slice s41p s41l s41c = .slice s18p s18l s18c)) ∧ (4 : Int) ≠ 0 ∧ alc H33 (.cells #[.int .i64 (wrap .i64 (Int.tdiv (wrap .i64 ((wrap .i64 ((wrap .i64 ((wrap .i64 (r25 + r28)) + r31)) + r34)) + 2)) 4))] 3) fun b35 H36 => (Ext H33 H36 ∨ (∃ s40p s40l s40c, cell H36 (.add ⟨b8, 0, none⟩ 2) = some (.slice s40p s40l s40c) ∧ Value.slice s40p s40l s40c = .slice s18p s18l s18c)) ∧ appQ 1 8 #[.int .i64 0] H36 s18p s18l s18c (some ⟨b35, 0, none⟩) 1 3 fun ap37p ap37l ap37c H38 => stAt H38 (.add ⟨b8, 0, none⟩ 2) [.slice ap37p ap37l ap37c] fun H39 => X13 [.int .i64 (wrap .i64 (i14 + 1))] H39)
 (∃ v51, v51.size = 3 ∧ rowIn H15 ⟨b8, 0, none⟩ v51 ∧ v51.size = 3 ∧ stAt H15 ⟨b4, 0, none⟩ v51.toList fun H52 => ∃ re53, re53.size = 3 ∧ rowIn H52 ⟨b4, 0, none⟩ re53 ∧ R (.agg re53) H52)) → X13 [.int .i64 i14] H15) → X13 [.int .i64 0] H10
def Try.p44 : Plan := (tl (tl (two (tl (one (loop [(21, 3)] [1, 2, 3, 20] (tl (two (tl leaf) (two (one (tl (tl leaf))) leaf)))))) (tl leaf))))
theorem Try.s44 {p1 : AV} {H R} (h : Try.S44 p1 H R) : Try.C 44 #[.agg p1] H R := vcs Try.tab_ok Try.mixed Try.func44 Try.cal44 Try.p44 h (by kernel_rfl)
def Try.S45  (H : Heap) (R : Kv) : Prop :=
 alc H (.cells (Array.replicate 64 (Value.int .i64 0)) 106) fun b1 H2 => ∀ X3 : Kl, (∀ (u4 : Int) H5, (br (decide (u4 < 8))
 (Try.C 67 #[.int .i64 u4] H5 fun r6 H7 => ∃ r8, r6 = .agg r8 ∧ 0 ≤ u4 ∧ u4 < ((8 : Nat) : Int) ∧ r8.size = 8 ∧ stAt H7 (.add ⟨b1, 0, none⟩ (toNat u4 * 8)) r8.toList fun H9 => X3 [.int .i64 (wrap .i64 (u4 + 1))] H9)
 (∃ v10, v10.size = 64 ∧ rowIn H5 ⟨b1, 0, none⟩ v10 ∧ v10.size = 64 ∧ stAt H5 ⟨b1, 0, none⟩ v10.toList fun H11 => ∃ re12, re12.size = 64 ∧ rowIn H11 ⟨b1, 0, none⟩ re12 ∧ R (.agg re12) H11)) → X3 [.int .i64 u4] H5) → X3 [.int .i64 0] H2
def Try.p45 : Plan := (tl (two (tl (one (loop [(2, 3)] [0] (tl (two (tl leaf) (two (one (tl leaf)) leaf)))))) (tl leaf)))
theorem Try.s45 {_u : Unit} {H R} (h : Try.S45  H R) : Try.C 45 #[] H R := vcs Try.tab_ok Try.mixed Try.func45 Try.cal45 Try.p45 h (by kernel_rfl)
def Try.S46 (n1 : Int) (H : Heap) (R : Kv) : Prop :=
 0 ≤ (26 : Int) ∧ R (.int .i64 (shrI .i64 (wrap .i64 (n1 + 33554432)) 26)) H
def Try.p46 : Plan := (tl (tl leaf))
theorem Try.s46 {n1 : Int} {H R} (h : Try.S46 n1 H R) : Try.C 46 #[.int .i64 n1] H R := vcs Try.tab_ok Try.mixed Try.func46 Try.cal46 Try.p46 h (by kernel_rfl)
def Try.S47 (r1 : OA) (H : Heap) (R : Kv) : Prop :=
 ∃ a2, r1 = some a2 ∧ ∃ b3p b3l b3c, cell H (.add a2 0) = some (.slice b3p b3l b3c) ∧ br (decide (((b3l : Int) : Int) < 2))
 (R (.tuple #[.slice none 0 0, .bool false]) H)
 (∃ a4, r1 = some a4 ∧ ∃ b5p b5l b5c, cell H (.add a4 0) = some (.slice b5p b5l b5c) ∧ ∃ a6, b5p = some a6 ∧ 0 ≤ (0 : Int) ∧ (0 : Int) < (b5l : Int) ∧ ∃ v7, cell H (.add a6 (toNat (0 : Int) * 1)) = some (.int .u8 v7) ∧ 0 ≤ (8 : Int) ∧ ∃ a8, r1 = some a8 ∧ ∃ b9p b9l b9c, cell H (.add a8 0) = some (.slice b9p b9l b9c) ∧ ∃ a10, b9p = some a10 ∧ 0 ≤ (1 : Int) ∧ (1 : Int) < (b9l : Int) ∧ ∃ v11, cell H (.add a10 (toNat (1 : Int) * 1)) = some (.int .u8 v11) ∧ ∀ J12 : Kl, (∀ H13, (∃ a14, r1 = some a14 ∧ ∃ b15p b15l b15c, cell H13 (.add a14 0) = some (.slice b15p b15l b15c) ∧ 0 ≤ (orI .i64 (shlI .i64 (wrap .i64 v7) 8) (wrap .i64 v11)) ∧ (orI .i64 (shlI .i64 (wrap .i64 v7) 8) (wrap .i64 v11)) ≤ (b15c : Int) ∧ 0 ≤ (2 : Int) ∧ (2 : Int) ≤ (orI .i64 (shlI .i64 (wrap .i64 v7) 8) (wrap .i64 v11)) ∧ ∃ a16, r1 = some a16 ∧ ∃ b17p b17l b17c, cell H13 (.add a16 0) = some (.slice b17p b17l b17c) ∧ 0 ≤ (orI .i64 (shlI .i64 (wrap .i64 v7) 8) (wrap .i64 v11)) ∧ (orI .i64 (shlI .i64 (wrap .i64 v7) 8) (wrap .i64 v11)) ≤ (b17l : Int) ∧ ∃ a18, r1 = some a18 ∧ stAt H13 (.add a18 0) [.slice (if b17c = (toNat (orI .i64 (shlI .i64 (wrap .i64 v7) 8) (wrap .i64 v11))) then b17p else Option.map (fun x => Addr.add x ((toNat (orI .i64 (shlI .i64 (wrap .i64 v7) 8) (wrap .i64 v11))) * 1)) b17p) (b17l - (toNat (orI .i64 (shlI .i64 (wrap .i64 v7) 8) (wrap .i64 v11)))) (b17c - (toNat (orI .i64 (shlI .i64 (wrap .i64 v7) 8) (wrap .i64 v11))))] fun H19 => R (.tuple #[.slice (if b15c = (toNat 2) then b15p else Option.map (fun x => Addr.add x ((toNat 2) * 1)) b15p) ((toNat (orI .i64 (shlI .i64 (wrap .i64 v7) 8) (wrap .i64 v11))) - (toNat 2)) (b15c - (toNat 2)), .bool true]) H19) → J12 [] H13) →
 br (decide (((orI .i64 (shlI .i64 (wrap .i64 v7) 8) (wrap .i64 v11)) : Int) < 2)) (R (.tuple #[.slice none 0 0, .bool false]) H) (∃ a20, r1 = some a20 ∧ ∃ b21p b21l b21c, cell H (.add a20 0) = some (.slice b21p b21l b21c) ∧ br (decide (((orI .i64 (shlI .i64 (wrap .i64 v7) 8) (wrap .i64 v11)) : Int) > (b21l : Int)))
 (R (.tuple #[.slice none 0 0, .bool false]) H)
 (J12 [] H)))
def Try.p47 : Plan := (tl (tg (tl (two (join [] [0, 4] g0) (tl (tl (tl leaf)))))))
theorem Try.s47 {r1 : OA} {H R} (h : Try.S47 r1 H R) : Try.C 47 #[.pointer r1] H R := vcs Try.tab_ok Try.mixed Try.func47 Try.cal47 Try.p47 h (by kernel_rfl)
def Try.S48 (r1 da2p : OA) (da2l da2c : Nat) (H : Heap) (R : Kv) : Prop :=
 Try.C 13 #[] H fun r3 H4 => ∃ r5, r3 = .agg r5 ∧ alc H4 (.cells (Array.replicate 64 (Value.int .i64 0)) 40) fun b6 H7 => r5.size = 64 ∧ stAt H7 ⟨b6, 0, none⟩ r5.toList fun H8 => ∀ X9 : Kl, (∀ (da10p : OA) (da10l da10c : Nat) H11, (br (decide (((da10l : Int) : Int) > 0))
 (∀ J12 : Kl, (∀ H13, (alc H13 (.cells (Array.replicate 64 (Value.int .i64 0)) 40) fun b14 H15 => ∃ v16, v16.size = 64 ∧ rowIn H15 ⟨b6, 0, none⟩ v16 ∧ ∀ X17 : Kl, (∀ (i18 : Int) H19, (br (decide (i18 < 64))
 (0 ≤ i18 ∧ i18 < ((64 : Nat) : Int) ∧ ∃ at_20, v16[(toNat i18 * 1)]? = some (.int .i64 at_20) ∧ ∃ a21, da10p = some a21 ∧ 0 ≤ (wrap .i64 ((1 : Int) + i18)) ∧ (wrap .i64 ((1 : Int) + i18)) < (da10l : Int) ∧ ∃ v22, cell H19 (.add a21 (toNat (wrap .i64 ((1 : Int) + i18)) * 1)) = some (.int .u8 v22) ∧ 0 ≤ at_20 ∧ at_20 < ((64 : Nat) : Int) ∧ stAt H19 (.add ⟨b14, 0, none⟩ (toNat at_20 * 1)) [.int .i64 (wrap .i64 v22)] fun H23 => 0 ≤ at_20 ∧ at_20 < ((64 : Nat) : Int) ∧ ∃ v24, cell H23 (.add ⟨b14, 0, none⟩ (toNat at_20 * 1)) = some (.int .i64 v24) ∧ br (v24 == 0)
 (R (.bool false) H23)
 (X17 [.int .i64 (wrap .i64 (i18 + 1))] H23))
 (∃ a25, da10p = some a25 ∧ 0 ≤ (0 : Int) ∧ (0 : Int) < (da10l : Int) ∧ ∃ v26, cell H19 (.add a25 (toNat (0 : Int) * 1)) = some (.int .u8 v26) ∧ ∃ a27, r1 = some a27 ∧ 0 ≤ v26 ∧ v26 < ((4 : Nat) : Int) ∧ stAt H19 (.add (.add a27 10) (toNat v26 * 1)) [.pointer (some ⟨b14, 0, none⟩)] fun H28 => 0 ≤ (65 : Int) ∧ (65 : Int) ≤ (da10l : Int) ∧ X9 [.slice (if da10c = (toNat 65) then da10p else Option.map (fun x => Addr.add x ((toNat 65) * 1)) da10p) (da10l - (toNat 65)) (da10c - (toNat 65))] H28)) → X17 [.int .i64 i18] H19) → X17 [.int .i64 0] H15) → J12 [] H13) →
 br (decide (((da10l : Int) : Int) < 65)) (R (.bool false) H11) (∃ a29, da10p = some a29 ∧ 0 ≤ (0 : Int) ∧ (0 : Int) < (da10l : Int) ∧ ∃ v30, cell H11 (.add a29 (toNat (0 : Int) * 1)) = some (.int .u8 v30) ∧ br (decide (v30 > 3))
 (R (.bool false) H11)
 (J12 [] H11)))
 (R (.bool true) H11)) → X9 [.slice da10p da10l da10c] H11) → X9 [.slice da2p da2l da2c] H8
def Try.p48 : Plan := (tl (tl (two (one (loop [(1, 22)] [0, 5] (two (tl (tl leaf)) (one (two (join [] [0, 1, 5] g0) (tl (two (tl (one (loop [(23, 3)] [0, 1, 5, 6, 22] (tl (two (tl leaf) (two (one (tl (tl g0))) leaf)))))) (tl leaf)))))))) (tl leaf))))
theorem Try.s48 {r1 da2p : OA} {da2l da2c : Nat} {H R} (h : Try.S48 r1 da2p da2l da2c H R) : Try.C 48 #[.pointer r1, .slice da2p da2l da2c] H R := vcs Try.tab_ok Try.mixed Try.func48 Try.cal48 Try.p48 h (by kernel_rfl)
def Try.S49 (r1 da2p : OA) (da2l da2c : Nat) (H : Heap) (R : Kv) : Prop :=
 ∀ J3 : Kl, (∀ H4, (∃ a5, r1 = some a5 ∧ stAt H4 (.add a5 6) [.bool true] fun H6 => ∃ a7, da2p = some a7 ∧ 0 ≤ (1 : Int) ∧ (1 : Int) < (da2l : Int) ∧ ∃ v8, cell H6 (.add a7 (toNat (1 : Int) * 1)) = some (.int .u8 v8) ∧ 0 ≤ (8 : Int) ∧ ∃ a9, da2p = some a9 ∧ 0 ≤ (2 : Int) ∧ (2 : Int) < (da2l : Int) ∧ ∃ v10, cell H6 (.add a9 (toNat (2 : Int) * 1)) = some (.int .u8 v10) ∧ ∃ a11, da2p = some a11 ∧ 0 ≤ (3 : Int) ∧ (3 : Int) < (da2l : Int) ∧ ∃ v12, cell H6 (.add a11 (toNat (3 : Int) * 1)) = some (.int .u8 v12) ∧ 0 ≤ (8 : Int) ∧ ∃ a13, da2p = some a13 ∧ 0 ≤ (4 : Int) ∧ (4 : Int) < (da2l : Int) ∧ ∃ v14, cell H6 (.add a13 (toNat (4 : Int) * 1)) = some (.int .u8 v14) ∧ ∃ a15, r1 = some a15 ∧ stAt H6 (.add (.add a15 1) 1) [.int .i64 (orI .i64 (shlI .i64 (wrap .i64 v8) 8) (wrap .i64 v10))] fun H16 => ∃ a17, r1 = some a17 ∧ stAt H16 (.add (.add a17 1) 0) [.int .i64 (orI .i64 (shlI .i64 (wrap .i64 v12) 8) (wrap .i64 v14))] fun H18 => ∀ X19 : Kl, (∀ (k20 : Int) H21, (br (decide (k20 < 3))
 (0 ≤ (wrap .i64 ((9 : Int) + (wrap .i64 ((3 : Int) * k20)))) ∧ (wrap .i64 ((9 : Int) + (wrap .i64 ((3 : Int) * k20)))) ≤ (da2c : Int) ∧ 0 ≤ (wrap .i64 ((6 : Int) + (wrap .i64 ((3 : Int) * k20)))) ∧ (wrap .i64 ((6 : Int) + (wrap .i64 ((3 : Int) * k20)))) ≤ (wrap .i64 ((9 : Int) + (wrap .i64 ((3 : Int) * k20)))) ∧ ∀ J22 : Kl, (∀ H23, (∃ a24, (if da2c = (toNat (wrap .i64 ((6 : Int) + (wrap .i64 ((3 : Int) * k20))))) then da2p else Option.map (fun x => Addr.add x ((toNat (wrap .i64 ((6 : Int) + (wrap .i64 ((3 : Int) * k20))))) * 1)) da2p) = some a24 ∧ 0 ≤ (2 : Int) ∧ (2 : Int) < ((((toNat (wrap .i64 ((9 : Int) + (wrap .i64 ((3 : Int) * k20))))) - (toNat (wrap .i64 ((6 : Int) + (wrap .i64 ((3 : Int) * k20)))))) : Nat) : Int) ∧ ∃ v25, cell H23 (.add a24 (toNat (2 : Int) * 1)) = some (.int .u8 v25) ∧ ∃ a26, r1 = some a26 ∧ 0 ≤ k20 ∧ k20 < ((3 : Nat) : Int) ∧ stAt H23 (.add (.add a26 7) (toNat k20 * 1)) [.int .i64 (wrap .i64 v25)] fun H27 => X19 [.int .i64 (wrap .i64 (k20 + 1))] H27) → J22 [] H23) →
 ∃ a28, (if da2c = (toNat (wrap .i64 ((6 : Int) + (wrap .i64 ((3 : Int) * k20))))) then da2p else Option.map (fun x => Addr.add x ((toNat (wrap .i64 ((6 : Int) + (wrap .i64 ((3 : Int) * k20))))) * 1)) da2p) = some a28 ∧ 0 ≤ (0 : Int) ∧ (0 : Int) < ((((toNat (wrap .i64 ((9 : Int) + (wrap .i64 ((3 : Int) * k20))))) - (toNat (wrap .i64 ((6 : Int) + (wrap .i64 ((3 : Int) * k20)))))) : Nat) : Int) ∧ ∃ v29, cell H21 (.add a28 (toNat (0 : Int) * 1)) = some (.int .u8 v29) ∧ br (((wrap .i64 v29) : Int) != (wrap .i64 (k20 + 1))) (R (.bool false) H21) (∃ a30, (if da2c = (toNat (wrap .i64 ((6 : Int) + (wrap .i64 ((3 : Int) * k20))))) then da2p else Option.map (fun x => Addr.add x ((toNat (wrap .i64 ((6 : Int) + (wrap .i64 ((3 : Int) * k20))))) * 1)) da2p) = some a30 ∧ 0 ≤ (1 : Int) ∧ (1 : Int) < ((((toNat (wrap .i64 ((9 : Int) + (wrap .i64 ((3 : Int) * k20))))) - (toNat (wrap .i64 ((6 : Int) + (wrap .i64 ((3 : Int) * k20)))))) : Nat) : Int) ∧ ∃ v31, cell H21 (.add a30 (toNat (1 : Int) * 1)) = some (.int .u8 v31) ∧ br (v31 != 17) (br (decide (k20 > 0)) (R (.bool false) H21) (∃ a32, (if da2c = (toNat (wrap .i64 ((6 : Int) + (wrap .i64 ((3 : Int) * k20))))) then da2p else Option.map (fun x => Addr.add x ((toNat (wrap .i64 ((6 : Int) + (wrap .i64 ((3 : Int) * k20))))) * 1)) da2p) = some a32 ∧ 0 ≤ (1 : Int) ∧ (1 : Int) < ((((toNat (wrap .i64 ((9 : Int) + (wrap .i64 ((3 : Int) * k20))))) - (toNat (wrap .i64 ((6 : Int) + (wrap .i64 ((3 : Int) * k20)))))) : Nat) : Int) ∧ ∃ v33, cell H21 (.add a32 (toNat (1 : Int) * 1)) = some (.int .u8 v33) ∧ br (v33 != 34) (R (.bool false) H21) (∃ a34, (if da2c = (toNat (wrap .i64 ((6 : Int) + (wrap .i64 ((3 : Int) * k20))))) then da2p else Option.map (fun x => Addr.add x ((toNat (wrap .i64 ((6 : Int) + (wrap .i64 ((3 : Int) * k20))))) * 1)) da2p) = some a34 ∧ 0 ≤ (2 : Int) ∧ (2 : Int) < ((((toNat (wrap .i64 ((9 : Int) + (wrap .i64 ((3 : Int) * k20))))) - (toNat (wrap .i64 ((6 : Int) + (wrap .i64 ((3 : Int) * k20)))))) : Nat) : Int) ∧ ∃ v35, cell H21 (.add a34 (toNat (2 : Int) * 1)) = some (.int .u8 v35) ∧ br (decide (v35 > 3))
 (R (.bool false) H21)
 (J22 [] H21)))) (∃ a36, (if da2c = (toNat (wrap .i64 ((6 : Int) + (wrap .i64 ((3 : Int) * k20))))) then da2p else Option.map (fun x => Addr.add x ((toNat (wrap .i64 ((6 : Int) + (wrap .i64 ((3 : Int) * k20))))) * 1)) da2p) = some a36 ∧ 0 ≤ (2 : Int) ∧ (2 : Int) < ((((toNat (wrap .i64 ((9 : Int) + (wrap .i64 ((3 : Int) * k20))))) - (toNat (wrap .i64 ((6 : Int) + (wrap .i64 ((3 : Int) * k20)))))) : Nat) : Int) ∧ ∃ v37, cell H21 (.add a36 (toNat (2 : Int) * 1)) = some (.int .u8 v37) ∧ br (decide (v37 > 3))
 (R (.bool false) H21)
 (J22 [] H21))))
 (∃ a38, da2p = some a38 ∧ 0 ≤ (7 : Int) ∧ (7 : Int) < (da2l : Int) ∧ ∃ v39, cell H21 (.add a38 (toNat (7 : Int) * 1)) = some (.int .u8 v39) ∧ ∃ a40, r1 = some a40 ∧ stAt H21 (.add (.add a40 1) 3) [.bool (v39 == 34)] fun H41 => ∃ a42, r1 = some a42 ∧ ∃ W43, cell H41 (.add (.add a42 1) 0) = some (.int .i64 W43) ∧ ∃ a44, r1 = some a44 ∧ ∃ H45, cell H41 (.add (.add a44 1) 1) = some (.int .i64 H45) ∧ Try.C 22 #[.int .i64 W43, .int .i64 H45] H41 fun r46 H47 => ∃ r48, r46 = .bool r48 ∧ R (.bool r48) H47)) → X19 [.int .i64 k20] H21) → X19 [.int .i64 0] H18) → J3 [] H4) →
 ∃ a49, r1 = some a49 ∧ ∃ se50, cell H (.add a49 6) = some (.bool se50) ∧ br se50 (R (.bool false) H) (br (((da2l : Int) : Int) != 15) (R (.bool false) H) (∃ a51, da2p = some a51 ∧ 0 ≤ (0 : Int) ∧ (0 : Int) < (da2l : Int) ∧ ∃ v52, cell H (.add a51 (toNat (0 : Int) * 1)) = some (.int .u8 v52) ∧ br (v52 != 8) (R (.bool false) H) (∃ a53, da2p = some a53 ∧ 0 ≤ (5 : Int) ∧ (5 : Int) < (da2l : Int) ∧ ∃ v54, cell H (.add a53 (toNat (5 : Int) * 1)) = some (.int .u8 v54) ∧ br (v54 != 3)
 (R (.bool false) H)
 (J3 [] H))))
def Try.p49 : Plan := (tl (two (join [] [0, 1] g0) (tl (tl (two (tl (one (loop [(59, 3)] [0, 1] (tl (two (tl leaf) (two (one (tl (tl (two (join [] [0, 1, 5, 6, 59] g0) leaf)))) leaf)))))) (tl (tl leaf)))))))
theorem Try.s49 {r1 da2p : OA} {da2l da2c : Nat} {H R} (h : Try.S49 r1 da2p da2l da2c H R) : Try.C 49 #[.pointer r1, .slice da2p da2l da2c] H R := vcs Try.tab_ok Try.mixed Try.func49 Try.cal49 Try.p49 h (by kernel_rfl)
def Try.S50 (r1 da2p : OA) (da2l da2c : Nat) (H : Heap) (R : Kv) : Prop :=
 ∀ X3 : Kl, (∀ (da4p : OA) (da4l da4c : Nat) H5, (br (decide (((da4l : Int) : Int) > 0))
 (∀ J6 : Kl, (∀ H7, (0 ≤ (17 : Int) ∧ (17 : Int) ≤ (da4c : Int) ∧ 0 ≤ (1 : Int) ∧ (1 : Int) ≤ (17 : Int) ∧ ∀ X8 : Kl, (∀ (le9p : OA) (le9l le9c : Nat) (n10 : Int) H11, (br (decide (n10 < ((((toNat 17) - (toNat 1)) : Nat) : Int)))
 (∃ a12, (if da4c = (toNat 1) then da4p else Option.map (fun x => Addr.add x ((toNat 1) * 1)) da4p) = some a12 ∧ 0 ≤ n10 ∧ n10 < ((((toNat 17) - (toNat 1)) : Nat) : Int) ∧ ∃ c13, cell H11 (.add a12 (toNat n10 * 1)) = some (.int .u8 c13) ∧ ∀ X14 : Kl, (∀ (le15p : OA) (le15l le15c : Nat) (t16 : Int) H17, (br (decide (t16 < c13))
 (alc H17 (.cells #[.int .i64 (wrap .i64 (n10 + 1))] 3) fun b18 H19 => appQ 1 8 #[.int .i64 0] H19 le15p le15l le15c (some ⟨b18, 0, none⟩) 1 3 fun le20p le20l le20c H21 => X14 [.slice le20p le20l le20c, .int .u8 (wrap .u8 (t16 + 1))] H21)
 (X8 [.slice le15p le15l le15c, .int .i64 (wrap .i64 (n10 + 1))] H17)) → X14 [.slice le15p le15l le15c, .int .u8 t16] H17) → X14 [.slice le9p le9l le9c, .int .u8 0] H11)
 (∀ J22 : Kl, (∀ H23, (Try.C 68 #[.slice le9p le9l le9c] H23 fun r24 H25 => ∃ r26 r27, r24 = .tuple #[.pointer r26, .bool r27] ∧ br (!r27)
 (R (.bool false) H25)
 (∃ a28, da4p = some a28 ∧ 0 ≤ (0 : Int) ∧ (0 : Int) < (da4l : Int) ∧ ∃ v29, cell H25 (.add a28 (toNat (0 : Int) * 1)) = some (.int .u8 v29) ∧ ∃ a30, da4p = some a30 ∧ 0 ≤ (0 : Int) ∧ (0 : Int) < (da4l : Int) ∧ ∃ v31, cell H25 (.add a30 (toNat (0 : Int) * 1)) = some (.int .u8 v31) ∧ 0 ≤ (4 : Int) ∧ 0 ≤ (wrap .i64 ((17 : Int) + (le9l : Int))) ∧ (wrap .i64 ((17 : Int) + (le9l : Int))) ≤ (da4c : Int) ∧ 0 ≤ (17 : Int) ∧ (17 : Int) ≤ (wrap .i64 ((17 : Int) + (le9l : Int))) ∧ ∃ a32, r1 = some a32 ∧ alc H25 (.cells #[.pointer r26, .slice (if da4c = (toNat 17) then da4p else Option.map (fun x => Addr.add x ((toNat 17) * 1)) da4p) ((toNat (wrap .i64 ((17 : Int) + (le9l : Int)))) - (toNat 17)) (da4c - (toNat 17))] 135) fun b33 H34 => (Ext H25 H34 ∨ (∃ v36, cell H34 (.add a30 (toNat (0 : Int) * 1)) = some (.int .u8 v36) ∧ Value.int .u8 v36 = .int .u8 v31) ∧ (∃ v37, cell H34 (.add a28 (toNat (0 : Int) * 1)) = some (.int .u8 v37) ∧ Value.int .u8 v37 = .int .u8 v29)) ∧ 0 ≤ (wrap .u8 ((andI .u8 v29 15) + (wrap .u8 ((shrI .u8 v31 4) * 4)))) ∧ (wrap .u8 ((andI .u8 v29 15) + (wrap .u8 ((shrI .u8 v31 4) * 4)))) < ((8 : Nat) : Int) ∧ stAt H34 (.add (.add a32 14) (toNat (wrap .u8 ((andI .u8 v29 15) + (wrap .u8 ((shrI .u8 v31 4) * 4)))) * 1)) [.pointer (some ⟨b33, 0, none⟩)] fun H35 => 0 ≤ (wrap .i64 ((17 : Int) + (le9l : Int))) ∧ (wrap .i64 ((17 : Int) + (le9l : Int))) ≤ (da4l : Int) ∧ X3 [.slice (if da4c = (toNat (wrap .i64 ((17 : Int) + (le9l : Int)))) then da4p else Option.map (fun x => Addr.add x ((toNat (wrap .i64 ((17 : Int) + (le9l : Int)))) * 1)) da4p) (da4l - (toNat (wrap .i64 ((17 : Int) + (le9l : Int))))) (da4c - (toNat (wrap .i64 ((17 : Int) + (le9l : Int)))))] H35)) → J22 [] H23) →
 br (decide (((da4l : Int) : Int) < (wrap .i64 ((17 : Int) + (le9l : Int))))) (R (.bool false) H11) (br (decide (((le9l : Int) : Int) > 256))
 (R (.bool false) H11)
 (J22 [] H11)))) → X8 [.slice le9p le9l le9c, .int .i64 n10] H11) → X8 [.slice none 0 0, .int .i64 0] H7) → J6 [] H7) →
 br (decide (((da4l : Int) : Int) < 17)) (R (.bool false) H5) (∃ a38, da4p = some a38 ∧ 0 ≤ (0 : Int) ∧ (0 : Int) < (da4l : Int) ∧ ∃ v39, cell H5 (.add a38 (toNat (0 : Int) * 1)) = some (.int .u8 v39) ∧ br (decide (((andI .u8 v39 15) : Int) > 3)) (R (.bool false) H5) (∃ a40, da4p = some a40 ∧ 0 ≤ (0 : Int) ∧ (0 : Int) < (da4l : Int) ∧ ∃ v41, cell H5 (.add a40 (toNat (0 : Int) * 1)) = some (.int .u8 v41) ∧ 0 ≤ (4 : Int) ∧ br (decide (((shrI .u8 v41 4) : Int) > 1))
 (R (.bool false) H5)
 (J6 [] H5))))
 (R (.bool true) H5)) → X3 [.slice da4p da4l da4c] H5) → X3 [.slice da2p da2l da2c] H
def Try.p50 : Plan := (tl (two (one (loop [(1, 22)] [0] (two (tl (tl leaf)) (one (two (join [] [0, 1] g0) (tl (two (tl (one (loop [(5, 48), (34, 3)] [0, 1, 32, 33] (tl (two (tl leaf) (two (one (tl (tl (one (loop [(5, 48), (40, 5)] [0, 1, 6, 32, 33, 34, 39] (tl (two (tl leaf) (two (one leaf) leaf)))))))) leaf)))))) (tl (two (join [] [0, 1, 5, 8] g0) (tl (tg (tl leaf)))))))))))) (tl leaf)))
theorem Try.s50 {r1 da2p : OA} {da2l da2c : Nat} {H R} (h : Try.S50 r1 da2p da2l da2c H R) : Try.C 50 #[.pointer r1, .slice da2p da2l da2c] H R := vcs Try.tab_ok Try.mixed Try.func50 Try.cal50 Try.p50 h (by kernel_rfl)
def Try.S51 (r1 da2p : OA) (da2l da2c : Nat) (H : Heap) (R : Kv) : Prop :=
 alc H (.cells #[.pointer none, .pointer none, .pointer none, .pointer none, .pointer none, .pointer none] 77) fun b3 H4 => ∀ J5 : Kl, (∀ H6, (∀ X7 : Kl, (∀ (k8 : Int) H9, (br (decide (k8 < 3))
 (∃ a10, da2p = some a10 ∧ 0 ≤ (wrap .i64 ((2 : Int) + (wrap .i64 ((2 : Int) * k8)))) ∧ (wrap .i64 ((2 : Int) + (wrap .i64 ((2 : Int) * k8)))) < (da2l : Int) ∧ ∃ v11, cell H9 (.add a10 (toNat (wrap .i64 ((2 : Int) + (wrap .i64 ((2 : Int) * k8)))) * 1)) = some (.int .u8 v11) ∧ 0 ≤ (4 : Int) ∧ ∃ a12, da2p = some a12 ∧ 0 ≤ (wrap .i64 ((2 : Int) + (wrap .i64 ((2 : Int) * k8)))) ∧ (wrap .i64 ((2 : Int) + (wrap .i64 ((2 : Int) * k8)))) < (da2l : Int) ∧ ∃ v13, cell H9 (.add a12 (toNat (wrap .i64 ((2 : Int) + (wrap .i64 ((2 : Int) * k8)))) * 1)) = some (.int .u8 v13) ∧ ∀ J14 : Kl, (∀ H15, (∃ a16, r1 = some a16 ∧ 0 ≤ (shrI .u8 v11 4) ∧ (shrI .u8 v11 4) < ((8 : Nat) : Int) ∧ ∃ v17, cell H15 (.add (.add a16 14) (toNat (shrI .u8 v11 4) * 1)) = some (.pointer v17) ∧ ∃ a18, r1 = some a18 ∧ 0 ≤ (wrap .u8 ((andI .u8 v13 15) + 4)) ∧ (wrap .u8 ((andI .u8 v13 15) + 4)) < ((8 : Nat) : Int) ∧ ∃ v19, cell H15 (.add (.add a18 14) (toNat (wrap .u8 ((andI .u8 v13 15) + 4)) * 1)) = some (.pointer v19) ∧ 0 ≤ k8 ∧ k8 < ((3 : Nat) : Int) ∧ #[Value.pointer v17, Value.pointer v19].size = 2 ∧ stAt H15 (.add ⟨b3, 0, none⟩ (toNat k8 * 2)) (Array.toList #[.pointer v17, .pointer v19]) fun H20 => 0 ≤ k8 ∧ k8 < ((3 : Nat) : Int) ∧ 0 ≤ (0 : Int) ∧ (0 : Int) < ((2 : Nat) : Int) ∧ ∃ v21, cell H20 (.add (.add ⟨b3, 0, none⟩ (toNat k8 * 2)) (toNat (0 : Int) * 1)) = some (.pointer v21) ∧ br (Option.isNone v21) (∃ v22, v22.size = 6 ∧ rowIn H20 ⟨b3, 0, none⟩ v22 ∧ v22.size = 6 ∧ stAt H20 ⟨b3, 0, none⟩ v22.toList fun H23 => ∃ re24, re24.size = 6 ∧ rowIn H23 ⟨b3, 0, none⟩ re24 ∧ R (.tuple #[.agg re24, .bool false]) H23) (0 ≤ k8 ∧ k8 < ((3 : Nat) : Int) ∧ 0 ≤ (1 : Int) ∧ (1 : Int) < ((2 : Nat) : Int) ∧ ∃ v25, cell H20 (.add (.add ⟨b3, 0, none⟩ (toNat k8 * 2)) (toNat (1 : Int) * 1)) = some (.pointer v25) ∧ br (Option.isNone v25)
 (∃ v26, v26.size = 6 ∧ rowIn H20 ⟨b3, 0, none⟩ v26 ∧ v26.size = 6 ∧ stAt H20 ⟨b3, 0, none⟩ v26.toList fun H27 => ∃ re28, re28.size = 6 ∧ rowIn H27 ⟨b3, 0, none⟩ re28 ∧ R (.tuple #[.agg re28, .bool false]) H27)
 (X7 [.int .i64 (wrap .i64 (k8 + 1))] H20))) → J14 [] H15) →
 ∃ a29, da2p = some a29 ∧ 0 ≤ (wrap .i64 ((1 : Int) + (wrap .i64 ((2 : Int) * k8)))) ∧ (wrap .i64 ((1 : Int) + (wrap .i64 ((2 : Int) * k8)))) < (da2l : Int) ∧ ∃ v30, cell H9 (.add a29 (toNat (wrap .i64 ((1 : Int) + (wrap .i64 ((2 : Int) * k8)))) * 1)) = some (.int .u8 v30) ∧ br (((wrap .i64 v30) : Int) != (wrap .i64 (k8 + 1))) (∃ v31, v31.size = 6 ∧ rowIn H9 ⟨b3, 0, none⟩ v31 ∧ v31.size = 6 ∧ stAt H9 ⟨b3, 0, none⟩ v31.toList fun H32 => ∃ re33, re33.size = 6 ∧ rowIn H32 ⟨b3, 0, none⟩ re33 ∧ R (.tuple #[.agg re33, .bool false]) H32) (br (decide (((shrI .u8 v11 4) : Int) > 3)) (∃ v34, v34.size = 6 ∧ rowIn H9 ⟨b3, 0, none⟩ v34 ∧ v34.size = 6 ∧ stAt H9 ⟨b3, 0, none⟩ v34.toList fun H35 => ∃ re36, re36.size = 6 ∧ rowIn H35 ⟨b3, 0, none⟩ re36 ∧ R (.tuple #[.agg re36, .bool false]) H35) (br (decide (((andI .u8 v13 15) : Int) > 3)) (∃ v37, v37.size = 6 ∧ rowIn H9 ⟨b3, 0, none⟩ v37 ∧ v37.size = 6 ∧ stAt H9 ⟨b3, 0, none⟩ v37.toList fun H38 => ∃ re39, re39.size = 6 ∧ rowIn H38 ⟨b3, 0, none⟩ re39 ∧ R (.tuple #[.agg re39, .bool false]) H38) (∃ a40, r1 = some a40 ∧ 0 ≤ k8 ∧ k8 < ((3 : Nat) : Int) ∧ ∃ v41, cell H9 (.add (.add a40 7) (toNat k8 * 1)) = some (.int .i64 v41) ∧ ∃ a42, r1 = some a42 ∧ 0 ≤ v41 ∧ v41 < ((4 : Nat) : Int) ∧ ∃ v43, cell H9 (.add (.add a42 10) (toNat v41 * 1)) = some (.pointer v43) ∧ br (Option.isNone v43)
 (∃ v44, v44.size = 6 ∧ rowIn H9 ⟨b3, 0, none⟩ v44 ∧ v44.size = 6 ∧ stAt H9 ⟨b3, 0, none⟩ v44.toList fun H45 => ∃ re46, re46.size = 6 ∧ rowIn H45 ⟨b3, 0, none⟩ re46 ∧ R (.tuple #[.agg re46, .bool false]) H45)
 (J14 [] H9)))))
 (∃ v47, v47.size = 6 ∧ rowIn H9 ⟨b3, 0, none⟩ v47 ∧ v47.size = 6 ∧ stAt H9 ⟨b3, 0, none⟩ v47.toList fun H48 => ∃ re49, re49.size = 6 ∧ rowIn H48 ⟨b3, 0, none⟩ re49 ∧ R (.tuple #[.agg re49, .bool true]) H48)) → X7 [.int .i64 k8] H9) → X7 [.int .i64 0] H6) → J5 [] H6) →
 ∃ a50, r1 = some a50 ∧ ∃ se51, cell H4 (.add a50 6) = some (.bool se51) ∧ br (!se51) (∃ v52, v52.size = 6 ∧ rowIn H4 ⟨b3, 0, none⟩ v52 ∧ v52.size = 6 ∧ stAt H4 ⟨b3, 0, none⟩ v52.toList fun H53 => ∃ re54, re54.size = 6 ∧ rowIn H53 ⟨b3, 0, none⟩ re54 ∧ R (.tuple #[.agg re54, .bool false]) H53) (br (((da2l : Int) : Int) != 10) (∃ v55, v55.size = 6 ∧ rowIn H4 ⟨b3, 0, none⟩ v55 ∧ v55.size = 6 ∧ stAt H4 ⟨b3, 0, none⟩ v55.toList fun H56 => ∃ re57, re57.size = 6 ∧ rowIn H56 ⟨b3, 0, none⟩ re57 ∧ R (.tuple #[.agg re57, .bool false]) H56) (∃ a58, da2p = some a58 ∧ 0 ≤ (0 : Int) ∧ (0 : Int) < (da2l : Int) ∧ ∃ v59, cell H4 (.add a58 (toNat (0 : Int) * 1)) = some (.int .u8 v59) ∧ br (v59 != 3) (∃ v60, v60.size = 6 ∧ rowIn H4 ⟨b3, 0, none⟩ v60 ∧ v60.size = 6 ∧ stAt H4 ⟨b3, 0, none⟩ v60.toList fun H61 => ∃ re62, re62.size = 6 ∧ rowIn H61 ⟨b3, 0, none⟩ re62 ∧ R (.tuple #[.agg re62, .bool false]) H61) (∃ a63, da2p = some a63 ∧ 0 ≤ (7 : Int) ∧ (7 : Int) < (da2l : Int) ∧ ∃ v64, cell H4 (.add a63 (toNat (7 : Int) * 1)) = some (.int .u8 v64) ∧ br (v64 != 0) (∃ v65, v65.size = 6 ∧ rowIn H4 ⟨b3, 0, none⟩ v65 ∧ v65.size = 6 ∧ stAt H4 ⟨b3, 0, none⟩ v65.toList fun H66 => ∃ re67, re67.size = 6 ∧ rowIn H66 ⟨b3, 0, none⟩ re67 ∧ R (.tuple #[.agg re67, .bool false]) H66) (∃ a68, da2p = some a68 ∧ 0 ≤ (8 : Int) ∧ (8 : Int) < (da2l : Int) ∧ ∃ v69, cell H4 (.add a68 (toNat (8 : Int) * 1)) = some (.int .u8 v69) ∧ br (v69 != 63) (∃ v70, v70.size = 6 ∧ rowIn H4 ⟨b3, 0, none⟩ v70 ∧ v70.size = 6 ∧ stAt H4 ⟨b3, 0, none⟩ v70.toList fun H71 => ∃ re72, re72.size = 6 ∧ rowIn H71 ⟨b3, 0, none⟩ re72 ∧ R (.tuple #[.agg re72, .bool false]) H71) (∃ a73, da2p = some a73 ∧ 0 ≤ (9 : Int) ∧ (9 : Int) < (da2l : Int) ∧ ∃ v74, cell H4 (.add a73 (toNat (9 : Int) * 1)) = some (.int .u8 v74) ∧ br (v74 != 0)
 (∃ v75, v75.size = 6 ∧ rowIn H4 ⟨b3, 0, none⟩ v75 ∧ v75.size = 6 ∧ stAt H4 ⟨b3, 0, none⟩ v75.toList fun H76 => ∃ re77, re77.size = 6 ∧ rowIn H76 ⟨b3, 0, none⟩ re77 ∧ R (.tuple #[.agg re77, .bool false]) H76)
 (J5 [] H4))))))
def Try.p51 : Plan := (tl (two (join [] [0, 1, 4] g0) (two (tl (one (loop [(44, 3)] [0, 1, 4] (tl (two (tl leaf) (two (one (tl (tl (two (join [] [0, 1, 4, 6, 7, 8, 44] g0) (tl g0))))) leaf)))))) (tl leaf))))
theorem Try.s51 {r1 da2p : OA} {da2l da2c : Nat} {H R} (h : Try.S51 r1 da2p da2l da2c H R) : Try.C 51 #[.pointer r1, .slice da2p da2l da2c] H R := vcs Try.tab_ok Try.mixed Try.func51 Try.cal51 Try.p51 h (by kernel_rfl)
def Try.S52 (u1 t2 : OA) (H : Heap) (R : Kv) : Prop :=
 ∀ X3 : Kl, (∀ (st4 : Int) H5, (∃ a6, u1 = some a6 ∧ ∃ r7, cell H5 (.add a6 0) = some (.pointer r7) ∧ Try.C 69 #[.pointer r7, .int .i64 1] H5 fun r8 H9 => ∃ r10 r11, r8 = .tuple #[.int .i64 r10, .bool r11] ∧ br (!r11)
 (∃ a12, u1 = some a12 ∧ stAt H9 (.add a12 1) [.bool false] fun H13 => R (.int .i64 0) H13)
 (∃ a14, t2 = some a14 ∧ ∃ d15, cell H9 (.add a14 0) = some (.pointer d15) ∧ Try.C 70 #[.pointer d15, .int .i64 st4, .int .i64 r10] H9 fun r16 H17 => ∃ r18 r19, r16 = .tuple #[.int .i64 r18, .int .i64 r19] ∧ br (decide (r18 < 0))
 (∃ a20, u1 = some a20 ∧ stAt H17 (.add a20 1) [.bool false] fun H21 => R (.int .i64 0) H21)
 (br (decide (r19 ≥ 0))
 (∃ a22, t2 = some a22 ∧ ∃ sy23p sy23l sy23c, cell H17 (.add a22 1) = some (.slice sy23p sy23l sy23c) ∧ ∃ a24, sy23p = some a24 ∧ 0 ≤ r19 ∧ r19 < (sy23l : Int) ∧ ∃ v25, cell H17 (.add a24 (toNat r19 * 1)) = some (.int .u8 v25) ∧ R (.int .i64 (wrap .i64 v25)) H17)
 (X3 [.int .i64 r18] H17)))) → X3 [.int .i64 st4] H5) → X3 [.int .i64 0] H
def Try.p52 : Plan := (tl (tl (one (loop [(5, 3)] [0, 1] (one (tl (two (tl (two (tl (tl leaf)) leaf)) (tl (two (tl (two (tl (tl leaf)) leaf)) (tg leaf))))))))))
theorem Try.s52 {u1 t2 : OA} {H R} (h : Try.S52 u1 t2 H R) : Try.C 52 #[.pointer u1, .pointer t2] H R := vcs Try.tab_ok Try.mixed Try.func52 Try.cal52 Try.p52 h (by kernel_rfl)
def Try.S53 (v1 : Int) (H : Heap) (R : Kv) : Prop :=
 R (.int .i64 (min 32767 (max (-32768 : Int) v1))) H
def Try.p53 : Plan := (tl (tl leaf))
theorem Try.s53 {v1 : Int} {H R} (h : Try.S53 v1 H R) : Try.C 53 #[.int .i64 v1] H R := vcs Try.tab_ok Try.mixed Try.func53 Try.cal53 Try.p53 h (by kernel_rfl)
def Try.S54 (u1 : OA) (si2 : Int) (H : Heap) (R : Kv) : Prop :=
 ∃ a3, u1 = some a3 ∧ ∃ r4, cell H (.add a3 0) = some (.pointer r4) ∧ Try.C 69 #[.pointer r4, .int .i64 si2] H fun r5 H6 => ∃ r7 r8, r5 = .tuple #[.int .i64 r7, .bool r8] ∧ ∀ J9 : Kl, (∀ H10, (br (decide (si2 > 0)) (0 ≤ (wrap .i64 (si2 - 1)) ∧ br (decide (r7 < (shlI .i64 1 (wrap .i64 (si2 - 1)))))
 (0 ≤ si2 ∧ R (.int .i64 (wrap .i64 ((wrap .i64 (r7 - (shlI .i64 1 si2))) + 1))) H10)
 (R (.int .i64 r7) H10)) (R (.int .i64 r7) H10)) → J9 [] H10) →
 ∃ a11, u1 = some a11 ∧ ∃ ok12, cell H6 (.add a11 1) = some (.bool ok12) ∧ br ok12 (∃ a13, u1 = some a13 ∧ stAt H6 (.add a13 1) [.bool r8] fun H14 => J9 [] H14) (∃ a15, u1 = some a15 ∧ stAt H6 (.add a15 1) [.bool false] fun H16 => J9 [] H16)
def Try.p54 : Plan := (tl (tl (two (join [] [1, 5] leaf) (tg (tl leaf)))))
theorem Try.s54 {u1 : OA} {si2 : Int} {H R} (h : Try.S54 u1 si2 H R) : Try.C 54 #[.pointer u1, .int .i64 si2] H R := vcs Try.tab_ok Try.mixed Try.func54 Try.cal54 Try.p54 h (by kernel_rfl)
def Try.S55 (f1 : AV) (H : Heap) (R : Kv) : Prop :=
 alc H (.cells f1 40) fun b2 H3 => alc H3 (.cells (Array.replicate 64 (Value.int .i64 0)) 40) fun b4 H5 => Try.C 45 #[] H5 fun r6 H7 => ∃ r8, r6 = .agg r8 ∧ alc H7 (.cells (Array.replicate 64 (Value.int .i64 0)) 106) fun b9 H10 => r8.size = 64 ∧ stAt H10 ⟨b9, 0, none⟩ r8.toList fun H11 => alc H11 (.cells (Array.replicate 64 (Value.int .i64 0)) 40) fun b12 H13 => alc H13 (.cells (Array.replicate 64 (Value.int .i64 0)) 40) fun b14 H15 => ∀ X16 : Kl, (∀ (i17 : Int) H18, (br (decide (i17 < 64))
 (∀ X19 : Kl, (∀ (u20 : Int) H21, (br (decide (u20 < 8))
 (0 ≤ i17 ∧ i17 < ((64 : Nat) : Int) ∧ ∃ v22, cell H21 (.add ⟨b12, 0, none⟩ (toNat i17 * 1)) = some (.int .i64 v22) ∧ (8 : Int) ≠ 0 ∧ 0 ≤ (wrap .i64 ((wrap .i64 ((wrap .i64 (Int.tdiv i17 8)) * 8)) + u20)) ∧ (wrap .i64 ((wrap .i64 ((wrap .i64 (Int.tdiv i17 8)) * 8)) + u20)) < ((64 : Nat) : Int) ∧ ∃ v23, cell H21 (.add ⟨b2, 0, none⟩ (toNat (wrap .i64 ((wrap .i64 ((wrap .i64 (Int.tdiv i17 8)) * 8)) + u20)) * 1)) = some (.int .i64 v23) ∧ (8 : Int) ≠ 0 ∧ 0 ≤ u20 ∧ u20 < ((8 : Nat) : Int) ∧ 0 ≤ (Int.tmod i17 8) ∧ (Int.tmod i17 8) < ((8 : Nat) : Int) ∧ ∃ v24, cell H21 (.add (.add ⟨b9, 0, none⟩ (toNat u20 * 8)) (toNat (Int.tmod i17 8) * 1)) = some (.int .i64 v24) ∧ 0 ≤ i17 ∧ i17 < ((64 : Nat) : Int) ∧ stAt H21 (.add ⟨b12, 0, none⟩ (toNat i17 * 1)) [.int .i64 (wrap .i64 (v22 + (wrap .i64 (v23 * v24))))] fun H25 => X19 [.int .i64 (wrap .i64 (u20 + 1))] H25)
 (X16 [.int .i64 (wrap .i64 (i17 + 1))] H21)) → X19 [.int .i64 u20] H21) → X19 [.int .i64 0] H18)
 (∀ X26 : Kl, (∀ (i27 : Int) H28, (br (decide (i27 < 64))
 (∀ X29 : Kl, (∀ (su30 v31 : Int) H32, (br (decide (v31 < 8))
 ((8 : Int) ≠ 0 ∧ 0 ≤ (wrap .i64 ((wrap .i64 (v31 * 8)) + (Int.tmod i27 8))) ∧ (wrap .i64 ((wrap .i64 (v31 * 8)) + (Int.tmod i27 8))) < ((64 : Nat) : Int) ∧ ∃ v33, cell H32 (.add ⟨b12, 0, none⟩ (toNat (wrap .i64 ((wrap .i64 (v31 * 8)) + (Int.tmod i27 8))) * 1)) = some (.int .i64 v33) ∧ (8 : Int) ≠ 0 ∧ 0 ≤ v31 ∧ v31 < ((8 : Nat) : Int) ∧ 0 ≤ (wrap .i64 (Int.tdiv i27 8)) ∧ (wrap .i64 (Int.tdiv i27 8)) < ((8 : Nat) : Int) ∧ ∃ v34, cell H32 (.add (.add ⟨b9, 0, none⟩ (toNat v31 * 8)) (toNat (wrap .i64 (Int.tdiv i27 8)) * 1)) = some (.int .i64 v34) ∧ X29 [.int .i64 (wrap .i64 (su30 + (wrap .i64 (v33 * v34)))), .int .i64 (wrap .i64 (v31 + 1))] H32)
 (Try.C 46 #[.int .i64 su30] H32 fun r35 H36 => ∃ r37, r35 = .int .i64 r37 ∧ 0 ≤ i27 ∧ i27 < ((64 : Nat) : Int) ∧ stAt H36 (.add ⟨b14, 0, none⟩ (toNat i27 * 1)) [.int .i64 r37] fun H38 => X26 [.int .i64 (wrap .i64 (i27 + 1))] H38)) → X29 [.int .i64 su30, .int .i64 v31] H32) → X29 [.int .i64 0, .int .i64 0] H28)
 (∃ v39, v39.size = 64 ∧ rowIn H28 ⟨b14, 0, none⟩ v39 ∧ v39.size = 64 ∧ stAt H28 ⟨b4, 0, none⟩ v39.toList fun H40 => ∃ re41, re41.size = 64 ∧ rowIn H40 ⟨b4, 0, none⟩ re41 ∧ R (.agg re41) H40)) → X26 [.int .i64 i27] H28) → X26 [.int .i64 0] H18)) → X16 [.int .i64 i17] H18) → X16 [.int .i64 0] H15
def Try.p55 : Plan := (tl (tl (tl (two (tl (one (loop [(12, 3)] [1, 2, 3, 4, 5] (tl (two (tl leaf) (two (one (tl (tl (one (loop [(15, 3)] [1, 2, 3, 4, 5, 6, 12] (tl (two (tl leaf) (two (one (tl leaf)) leaf)))))))) leaf)))))) (two (tl (one (loop [(39, 3)] [2, 3, 4, 5] (tl (two (tl leaf) (two (one (tl (tl (two (tl (one (loop [(9, 3), (42, 3)] [2, 3, 4, 5, 8, 39] (tl (two (tl leaf) (two (one (tl leaf)) leaf)))))) leaf)))) leaf)))))) (tl leaf))))))
theorem Try.s55 {f1 : AV} {H R} (h : Try.S55 f1 H R) : Try.C 55 #[.agg f1] H R := vcs Try.tab_ok Try.mixed Try.func55 Try.cal55 Try.p55 h (by kernel_rfl)
end Go.Proofs
