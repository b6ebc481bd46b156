/-
  OWN WORK. Several texts in one: ShP, ShL, TileW, TileStay, ShS, ShT, ShU, TrA, GTab, GFunA, GFunB, GFunC, GFunD, GFunE.
-/
import Derived.Test.YtgkfijgdkegdkaaGreatMgRenderRegionA
import Derived.ProofKit
import Derived.OpenShut
import Derived.Test.YtgkfijgdkegdkaaGreatProg
import Derived.KernelRfl

set_option linter.unusedSimpArgs false
set_option linter.unusedVariables false
set_option maxRecDepth 100000
namespace Go.Sh
def br (t : Bool) (A B : Prop) : Prop := (t = true → A) ∧ (t = false → B)
def alc (H : Heap) (o : Obj) (K : Nat → Heap → Prop) : Prop := K H.size (H.push o)
abbrev OA := Option Addr
abbrev AV := Array Value
abbrev Kv := Value → Heap → Prop
abbrev Kl := List Value → Heap → Prop
namespace Plan
def tl (a : Plan) : Plan := two leaf a
def g0 : Plan := tl (two (tl leaf) leaf)
def tg (a : Plan) : Plan := two g0 a
end Plan
theorem vcs {P : Program} {T : Tab} (hT : TabOk P T) (hm : P.follows .mixedOrders = true) {g : FuncId} {fn : Func} (hg : P.funcs[g]? = some fn) (hc : callable P g) (p : Plan) {args : Array Value} {H : Heap}
    {R : Value → Heap → Prop} {A : Prop} (h : A) (e : A = vcFun P T fn p args.toList H R) : CallsH P g args H R := by
  have := vcFun_sound hT hm hg hc (p := p) (args := args.toList) (H := H) (R := R) (Eq.mp e h)
  simpa using this
end Go.Sh
namespace Go.Sh
theorem br_i {t : Bool} {A B : Prop} (h : t = true → A) (h' : t = false → B) : br t A B := ⟨h, h'⟩
theorem br_dec {p : Prop} [Decidable p] {A B : Prop} (h : p → A) (h' : ¬ p → B) : br (decide p) A B := ⟨fun e => h (of_decide_eq_true e), fun e => h' (of_decide_eq_false e)⟩
theorem br_eq {a b : Int} {A B : Prop} (h : a = b → A) (h' : a ≠ b → B) : br (a == b) A B := ⟨fun e => h (by simpa using e), fun e => h' (by simpa using e)⟩
theorem br_ne {a b : Int} {A B : Prop} (h : a ≠ b → A) (h' : a = b → B) : br (a != b) A B := ⟨fun e => h (by simpa using e), fun e => h' (by simpa using e)⟩
theorem br_not {t : Bool} {A B : Prop} (h : t = false → A) (h' : t = true → B) : br (!t) A B := ⟨fun e => h (by simpa using e), fun e => h' (by simpa using e)⟩
theorem br_true {A B : Prop} (h : A) : br true A B := ⟨fun _ => h, fun e => (by cases e)⟩
theorem br_false {A B : Prop} (h : B) : br false A B := ⟨fun e => (by cases e), fun _ => h⟩
theorem br_t {t : Bool} {A B : Prop} (ht : t = true) (h : A) : br t A B := by subst ht; exact br_true h
theorem br_f {t : Bool} {A B : Prop} (ht : t = false) (h : B) : br t A B := by subst ht; exact br_false h
theorem br_y {p : Prop} [Decidable p] {A B : Prop} (hp : p) (h : A) : br (decide p) A B := br_dec (fun _ => h) (fun n => absurd hp n)
theorem br_n {p : Prop} [Decidable p] {A B : Prop} (hp : ¬ p) (h : B) : br (decide p) A B := br_dec (fun y => absurd y hp) (fun _ => h)
theorem br_none {α : Type} {p : Option α} {A B : Prop} (h : p = none → A) (h' : ∀ a, p = some a → B) : br (Option.isNone p) A B := by
 cases p with
 | none => exact br_true (h rfl)
 | some a => exact br_false (h' a rfl)
theorem lt_of_get {H : Heap} {b : Nat} {o : Obj} (h : H[b]? = some o) : b < H.size := (Array.getElem?_eq_some_iff.1 h).1
theorem get_push_self (H : Heap) (o : Obj) : (H.push o)[H.size]? = some o := by simp
theorem get_push {H : Heap} {b : Nat} {o x : Obj} (h : H[b]? = some x) : (H.push o)[b]? = some x := Ext.push H o b x h
theorem get_set_ne {H : Heap} {b r : Nat} {o x : Obj} (hne : r ≠ b) (h : H[b]? = some x) : (H.setIfInBounds r o)[b]? = some x := by
 rw [Array.getElem?_setIfInBounds_ne hne]; exact h
theorem get_set_self {H : Heap} {r : Nat} {o x : Obj} (h : H[r]? = some x) : (H.setIfInBounds r o)[r]? = some o := by
 rw [Array.getElem?_setIfInBounds_self_of_lt (lt_of_get h)]
theorem cell_block {H : Heap} {b i : Nat} {c : Array Value} {t : TypeId} {f : Nat × Nat} (h : H[b]? = some (.cells c t f)) : cell H ⟨b, i, none⟩ = c[i]? := by
 simp [cell, h]
theorem cell_get {H : Heap} {b i : Nat} {c : Array Value} {t : TypeId} {f : Nat × Nat} {v : Value} (h : H[b]? = some (.cells c t f)) (hv : c[i]? = some v) : cell H ⟨b, i, none⟩ = some v := by
 rw [cell_block h]; exact hv
@[simp] theorem add_none (b i n : Nat) : Addr.add ⟨b, i, none⟩ n = ⟨b, i + n, none⟩ := by
 unfold Addr.add; split <;> simp_all
theorem rowIn_block {H : Heap} {b i : Nat} {c cs : Array Value} {t : TypeId} {f : Nat × Nat} (h : H[b]? = some (.cells c t f)) (hc : ∀ j v, cs[j]? = some v → c[i + j]? = some v) :
    rowIn H ⟨b, i, none⟩ cs := by
  intro j v hv
  rw [add_none, cell_block h]
  exact hc j v hv
theorem rowIn_whole {H : Heap} {b : Nat} {c : Array Value} {t : TypeId} {f : Nat × Nat} (h : H[b]? = some (.cells c t f)) : rowIn H ⟨b, 0, none⟩ c :=
 rowIn_block h fun j v hv => by rw [Nat.zero_add]; exact hv
theorem stAt_one {H : Heap} {b i : Nat} {c : Array Value} {t : TypeId} {v : Value} {f : Heap → Prop} (h : H[b]? = some (.cells c t (0, 0))) (hi : i < c.size) (ho : v.oneCell' = true)
    (hf : f (H.setIfInBounds b (.cells (c.setIfInBounds i v) t (0, 0)))) : stAt H ⟨b, i, none⟩ [v] f := by
  refine ⟨c, t, h, rfl, (by simp; omega), by simpa using ho, ?_⟩
  have : (setL c.toList i [v]).toArray = c.setIfInBounds i v := by
    rw [setL_one (by simpa using hi)]
    apply Array.toList_inj.1
    simp
  simp only [this]
  exact hf
theorem stAt_whole {H : Heap} {b : Nat} {c : Array Value} {t : TypeId} {vs : List Value} {f : Heap → Prop} (h : H[b]? = some (.cells c t (0, 0))) (hl : vs.length = c.size) (ho : ∀ v ∈ vs, v.oneCell' = true)
    (hf : f (H.setIfInBounds b (.cells vs.toArray t (0, 0)))) : stAt H ⟨b, 0, none⟩ vs f := by
  refine ⟨c, t, h, rfl, by simp; omega, ho, ?_⟩
  have : setL c.toList 0 vs = vs := by simp [setL, hl]
  simp only [this]
  exact hf
theorem wrap_id {n : Int} (h0 : -9223372036854775808 ≤ n) (h1 : n ≤ 9223372036854775807) : IntKind.wrap .i64 n = n := wrap_i64 h0 h1
theorem wrap_u8 {n : Int} (h0 : 0 ≤ n) (h1 : n < 256) : IntKind.wrap .u8 n = n := by
 simp only [IntKind.wrap, IntKind.signed, IntKind.bits]; simp; omega
end Go.Sh
namespace Go.Sh
open Go.RowKit
theorem grown_of {W w' : World} (hos : w'.os = W.os) (ho : Out W w') (hx : Ext W.heap w'.heap) : Grown W w' := by
 refine ⟨⟨hos, ho.output, fun i hi => ?_⟩, ho.froz, hx.size⟩
 obtain ⟨o, h⟩ : ∃ o, W.heap[i]? = some o := ⟨_, Array.getElem?_eq_getElem hi⟩
 rw [hx i o h, h]
 cases o with
 | cells c t fr => exact ⟨rfl, rfl, rfl, fun _ _ => rfl⟩
 | map es k => exact .inr ⟨rfl, rfl⟩
 | _ => rfl
end Go.Sh
namespace Go.Sh
open Go.RowKit Go.ChangeShapes Go.WideShapes Go.ChangeAt
section
variable {H : Type} {enc : TypeId × Value → H} {P : Program} {W W' : World}
theorem same_of (hx : Ext W.heap W'.heap) {p : MemPlace} (hp : p.block < W.heap.size) : W.sameAt W' p := by
 have h : W'.heap[p.block]? = W.heap[p.block]? := by
  obtain ⟨o, h⟩ : ∃ o, W.heap[p.block]? = some o := ⟨_, Array.getElem?_eq_getElem hp⟩
  rw [hx _ o h, h]
 cases p with
 | cell b o => exact World.cell?_of_block (w := W) h
 | map b => exact h
theorem trodAll_ext (hl : laidOutB P = true) (hx : Ext W.heap W'.heap) {sp : Nat → Bool} : ∀ {ts : List TypeId} {vs : List Value} {ds : List (DataW H)} {ps : List MemPlace}, (ts.all fun t => P.readableRec t && decide (t < P.types.size)) = true →
    DataW.TrodAll enc P W 0 (fun _ => true) true ts vs ds ps → (∀ x ∈ ps, x.block < W.heap.size) → (∀ x ∈ ps, sp x.block = true) → DataW.TrodAll enc P W' 0 sp true ts vs ds ps
  | [], vs, ds, ps, _, h, _, _ => by
    obtain ⟨rfl, rfl, rfl⟩ := trodAll_nil h
    exact trodAll_mk0
  | t :: ts, vs, ds, ps, hr, h, hlt, hs => by
    obtain ⟨v, vs1, d, ds1, a, b, rfl, rfl, rfl, h1, h2⟩ := trodAll_cons h
    simp only [List.all_cons, Bool.and_eq_true, decide_eq_true_eq] at hr
    exact trodAll_cons_mk (WideElems.Trod_stays hl hr.1.1 hr.1.2 h1 (fun x hx' => same_of hx (hlt x (List.mem_append_left _ hx'))) (fun x hx' => hs x (List.mem_append_left _ hx')))
      (trodAll_ext hl hx (by simpa using hr.2) h2 (fun x hx' => hlt x (List.mem_append_right _ hx')) (fun x hx' => hs x (List.mem_append_right _ hx')))
theorem wf_range {a : Int} (h : (Lit.int .i64 a).wf = true) : -9223372036854775808 ≤ a ∧ a ≤ 9223372036854775807 := by
 simpa [Lit.wf, IntKind.min, IntKind.max, IntKind.signed, IntKind.bits] using h
end
end Go.Sh
namespace Go.Sh
def ints (l : List Int) : List Value := l.map (Value.int .i64)
theorem ints_get {l : List Int} {i : Nat} {v : Int} (h : l[i]? = some v) : (ints l)[i]? = some (Value.int .i64 v) := by simp [ints, h]
theorem ints_len (l : List Int) : (ints l).length = l.length := by simp [ints]
theorem ints_append (a b : List Int) : ints (a ++ b) = ints a ++ ints b := by simp [ints]
theorem ints_set (l : List Int) (i : Nat) (v : Int) : (ints l).set i (.int .i64 v) = ints (l.set i v) := by simp [ints]
theorem ints_one (l : List Int) : ∀ v ∈ ints l, v.oneCell' = true := fun v hv => by
 obtain ⟨x, _, rfl⟩ := List.mem_map.1 hv; rfl
structure RS (H : Heap) (p : Option Addr) (l : Nat) (el : TypeId) (k : Nat) (fs : List Value) : Prop where
 len : fs.length = l * k
 one : ∀ v ∈ fs, v.oneCell' = true
 at_ : l = 0 ∨ ∃ blk cs, p = some ⟨blk, 0, none⟩ ∧ H[blk]? = some (.cells cs el) ∧ ∀ (i : Nat) v, fs[i]? = some v → cs[i]? = some v
structure FS (n0 : Nat) (H : Heap) (p : Option Addr) (l c : Nat) (el : TypeId) (k : Nat) (fs : List Value) : Prop where
 len : fs.length = l * k
 le : l ≤ c
 one : ∀ v ∈ fs, v.oneCell' = true
 at_ : (p = none ∧ c = 0) ∨ ∃ blk cs, p = some ⟨blk, 0, none⟩ ∧ n0 ≤ blk ∧ H[blk]? = some (.cells cs el) ∧ cs.size = c * k ∧ ∀ (i : Nat) v, fs[i]? = some v → cs[i]? = some v
theorem FS.rs {n0 : Nat} {H : Heap} {p : Option Addr} {l c : Nat} {el : TypeId} {k : Nat} {fs : List Value} (h : FS n0 H p l c el k fs) : RS H p l el k fs := by
 refine ⟨h.len, h.one, ?_⟩
 rcases h.at_ with ⟨_, h2⟩ | ⟨blk, cs, h1, _, h3, _, h5⟩
 ·left; have := h.le; omega
 ·exact .inr ⟨blk, cs, h1, h3, h5⟩
theorem RS.keep {H H' : Heap} {p : Option Addr} {l : Nat} {el : TypeId} {k : Nat} {fs : List Value} (h : RS H p l el k fs) (hk : ∀ b cs, p = some ⟨b, 0, none⟩ → H[b]? = some (.cells cs el) → H'[b]? = some (.cells cs el)) : RS H' p l el k fs := by
 refine ⟨h.len, h.one, ?_⟩
 rcases h.at_ with h1 | ⟨blk, cs, h1, h3, h5⟩
 ·exact .inl h1
 ·exact .inr ⟨blk, cs, h1, hk _ _ h1 h3, h5⟩
theorem RS.ext {H H' : Heap} {p : Option Addr} {l : Nat} {el : TypeId} {k : Nat} {fs : List Value} (h : RS H p l el k fs) (he : Ext H H') : RS H' p l el k fs := h.keep fun b cs _ hb => he _ _ hb
theorem FS.keep {n0 : Nat} {H H' : Heap} {p : Option Addr} {l c : Nat} {el : TypeId} {k : Nat} {fs : List Value} (h : FS n0 H p l c el k fs) (hk : ∀ b cs, p = some ⟨b, 0, none⟩ → H[b]? = some (.cells cs el) → H'[b]? = some (.cells cs el)) : FS n0 H' p l c el k fs := by
 refine ⟨h.len, h.le, h.one, ?_⟩
 rcases h.at_ with h1 | ⟨blk, cs, h1, h2, h3, h5⟩
 ·exact .inl h1
 ·exact .inr ⟨blk, cs, h1, h2, hk _ _ h1 h3, h5⟩
theorem FS.ext {n0 : Nat} {H H' : Heap} {p : Option Addr} {l c : Nat} {el : TypeId} {k : Nat} {fs : List Value} (h : FS n0 H p l c el k fs) (he : Ext H H') : FS n0 H' p l c el k fs := h.keep fun b cs _ hb => he _ _ hb
theorem FS.lower {n0 n1 : Nat} {H : Heap} {p : Option Addr} {l c : Nat} {el : TypeId} {k : Nat} {fs : List Value} (h : FS n0 H p l c el k fs) (hn : n1 ≤ n0) : FS n1 H p l c el k fs := by
 refine ⟨h.len, h.le, h.one, ?_⟩
 rcases h.at_ with h1 | ⟨blk, cs, h1, h2, h3, h5⟩
 ·exact .inl h1
 ·exact .inr ⟨blk, cs, h1, by omega, h3, h5⟩
theorem FS.nil (n0 : Nat) (H : Heap) (el : TypeId) (k : Nat) : FS n0 H none 0 0 el k [] := ⟨by simp, Nat.le_refl _, by simp, .inl ⟨rfl, rfl⟩⟩
theorem RS.nil (H : Heap) (p : Option Addr) (el : TypeId) (k : Nat) : RS H p 0 el k [] := ⟨by simp, by simp, .inl rfl⟩
theorem FS.whole {n0 : Nat} {H : Heap} {b l k : Nat} {el : TypeId} {cs : Array Value} (hb : n0 ≤ b) (h : H[b]? = some (.cells cs el)) (hs : cs.size = l * k) (ho : ∀ v ∈ cs.toList, v.oneCell' = true) : FS n0 H (some ⟨b, 0, none⟩) l l el k cs.toList :=
 ⟨by simpa using hs, Nat.le_refl _, ho, .inr ⟨b, cs, rfl, hb, h, hs, fun i v hv => by simpa using hv⟩⟩
theorem RS.cell {H : Heap} {p : Option Addr} {l : Nat} {el : TypeId} {k : Nat} {fs : List Value} (h : RS H p l el k fs) {i : Nat} {v : Value} (hv : fs[i]? = some v) : ∃ blk, p = some ⟨blk, 0, none⟩ ∧ Go.Sh.cell H ⟨blk, i, none⟩ = some v := by
 rcases h.at_ with h1 | ⟨blk, cs, h1, h3, h5⟩
 ·have := (List.getElem?_eq_some_iff.1 hv).1
  have := h.len
  rw [h1] at this
  omega
 ·exact ⟨blk, h1, cell_get h3 (h5 i v hv)⟩
theorem RS.row {H : Heap} {p : Option Addr} {l : Nat} {el : TypeId} {k : Nat} {fs : List Value} (h : RS H p l el k fs) {i : Nat} (hi : i < l) (hk : 0 < k) {xs : Array Value} (hx : ∀ (j : Nat) v, xs[j]? = some v → fs[i * k + j]? = some v) : ∃ blk, p = some ⟨blk, 0, none⟩ ∧ rowIn H ⟨blk, i * k, none⟩ xs := by
 rcases h.at_ with h1 | ⟨blk, cs, h1, h3, h5⟩
 ·omega
 ·exact ⟨blk, h1, rowIn_block h3 fun j v hv => h5 _ _ (hx j v hv)⟩
structure IS (H : Heap) (p : Option Addr) (l : Nat) (fs : List Value) : Prop where
 len : fs.length = l
 get : ∀ (i : Nat) v, fs[i]? = some v → ∃ a, p = some a ∧ Go.Sh.cell H (a.add i) = some v
theorem IS.ext {H H' : Heap} {p : Option Addr} {l : Nat} {fs : List Value} (h : IS H p l fs) (he : Ext H H') : IS H' p l fs := ⟨h.len, fun i v hv => let ⟨a, h1, h2⟩ := h.get i v hv; ⟨a, h1, he.cell h2⟩⟩
theorem IS.cell {H : Heap} {p : Option Addr} {l : Nat} {fs : List Value} (h : IS H p l fs) {i : Nat} {v : Value} (hv : fs[i]? = some v) : ∃ a, p = some a ∧ Go.Sh.cell H (a.add i) = some v := h.get i v hv
theorem RS.is {H : Heap} {p : Option Addr} {l : Nat} {el : TypeId} {fs : List Value} (h : RS H p l el 1 fs) : IS H p l fs :=
 ⟨by have := h.len; omega, fun i v hv => let ⟨blk, h1, h2⟩ := h.cell hv; ⟨_, h1, by simpa using h2⟩⟩
theorem RS.rowOf {H : Heap} {p : Option Addr} {l : Nat} {el : TypeId} {k : Nat} {fs : List Value} (h : RS H p l el k fs) : rowOf H p (l * k) fs.toArray := by
 rcases h.at_ with h1 | ⟨blk, cs, h1, h3, h5⟩
 ·have := h.len
  rw [h1, Nat.zero_mul] at this
  have : fs = [] := List.length_eq_zero_iff.1 this
  subst this
  subst h1
  cases p with
  | none => rfl
  | some a => exact ⟨by simp, fun j v hv => by simp at hv⟩
 ·subst h1
  refine ⟨by simp [h.len], rowIn_block h3 fun j v hv => ?_⟩
  rw [Nat.zero_add]
  exact h5 j v (by simpa using hv)
theorem setL_get {c vs : List Value} {i : Nat} (h : i + vs.length ≤ c.length) (j : Nat) : (setL c i vs)[j]? = if i ≤ j ∧ j < i + vs.length then vs[j - i]? else c[j]? := by
 unfold setL
 by_cases h1 : j < i
 ·rw [if_neg (by omega), List.append_assoc, List.getElem?_append_left (by simp; omega), List.getElem?_take_of_lt h1]
 ·by_cases h2 : j < i + vs.length
  ·rw [if_pos ⟨by omega, h2⟩, List.append_assoc, List.getElem?_append_right (by simp; omega), List.getElem?_append_left (by simp; omega)]
   congr 1
   simp; omega
  ·rw [if_neg (by omega), List.getElem?_append_right (by simp; omega), List.getElem?_drop]
   congr 1
   simp; omega
theorem setL_len {c vs : List Value} {i : Nat} (h : i + vs.length ≤ c.length) : (setL c i vs).length = c.length := by unfold setL; simp; omega
theorem stAt_some {H : Heap} {b i : Nat} {c : Array Value} {t : TypeId} {vs : List Value} {f : Heap → Prop} (h : H[b]? = some (.cells c t (0, 0))) (hl : i + vs.length ≤ c.size) (ho : ∀ v ∈ vs, v.oneCell' = true)
    (hf : ∀ c' : Array Value, c'.size = c.size → (∀ j : Nat, c'[j]? = if i ≤ j ∧ j < i + vs.length then vs[j - i]? else c[j]?) → f (H.setIfInBounds b (.cells c' t (0, 0)))) : stAt H ⟨b, i, none⟩ vs f := by
  have hl' : i + vs.length ≤ c.toList.length := by simpa using hl
  refine ⟨c, t, h, rfl, hl, ho, ?_⟩
  refine hf (setL c.toList i vs).toArray (by simp [setL_len hl']) fun j => ?_
  rw [List.getElem?_toArray, setL_get hl' j, Array.getElem?_toList (xs := c)]
theorem FS.app' {n0 : Nat} {H : Heap} {p q : Option Addr} {l c n : Nat} {el : TypeId} {k bytes : Nat} {zero : Array Value} {fs gs : List Value} (h : FS n0 H p l c el k fs) (hrow : Go.Sh.rowOf H q (n * k) gs.toArray) (hgl : gs.length = n * k) (hgo : ∀ v ∈ gs, v.oneCell' = true) (hk : 0 < k) (hn : n0 ≤ H.size) (hz : zero.size = k)
    (hb : (l + n) * bytes ≤ 70368744177664) (hm : l + n ≤ 1000000000000) {K : Option Addr → Nat → Nat → Heap → Prop}
    (hK : ∀ p' c' H', FS n0 H' p' (l + n) c' el k (fs ++ gs) → (∀ (b : Nat) (o : Obj), H[b]? = some o → p ≠ some ⟨b, 0, none⟩ → H'[b]? = some o) → H.size ≤ H'.size → K p' (l + n) c' H') : appQ k bytes zero H p l c q n el K := by
  have hfl := h.len
  have hlen : (fs ++ gs).length = (l + n) * k := by rw [List.length_append, hfl, hgl, Nat.add_mul]
  have hone : ∀ v ∈ fs ++ gs, v.oneCell' = true := fun v hv => (List.mem_append.1 hv).elim (h.one v) (hgo v)
  refine ⟨hb, by omega, gs.toArray, hrow, fun hle => ?_, fun hlt => ?_⟩
  · rcases h.at_ with ⟨rfl, hc0⟩ | ⟨blk, cs, rfl, h2, h3, h4, h5⟩
    · refine hK none c H ⟨hlen, hle, hone, .inl ⟨rfl, hc0⟩⟩ (fun b o hb _ => hb) (Nat.le_refl _)
    · simp only [add_none, Nat.zero_add]
      have hcap : (l + n) * k ≤ c * k := Nat.mul_le_mul_right k hle
      rw [Nat.add_mul] at hcap
      refine stAt_some h3 (by show l * k + gs.length ≤ cs.size; omega) (by simpa using hgo) fun c' hc' hg => ?_
      refine hK _ _ _ ⟨hlen, hle, hone, .inr ⟨blk, c', rfl, h2, get_set_self h3, by omega, fun i v hv => ?_⟩⟩ (fun b o hb hne => get_set_ne (fun hh => hne (by rw [hh])) hb) (by simp)
      rw [hg]
      by_cases hi : i < fs.length
      · rw [if_neg (by omega)]
        rw [List.getElem?_append_left hi] at hv
        exact h5 i v hv
      · rw [List.getElem?_append_right (by omega)] at hv
        have hlt := (List.getElem?_eq_some_iff.1 hv).1
        rw [if_pos ⟨by omega, by show i < l * k + gs.length; omega⟩]
        rw [← hfl]
        simpa using hv
  · have hrow : ∃ ys, Go.Sh.rowOf H p (l * k) ys ∧ ys.toList = fs := ⟨fs.toArray, h.rs.rowOf, by simp⟩
    obtain ⟨ys, hy, hvs⟩ := hrow
    refine ⟨ys, hy, fun c' hc' => ?_⟩
    rw [zeroCells_eq _ _ (by omega)]
    have hcap : (l + n) * k ≤ c' * k := Nat.mul_le_mul_right k hc'
    have hys : ys.size = l * k := by rw [← Array.length_toList, hvs, hfl]
    refine hK _ _ _ ⟨hlen, hc', hone, .inr ⟨H.size, _, rfl, hn, get_push_self _ _, ?_, fun i v hv => ?_⟩⟩ (fun b o hb _ => get_push hb) (by simp)
    · simp only [Array.size_append, hys, List.size_toArray, reps_length, Array.length_toList, hz, hgl]
      rw [Nat.sub_mul]
      rw [Nat.add_mul] at hcap ⊢
      omega
    · have hi := (List.getElem?_eq_some_iff.1 hv).1
      rw [Array.getElem?_append_left (by simp [hys, hgl]; rw [hlen, Nat.add_mul] at hi; omega)]
      have : (ys ++ gs.toArray).toList = fs ++ gs := by simp [hvs]
      rw [← Array.getElem?_toList, this]
      exact hv
theorem FS.app {n0 : Nat} {H : Heap} {p q : Option Addr} {l c n : Nat} {el : TypeId} {k bytes : Nat} {zero : Array Value} {fs gs : List Value} (h : FS n0 H p l c el k fs) (hs : RS H q n el k gs) (hk : 0 < k) (hn : n0 ≤ H.size) (hz : zero.size = k)
    (hb : (l + n) * bytes ≤ 70368744177664) (hm : l + n ≤ 1000000000000) {K : Option Addr → Nat → Nat → Heap → Prop}
    (hK : ∀ p' c' H', FS n0 H' p' (l + n) c' el k (fs ++ gs) → (∀ (b : Nat) (o : Obj), H[b]? = some o → p ≠ some ⟨b, 0, none⟩ → H'[b]? = some o) → H.size ≤ H'.size → K p' (l + n) c' H') : appQ k bytes zero H p l c q n el K :=
  h.app' hs.rowOf hs.len hs.one hk hn hz hb hm hK
theorem FS.set {n0 : Nat} {H : Heap} {b l c : Nat} {el : TypeId} {k : Nat} {fs : List Value} {i : Nat} {v : Value} {f : Heap → Prop} (h : FS n0 H (some ⟨b, 0, none⟩) l c el k fs) (hi : i < fs.length) (ho : v.oneCell' = true)
    (hf : ∀ H', FS n0 H' (some ⟨b, 0, none⟩) l c el k (fs.set i v) → (∀ (b' : Nat) (o : Obj), H[b']? = some o → b' ≠ b → H'[b']? = some o) → H'.size = H.size → f H') : stAt H ⟨b, i, none⟩ [v] f := by
  have hlen := h.len
  rcases h.at_ with ⟨h1, _⟩ | ⟨blk, cs, h1, h2, h3, h4, h5⟩
  · cases h1
  · cases h1
    have hics : i < cs.size := by
      have := h5 i fs[i] (List.getElem?_eq_getElem hi)
      exact (Array.getElem?_eq_some_iff.1 this).1
    refine stAt_one h3 hics ho ?_
    refine hf _ ⟨by simpa using hlen, h.le, fun u hu => ?_, .inr ⟨b, cs.setIfInBounds i v, rfl, h2, get_set_self h3, by simpa using h4, fun j u hu => ?_⟩⟩ (fun b' o hb' hne => get_set_ne (Ne.symm hne) hb') (by simp)
    · rcases List.mem_or_eq_of_mem_set hu with hu | rfl
      · exact h.one u hu
      · exact ho
    · rw [List.getElem?_set] at hu
      rw [Array.getElem?_setIfInBounds]
      by_cases hij : i = j
      · subst hij
        rw [if_pos rfl, if_pos hi] at hu
        rw [if_pos rfl, if_pos hics]
        exact hu
      · rw [if_neg hij] at hu
        rw [if_neg hij]
        exact h5 j u hu
end Go.Sh
namespace Go.Sh
structure Rs where
 at_ : Heap → List Nat → Prop
 loc : ∀ {H H' : Heap} {fp : List Nat}, at_ H fp → (∀ b ∈ fp, ∀ o, H[b]? = some o → H'[b]? = some o) → at_ H' fp
 has : ∀ {H : Heap} {fp : List Nat}, at_ H fp → ∀ b ∈ fp, b < H.size
def Rs.cell (b : Nat) (cs : Array Value) (ty : TypeId) : Rs where
 at_ H fp := fp = [b] ∧ H[b]? = some (.cells cs ty)
 loc h hk := ⟨h.1, hk _ (by rw [h.1]; exact List.mem_singleton.2 rfl) _ h.2⟩
 has h b hb := by rw [h.1, List.mem_singleton] at hb; subst hb; exact lt_of_get h.2
def Rs.sl (p : Option Addr) (l c : Nat) (el : TypeId) (k : Nat) (fs : List Value) : Rs where
 at_ H fp := FS 0 H p l c el k fs ∧ ((p = none ∧ fp = []) ∨ ∃ blk, p = some ⟨blk, 0, none⟩ ∧ fp = [blk])
 loc h hk := by
  refine ⟨h.1.keep fun b cs hp hb => hk b ?_ _ hb, h.2⟩
  rcases h.2 with ⟨h1, _⟩ | ⟨blk, h1, h2⟩
  ·rw [h1] at hp; cases hp
  ·rw [h1] at hp; cases hp; rw [h2]; exact List.mem_singleton.2 rfl
 has h b hb := by
  rcases h.2 with ⟨_, h2⟩ | ⟨blk, h1, h2⟩
  ·rw [h2] at hb; cases hb
  ·rw [h2, List.mem_singleton] at hb
   subst hb
   rcases h.1.at_ with ⟨h3, _⟩ | ⟨blk', cs, h3, _, h4, _⟩
   ·rw [h1] at h3; cases h3
   ·rw [h1] at h3; cases h3; exact lt_of_get h4
def Rs.star (r s : Rs) : Rs where
 at_ H fp := ∃ a b, fp = a ++ b ∧ r.at_ H a ∧ s.at_ H b
 loc := fun ⟨a, b, e, h1, h2⟩ hk => ⟨a, b, e, r.loc h1 fun x hx => hk x (by rw [e]; exact List.mem_append_left _ hx), s.loc h2 fun x hx => hk x (by rw [e]; exact List.mem_append_right _ hx)⟩
 has := fun ⟨a, b, e, h1, h2⟩ x hx => by
  rw [e] at hx
  rcases List.mem_append.1 hx with hx | hx
  ·exact r.has h1 x hx
  ·exact s.has h2 x hx
def Rs.ex {α : Type} (f : α → Rs) : Rs where
 at_ H fp := ∃ a, (f a).at_ H fp
 loc := fun ⟨a, h⟩ hk => ⟨a, (f a).loc h hk⟩
 has := fun ⟨a, h⟩ => (f a).has h
def Rs.pu (q : Prop) (r : Rs) : Rs where
 at_ H fp := q ∧ r.at_ H fp
 loc := fun ⟨a, h⟩ hk => ⟨a, r.loc h hk⟩
 has := fun ⟨a, h⟩ => r.has h
def Rs.emp : Rs where
 at_ H fp := fp = []
 loc h _ := h
 has h b hb := by rw [h] at hb; cases hb
def Lie (H : Heap) : List Rs → List (List Nat) → Prop
 | [], [] => True
 | r :: σ, fp :: fps => r.at_ H fp ∧ Lie H σ fps
 | _, _ => False
theorem Lie.get {H : Heap} : ∀ {σ : List Rs} {fps : List (List Nat)}, Lie H σ fps → ∀ {i : Nat} {r : Rs}, σ[i]? = some r → ∃ fp, fps[i]? = some fp ∧ r.at_ H fp
 | [], [], _, i, r, h => by simp at h
 | r :: σ, fp :: fps, hl, 0, s, h => by simp at h; subst h; exact ⟨fp, rfl, hl.1⟩
 | r :: σ, fp :: fps, hl, i + 1, s, h => by
  simp only [List.getElem?_cons_succ] at h ⊢
  exact Lie.get hl.2 h
theorem Lie.has {H : Heap} : ∀ {σ : List Rs} {fps : List (List Nat)}, Lie H σ fps → ∀ b ∈ fps.flatten, b < H.size
 | [], [], _, b, hb => by simp at hb
 | r :: σ, fp :: fps, hl, b, hb => by
  simp only [List.flatten_cons, List.mem_append] at hb
  rcases hb with hb | hb
  ·exact r.has hl.1 b hb
  ·exact Lie.has hl.2 b hb
theorem Lie.loc {H H' : Heap} : ∀ {σ : List Rs} {fps : List (List Nat)}, Lie H σ fps → (∀ b ∈ fps.flatten, ∀ o, H[b]? = some o → H'[b]? = some o) → Lie H' σ fps
 | [], [], _, _ => trivial
 | r :: σ, fp :: fps, hl, hk => by
  simp only [List.flatten_cons, List.mem_append] at hk
  exact ⟨r.loc hl.1 fun b hb => hk b (.inl hb), Lie.loc hl.2 fun b hb => hk b (.inr hb)⟩
theorem Lie.set {H H' : Heap} : ∀ {σ : List Rs} {fps : List (List Nat)} {i : Nat} {fp fp' : List Nat} {r' : Rs}, Lie H σ fps → fps.flatten.Nodup → fps[i]? = some fp → r'.at_ H' fp' → fp'.Nodup → (∀ b ∈ fp', b ∈ fp ∨ H.size ≤ b) →
    (∀ b o, H[b]? = some o → b ∉ fp → H'[b]? = some o) → Lie H' (σ.set i r') (fps.set i fp') ∧ (fps.set i fp').flatten.Nodup
  | [], [], i, fp, fp', r', hl, hn, hi, h, hn', hf, hk => by simp at hi
  | r :: σ, g :: fps, 0, fp, fp', r', hl, hn, hi, h, hn', hf, hk => by
    simp at hi; subst hi
    simp only [List.flatten_cons, List.nodup_append] at hn
    refine ⟨⟨h, hl.2.loc fun b hb o ho => hk b o ho fun hg => hn.2.2 b hg b hb rfl⟩, ?_⟩
    simp only [List.set_cons_zero, List.flatten_cons, List.nodup_append]
    refine ⟨hn', hn.2.1, fun a ha b hb hab => ?_⟩
    subst hab
    rcases hf a ha with h1 | h1
    · exact hn.2.2 a h1 a hb rfl
    · have := Lie.has hl.2 a hb; omega
  | r :: σ, g :: fps, i + 1, fp, fp', r', hl, hn, hi, h, hn', hf, hk => by
    simp only [List.getElem?_cons_succ] at hi
    simp only [List.flatten_cons, List.nodup_append] at hn
    obtain ⟨h1, h2⟩ := Lie.set hl.2 hn.2.1 hi h hn' hf hk
    have hmem : ∀ b ∈ fp, b ∈ fps.flatten := fun b hb => List.mem_flatten.2 ⟨fp, List.mem_of_getElem? hi, hb⟩
    refine ⟨⟨r.loc hl.1 fun b hb o ho => hk b o ho fun hg => hn.2.2 b hb b (hmem b hg) rfl, h1⟩, ?_⟩
    simp only [List.set_cons_succ, List.flatten_cons, List.nodup_append]
    refine ⟨hn.1, h2, fun a ha b hb hab => ?_⟩
    subst hab
    obtain ⟨f, hf1, hf2⟩ := List.mem_flatten.1 hb
    rcases List.mem_or_eq_of_mem_set hf1 with hf1 | rfl
    · exact hn.2.2 a ha a (List.mem_flatten.2 ⟨f, hf1, hf2⟩) rfl
    · rcases hf a hf2 with h3 | h3
      · exact hn.2.2 a ha a (hmem a h3) rfl
      · have := r.has hl.1 a ha; omega
structure St (H0 H : Heap) (σ : List Rs) : Prop where
 ext : Ext H0 H
 own : ∃ fps, Lie H σ fps ∧ fps.flatten.Nodup ∧ ∀ b ∈ fps.flatten, H0.size ≤ b
theorem St.nil (H : Heap) : St H H [] := ⟨Ext.refl H, [], trivial, by simp, by simp⟩
theorem St.of_ext {H0 H : Heap} (h : Ext H0 H) : St H0 H [] := ⟨h, [], trivial, by simp, by simp⟩
variable {H0 H H' : Heap} {σ τ : List Rs}
theorem nodup_mem : ∀ {fps : List (List Nat)}, fps.flatten.Nodup → ∀ fp ∈ fps, fp.Nodup
 | [], _, fp, h => by cases h
 | g :: r, hn, fp, h => by
  rw [List.flatten_cons, List.nodup_append] at hn
  rcases List.mem_cons.1 h with rfl | h
  ·exact hn.1
  ·exact nodup_mem hn.2.1 fp h
theorem St.upd (hs : St H0 H σ) {i : Nat} {r r' : Rs} (hi : σ[i]? = some r)
    (h : ∀ fp, r.at_ H fp → fp.Nodup → (∀ b ∈ fp, H0.size ≤ b) → ∃ fp', r'.at_ H' fp' ∧ fp'.Nodup ∧ (∀ b ∈ fp', b ∈ fp ∨ H.size ≤ b) ∧ ∀ b o, H[b]? = some o → b ∉ fp → H'[b]? = some o) : St H0 H' (σ.set i r') := by
  obtain ⟨he, fps, hl, hn, hb⟩ := hs
  obtain ⟨fp, hfp, hat⟩ := hl.get hi
  have hmem : ∀ b ∈ fp, b ∈ fps.flatten := fun b hb => List.mem_flatten.2 ⟨fp, List.mem_of_getElem? hfp, hb⟩
  have hfn : fp.Nodup := nodup_mem hn _ (List.mem_of_getElem? hfp)
  obtain ⟨fp', h1, h2, h3, h4⟩ := h fp hat hfn fun b hb' => hb b (hmem b hb')
  obtain ⟨h5, h6⟩ := hl.set hn hfp h1 h2 h3 h4
  refine ⟨fun b o ho => h4 b o (he b o ho) fun hf => ?_, _, h5, h6, fun b hb' => ?_⟩
  · have := hb b (hmem b hf); have := lt_of_get ho; omega
  · obtain ⟨f, hf1, hf2⟩ := List.mem_flatten.1 hb'
    rcases List.mem_or_eq_of_mem_set hf1 with hf1 | rfl
    · exact hb b (List.mem_flatten.2 ⟨f, hf1, hf2⟩)
    · rcases h3 b hf2 with h7 | h7
      · exact hb b (hmem b h7)
      · have := he.size; omega
theorem St.as (hs : St H0 H σ) (i : Nat) {r r' : Rs} (hi : σ[i]? = some r) (h : ∀ fp, r.at_ H fp → r'.at_ H fp) : St H0 H (σ.set i r') :=
 hs.upd hi fun fp h1 h2 _ => ⟨fp, h fp h1, h2, fun b hb => .inl hb, fun b o ho _ => ho⟩
theorem St.step (hs : St H0 H σ) (he : Ext H H') : St H0 H' σ := by
 obtain ⟨h1, fps, hl, hn, hb⟩ := hs
 exact ⟨h1.trans he, fps, hl.loc fun b _ o ho => he b o ho, hn, hb⟩
theorem Lie.append {H : Heap} : ∀ {σ τ : List Rs} {f g : List (List Nat)}, Lie H σ f → Lie H τ g → Lie H (σ ++ τ) (f ++ g)
 | [], _, [], _, _, h => h
 | _ :: _, _, _ :: _, _, h, h' => ⟨h.1, Lie.append h.2 h'⟩
theorem Lie.split {H : Heap} : ∀ {σ τ : List Rs} {f : List (List Nat)}, Lie H (σ ++ τ) f → ∃ a b, f = a ++ b ∧ Lie H σ a ∧ Lie H τ b
 | [], _, f, h => ⟨[], f, rfl, trivial, h⟩
 | r :: σ, τ, [], h => h.elim
 | r :: σ, τ, g :: f, h => let ⟨a, b, e, h1, h2⟩ := Lie.split h.2; ⟨g :: a, b, by rw [e]; rfl, ⟨h.1, h1⟩, h2⟩
theorem St.call (hs : St H0 H σ) (ht : St H H' τ) : St H0 H' (τ ++ σ) := by
 obtain ⟨h1, fps, hl, hn, hb⟩ := hs
 obtain ⟨h2, gps, hl2, hn2, hb2⟩ := ht
 refine ⟨h1.trans h2, gps ++ fps, hl2.append (hl.loc fun b _ o ho => h2 b o ho), ?_, fun b h => ?_⟩
 ·rw [List.flatten_append, List.nodup_append]
  refine ⟨hn2, hn, fun a ha b hb' hab => ?_⟩
  subst hab
  have := hb2 a ha; have := hl.has a hb'; omega
 ·rw [List.flatten_append, List.mem_append] at h
  rcases h with h | h
  ·have := hb2 b h; have := h1.size; omega
  ·exact hb b h
theorem St.perm (hs : St H0 H σ) (hp : σ.Perm τ) : St H0 H τ := by
 obtain ⟨he, fps, hl, hn, hb⟩ := hs
 have : ∀ {σ τ : List Rs}, σ.Perm τ → ∀ fps, Lie H σ fps → ∃ gps, Lie H τ gps ∧ fps.Perm gps := by
  intro σ τ hp
  induction hp with
  | nil => intro fps h; exact ⟨fps, h, List.Perm.refl _⟩
  | cons x _ ih =>
   intro fps h
   match fps, h with
   | f :: fps, h => obtain ⟨g, h1, h2⟩ := ih fps h.2; exact ⟨f :: g, ⟨h.1, h1⟩, h2.cons f⟩
  | swap x y l =>
   intro fps h
   match fps, h with
   | f :: g :: fps, h => exact ⟨g :: f :: fps, ⟨h.2.1, h.1, h.2.2⟩, List.Perm.swap _ _ _⟩
  | trans _ _ ih1 ih2 =>
   intro fps h
   obtain ⟨g, h1, h2⟩ := ih1 fps h
   obtain ⟨k, h3, h4⟩ := ih2 g h1
   exact ⟨k, h3, h2.trans h4⟩
 obtain ⟨gps, h1, h2⟩ := this hp fps hl
 exact ⟨he, gps, h1, (h2.flatten.nodup_iff).1 hn, fun b h => hb b ((h2.flatten.mem_iff).2 h)⟩
theorem St.app (hs : St H0 H (σ ++ τ)) : St H0 H σ ∧ St H0 H τ := by
 obtain ⟨he, fps, hl, hn, hb⟩ := hs
 obtain ⟨a, b, rfl, h1, h2⟩ := hl.split
 rw [List.flatten_append, List.nodup_append] at hn
 rw [List.flatten_append] at hb
 exact ⟨⟨he, a, h1, hn.1, fun x hx => hb x (List.mem_append_left _ hx)⟩, ⟨he, b, h2, hn.2.1, fun x hx => hb x (List.mem_append_right _ hx)⟩⟩
theorem St.tail {r : Rs} (hs : St H0 H (r :: σ)) : St H0 H σ := (St.app (σ := [r]) hs).2
theorem St.drop (hs : St H0 H σ) (n : Nat) : St H0 H (σ.drop n) := by
 rw [← List.take_append_drop n σ] at hs
 exact hs.app.2
theorem St.take (hs : St H0 H σ) (n : Nat) : St H0 H (σ.take n) := by
 rw [← List.take_append_drop n σ] at hs
 exact hs.app.1
theorem St.swap {r s : Rs} (hs : St H0 H (r :: s :: σ)) : St H0 H (s :: r :: σ) := hs.perm (List.Perm.swap _ _ _)
theorem St.front (hs : St H0 H σ) (i : Nat) {r : Rs} (hi : σ[i]? = some r) : St H0 H (r :: σ.eraseIdx i) := by
 refine hs.perm ?_
 have : ∀ (l : List Rs) (i : Nat), l[i]? = some r → l.Perm (r :: l.eraseIdx i) := by
  intro l
  induction l with
  | nil => intro i h; simp at h
  | cons x l ih =>
   intro i h
   cases i with
   | zero => simp at h; subst h; exact List.Perm.refl _
   | succ i => exact ((ih i (by simpa using h)).cons x).trans (List.Perm.swap _ _ _)
 exact this σ i hi
theorem St.back {r r' : Rs} {i : Nat} (hi : σ[i]? = some r) (hs : St H0 H (r' :: σ.eraseIdx i)) : St H0 H (σ.set i r') := by
 refine hs.perm ?_
 have : ∀ (l : List Rs) (i : Nat), l[i]? = some r → (r' :: l.eraseIdx i).Perm (l.set i r') := by
  intro l
  induction l with
  | nil => intro i h; simp at h
  | cons x l ih =>
   intro i h
   cases i with
   | zero => exact List.Perm.refl _
   | succ i => exact (List.Perm.swap _ _ _).trans ((ih i (by simpa using h)).cons x)
 exact this σ i hi
theorem St.del (hs : St H0 H σ) (i : Nat) : St H0 H (σ.eraseIdx i) := by
 rcases Nat.lt_or_ge i σ.length with h | h
 ·exact (hs.front i (List.getElem?_eq_getElem h)).tail
 ·rw [List.eraseIdx_of_length_le h]; exact hs
theorem St.cat {r s : Rs} (hs : St H0 H (r :: s :: σ)) : St H0 H (.star r s :: σ) := by
 obtain ⟨he, fps, hl, hn, hb⟩ := hs
 match fps, hl with
 | f :: g :: fps, hl => exact ⟨he, (f ++ g) :: fps, ⟨⟨f, g, rfl, hl.1, hl.2.1⟩, hl.2.2⟩, by simpa using hn, fun b h => hb b (by simpa using h)⟩
theorem St.cut {r s : Rs} (hs : St H0 H (.star r s :: σ)) : St H0 H (r :: s :: σ) := by
 obtain ⟨he, fps, hl, hn, hb⟩ := hs
 match fps, hl with
 | _ :: fps, ⟨⟨f, g, rfl, h1, h2⟩, h3⟩ => exact ⟨he, f :: g :: fps, ⟨h1, h2, h3⟩, by simpa using hn, fun b h => hb b (by simpa using h)⟩
theorem St.unex {α : Type} {f : α → Rs} (hs : St H0 H (.ex f :: σ)) : ∃ a, St H0 H (f a :: σ) := by
 obtain ⟨he, fps, hl, hn, hb⟩ := hs
 match fps, hl with
 | g :: fps, ⟨⟨a, h1⟩, h3⟩ => exact ⟨a, he, g :: fps, ⟨h1, h3⟩, hn, hb⟩
theorem St.inex {α : Type} {f : α → Rs} (a : α) (hs : St H0 H (f a :: σ)) : St H0 H (.ex f :: σ) := by
 obtain ⟨he, fps, hl, hn, hb⟩ := hs
 match fps, hl with
 | g :: fps, ⟨h1, h3⟩ => exact ⟨he, g :: fps, ⟨⟨a, h1⟩, h3⟩, hn, hb⟩
theorem St.fact {q : Prop} {r : Rs} (hs : St H0 H (.pu q r :: σ)) : q ∧ St H0 H (r :: σ) := by
 obtain ⟨he, fps, hl, hn, hb⟩ := hs
 match fps, hl with
 | g :: fps, ⟨⟨a, h1⟩, h3⟩ => exact ⟨a, he, g :: fps, ⟨h1, h3⟩, hn, hb⟩
theorem St.with {q : Prop} {r : Rs} (hq : q) (hs : St H0 H (r :: σ)) : St H0 H (.pu q r :: σ) := by
 obtain ⟨he, fps, hl, hn, hb⟩ := hs
 match fps, hl with
 | g :: fps, ⟨h1, h3⟩ => exact ⟨he, g :: fps, ⟨⟨hq, h1⟩, h3⟩, hn, hb⟩
theorem St.new (hs : St H0 H σ) {r : Rs} {fp : List Nat} (he : Ext H H') (h : r.at_ H' fp) (hn : fp.Nodup) (hb : ∀ b ∈ fp, H.size ≤ b) : St H0 H' (r :: σ) :=
 St.call (τ := [r]) hs ⟨he, [fp], ⟨h, trivial⟩, by simpa using hn, by simpa using hb⟩
theorem St.block (hs : St H0 H σ) (i : Nat) {b : Nat} {cs : Array Value} {ty : TypeId} (hi : σ[i]? = some (.cell b cs ty)) : H[b]? = some (.cells cs ty) := by
 obtain ⟨_, fps, hl, _⟩ := hs
 obtain ⟨fp, _, h⟩ := hl.get hi
 exact h.2
theorem St.get (hs : St H0 H σ) (i : Nat) {b j : Nat} {cs : Array Value} {ty : TypeId} {v : Value} (hi : σ[i]? = some (.cell b cs ty)) (hj : cs[j]? = some v) : Sh.cell H ⟨b, j, none⟩ = some v :=
 cell_get (hs.block i hi) hj
theorem St.alc (hs : St H0 H σ) {cs : Array Value} {ty : TypeId} {K : Nat → Heap → Prop} (hK : ∀ b H', St H0 H' (.cell b cs ty :: σ) → K b H') : Sh.alc H (.cells cs ty) K :=
 hK _ _ (hs.new (Ext.push _ _) (fp := [H.size]) ⟨rfl, get_push_self _ _⟩ (by simp) (by simp))
theorem St.alcE (hs : St H0 H σ) {cs : Array Value} {ty : TypeId} {K : Nat → Heap → Prop} (hK : ∀ b H', Ext H H' → St H0 H' (.cell b cs ty :: σ) → K b H') : Sh.alc H (.cells cs ty) K :=
 hK _ _ (Ext.push _ _) (hs.new (Ext.push _ _) (fp := [H.size]) ⟨rfl, get_push_self _ _⟩ (by simp) (by simp))
theorem St.put (hs : St H0 H σ) (i : Nat) {b j : Nat} {cs : Array Value} {ty : TypeId} {v : Value} {f : Heap → Prop} (hi : σ[i]? = some (.cell b cs ty)) (hj : j < cs.size) (ho : v.oneCell' = true)
    (hK : ∀ H', St H0 H' (σ.set i (.cell b (cs.setIfInBounds j v) ty)) → f H') : stAt H ⟨b, j, none⟩ [v] f :=
  stAt_one (hs.block i hi) hj ho (hK _ (hs.upd hi fun fp h1 _ _ => ⟨[b], ⟨rfl, get_set_self h1.2⟩, by simp, fun x hx => .inl (h1.1 ▸ hx), fun x o ho hx => get_set_ne (fun he => hx (by rw [h1.1, he]; exact List.mem_singleton.2 rfl)) ho⟩))
theorem St.putAll (hs : St H0 H σ) (i : Nat) {b : Nat} {cs : Array Value} {ty : TypeId} {vs : List Value} {f : Heap → Prop} (hi : σ[i]? = some (.cell b cs ty)) (hl : vs.length = cs.size) (ho : ∀ v ∈ vs, v.oneCell' = true)
    (hK : ∀ H', St H0 H' (σ.set i (.cell b vs.toArray ty)) → f H') : stAt H ⟨b, 0, none⟩ vs f :=
  stAt_whole (hs.block i hi) hl ho (hK _ (hs.upd hi fun fp h1 _ _ => ⟨[b], ⟨rfl, get_set_self h1.2⟩, by simp, fun x hx => .inl (h1.1 ▸ hx), fun x o ho hx => get_set_ne (fun he => hx (by rw [h1.1, he]; exact List.mem_singleton.2 rfl)) ho⟩))
theorem St.putRow (hs : St H0 H σ) (i : Nat) {b j : Nat} {cs : Array Value} {ty : TypeId} {vs : List Value} {f : Heap → Prop} (hi : σ[i]? = some (.cell b cs ty)) (hl : j + vs.length ≤ cs.size) (ho : ∀ v ∈ vs, v.oneCell' = true)
    (hK : ∀ H', St H0 H' (σ.set i (.cell b (setL cs.toList j vs).toArray ty)) → f H') : stAt H ⟨b, j, none⟩ vs f :=
  ⟨cs, ty, hs.block i hi, rfl, hl, ho, hK _ (hs.upd hi fun fp h1 _ _ => ⟨[b], ⟨rfl, get_set_self h1.2⟩, by simp, fun x hx => .inl (h1.1 ▸ hx), fun x o ho hx => get_set_ne (fun he => hx (by rw [h1.1]; exact List.mem_singleton.2 he.symm)) ho⟩)⟩
theorem St.fs (hs : St H0 H σ) (i : Nat) {p : Option Addr} {l c k : Nat} {el : TypeId} {fs : List Value} (hi : σ[i]? = some (.sl p l c el k fs)) : FS 0 H p l c el k fs := by
 obtain ⟨_, fps, hl, _⟩ := hs
 obtain ⟨fp, _, h⟩ := hl.get hi
 exact h.1
theorem St.rs (hs : St H0 H σ) (i : Nat) {p : Option Addr} {l c k : Nat} {el : TypeId} {fs : List Value} (hi : σ[i]? = some (.sl p l c el k fs)) : RS H p l el k fs := (hs.fs i hi).rs
theorem St.is (hs : St H0 H σ) (i : Nat) {p : Option Addr} {l c : Nat} {el : TypeId} {fs : List Value} (hi : σ[i]? = some (.sl p l c el 1 fs)) : IS H p l fs := (hs.rs i hi).is
theorem FS.resrc {n0 : Nat} {H : Heap} {p : Option Addr} {l c k : Nat} {el : TypeId} {fs : List Value} (h : FS n0 H p l c el k fs) : ∃ fp, (Rs.sl p l c el k fs).at_ H fp ∧ fp.Nodup ∧ (∀ b ∈ fp, n0 ≤ b) ∧ ∀ b ∈ fp, p = some ⟨b, 0, none⟩ := by
 rcases h.at_ with ⟨h1, h2⟩ | ⟨blk, cs, h1, h2, h3, h4, h5⟩
 ·exact ⟨[], ⟨h.lower (Nat.zero_le _), .inl ⟨h1, rfl⟩⟩, by simp, by simp, by simp⟩
 ·exact ⟨[blk], ⟨h.lower (Nat.zero_le _), .inr ⟨blk, h1, rfl⟩⟩, by simp, by simpa using h2, by simpa using h1⟩
theorem St.newSl (hs : St H0 H σ) {p : Option Addr} {l c k : Nat} {el : TypeId} {fs : List Value} (he : Ext H H') (h : FS H.size H' p l c el k fs) : St H0 H' (.sl p l c el k fs :: σ) := by
 obtain ⟨fp, h1, h2, h3, _⟩ := h.resrc
 exact hs.new he h1 h2 h3
theorem St.nilSl (hs : St H0 H σ) (el : TypeId) (k : Nat) : St H0 H (.sl none 0 0 el k [] :: σ) := hs.newSl (Ext.refl _) (FS.nil _ _ _ _)
theorem St.toSl (hs : St H0 H σ) (i : Nat) {b l k : Nat} {cs : Array Value} {ty : TypeId} {fs : List Value} (hi : σ[i]? = some (.cell b cs ty)) (hl : cs.size = l * k) (hf : cs.toList = fs) (ho : ∀ v ∈ fs, v.oneCell' = true) :
    St H0 H (σ.set i (.sl (some ⟨b, 0, none⟩) l l ty k fs)) :=
  hs.as i hi fun fp h => ⟨⟨by rw [← hf]; simpa using hl, Nat.le_refl _, ho, .inr ⟨b, cs, rfl, Nat.zero_le _, h.2, hl, fun j v hv => by rw [← hf] at hv; simpa using hv⟩⟩, .inr ⟨b, rfl, h.1⟩⟩
theorem FS.app2 {n0 : Nat} {H : Heap} {p q : Option Addr} {l c n : Nat} {el : TypeId} {k bytes : Nat} {zero : Array Value} {fs gs : List Value} (h : FS n0 H p l c el k fs) (hrow : Go.Sh.rowOf H q (n * k) gs.toArray) (hgl : gs.length = n * k) (hgo : ∀ v ∈ gs, v.oneCell' = true) (hk : 0 < k) (hn : n0 ≤ H.size) (hz : zero.size = k)
    (hb : (l + n) * bytes ≤ 70368744177664) (hm : l + n ≤ 1000000000000) {K : Option Addr → Nat → Nat → Heap → Prop}
    (hK : ∀ p' c' H', FS n0 H' p' (l + n) c' el k (fs ++ gs) → (∀ (b : Nat) (o : Obj), H[b]? = some o → p ≠ some ⟨b, 0, none⟩ → H'[b]? = some o) → (p' = p ∨ p' = some ⟨H.size, 0, none⟩) → K p' (l + n) c' H') : appQ k bytes zero H p l c q n el K := by
  by_cases hle : l + n ≤ c
  · obtain ⟨g1, g2, xs, g3, g4, _⟩ := h.app' (K := fun p' l' c' H' => p' = p → K p' l' c' H') hrow hgl hgo hk hn hz hb hm fun p' c' H' h1 h2 h3 hp => hK p' c' H' h1 h2 (.inl hp)
    refine ⟨g1, g2, xs, g3, fun hle => ?_, fun hlt => by omega⟩
    have := g4 hle
    cases p with
    | none => exact this rfl
    | some a =>
      obtain ⟨cs, T, a1, a2, a3, a4, a5⟩ := this
      exact ⟨cs, T, a1, a2, a3, a4, a5 rfl⟩
  · obtain ⟨g1, g2, xs, g3, _, g4⟩ := h.app' (K := fun p' l' c' H' => p' = some ⟨H.size, 0, none⟩ → K p' l' c' H') hrow hgl hgo hk hn hz hb hm fun p' c' H' h1 h2 h3 hp => hK p' c' H' h1 h2 (.inr hp)
    refine ⟨g1, g2, xs, g3, fun hle' => by omega, fun hlt => ?_⟩
    obtain ⟨ys, b1, b2⟩ := g4 hlt
    exact ⟨ys, b1, fun c' hc' => b2 c' hc' rfl⟩
theorem Rs.sl_at {H : Heap} {p : Option Addr} {l c k : Nat} {el : TypeId} {fs : List Value} {fp : List Nat} (h : (Rs.sl p l c el k fs).at_ H fp) {b : Nat} (hp : p = some ⟨b, 0, none⟩) : fp = [b] := by
 rcases h.2 with ⟨h1, _⟩ | ⟨blk, h1, h2⟩
 ·rw [hp] at h1; cases h1
 ·rw [hp] at h1; cases h1; exact h2
theorem St.slSet (hs : St H0 H σ) {i : Nat} {p p' : Option Addr} {l c l' c' k : Nat} {el : TypeId} {fs fs' : List Value} (hi : σ[i]? = some (.sl p l c el k fs)) (h : FS 0 H' p' l' c' el k fs')
    (hk : ∀ (b : Nat) (o : Obj), H[b]? = some o → p ≠ some ⟨b, 0, none⟩ → H'[b]? = some o) (hp : p' = p ∨ p' = some ⟨H.size, 0, none⟩) : St H0 H' (σ.set i (.sl p' l' c' el k fs')) := by
  refine hs.upd hi fun fp h1 h2 h3 => ?_
  obtain ⟨fp', g1, g2, _, g4⟩ := h.resrc
  refine ⟨fp', g1, g2, fun b hb => ?_, fun b o ho hb => hk b o ho fun he => hb (by rw [Rs.sl_at h1 he]; exact List.mem_singleton.2 rfl)⟩
  have := g4 b hb
  rcases hp with rfl | hp
  · left; rw [Rs.sl_at h1 this]; exact List.mem_singleton.2 rfl
  · rw [this] at hp; cases hp; exact .inr (Nat.le_refl _)
theorem St.appS (hs : St H0 H σ) (i : Nat) {p q : Option Addr} {l c n k bytes : Nat} {el : TypeId} {zero : Array Value} {fs gs : List Value} (hi : σ[i]? = some (.sl p l c el k fs)) (hrow : Go.Sh.rowOf H q (n * k) gs.toArray) (hgl : gs.length = n * k)
    (hgo : ∀ v ∈ gs, v.oneCell' = true) (hk : 0 < k) (hz : zero.size = k) (hb : (l + n) * bytes ≤ 70368744177664) (hm : l + n ≤ 1000000000000) {K : Option Addr → Nat → Nat → Heap → Prop}
    (hK : ∀ p' c' H', St H0 H' (σ.set i (.sl p' (l + n) c' el k (fs ++ gs))) → K p' (l + n) c' H') : appQ k bytes zero H p l c q n el K :=
  (hs.fs i hi).app2 hrow hgl hgo hk (Nat.zero_le _) hz hb hm fun p' c' H' h1 h2 h3 => hK p' c' H' (hs.slSet hi h1 h2 h3)
theorem St.appC (hs : St H0 H σ) (i m : Nat) {p : Option Addr} {b l c n k bytes : Nat} {el ty : TypeId} {zero cs : Array Value} {fs : List Value} (hi : σ[i]? = some (.sl p l c el k fs)) (hm' : σ[m]? = some (.cell b cs ty)) (hgl : cs.size = n * k)
    (hgo : ∀ v ∈ cs.toList, v.oneCell' = true) (hk : 0 < k) (hz : zero.size = k) (hb : (l + n) * bytes ≤ 70368744177664) (hm : l + n ≤ 1000000000000) {K : Option Addr → Nat → Nat → Heap → Prop}
    (hK : ∀ p' c' H', St H0 H' (σ.set i (.sl p' (l + n) c' el k (fs ++ cs.toList))) → K p' (l + n) c' H') : appQ k bytes zero H p l c (some ⟨b, 0, none⟩) n el K :=
  hs.appS i hi (gs := cs.toList) (show Go.Sh.rowOf H (Option.some ⟨b, 0, none⟩) (n * k) cs.toList.toArray from ⟨by simpa using hgl, by simpa using rowIn_whole (hs.block m hm')⟩) (by simpa using hgl) hgo hk hz hb hm hK
theorem IS.rowOf {H : Heap} {p : Option Addr} {l : Nat} {fs : List Value} (h : IS H p l fs) : Go.Sh.rowOf H p (l * 1) fs.toArray := by
 cases p with
 | none =>
  have : fs = [] := List.eq_nil_iff_forall_not_mem.2 fun v hv => by
   obtain ⟨i, hi⟩ := List.getElem?_of_mem hv
   obtain ⟨a, h1, _⟩ := h.get i v hi
   cases h1
  subst this; rfl
 | some a =>
  refine ⟨by simp [h.len], fun j v hv => ?_⟩
  obtain ⟨a', h1, h2⟩ := h.get j v (by simpa using hv)
  cases h1; exact h2
theorem St.appI (hs : St H0 H σ) (i : Nat) {p q : Option Addr} {l c n bytes : Nat} {el : TypeId} {zero : Array Value} {fs gs : List Value} (hi : σ[i]? = some (.sl p l c el 1 fs)) (hr : IS H q n gs) (ho : ∀ v ∈ gs, v.oneCell' = true) (hz : zero.size = 1)
    (hb : (l + n) * bytes ≤ 70368744177664) (hm : l + n ≤ 1000000000000) {K : Option Addr → Nat → Nat → Heap → Prop}
    (hK : ∀ p' c' H', St H0 H' (σ.set i (.sl p' (l + n) c' el 1 (fs ++ gs))) → K p' (l + n) c' H') : appQ 1 bytes zero H p l c q n el K :=
  hs.appS i hi hr.rowOf (by simp [hr.len]) ho (by decide) hz hb hm hK
theorem St.slPut (hs : St H0 H σ) (i : Nat) {b l c k j : Nat} {el : TypeId} {fs : List Value} {v : Value} {f : Heap → Prop} (hi : σ[i]? = some (.sl (some ⟨b, 0, none⟩) l c el k fs)) (hj : j < fs.length) (ho : v.oneCell' = true)
    (hK : ∀ H', St H0 H' (σ.set i (.sl (some ⟨b, 0, none⟩) l c el k (fs.set j v))) → f H') : stAt H ⟨b, j, none⟩ [v] f :=
  (hs.fs i hi).set hj ho fun H' h1 h2 h3 => hK H' (hs.slSet hi h1 (fun b' o ho hne => h2 b' o ho fun he => hne (by rw [he])) (.inl rfl))
theorem St.slSome (hs : St H0 H σ) (i : Nat) {p : Option Addr} {l c k j : Nat} {el : TypeId} {fs : List Value} (hi : σ[i]? = some (.sl p l c el k fs)) (hj : j < fs.length) : ∃ b, p = some ⟨b, 0, none⟩ := by
 obtain ⟨b, h, _⟩ := (hs.rs i hi).cell (List.getElem?_eq_getElem hj)
 exact ⟨b, h⟩
def kints (k : IntKind) (l : List Int) : List Value := l.map (Value.int k)
theorem kints_get {k : IntKind} {l : List Int} {i : Nat} {v : Int} (h : l[i]? = some v) : (kints k l)[i]? = some (Value.int k v) := by simp [kints, h]
theorem kints_len (k : IntKind) (l : List Int) : (kints k l).length = l.length := by simp [kints]
theorem kints_append (k : IntKind) (a b : List Int) : kints k (a ++ b) = kints k a ++ kints k b := by simp [kints]
theorem kints_set (k : IntKind) (l : List Int) (i : Nat) (v : Int) : (kints k l).set i (.int k v) = kints k (l.set i v) := by simp [kints]
theorem kints_one (k : IntKind) (l : List Int) : ∀ v ∈ kints k l, v.oneCell' = true := fun v hv => by
 obtain ⟨x, _, rfl⟩ := List.mem_map.1 hv; rfl
theorem IS.rd {H : Heap} {p : Option Addr} {l : Nat} {k : IntKind} {ls : List Int} (h : IS H p l (kints k ls)) {i x : Int} (h0 : 0 ≤ i) (h1 : i < l) (hx : ls[i.toNat]? = some x) {K : Int → Prop} (hK : K x) :
    ∃ a : Addr, p = some a ∧ 0 ≤ i ∧ i < ((l : Nat) : Int) ∧ ∃ v : Int, Sh.cell H (Addr.add a (Int.toNat i * 1)) = some (.int k v) ∧ K v := by
  obtain ⟨a, hp, hc⟩ := h.get _ _ (kints_get hx)
  exact ⟨a, hp, h0, h1, x, by simpa using hc, hK⟩
theorem IS.length {H : Heap} {p : Option Addr} {l : Nat} {k : IntKind} {ls : List Int} (h : IS H p l (kints k ls)) : ls.length = l := by have := h.len; rwa [kints_len] at this
theorem add_add (a : Addr) (i j : Nat) : (a.add i).add j = a.add (i + j) := by
 obtain ⟨b, o, s⟩ := a
 unfold Addr.add
 cases s <;> simp <;> split <;> split <;> simp_all <;> omega
theorem IS.part {H : Heap} {a : Addr} {l : Nat} {fs : List Value} (h : IS H (some a) l fs) {i n : Nat} (hi : i + n ≤ l) : IS H (some (a.add i)) n ((fs.drop i).take n) := by
 refine ⟨by have := h.len; simp; omega, fun j v hv => ?_⟩
 rw [List.getElem?_take] at hv
 split at hv
 ·rw [List.getElem?_drop] at hv
  obtain ⟨a', h1, h2⟩ := h.get _ _ hv
  cases h1
  refine ⟨_, rfl, ?_⟩
  rw [show (a.add i).add j = a.add (i + j) from add_add a i j]
  exact h2
 ·cases hv
theorem upto {n : Nat} {Q : Nat → Prop} (h : ∀ i, i ≤ n → (i < n → Q (i + 1)) → Q i) : ∀ i, i ≤ n → Q i := by
 have : ∀ m i, n - i = m → i ≤ n → Q i := by
  intro m
  induction m with
  | zero => intro i hm hi; exact h i hi fun hlt => by omega
  | succ m ih => intro i hm hi; exact h i hi fun hlt => ih (i + 1) (by omega) (by omega)
 exact fun i hi => this (n - i) i rfl hi
end Go.Sh
namespace Go.Sh
variable {H0 H : Heap} {σ : List Rs}
theorem intsA_size (l : List Int) : (ints l).toArray.size = l.length := by simp [ints]
theorem St.rdA (hs : St H0 H σ) (i : Nat) {b j : Nat} {l : List Int} {ty : TypeId} {x : Int} (hi : σ[i]? = some (.cell b (ints l).toArray ty)) (hx : l[j]? = some x) : Sh.cell H ⟨b, j, none⟩ = some (.int .i64 x) :=
 hs.get i hi (by rw [List.getElem?_toArray]; exact ints_get hx)
theorem St.putA (hs : St H0 H σ) (i : Nat) {b j : Nat} {l : List Int} {ty : TypeId} {x : Int} {f : Heap → Prop} (hi : σ[i]? = some (.cell b (ints l).toArray ty)) (hj : j < l.length)
    (hK : ∀ H', St H0 H' (σ.set i (.cell b (ints (l.set j x)).toArray ty)) → f H') : stAt H ⟨b, j, none⟩ [.int .i64 x] f :=
  hs.put i hi (by rw [intsA_size]; exact hj) rfl fun H' hs' => hK H' (by
    have e : (ints l).toArray.setIfInBounds j (Value.int .i64 x) = (ints (l.set j x)).toArray := by rw [← ints_set]; simp
    rw [← e]; exact hs')
theorem St.putAllA (hs : St H0 H σ) (i : Nat) {b : Nat} {cs : Array Value} {l : List Int} {ty : TypeId} {f : Heap → Prop} (hi : σ[i]? = some (.cell b cs ty)) (hl : l.length = cs.size)
    (hK : ∀ H', St H0 H' (σ.set i (.cell b (ints l).toArray ty)) → f H') : stAt H ⟨b, 0, none⟩ (Array.toList (ints l).toArray) f :=
  hs.putAll i hi (by simpa [ints] using hl) (fun v hv => ints_one l v (by simpa using hv)) fun H' hs' => hK H' (by simpa using hs')
theorem reps_rep (v : Value) : ∀ n, reps n [v] = List.replicate n v
 | 0 => rfl
 | n + 1 => by rw [reps, reps_rep v n, List.replicate_succ]; rfl
theorem repsA (n : Nat) : (reps n (Array.toList #[Value.int .i64 0])).toArray = (ints (List.replicate n 0)).toArray := by
 show (reps n [Value.int .i64 0]).toArray = _
 rw [reps_rep]; simp [ints]
theorem St.isA (hs : St H0 H σ) (i : Nat) {b n : Nat} {l : List Int} {ty : TypeId} (hi : σ[i]? = some (.cell b (ints l).toArray ty)) (hn : l.length = n) : IS H (some ⟨b, 0, none⟩) n (ints l) :=
 ⟨by rw [ints_len]; exact hn, fun j v hv => ⟨_, rfl, by rw [add_none, Nat.zero_add]; exact hs.get i hi (by rw [List.getElem?_toArray]; exact hv)⟩⟩
theorem getD_some {α : Type} (a : List α) (d : α) {i : Nat} (h : i < a.length) : a[i]? = some (a.getD i d) := by rw [List.getD_eq_getElem?_getD, List.getElem?_eq_getElem h]; rfl
def fillA (L : List Int) (s : Nat) : List Int := L.take s ++ List.replicate (L.length - s) 0
theorem fillA_len {L : List Int} {s : Nat} (h : s ≤ L.length) : (fillA L s).length = L.length := by unfold fillA; simp; omega
theorem fillA_zero (L : List Int) : fillA L 0 = List.replicate L.length 0 := by simp [fillA]
theorem fillA_all (L : List Int) : fillA L L.length = L := by simp [fillA]
theorem fillA_set {L : List Int} {s : Nat} (h : s < L.length) : (fillA L s).set s (L.getD s 0) = fillA L (s + 1) := by
 unfold fillA
 have ht : L.take (s + 1) = L.take s ++ [L.getD s 0] := by rw [List.take_add_one, getD_some L 0 h]; rfl
 rw [ht, List.set_append_right _ _ (by rw [List.length_take]; omega), List.length_take, Nat.min_eq_left (by omega), Nat.sub_self, show L.length - s = (L.length - (s + 1)) + 1 from by omega, List.replicate_succ, List.set_cons_zero, List.append_assoc]
 rfl
theorem fillA_at {L : List Int} {s : Nat} (h : s < L.length) : (fillA L s)[s]? = some 0 := by
 unfold fillA
 rw [List.getElem?_append_right (by rw [List.length_take]; omega), List.length_take, Nat.min_eq_left (by omega), Nat.sub_self, show L.length - s = (L.length - (s + 1)) + 1 from by omega, List.replicate_succ]
 rfl
theorem fillA_set0 {L : List Int} {s : Nat} (h : s < L.length) : (fillA L s).set s 0 = fillA L s := by
 have h1 := fillA_at h
 obtain ⟨h2, h3⟩ := List.getElem?_eq_some_iff.1 h1
 rw [← h3, List.set_getElem_self]
theorem tab_getD {n : Nat} {f : Nat → Int} {i : Nat} (h : i < n) : ((List.range n).map f).getD i 0 = f i := by simp [List.getD_eq_getElem?_getD, h]
theorem tab_get {n : Nat} {f : Nat → Int} {i : Nat} (h : i < n) : ((List.range n).map f)[i]? = some (f i) := by simp [h]
theorem mul_bd {x y A B : Int} (hx : -A ≤ x ∧ x ≤ A) (hy : -B ≤ y ∧ y ≤ B) : -(A * B) ≤ x * y ∧ x * y ≤ A * B := by
 have h1 : x.natAbs ≤ A.toNat := by omega
 have h2 : y.natAbs ≤ B.toNat := by omega
 have h3 := Nat.mul_le_mul h1 h2
 rw [← Int.natAbs_mul] at h3
 have h4 : ((A.toNat * B.toNat : Nat) : Int) = A * B := by
  rw [Int.natCast_mul, Int.toNat_of_nonneg (by omega), Int.toNat_of_nonneg (by omega)]
 omega
end Go.Sh
namespace Go.Proofs
open Go.Sh
structure M6 where
 a : Int
 b : Int
 c : Int
 d : Int
 e : Int
 f : Int
 deriving DecidableEq
def M6.l (m : M6) : List Int := [m.a, m.b, m.c, m.d, m.e, m.f]
structure LayF where
 id : Int
 kind : Int
 hidden : Bool
 opacity : Int
 mode : Int
 w : Int
 h : Int
 p : List Int
 mask : List Int
 map : M6
 smooth : Bool
 table : Int
 params : List Int
 deriving DecidableEq
inductive Lay where
 | mk (f : LayF) (kids : List Lay)
def Lay.f : Lay → LayF
 | .mk f _ => f
def Lay.kids : Lay → List Lay
 | .mk _ k => k
structure Sl3 where
 p : Option Addr
 l : Nat
 c : Nat
def Sl3.v (s : Sl3) : Value := .slice s.p s.l s.c
def Sl3.nil : Sl3 := ⟨none, 0, 0⟩
inductive T where
 | mk (f : LayF) (P M A K : Sl3) (kids : List T)
def T.f : T → LayF
 | .mk f _ _ _ _ _ => f
def T.K : T → Sl3
 | .mk _ _ _ _ K _ => K
def T.P' : T → Sl3
 | .mk _ P _ _ _ _ => P
def T.M' : T → Sl3
 | .mk _ _ M _ _ _ => M
def T.A' : T → Sl3
 | .mk _ _ _ A _ _ => A
def T.kids : T → List T
 | .mk _ _ _ _ _ k => k
def cellsL (f : LayF) (P M A K : Value) : List Value :=
 [.int .i64 f.id, .int .i64 f.kind, .bool f.hidden, .int .i64 f.opacity, .int .i64 f.mode, .int .i64 f.w, .int .i64 f.h, P, M,
  .int .i64 f.map.a, .int .i64 f.map.b, .int .i64 f.map.c, .int .i64 f.map.d, .int .i64 f.map.e, .int .i64 f.map.f, .bool f.smooth, .int .i64 f.table, A, K]
def cellsT : T → List Value
 | .mk f P M A K _ => cellsL f P.v M.v A.v K.v
def cellsKs (ts : List T) : List Value := (ts.map cellsT).flatten
theorem cellsT_len (t : T) : (cellsT t).length = 19 := by cases t; rfl
theorem cellsKs_len (ts : List T) : (cellsKs ts).length = ts.length * 19 := by
 unfold cellsKs
 induction ts with
 | nil => rfl
 | cons t ts ih => rw [List.map_cons, List.flatten_cons, List.length_append, ih, cellsT_len, List.length_cons]; omega
theorem cellsT_one (t : T) : ∀ v ∈ cellsT t, v.oneCell' = true := by
 cases t with | mk f P M A K ks =>
 show ∀ v ∈ cellsL f P.v M.v A.v K.v, v.oneCell' = true
 unfold cellsL
 simp only [List.forall_mem_cons]
 exact ⟨rfl, rfl, rfl, rfl, rfl, rfl, rfl, rfl, rfl, rfl, rfl, rfl, rfl, rfl, rfl, rfl, rfl, rfl, rfl, fun _ h => by cases h⟩
theorem cellsL_one (f : LayF) (P M A K : Sl3) : ∀ v ∈ cellsL f P.v M.v A.v K.v, v.oneCell' = true := cellsT_one (.mk f P M A K [])
theorem cellsKs_app (a b : List T) : cellsKs (a ++ b) = cellsKs a ++ cellsKs b := by simp [cellsKs]
theorem cellsKs_one (t : T) : cellsKs [t] = cellsT t := by simp [cellsKs]
theorem cellsKs_cons (t : T) (ts : List T) : cellsKs (t :: ts) = cellsT t ++ cellsKs ts := by simp [cellsKs]
theorem cellsKs_get {ts : List T} {i : Nat} {t : T} (h : ts[i]? = some t) {j : Nat} {v : Value} (hv : (cellsT t)[j]? = some v) : (cellsKs ts)[i * 19 + j]? = some v := by
 have hj : j < 19 := by have := (List.getElem?_eq_some_iff.1 hv).1; rw [cellsT_len] at this; exact this
 induction ts generalizing i with
 | nil => simp at h
 | cons x ts ih =>
  rw [cellsKs_cons]
  cases i with
  | zero =>
   simp at h; subst h
   rw [Nat.zero_mul, Nat.zero_add, List.getElem?_append_left (by rw [cellsT_len]; exact hj)]; exact hv
  | succ i =>
   rw [List.getElem?_append_right (by rw [cellsT_len]; omega), cellsT_len, show (i + 1) * 19 + j - 19 = i * 19 + j from by omega]
   exact ih (by simpa using h)
mutual
def layT : T → Lay
 | .mk f _ _ _ _ ks => .mk f (layKs ks)
def layKs : List T → List Lay
 | [] => []
 | t :: ts => layT t :: layKs ts
end
theorem layKs_map (ts : List T) : layKs ts = ts.map layT := by
 induction ts with
 | nil => rfl
 | cons t ts ih => rw [layKs, ih]; rfl
theorem layKs_len (ts : List T) : (layKs ts).length = ts.length := by rw [layKs_map, List.length_map]
theorem layKs_app (a b : List T) : layKs (a ++ b) = layKs a ++ layKs b := by simp [layKs_map]
theorem layT_f (t : T) : (layT t).f = t.f := by cases t; rfl
theorem T.ind {Q : T → Prop} (h : ∀ f P M A K ks, (∀ t ∈ ks, Q t) → Q (.mk f P M A K ks)) : ∀ t, Q t :=
 fun t => T.rec (motive_1 := Q) (motive_2 := fun ts => ∀ t ∈ ts, Q t) (fun f P M A K ks ih => h f P M A K ks ih) (fun _ h => by cases h)
  (fun t ts h1 h2 u hu => by
   rcases List.mem_cons.1 hu with rfl | hu
   ·exact h1
   ·exact h2 u hu) t
theorem Lay.ind {Q : Lay → Prop} (h : ∀ f ks, (∀ t ∈ ks, Q t) → Q (.mk f ks)) : ∀ t, Q t :=
 fun t => Lay.rec (motive_1 := Q) (motive_2 := fun ts => ∀ t ∈ ts, Q t) (fun f ks ih => h f ks ih) (fun _ h => by cases h)
  (fun t ts h1 h2 u hu => by
   rcases List.mem_cons.1 hu with rfl | hu
   ·exact h1
   ·exact h2 u hu) t
def rowsK (H : Heap) (K : Sl3) (ks : List T) : Prop := K.l = ks.length ∧ ∀ (i : Nat) t, ks[i]? = some t → ∃ a, K.p = some a ∧ rowIn H (a.add (i * 19)) (cellsT t).toArray
mutual
def rdT (H : Heap) : T → Prop
 | .mk f P M A K ks => IS H P.p P.l (ints f.p) ∧ IS H M.p M.l (kints .u8 f.mask) ∧ IS H A.p A.l (ints f.params) ∧ rowsK H K ks ∧ rdKs H ks
def rdKs (H : Heap) : List T → Prop
 | [] => True
 | t :: ts => rdT H t ∧ rdKs H ts
end
def grp (H : Heap) (K : Sl3) (ks : List T) : Prop := rowsK H K ks ∧ rdKs H ks
theorem rdKs_iff {H : Heap} : ∀ {ts : List T}, rdKs H ts ↔ ∀ t ∈ ts, rdT H t
 | [] => ⟨fun _ _ h => (by cases h), fun _ => trivial⟩
 | t :: ts => by
  rw [rdKs, rdKs_iff]
  simp only [List.forall_mem_cons]
theorem rowsK.ext {H H' : Heap} {K : Sl3} {ks : List T} (h : rowsK H K ks) (he : Ext H H') : rowsK H' K ks :=
 ⟨h.1, fun i t ht => let ⟨a, h1, h2⟩ := h.2 i t ht; ⟨a, h1, rowAt_ext he h2⟩⟩
theorem rdT.ext {H H' : Heap} (he : Ext H H') : ∀ t, rdT H t → rdT H' t := by
 refine T.ind fun f P M A K ks ih h => ?_
 rw [rdT] at h ⊢
 exact ⟨h.1.ext he, h.2.1.ext he, h.2.2.1.ext he, h.2.2.2.1.ext he, rdKs_iff.2 fun t ht => ih t ht (rdKs_iff.1 h.2.2.2.2 t ht)⟩
theorem grp.ext {H H' : Heap} {K : Sl3} {ks : List T} (h : grp H K ks) (he : Ext H H') : grp H' K ks :=
 ⟨h.1.ext he, rdKs_iff.2 fun t ht => rdT.ext he t (rdKs_iff.1 h.2 t ht)⟩
theorem grp.get {H : Heap} {K : Sl3} {ks : List T} (h : grp H K ks) {i : Nat} {t : T} (ht : ks[i]? = some t) : ∃ a, K.p = some a ∧ rowIn H (a.add (i * 19)) (cellsT t).toArray ∧ rdT H t :=
 let ⟨a, h1, h2⟩ := h.1.2 i t ht
 ⟨a, h1, h2, rdKs_iff.1 h.2 t (List.mem_of_getElem? ht)⟩
theorem grp.nil (H : Heap) : grp H .nil [] := ⟨⟨rfl, fun i t h => by simp at h⟩, trivial⟩
theorem rdT.grp {H : Heap} {t : T} (h : rdT H t) : grp H t.K t.kids := by
 cases t with | mk f P M A K ks =>
 rw [rdT] at h
 exact ⟨h.2.2.2.1, h.2.2.2.2⟩
mutual
def resT : T → List Rs
 | .mk f P M A K ks => .sl P.p P.l P.c 3 1 (ints f.p) :: .sl M.p M.l M.c 5 1 (kints .u8 f.mask) :: .sl A.p A.l A.c 3 1 (ints f.params) :: .sl K.p K.l K.c 58 19 (cellsKs ks) :: resKs ks
def resKs : List T → List Rs
 | [] => []
 | t :: ts => resT t ++ resKs ts
end
def resG (K : Sl3) (ks : List T) : List Rs := .sl K.p K.l K.c 58 19 (cellsKs ks) :: resKs ks
theorem resKs_app (a b : List T) : resKs (a ++ b) = resKs a ++ resKs b := by
 induction a with
 | nil => rfl
 | cons t a ih => rw [List.cons_append, resKs, ih, resKs, List.append_assoc]
theorem resKs_one (t : T) : resKs [t] = resT t := by rw [resKs, resKs, List.append_nil]
theorem resKs_cons (t : T) (ts : List T) : resKs (t :: ts) = resT t ++ resKs ts := by rw [resKs]
theorem resT_mk (f : LayF) (P M A K : Sl3) (ks : List T) : resT (.mk f P M A K ks) = .sl P.p P.l P.c 3 1 (ints f.p) :: .sl M.p M.l M.c 5 1 (kints .u8 f.mask) :: .sl A.p A.l A.c 3 1 (ints f.params) :: resG K ks := by rw [resT]; rfl
end Go.Proofs
namespace Go.Sh
open Go.Proofs
variable {H0 H H' : Heap} {σ τ : List Rs}
theorem RS.rowsK {H : Heap} {K : Sl3} {ks : List T} {el : TypeId} (h : RS H K.p K.l el 19 (cellsKs ks)) : Go.Proofs.rowsK H K ks := by
 have hl : K.l = ks.length := by have := h.len; rw [cellsKs_len] at this; omega
 refine ⟨hl, fun i t ht => ?_⟩
 have hi : i < ks.length := (List.getElem?_eq_some_iff.1 ht).1
 obtain ⟨blk, h1, h2⟩ := h.row (i := i) (by omega) (by decide) (xs := (cellsT t).toArray) fun j v hv => cellsKs_get ht (by simpa using hv)
 exact ⟨_, h1, by rw [add_none, Nat.zero_add]; exact h2⟩
theorem St.rdKs_of : ∀ {ks : List T}, (∀ t ∈ ks, ∀ {σ : List Rs}, St H0 H (resT t ++ σ) → Go.Proofs.rdT H t) → St H0 H (resKs ks ++ σ) → Go.Proofs.rdKs H ks
 | [], _, _ => trivial
 | t :: ts, h, hs => by
  rw [resKs, List.append_assoc] at hs
  exact ⟨h t List.mem_cons_self hs, St.rdKs_of (fun t ht => h t (List.mem_cons_of_mem _ ht)) hs.app.2⟩
theorem St.rdT : ∀ (t : T) {σ : List Rs}, St H0 H (resT t ++ σ) → Go.Proofs.rdT H t := by
 refine T.ind fun f P M A K ks ih σ hs => ?_
 rw [resT] at hs
 rw [Go.Proofs.rdT]
 refine ⟨hs.is 0 rfl, hs.is 1 rfl, hs.is 2 rfl, RS.rowsK (hs.rs 3 rfl), St.rdKs_of (fun t ht _ hs => ih t ht hs) (σ := σ) ?_⟩
 exact hs.drop 4
theorem St.grp {K : Sl3} {ks : List T} (hs : St H0 H (resG K ks ++ σ)) : Go.Proofs.grp H K ks :=
 ⟨RS.rowsK (hs.rs 0 rfl), St.rdKs_of (fun t ht _ hs => St.rdT t hs) (σ := σ) hs.tail⟩
theorem St.callR (hs : St H0 H σ) (ht : St H H' τ) : St H0 H' (σ ++ τ) := (hs.call ht).perm List.perm_append_comm
end Go.Sh
namespace Go.Proofs
open Go.Sh
def Tryz.i0 : TI := ⟨.tuple [], 1, 0, Value.tuple #[]⟩
theorem Tryz.tok0 : TIok Tryz.prog 0 Tryz.i0 := ⟨by kernel_rfl, by kernel_rfl⟩
def Tryz.i3 : TI := ⟨.int .i64, 1, 8, Value.int .i64 0⟩
theorem Tryz.tok3 : TIok Tryz.prog 3 Tryz.i3 := ⟨by kernel_rfl, by kernel_rfl⟩
def Tryz.i4 : TI := ⟨.bool, 1, 1, Value.bool false⟩
theorem Tryz.tok4 : TIok Tryz.prog 4 Tryz.i4 := ⟨by kernel_rfl, by kernel_rfl⟩
def Tryz.i5 : TI := ⟨.int .u8, 1, 1, Value.int .u8 0⟩
theorem Tryz.tok5 : TIok Tryz.prog 5 Tryz.i5 := ⟨by kernel_rfl, by kernel_rfl⟩
def Tryz.i9 : TI := ⟨.str, 1, 16, Value.string ByteArray.empty⟩
theorem Tryz.tok9 : TIok Tryz.prog 9 Tryz.i9 := ⟨by kernel_rfl, by kernel_rfl⟩
def Tryz.i22 : TI := ⟨.sl 52, 1, 24, Value.slice none 0 0⟩
theorem Tryz.tok22 : TIok Tryz.prog 22 Tryz.i22 := ⟨by kernel_rfl, by kernel_rfl⟩
def Tryz.i24 : TI := ⟨.sl 58, 1, 24, Value.slice none 0 0⟩
theorem Tryz.tok24 : TIok Tryz.prog 24 Tryz.i24 := ⟨by kernel_rfl, by kernel_rfl⟩
def Tryz.i26 : TI := ⟨.struct [(0, 3), (1, 3), (2, 3), (3, 24)], 4, 48, Value.agg #[Value.int .i64 0, Value.int .i64 0, Value.int .i64 0, Value.slice none 0 0]⟩
theorem Tryz.tok26 : TIok Tryz.prog 26 Tryz.i26 := ⟨by kernel_rfl, by kernel_rfl⟩
def Tryz.i27 : TI := ⟨.sl 101, 1, 24, Value.slice none 0 0⟩
theorem Tryz.tok27 : TIok Tryz.prog 27 Tryz.i27 := ⟨by kernel_rfl, by kernel_rfl⟩
def Tryz.i29 : TI := ⟨.struct [(0, 3), (1, 3), (2, 3), (3, 27)], 4, 48, Value.agg #[Value.int .i64 0, Value.int .i64 0, Value.int .i64 0, Value.slice none 0 0]⟩
theorem Tryz.tok29 : TIok Tryz.prog 29 Tryz.i29 := ⟨by kernel_rfl, by kernel_rfl⟩
def Tryz.i30 : TI := ⟨.tuple [26, 29, 4], 1, 0, Value.tuple #[Value.agg #[Value.int .i64 0, Value.int .i64 0, Value.int .i64 0, Value.slice none 0 0], Value.agg #[Value.int .i64 0, Value.int .i64 0, Value.int .i64 0, Value.slice none 0 0], Value.bool false]⟩
theorem Tryz.tok30 : TIok Tryz.prog 30 Tryz.i30 := ⟨by kernel_rfl, by kernel_rfl⟩
def Tryz.i32 : TI := ⟨.sl 3, 1, 24, Value.slice none 0 0⟩
theorem Tryz.tok32 : TIok Tryz.prog 32 Tryz.i32 := ⟨by kernel_rfl, by kernel_rfl⟩
def Tryz.i34 : TI := ⟨.struct [(0, 3), (1, 3), (2, 32)], 3, 40, Value.agg #[Value.int .i64 0, Value.int .i64 0, Value.slice none 0 0]⟩
theorem Tryz.tok34 : TIok Tryz.prog 34 Tryz.i34 := ⟨by kernel_rfl, by kernel_rfl⟩
def Tryz.i36 : TI := ⟨.tuple [32, 3], 1, 0, Value.tuple #[Value.slice none 0 0, Value.int .i64 0]⟩
theorem Tryz.tok36 : TIok Tryz.prog 36 Tryz.i36 := ⟨by kernel_rfl, by kernel_rfl⟩
def Tryz.i38 : TI := ⟨.fn, 1, 8, Value.nilFunc⟩
theorem Tryz.tok38 : TIok Tryz.prog 38 Tryz.i38 := ⟨by kernel_rfl, by kernel_rfl⟩
def Tryz.i42 : TI := ⟨.int .i64, 1, 8, Value.int .i64 0⟩
theorem Tryz.tok42 : TIok Tryz.prog 42 Tryz.i42 := ⟨by kernel_rfl, by kernel_rfl⟩
def Tryz.i43 : TI := ⟨.tuple [32, 42], 1, 0, Value.tuple #[Value.slice none 0 0, Value.int .i64 0]⟩
theorem Tryz.tok43 : TIok Tryz.prog 43 Tryz.i43 := ⟨by kernel_rfl, by kernel_rfl⟩
def Tryz.i46 : TI := ⟨.tuple [26, 42], 1, 0, Value.tuple #[Value.agg #[Value.int .i64 0, Value.int .i64 0, Value.int .i64 0, Value.slice none 0 0], Value.int .i64 0]⟩
theorem Tryz.tok46 : TIok Tryz.prog 46 Tryz.i46 := ⟨by kernel_rfl, by kernel_rfl⟩
def Tryz.i48 : TI := ⟨.sl 105, 1, 24, Value.slice none 0 0⟩
theorem Tryz.tok48 : TIok Tryz.prog 48 Tryz.i48 := ⟨by kernel_rfl, by kernel_rfl⟩
def Tryz.i50 : TI := ⟨.arr 6 3, 6, 48, Value.agg #[Value.int .i64 0, Value.int .i64 0, Value.int .i64 0, Value.int .i64 0, Value.int .i64 0, Value.int .i64 0]⟩
theorem Tryz.tok50 : TIok Tryz.prog 50 Tryz.i50 := ⟨by kernel_rfl, by kernel_rfl⟩
def Tryz.i52 : TI := ⟨.struct [(0, 3), (1, 3), (2, 3), (3, 3), (4, 3), (5, 3), (6, 3), (7, 3), (8, 3), (9, 3), (10, 32), (11, 48), (12, 50), (18, 32)], 19, 200, Value.agg #[Value.int .i64 0, Value.int .i64 0, Value.int .i64 0, Value.int .i64 0, Value.int .i64 0, Value.int .i64 0, Value.int .i64 0, Value.int .i64 0, Value.int .i64 0, Value.int .i64 0, Value.slice none 0 0, Value.slice none 0 0, Value.int .i64 0, Value.int .i64 0, Value.int .i64 0, Value.int .i64 0, Value.int .i64 0, Value.int .i64 0, Value.slice none 0 0]⟩
theorem Tryz.tok52 : TIok Tryz.prog 52 Tryz.i52 := ⟨by kernel_rfl, by kernel_rfl⟩
def Tryz.i56 : TI := ⟨.sl 5, 1, 24, Value.slice none 0 0⟩
theorem Tryz.tok56 : TIok Tryz.prog 56 Tryz.i56 := ⟨by kernel_rfl, by kernel_rfl⟩
def Tryz.i58 : TI := ⟨.struct [(0, 3), (1, 3), (2, 4), (3, 3), (4, 3), (5, 3), (6, 3), (7, 32), (8, 56), (9, 50), (15, 4), (16, 3), (17, 32), (18, 24)], 19, 216, Value.agg #[Value.int .i64 0, Value.int .i64 0, Value.bool false, Value.int .i64 0, Value.int .i64 0, Value.int .i64 0, Value.int .i64 0, Value.slice none 0 0, Value.slice none 0 0, Value.int .i64 0, Value.int .i64 0, Value.int .i64 0, Value.int .i64 0, Value.int .i64 0, Value.int .i64 0, Value.bool false, Value.int .i64 0, Value.slice none 0 0, Value.slice none 0 0]⟩
theorem Tryz.tok58 : TIok Tryz.prog 58 Tryz.i58 := ⟨by kernel_rfl, by kernel_rfl⟩
def Tryz.i60 : TI := ⟨.tuple [58, 4], 1, 0, Value.tuple #[Value.agg #[Value.int .i64 0, Value.int .i64 0, Value.bool false, Value.int .i64 0, Value.int .i64 0, Value.int .i64 0, Value.int .i64 0, Value.slice none 0 0, Value.slice none 0 0, Value.int .i64 0, Value.int .i64 0, Value.int .i64 0, Value.int .i64 0, Value.int .i64 0, Value.int .i64 0, Value.bool false, Value.int .i64 0, Value.slice none 0 0, Value.slice none 0 0], Value.bool false]⟩
theorem Tryz.tok60 : TIok Tryz.prog 60 Tryz.i60 := ⟨by kernel_rfl, by kernel_rfl⟩
def Tryz.i63 : TI := ⟨.tuple [3, 3, 4], 1, 0, Value.tuple #[Value.int .i64 0, Value.int .i64 0, Value.bool false]⟩
theorem Tryz.tok63 : TIok Tryz.prog 63 Tryz.i63 := ⟨by kernel_rfl, by kernel_rfl⟩
def Tryz.i67 : TI := ⟨.tuple [29, 3], 1, 0, Value.tuple #[Value.agg #[Value.int .i64 0, Value.int .i64 0, Value.int .i64 0, Value.slice none 0 0], Value.int .i64 0]⟩
theorem Tryz.tok67 : TIok Tryz.prog 67 Tryz.i67 := ⟨by kernel_rfl, by kernel_rfl⟩
def Tryz.i70 : TI := ⟨.sl 106, 1, 24, Value.slice none 0 0⟩
theorem Tryz.tok70 : TIok Tryz.prog 70 Tryz.i70 := ⟨by kernel_rfl, by kernel_rfl⟩
def Tryz.i71 : TI := ⟨.arr 6 3, 6, 48, Value.agg #[Value.int .i64 0, Value.int .i64 0, Value.int .i64 0, Value.int .i64 0, Value.int .i64 0, Value.int .i64 0]⟩
theorem Tryz.tok71 : TIok Tryz.prog 71 Tryz.i71 := ⟨by kernel_rfl, by kernel_rfl⟩
def Tryz.i73 : TI := ⟨.struct [(0, 3), (1, 3), (2, 3), (3, 3), (4, 3), (5, 3), (6, 3), (7, 3), (8, 3), (9, 3), (10, 32), (11, 70), (12, 71), (18, 32)], 19, 200, Value.agg #[Value.int .i64 0, Value.int .i64 0, Value.int .i64 0, Value.int .i64 0, Value.int .i64 0, Value.int .i64 0, Value.int .i64 0, Value.int .i64 0, Value.int .i64 0, Value.int .i64 0, Value.slice none 0 0, Value.slice none 0 0, Value.int .i64 0, Value.int .i64 0, Value.int .i64 0, Value.int .i64 0, Value.int .i64 0, Value.int .i64 0, Value.slice none 0 0]⟩
theorem Tryz.tok73 : TIok Tryz.prog 73 Tryz.i73 := ⟨by kernel_rfl, by kernel_rfl⟩
def Tryz.i79 : TI := ⟨.struct [(0, 26), (4, 3), (5, 3), (6, 3), (7, 3)], 8, 80, Value.agg #[Value.int .i64 0, Value.int .i64 0, Value.int .i64 0, Value.slice none 0 0, Value.int .i64 0, Value.int .i64 0, Value.int .i64 0, Value.int .i64 0]⟩
theorem Tryz.tok79 : TIok Tryz.prog 79 Tryz.i79 := ⟨by kernel_rfl, by kernel_rfl⟩
def Tryz.i82 : TI := ⟨.ptr 58, 1, 8, Value.pointer none⟩
theorem Tryz.tok82 : TIok Tryz.prog 82 Tryz.i82 := ⟨by kernel_rfl, by kernel_rfl⟩
def Tryz.i84 : TI := ⟨.ptr 26, 1, 8, Value.pointer none⟩
theorem Tryz.tok84 : TIok Tryz.prog 84 Tryz.i84 := ⟨by kernel_rfl, by kernel_rfl⟩
def Tryz.i86 : TI := ⟨.struct [(0, 82), (1, 84), (2, 52)], 21, 216, Value.agg #[Value.pointer none, Value.pointer none, Value.int .i64 0, Value.int .i64 0, Value.int .i64 0, Value.int .i64 0, Value.int .i64 0, Value.int .i64 0, Value.int .i64 0, Value.int .i64 0, Value.int .i64 0, Value.int .i64 0, Value.slice none 0 0, Value.slice none 0 0, Value.int .i64 0, Value.int .i64 0, Value.int .i64 0, Value.int .i64 0, Value.int .i64 0, Value.int .i64 0, Value.slice none 0 0]⟩
theorem Tryz.tok86 : TIok Tryz.prog 86 Tryz.i86 := ⟨by kernel_rfl, by kernel_rfl⟩
def Tryz.i87 : TI := ⟨.fn, 1, 8, Value.nilFunc⟩
theorem Tryz.tok87 : TIok Tryz.prog 87 Tryz.i87 := ⟨by kernel_rfl, by kernel_rfl⟩
def Tryz.i89 : TI := ⟨.sl 87, 1, 24, Value.slice none 0 0⟩
theorem Tryz.tok89 : TIok Tryz.prog 89 Tryz.i89 := ⟨by kernel_rfl, by kernel_rfl⟩
def Tryz.i91 : TI := ⟨.tuple [82, 82, 3], 1, 0, Value.tuple #[Value.pointer none, Value.pointer none, Value.int .i64 0]⟩
theorem Tryz.tok91 : TIok Tryz.prog 91 Tryz.i91 := ⟨by kernel_rfl, by kernel_rfl⟩
def Tryz.i94 : TI := ⟨.arr 4 3, 4, 32, Value.agg #[Value.int .i64 0, Value.int .i64 0, Value.int .i64 0, Value.int .i64 0]⟩
theorem Tryz.tok94 : TIok Tryz.prog 94 Tryz.i94 := ⟨by kernel_rfl, by kernel_rfl⟩
def Tryz.i98 : TI := ⟨.tuple [27, 27], 1, 0, Value.tuple #[Value.slice none 0 0, Value.slice none 0 0]⟩
theorem Tryz.tok98 : TIok Tryz.prog 98 Tryz.i98 := ⟨by kernel_rfl, by kernel_rfl⟩
def Tryz.i101 : TI := ⟨.struct [(0, 3), (1, 3), (2, 3), (3, 4), (4, 3), (5, 3), (6, 3), (7, 3), (8, 32), (9, 56), (10, 71), (16, 4), (17, 3), (18, 32)], 19, 200, Value.agg #[Value.int .i64 0, Value.int .i64 0, Value.int .i64 0, Value.bool false, Value.int .i64 0, Value.int .i64 0, Value.int .i64 0, Value.int .i64 0, Value.slice none 0 0, Value.slice none 0 0, Value.int .i64 0, Value.int .i64 0, Value.int .i64 0, Value.int .i64 0, Value.int .i64 0, Value.int .i64 0, Value.bool false, Value.int .i64 0, Value.slice none 0 0]⟩
theorem Tryz.tok101 : TIok Tryz.prog 101 Tryz.i101 := ⟨by kernel_rfl, by kernel_rfl⟩
def Tryz.i102 : TI := ⟨.tuple [101, 3], 1, 0, Value.tuple #[Value.agg #[Value.int .i64 0, Value.int .i64 0, Value.int .i64 0, Value.bool false, Value.int .i64 0, Value.int .i64 0, Value.int .i64 0, Value.int .i64 0, Value.slice none 0 0, Value.slice none 0 0, Value.int .i64 0, Value.int .i64 0, Value.int .i64 0, Value.int .i64 0, Value.int .i64 0, Value.int .i64 0, Value.bool false, Value.int .i64 0, Value.slice none 0 0], Value.int .i64 0]⟩
theorem Tryz.tok102 : TIok Tryz.prog 102 Tryz.i102 := ⟨by kernel_rfl, by kernel_rfl⟩
def Tryz.i105 : TI := ⟨.struct [(0, 3), (1, 3)], 2, 16, Value.agg #[Value.int .i64 0, Value.int .i64 0]⟩
theorem Tryz.tok105 : TIok Tryz.prog 105 Tryz.i105 := ⟨by kernel_rfl, by kernel_rfl⟩
def Tryz.i106 : TI := ⟨.struct [(0, 3), (1, 3)], 2, 16, Value.agg #[Value.int .i64 0, Value.int .i64 0]⟩
theorem Tryz.tok106 : TIok Tryz.prog 106 Tryz.i106 := ⟨by kernel_rfl, by kernel_rfl⟩
def Tryz.i119 : TI := ⟨.fn, 1, 8, Value.nilFunc⟩
theorem Tryz.tok119 : TIok Tryz.prog 119 Tryz.i119 := ⟨by kernel_rfl, by kernel_rfl⟩
def Tryz.i121 : TI := ⟨.tuple [82, 42], 1, 0, Value.tuple #[Value.pointer none, Value.int .i64 0]⟩
theorem Tryz.tok121 : TIok Tryz.prog 121 Tryz.i121 := ⟨by kernel_rfl, by kernel_rfl⟩
def Tryz.i126 : TI := ⟨.tuple [56, 42], 1, 0, Value.tuple #[Value.slice none 0 0, Value.int .i64 0]⟩
theorem Tryz.tok126 : TIok Tryz.prog 126 Tryz.i126 := ⟨by kernel_rfl, by kernel_rfl⟩
def Tryz.i128 : TI := ⟨.tuple [50, 42], 1, 0, Value.tuple #[Value.agg #[Value.int .i64 0, Value.int .i64 0, Value.int .i64 0, Value.int .i64 0, Value.int .i64 0, Value.int .i64 0], Value.int .i64 0]⟩
theorem Tryz.tok128 : TIok Tryz.prog 128 Tryz.i128 := ⟨by kernel_rfl, by kernel_rfl⟩
def Tryz.i130 : TI := ⟨.tuple [32, 4], 1, 0, Value.tuple #[Value.slice none 0 0, Value.bool false]⟩
theorem Tryz.tok130 : TIok Tryz.prog 130 Tryz.i130 := ⟨by kernel_rfl, by kernel_rfl⟩
def Tryz.i135 : TI := ⟨.tuple [71, 3], 1, 0, Value.tuple #[Value.agg #[Value.int .i64 0, Value.int .i64 0, Value.int .i64 0, Value.int .i64 0, Value.int .i64 0, Value.int .i64 0], Value.int .i64 0]⟩
theorem Tryz.tok135 : TIok Tryz.prog 135 Tryz.i135 := ⟨by kernel_rfl, by kernel_rfl⟩
def Tryz.i137 : TI := ⟨.struct [(0, 3), (1, 3), (2, 32)], 3, 40, Value.agg #[Value.int .i64 0, Value.int .i64 0, Value.slice none 0 0]⟩
theorem Tryz.tok137 : TIok Tryz.prog 137 Tryz.i137 := ⟨by kernel_rfl, by kernel_rfl⟩
def Tryz.i151 : TI := ⟨.sl 48, 1, 24, Value.slice none 0 0⟩
theorem Tryz.tok151 : TIok Tryz.prog 151 Tryz.i151 := ⟨by kernel_rfl, by kernel_rfl⟩
def Tryz.i152 : TI := ⟨.cpl .f64, 1, 16, Value.complex .f64 0 0⟩
theorem Tryz.tok152 : TIok Tryz.prog 152 Tryz.i152 := ⟨by kernel_rfl, by kernel_rfl⟩
def Tryz.i153 : TI := ⟨.flt .f64, 1, 8, Value.float .f64 0⟩
theorem Tryz.tok153 : TIok Tryz.prog 153 Tryz.i153 := ⟨by kernel_rfl, by kernel_rfl⟩
def Tryz.i157 : TI := ⟨.arr 4 94, 16, 128, Value.agg #[Value.int .i64 0, Value.int .i64 0, Value.int .i64 0, Value.int .i64 0, Value.int .i64 0, Value.int .i64 0, Value.int .i64 0, Value.int .i64 0, Value.int .i64 0, Value.int .i64 0, Value.int .i64 0, Value.int .i64 0, Value.int .i64 0, Value.int .i64 0, Value.int .i64 0, Value.int .i64 0]⟩
theorem Tryz.tok157 : TIok Tryz.prog 157 Tryz.i157 := ⟨by kernel_rfl, by kernel_rfl⟩
def Tryz.tab : Tab := [(0, Tryz.i0), (3, Tryz.i3), (4, Tryz.i4), (5, Tryz.i5), (9, Tryz.i9), (22, Tryz.i22), (24, Tryz.i24), (26, Tryz.i26), (27, Tryz.i27), (29, Tryz.i29), (30, Tryz.i30), (32, Tryz.i32), (34, Tryz.i34), (36, Tryz.i36), (38, Tryz.i38), (42, Tryz.i42), (43, Tryz.i43), (46, Tryz.i46), (48, Tryz.i48), (50, Tryz.i50), (52, Tryz.i52), (56, Tryz.i56), (58, Tryz.i58), (60, Tryz.i60), (63, Tryz.i63), (67, Tryz.i67), (70, Tryz.i70), (71, Tryz.i71), (73, Tryz.i73), (79, Tryz.i79), (82, Tryz.i82), (84, Tryz.i84), (86, Tryz.i86), (87, Tryz.i87), (89, Tryz.i89), (91, Tryz.i91), (94, Tryz.i94), (98, Tryz.i98), (101, Tryz.i101), (102, Tryz.i102), (105, Tryz.i105), (106, Tryz.i106), (119, Tryz.i119), (121, Tryz.i121), (126, Tryz.i126), (128, Tryz.i128), (130, Tryz.i130), (135, Tryz.i135), (137, Tryz.i137), (151, Tryz.i151), (152, Tryz.i152), (153, Tryz.i153), (157, Tryz.i157)]
theorem Tryz.tab_ok : TabOk Tryz.prog Tryz.tab := by
 unfold TabOk Tryz.tab
 simp only [List.forall_mem_cons]
 exact ⟨Tryz.tok0, Tryz.tok3, Tryz.tok4, Tryz.tok5, Tryz.tok9, Tryz.tok22, Tryz.tok24, Tryz.tok26, Tryz.tok27, Tryz.tok29, Tryz.tok30, Tryz.tok32, Tryz.tok34, Tryz.tok36, Tryz.tok38, Tryz.tok42, Tryz.tok43, Tryz.tok46, Tryz.tok48, Tryz.tok50, Tryz.tok52, Tryz.tok56, Tryz.tok58, Tryz.tok60, Tryz.tok63, Tryz.tok67, Tryz.tok70, Tryz.tok71, Tryz.tok73, Tryz.tok79, Tryz.tok82, Tryz.tok84, Tryz.tok86, Tryz.tok87, Tryz.tok89, Tryz.tok91, Tryz.tok94, Tryz.tok98, Tryz.tok101, Tryz.tok102, Tryz.tok105, Tryz.tok106, Tryz.tok119, Tryz.tok121, Tryz.tok126, Tryz.tok128, Tryz.tok130, Tryz.tok135, Tryz.tok137, Tryz.tok151, Tryz.tok152, Tryz.tok153, Tryz.tok157, fun _ h => by cases h⟩
abbrev Tryz.C := CallsH Tryz.prog
theorem Tryz.mixed : Tryz.prog.follows .mixedOrders = true := by kernel_rfl
theorem Tryz.cal3 : callable Tryz.prog 3 := ⟨Tryz.f3, Tryz.func3, by kernel_rfl, by kernel_rfl⟩
theorem Tryz.cal4 : callable Tryz.prog 4 := ⟨Tryz.f4, Tryz.func4, by kernel_rfl, by kernel_rfl⟩
theorem Tryz.cal9 : callable Tryz.prog 9 := ⟨Tryz.f9, Tryz.func9, by kernel_rfl, by kernel_rfl⟩
theorem Tryz.cal10 : callable Tryz.prog 10 := ⟨Tryz.f10, Tryz.func10, by kernel_rfl, by kernel_rfl⟩
theorem Tryz.cal11 : callable Tryz.prog 11 := ⟨Tryz.f11, Tryz.func11, by kernel_rfl, by kernel_rfl⟩
theorem Tryz.cal12 : callable Tryz.prog 12 := ⟨Tryz.f12, Tryz.func12, by kernel_rfl, by kernel_rfl⟩
theorem Tryz.cal13 : callable Tryz.prog 13 := ⟨Tryz.f13, Tryz.func13, by kernel_rfl, by kernel_rfl⟩
theorem Tryz.cal14 : callable Tryz.prog 14 := ⟨Tryz.f14, Tryz.func14, by kernel_rfl, by kernel_rfl⟩
theorem Tryz.cal15 : callable Tryz.prog 15 := ⟨Tryz.f15, Tryz.func15, by kernel_rfl, by kernel_rfl⟩
theorem Tryz.cal16 : callable Tryz.prog 16 := ⟨Tryz.f16, Tryz.func16, by kernel_rfl, by kernel_rfl⟩
theorem Tryz.cal17 : callable Tryz.prog 17 := ⟨Tryz.f17, Tryz.func17, by kernel_rfl, by kernel_rfl⟩
theorem Tryz.cal21 : callable Tryz.prog 21 := ⟨Tryz.f21, Tryz.func21, by kernel_rfl, by kernel_rfl⟩
theorem Tryz.cal22 : callable Tryz.prog 22 := ⟨Tryz.f22, Tryz.func22, by kernel_rfl, by kernel_rfl⟩
theorem Tryz.cal23 : callable Tryz.prog 23 := ⟨Tryz.f23, Tryz.func23, by kernel_rfl, by kernel_rfl⟩
theorem Tryz.cal24 : callable Tryz.prog 24 := ⟨Tryz.f24, Tryz.func24, by kernel_rfl, by kernel_rfl⟩
theorem Tryz.cal25 : callable Tryz.prog 25 := ⟨Tryz.f25, Tryz.func25, by kernel_rfl, by kernel_rfl⟩
theorem Tryz.cal26 : callable Tryz.prog 26 := ⟨Tryz.f26, Tryz.func26, by kernel_rfl, by kernel_rfl⟩
theorem Tryz.cal27 : callable Tryz.prog 27 := ⟨Tryz.f27, Tryz.func27, by kernel_rfl, by kernel_rfl⟩
theorem Tryz.cal28 : callable Tryz.prog 28 := ⟨Tryz.f28, Tryz.func28, by kernel_rfl, by kernel_rfl⟩
theorem Tryz.cal29 : callable Tryz.prog 29 := ⟨Tryz.f29, Tryz.func29, by kernel_rfl, by kernel_rfl⟩
theorem Tryz.cal30 : callable Tryz.prog 30 := ⟨Tryz.f30, Tryz.func30, by kernel_rfl, by kernel_rfl⟩
theorem Tryz.cal31 : callable Tryz.prog 31 := ⟨Tryz.f31, Tryz.func31, by kernel_rfl, by kernel_rfl⟩
theorem Tryz.cal32 : callable Tryz.prog 32 := ⟨Tryz.f32, Tryz.func32, by kernel_rfl, by kernel_rfl⟩
theorem Tryz.cal33 : callable Tryz.prog 33 := ⟨Tryz.f33, Tryz.func33, by kernel_rfl, by kernel_rfl⟩
theorem Tryz.cal34 : callable Tryz.prog 34 := ⟨Tryz.f34, Tryz.func34, by kernel_rfl, by kernel_rfl⟩
theorem Tryz.cal35 : callable Tryz.prog 35 := ⟨Tryz.f35, Tryz.func35, by kernel_rfl, by kernel_rfl⟩
theorem Tryz.cal36 : callable Tryz.prog 36 := ⟨Tryz.f36, Tryz.func36, by kernel_rfl, by kernel_rfl⟩
theorem Tryz.cal37 : callable Tryz.prog 37 := ⟨Tryz.f37, Tryz.func37, by kernel_rfl, by kernel_rfl⟩
theorem Tryz.cal38 : callable Tryz.prog 38 := ⟨Tryz.f38, Tryz.func38, by kernel_rfl, by kernel_rfl⟩
theorem Tryz.cal39 : callable Tryz.prog 39 := ⟨Tryz.f39, Tryz.func39, by kernel_rfl, by kernel_rfl⟩
theorem Tryz.cal40 : callable Tryz.prog 40 := ⟨Tryz.f40, Tryz.func40, by kernel_rfl, by kernel_rfl⟩
theorem Tryz.cal41 : callable Tryz.prog 41 := ⟨Tryz.f41, Tryz.func41, by kernel_rfl, by kernel_rfl⟩
theorem Tryz.cal42 : callable Tryz.prog 42 := ⟨Tryz.f42, Tryz.func42, by kernel_rfl, by kernel_rfl⟩
theorem Tryz.cal43 : callable Tryz.prog 43 := ⟨Tryz.f43, Tryz.func43, by kernel_rfl, by kernel_rfl⟩
theorem Tryz.cal44 : callable Tryz.prog 44 := ⟨Tryz.f44, Tryz.func44, by kernel_rfl, by kernel_rfl⟩
theorem Tryz.cal45 : callable Tryz.prog 45 := ⟨Tryz.f45, Tryz.func45, by kernel_rfl, by kernel_rfl⟩
theorem Tryz.cal46 : callable Tryz.prog 46 := ⟨Tryz.f46, Tryz.func46, by kernel_rfl, by kernel_rfl⟩
theorem Tryz.cal47 : callable Tryz.prog 47 := ⟨Tryz.f47, Tryz.func47, by kernel_rfl, by kernel_rfl⟩
theorem Tryz.cal48 : callable Tryz.prog 48 := ⟨Tryz.f48, Tryz.func48, by kernel_rfl, by kernel_rfl⟩
theorem Tryz.cal49 : callable Tryz.prog 49 := ⟨Tryz.f49, Tryz.func49, by kernel_rfl, by kernel_rfl⟩
theorem Tryz.cal50 : callable Tryz.prog 50 := ⟨Tryz.f50, Tryz.func50, by kernel_rfl, by kernel_rfl⟩
theorem Tryz.cal51 : callable Tryz.prog 51 := ⟨Tryz.f51, Tryz.func51, by kernel_rfl, by kernel_rfl⟩
theorem Tryz.cal52 : callable Tryz.prog 52 := ⟨Tryz.f52, Tryz.func52, by kernel_rfl, by kernel_rfl⟩
theorem Tryz.cal53 : callable Tryz.prog 53 := ⟨Tryz.f53, Tryz.func53, by kernel_rfl, by kernel_rfl⟩
theorem Tryz.cal54 : callable Tryz.prog 54 := ⟨Tryz.f54, Tryz.func54, by kernel_rfl, by kernel_rfl⟩
theorem Tryz.cal55 : callable Tryz.prog 55 := ⟨Tryz.f55, Tryz.func55, by kernel_rfl, by kernel_rfl⟩
theorem Tryz.cal56 : callable Tryz.prog 56 := ⟨Tryz.f56, Tryz.func56, by kernel_rfl, by kernel_rfl⟩
theorem Tryz.cal57 : callable Tryz.prog 57 := ⟨Tryz.f57, Tryz.func57, by kernel_rfl, by kernel_rfl⟩
theorem Tryz.cal58 : callable Tryz.prog 58 := ⟨Tryz.f58, Tryz.func58, by kernel_rfl, by kernel_rfl⟩
theorem Tryz.cal59 : callable Tryz.prog 59 := ⟨Tryz.f59, Tryz.func59, by kernel_rfl, by kernel_rfl⟩
theorem Tryz.cal60 : callable Tryz.prog 60 := ⟨Tryz.f60, Tryz.func60, by kernel_rfl, by kernel_rfl⟩
theorem Tryz.cal61 : callable Tryz.prog 61 := ⟨Tryz.f61, Tryz.func61, by kernel_rfl, by kernel_rfl⟩
theorem Tryz.cal62 : callable Tryz.prog 62 := ⟨Tryz.f62, Tryz.func62, by kernel_rfl, by kernel_rfl⟩
theorem Tryz.cal63 : callable Tryz.prog 63 := ⟨Tryz.f63, Tryz.func63, by kernel_rfl, by kernel_rfl⟩
theorem Tryz.cal64 : callable Tryz.prog 64 := ⟨Tryz.f64, Tryz.func64, by kernel_rfl, by kernel_rfl⟩
theorem Tryz.cal65 : callable Tryz.prog 65 := ⟨Tryz.f65, Tryz.func65, by kernel_rfl, by kernel_rfl⟩
theorem Tryz.cal66 : callable Tryz.prog 66 := ⟨Tryz.f66, Tryz.func66, by kernel_rfl, by kernel_rfl⟩
theorem Tryz.cal67 : callable Tryz.prog 67 := ⟨Tryz.f67, Tryz.func67, by kernel_rfl, by kernel_rfl⟩
theorem Tryz.cal68 : callable Tryz.prog 68 := ⟨Tryz.f68, Tryz.func68, by kernel_rfl, by kernel_rfl⟩
theorem Tryz.cal69 : callable Tryz.prog 69 := ⟨Tryz.f69, Tryz.func69, by kernel_rfl, by kernel_rfl⟩
theorem Tryz.cal70 : callable Tryz.prog 70 := ⟨Tryz.f70, Tryz.func70, by kernel_rfl, by kernel_rfl⟩
theorem Tryz.cal71 : callable Tryz.prog 71 := ⟨Tryz.f71, Tryz.func71, by kernel_rfl, by kernel_rfl⟩
theorem Tryz.cal72 : callable Tryz.prog 72 := ⟨Tryz.f72, Tryz.func72, by kernel_rfl, by kernel_rfl⟩
theorem Tryz.cal73 : callable Tryz.prog 73 := ⟨Tryz.f73, Tryz.func73, by kernel_rfl, by kernel_rfl⟩
theorem Tryz.cal74 : callable Tryz.prog 74 := ⟨Tryz.f74, Tryz.func74, by kernel_rfl, by kernel_rfl⟩
theorem Tryz.cal75 : callable Tryz.prog 75 := ⟨Tryz.f75, Tryz.func75, by kernel_rfl, by kernel_rfl⟩
theorem Tryz.cal76 : callable Tryz.prog 76 := ⟨Tryz.f76, Tryz.func76, by kernel_rfl, by kernel_rfl⟩
theorem Tryz.cal77 : callable Tryz.prog 77 := ⟨Tryz.f77, Tryz.func77, by kernel_rfl, by kernel_rfl⟩
theorem Tryz.cal78 : callable Tryz.prog 78 := ⟨Tryz.f78, Tryz.func78, by kernel_rfl, by kernel_rfl⟩
theorem Tryz.cal79 : callable Tryz.prog 79 := ⟨Tryz.f79, Tryz.func79, by kernel_rfl, by kernel_rfl⟩
theorem Tryz.cal80 : callable Tryz.prog 80 := ⟨Tryz.f80, Tryz.func80, by kernel_rfl, by kernel_rfl⟩
theorem Tryz.cal81 : callable Tryz.prog 81 := ⟨Tryz.f81, Tryz.func81, by kernel_rfl, by kernel_rfl⟩
theorem Tryz.cal82 : callable Tryz.prog 82 := ⟨Tryz.f82, Tryz.func82, by kernel_rfl, by kernel_rfl⟩
theorem Tryz.cal83 : callable Tryz.prog 83 := ⟨Tryz.f83, Tryz.func83, by kernel_rfl, by kernel_rfl⟩
theorem Tryz.cal84 : callable Tryz.prog 84 := ⟨Tryz.f84, Tryz.func84, by kernel_rfl, by kernel_rfl⟩
theorem Tryz.cal85 : callable Tryz.prog 85 := ⟨Tryz.f85, Tryz.func85, by kernel_rfl, by kernel_rfl⟩
theorem Tryz.cal86 : callable Tryz.prog 86 := ⟨Tryz.f86, Tryz.func86, by kernel_rfl, by kernel_rfl⟩
theorem Tryz.cal87 : callable Tryz.prog 87 := ⟨Tryz.f87, Tryz.func87, by kernel_rfl, by kernel_rfl⟩
theorem Tryz.cal88 : callable Tryz.prog 88 := ⟨Tryz.f88, Tryz.func88, by kernel_rfl, by kernel_rfl⟩
theorem Tryz.cal89 : callable Tryz.prog 89 := ⟨Tryz.f89, Tryz.func89, by kernel_rfl, by kernel_rfl⟩
theorem Tryz.cal90 : callable Tryz.prog 90 := ⟨Tryz.f90, Tryz.func90, by kernel_rfl, by kernel_rfl⟩
theorem Tryz.cal91 : callable Tryz.prog 91 := ⟨Tryz.f91, Tryz.func91, by kernel_rfl, by kernel_rfl⟩
theorem Tryz.cal92 : callable Tryz.prog 92 := ⟨Tryz.f92, Tryz.func92, by kernel_rfl, by kernel_rfl⟩
theorem Tryz.cal93 : callable Tryz.prog 93 := ⟨Tryz.f93, Tryz.func93, by kernel_rfl, by kernel_rfl⟩
theorem Tryz.cal94 : callable Tryz.prog 94 := ⟨Tryz.f94, Tryz.func94, by kernel_rfl, by kernel_rfl⟩
theorem Tryz.cal95 : callable Tryz.prog 95 := ⟨Tryz.f95, Tryz.func95, by kernel_rfl, by kernel_rfl⟩
theorem Tryz.cal96 : callable Tryz.prog 96 := ⟨Tryz.f96, Tryz.func96, by kernel_rfl, by kernel_rfl⟩
theorem Tryz.cal97 : callable Tryz.prog 97 := ⟨Tryz.f97, Tryz.func97, by kernel_rfl, by kernel_rfl⟩
theorem Tryz.cal98 : callable Tryz.prog 98 := ⟨Tryz.f98, Tryz.func98, by kernel_rfl, by kernel_rfl⟩
theorem Tryz.cal99 : callable Tryz.prog 99 := ⟨Tryz.f99, Tryz.func99, by kernel_rfl, by kernel_rfl⟩
theorem Tryz.cal100 : callable Tryz.prog 100 := ⟨Tryz.f100, Tryz.func100, by kernel_rfl, by kernel_rfl⟩
theorem Tryz.cal101 : callable Tryz.prog 101 := ⟨Tryz.f101, Tryz.func101, by kernel_rfl, by kernel_rfl⟩
theorem Tryz.cal102 : callable Tryz.prog 102 := ⟨Tryz.f102, Tryz.func102, by kernel_rfl, by kernel_rfl⟩
theorem Tryz.cal103 : callable Tryz.prog 103 := ⟨Tryz.f103, Tryz.func103, by kernel_rfl, by kernel_rfl⟩
theorem Tryz.cal104 : callable Tryz.prog 104 := ⟨Tryz.f104, Tryz.func104, by kernel_rfl, by kernel_rfl⟩
theorem Tryz.cal105 : callable Tryz.prog 105 := ⟨Tryz.f105, Tryz.func105, by kernel_rfl, by kernel_rfl⟩
theorem Tryz.cal106 : callable Tryz.prog 106 := ⟨Tryz.f106, Tryz.func106, by kernel_rfl, by kernel_rfl⟩
theorem Tryz.cal107 : callable Tryz.prog 107 := ⟨Tryz.f107, Tryz.func107, by kernel_rfl, by kernel_rfl⟩
theorem Tryz.cal108 : callable Tryz.prog 108 := ⟨Tryz.f108, Tryz.func108, by kernel_rfl, by kernel_rfl⟩
theorem Tryz.cal109 : callable Tryz.prog 109 := ⟨Tryz.f109, Tryz.func109, by kernel_rfl, by kernel_rfl⟩
theorem Tryz.cal110 : callable Tryz.prog 110 := ⟨Tryz.f110, Tryz.func110, by kernel_rfl, by kernel_rfl⟩
theorem Tryz.cal111 : callable Tryz.prog 111 := ⟨Tryz.f111, Tryz.func111, by kernel_rfl, by kernel_rfl⟩
theorem Tryz.cal112 : callable Tryz.prog 112 := ⟨Tryz.f112, Tryz.func112, by kernel_rfl, by kernel_rfl⟩
theorem Tryz.cal113 : callable Tryz.prog 113 := ⟨Tryz.f113, Tryz.func113, by kernel_rfl, by kernel_rfl⟩
theorem Tryz.cal114 : callable Tryz.prog 114 := ⟨Tryz.f114, Tryz.func114, by kernel_rfl, by kernel_rfl⟩
theorem Tryz.cal115 : callable Tryz.prog 115 := ⟨Tryz.f115, Tryz.func115, by kernel_rfl, by kernel_rfl⟩
theorem Tryz.cal116 : callable Tryz.prog 116 := ⟨Tryz.f116, Tryz.func116, by kernel_rfl, by kernel_rfl⟩
theorem Tryz.cal117 : callable Tryz.prog 117 := ⟨Tryz.f117, Tryz.func117, by kernel_rfl, by kernel_rfl⟩
theorem Tryz.cal118 : callable Tryz.prog 118 := ⟨Tryz.f118, Tryz.func118, by kernel_rfl, by kernel_rfl⟩
theorem Tryz.cal119 : callable Tryz.prog 119 := ⟨Tryz.f119, Tryz.func119, by kernel_rfl, by kernel_rfl⟩
theorem Tryz.cal120 : callable Tryz.prog 120 := ⟨Tryz.f120, Tryz.func120, by kernel_rfl, by kernel_rfl⟩
theorem Tryz.cal121 : callable Tryz.prog 121 := ⟨Tryz.f121, Tryz.func121, by kernel_rfl, by kernel_rfl⟩
theorem Tryz.cal122 : callable Tryz.prog 122 := ⟨Tryz.f122, Tryz.func122, by kernel_rfl, by kernel_rfl⟩
theorem Tryz.cal123 : callable Tryz.prog 123 := ⟨Tryz.f123, Tryz.func123, by kernel_rfl, by kernel_rfl⟩
theorem Tryz.cal124 : callable Tryz.prog 124 := ⟨Tryz.f124, Tryz.func124, by kernel_rfl, by kernel_rfl⟩
theorem Tryz.cal125 : callable Tryz.prog 125 := ⟨Tryz.f125, Tryz.func125, by kernel_rfl, by kernel_rfl⟩
theorem Tryz.cal126 : callable Tryz.prog 126 := ⟨Tryz.f126, Tryz.func126, by kernel_rfl, by kernel_rfl⟩
theorem Tryz.cal129 : callable Tryz.prog 129 := ⟨Tryz.f129, Tryz.func129, by kernel_rfl, by kernel_rfl⟩
theorem Tryz.cal130 : callable Tryz.prog 130 := ⟨Tryz.f130, Tryz.func130, by kernel_rfl, by kernel_rfl⟩
theorem Tryz.cal131 : callable Tryz.prog 131 := ⟨Tryz.f131, Tryz.func131, by kernel_rfl, by kernel_rfl⟩
theorem Tryz.cal132 : callable Tryz.prog 132 := ⟨Tryz.f132, Tryz.func132, by kernel_rfl, by kernel_rfl⟩
theorem Tryz.cal133 : callable Tryz.prog 133 := ⟨Tryz.f133, Tryz.func133, by kernel_rfl, by kernel_rfl⟩
theorem Tryz.cal134 : callable Tryz.prog 134 := ⟨Tryz.f134, Tryz.func134, by kernel_rfl, by kernel_rfl⟩
end Go.Proofs
namespace Go.Proofs
open Go.Sh Go.Sh.Plan
open Go.IntKind (wrap)
open Int (toNat)
def Tryz.S3 (w1 h2 : Int) (ed3p : OA) (ed3l ed3c : Nat) (H : Heap) (R : Kv) : Prop :=
 Tryz.C 9 #[] H fun r4 H5 => ∃ r6, r4 = .bool r6 ∧ br (!r6)
 (R (.bool false) H5)
 (Tryz.C 10 #[.int .i64 w1, .int .i64 h2, .slice ed3p ed3l ed3c] H5 fun r7 H8 => ∃ r9 r10 r11, r7 = .tuple #[.agg r9, .agg r10, .bool r11] ∧ alc H8 (.cells #[.int .i64 0, .int .i64 0, .int .i64 0, .slice none 0 0] 26) fun b12 H13 => alc H13 (.cells #[.int .i64 0, .int .i64 0, .int .i64 0, .slice none 0 0] 29) fun b14 H15 => r9.size = 4 ∧ stAt H15 ⟨b12, 0, none⟩ r9.toList fun H16 => r10.size = 4 ∧ stAt H16 ⟨b14, 0, none⟩ r10.toList fun H17 => br (!r11)
 (R (.bool true) H17)
 (∃ v18, v18.size = 4 ∧ rowIn H17 ⟨b12, 0, none⟩ v18 ∧ Tryz.C 11 #[.agg v18] H17 fun r19 H20 => ∃ r21, r19 = .agg r21 ∧ alc H20 (.cells #[.int .i64 0, .int .i64 0, .slice none 0 0] 34) fun b22 H23 => r21.size = 3 ∧ stAt H23 ⟨b22, 0, none⟩ r21.toList fun H24 => ∃ v25, v25.size = 4 ∧ rowIn H24 ⟨b14, 0, none⟩ v25 ∧ Tryz.C 12 #[.agg v25, .int .i64 0, .int .i64 0, .int .i64 w1, .int .i64 h2] H24 fun r26 H27 => ∃ r28p r28l r28c r29, r26 = .tuple #[.slice r28p r28l r28c, .int .i64 r29] ∧ ∃ P30p P30l P30c, cell H27 (.add ⟨b22, 0, none⟩ 2) = some (.slice P30p P30l P30c) ∧ ∀ X31 : Kl, (∀ (t32 : Int) H33, (br (decide (t32 < (P30l : Int)))
 (∃ a34, P30p = some a34 ∧ 0 ≤ t32 ∧ t32 < (P30l : Int) ∧ ∃ v35, cell H33 (.add a34 (toNat t32 * 1)) = some (.int .i64 v35) ∧ Tryz.C 13 #[.int .i64 v35] H33 fun r36 H37 => ∃ r38, r36 = .bool r38 ∧ br (!r38)
 (R (.bool false) H37)
 (X31 [.int .i64 (wrap .i64 (t32 + 1))] H37))
 (∃ W39, cell H33 (.add ⟨b22, 0, none⟩ 0) = some (.int .i64 W39) ∧ br (W39 == w1) (∃ H40, cell H33 (.add ⟨b22, 0, none⟩ 1) = some (.int .i64 H40) ∧ br (H40 == h2) (∃ P41p P41l P41c, cell H33 (.add ⟨b22, 0, none⟩ 2) = some (.slice P41p P41l P41c) ∧ Tryz.C 14 #[.slice P41p P41l P41c, .slice r28p r28l r28c] H33 fun r42 H43 => ∃ r44, r42 = .bool r44 ∧ br r44 (∃ v45, v45.size = 4 ∧ rowIn H43 ⟨b12, 0, none⟩ v45 ∧ ∃ v46, v46.size = 4 ∧ rowIn H43 ⟨b14, 0, none⟩ v46 ∧ Tryz.C 15 #[.agg v45, .agg v46] H43 fun r47 H48 => ∃ r49, r47 = .bool r49 ∧ R (.bool r49) H48) (R (.bool false) H43)) (R (.bool false) H33)) (R (.bool false) H33))) → X31 [.int .i64 t32] H33) → X31 [.int .i64 0] H27))
def Tryz.p3 : Plan := (tl (tg (tl (tg (tl (tl (two (tl (one (loop [(39, 3)] [0, 1, 7, 8, 10, 11, 37, 38] (tl (two (tl leaf) (two (one (tl g0)) leaf)))))) (tl leaf))))))))
theorem Tryz.s3 {w1 h2 : Int} {ed3p : OA} {ed3l ed3c : Nat} {H R} (h : Tryz.S3 w1 h2 ed3p ed3l ed3c H R) : Tryz.C 3 #[.int .i64 w1, .int .i64 h2, .slice ed3p ed3l ed3c] H R := vcs Tryz.tab_ok Tryz.mixed Tryz.func3 Tryz.cal3 Tryz.p3 h (by kernel_rfl)
def Tryz.S4 (ed1p : OA) (ed1l ed1c : Nat) (x2 y3 w4 h5 : Int) (H : Heap) (R : Kv) : Prop :=
 Tryz.C 9 #[] H fun r6 H7 => ∃ r8, r6 = .bool r8 ∧ br (!r8)
 (R (.bool false) H7)
 (Tryz.C 10 #[.int .i64 9, .int .i64 7, .slice ed1p ed1l ed1c] H7 fun r9 H10 => ∃ r11 r12 r13, r9 = .tuple #[.agg r11, .agg r12, .bool r13] ∧ alc H10 (.cells #[.int .i64 0, .int .i64 0, .int .i64 0, .slice none 0 0] 26) fun b14 H15 => alc H15 (.cells #[.int .i64 0, .int .i64 0, .int .i64 0, .slice none 0 0] 29) fun b16 H17 => r11.size = 4 ∧ stAt H17 ⟨b14, 0, none⟩ r11.toList fun H18 => r12.size = 4 ∧ stAt H18 ⟨b16, 0, none⟩ r12.toList fun H19 => br (!r13)
 (R (.bool true) H19)
 (∃ v20, v20.size = 4 ∧ rowIn H19 ⟨b14, 0, none⟩ v20 ∧ Tryz.C 16 #[.agg v20, .int .i64 x2, .int .i64 y3, .int .i64 w4, .int .i64 h5] H19 fun r21 H22 => ∃ r23p r23l r23c r24, r21 = .tuple #[.slice r23p r23l r23c, .int .i64 r24] ∧ ∃ v25, v25.size = 4 ∧ rowIn H22 ⟨b16, 0, none⟩ v25 ∧ Tryz.C 12 #[.agg v25, .int .i64 x2, .int .i64 y3, .int .i64 w4, .int .i64 h5] H22 fun r26 H27 => ∃ r28p r28l r28c r29, r26 = .tuple #[.slice r28p r28l r28c, .int .i64 r29] ∧ ∀ J30 : Kl, (∀ H31, (br (r24 != 0)
 (R (.bool true) H31)
 (∃ v32, v32.size = 4 ∧ rowIn H31 ⟨b14, 0, none⟩ v32 ∧ Tryz.C 11 #[.agg v32] H31 fun r33 H34 => ∃ r35, r33 = .agg r35 ∧ alc H34 (.cells #[.int .i64 0, .int .i64 0, .slice none 0 0] 34) fun b36 H37 => r35.size = 3 ∧ stAt H37 ⟨b36, 0, none⟩ r35.toList fun H38 => ∀ X39 : Kl, (∀ (i40 : Int) H41, (br (decide (i40 < (r23l : Int)))
 (∃ a42, r23p = some a42 ∧ 0 ≤ i40 ∧ i40 < (r23l : Int) ∧ ∃ v43, cell H41 (.add a42 (toNat i40 * 1)) = some (.int .i64 v43) ∧ ∃ P44p P44l P44c, cell H41 (.add ⟨b36, 0, none⟩ 2) = some (.slice P44p P44l P44c) ∧ w4 ≠ 0 ∧ w4 ≠ 0 ∧ ∃ a45, P44p = some a45 ∧ 0 ≤ (wrap .i64 ((wrap .i64 ((wrap .i64 ((wrap .i64 (y3 + (wrap .i64 (Int.tdiv i40 w4)))) * 9)) + x2)) + (Int.tmod i40 w4))) ∧ (wrap .i64 ((wrap .i64 ((wrap .i64 ((wrap .i64 (y3 + (wrap .i64 (Int.tdiv i40 w4)))) * 9)) + x2)) + (Int.tmod i40 w4))) < (P44l : Int) ∧ ∃ v46, cell H41 (.add a45 (toNat (wrap .i64 ((wrap .i64 ((wrap .i64 ((wrap .i64 (y3 + (wrap .i64 (Int.tdiv i40 w4)))) * 9)) + x2)) + (Int.tmod i40 w4))) * 1)) = some (.int .i64 v46) ∧ br (v46 != v43)
 (R (.bool false) H41)
 (X39 [.int .i64 (wrap .i64 (i40 + 1))] H41))
 (R (.bool true) H41)) → X39 [.int .i64 i40] H41) → X39 [.int .i64 0] H38)) → J30 [] H31) →
 br (r24 != r29) (R (.bool false) H27) (Tryz.C 14 #[.slice r23p r23l r23c, .slice r28p r28l r28c] H27 fun r47 H48 => ∃ r49, r47 = .bool r49 ∧ br (!r49)
 (R (.bool false) H48)
 (J30 [] H48))))
def Tryz.p4 : Plan := (tl (tg (tl (tg (tl (tl (two (join [] [1, 2, 3, 11, 14, 15] g0) (tg (tl (two (tl (one (loop [(64, 3)] [1, 2, 3, 18, 62, 63] (tl (two (tl leaf) (two (one (tl g0)) leaf)))))) (tl leaf)))))))))))
theorem Tryz.s4 {ed1p : OA} {ed1l ed1c : Nat} {x2 y3 w4 h5 : Int} {H R} (h : Tryz.S4 ed1p ed1l ed1c x2 y3 w4 h5 H R) : Tryz.C 4 #[.slice ed1p ed1l ed1c, .int .i64 x2, .int .i64 y3, .int .i64 w4, .int .i64 h5] H R := vcs Tryz.tab_ok Tryz.mixed Tryz.func4 Tryz.cal4 Tryz.p4 h (by kernel_rfl)
def Tryz.p5 : Plan := (tl (tg (tl (two (join [] [1, 5] g0) (tl (tg (tl (two (tl (one (loop [(9, 32), (37, 3)] [5, 35, 36] (tl (two (tl leaf) (two (one (tl leaf)) leaf)))))) (tl (tl leaf))))))))))
end Go.Proofs
namespace Go.Proofs
open Go.Sh Go.Sh.Plan
open Go.IntKind (wrap)
open Int (toNat)
end Go.Proofs
namespace Go.Proofs
open Go.Sh Go.Sh.Plan
open Go.IntKind (wrap)
open Int (toNat)
end Go.Proofs
namespace Go.Proofs
open Go.Sh Go.Sh.Plan
open Go.IntKind (wrap)
open Int (toNat)
def Tryz.S9  (H : Heap) (R : Kv) : Prop :=
 Tryz.C 21 #[.int .i64 2, .int .i64 1] H fun r1 H2 => ∃ r3 r4, r1 = .tuple #[.agg r3, .int .i64 r4] ∧ alc H2 (.cells #[.int .i64 0, .int .i64 0, .int .i64 0, .slice none 0 0] 26) fun b5 H6 => r3.size = 4 ∧ stAt H6 ⟨b5, 0, none⟩ r3.toList fun H7 => ∃ v8, v8.size = 4 ∧ rowIn H7 ⟨b5, 0, none⟩ v8 ∧ Tryz.C 17 #[.agg v8, .agg #[.int .i64 1, .int .i64 0, .int .i64 0, .int .i64 (-1 : Int), .int .i64 0, .int .i64 0, .int .i64 0, .int .i64 0, .int .i64 2, .int .i64 1, .slice none 0 0, .slice none 0 0, .int .i64 0, .int .i64 0, .int .i64 0, .int .i64 0, .int .i64 0, .int .i64 0, .slice none 0 0]] H7 fun r9 H10 => ∃ r11 r12, r9 = .tuple #[.agg r11, .int .i64 r12] ∧ r11.size = 4 ∧ stAt H10 ⟨b5, 0, none⟩ r11.toList fun H13 => ∃ v14, v14.size = 4 ∧ rowIn H13 ⟨b5, 0, none⟩ v14 ∧ alc H13 (.cells #[.int .i64 4278190335, .int .i64 4278190335] 3) fun b15 H16 => Tryz.C 17 #[.agg v14, .agg #[.int .i64 4, .int .i64 1, .int .i64 0, .int .i64 0, .int .i64 0, .int .i64 0, .int .i64 0, .int .i64 0, .int .i64 2, .int .i64 1, .slice (some ⟨b15, 0, none⟩) 2 2, .slice none 0 0, .int .i64 0, .int .i64 0, .int .i64 0, .int .i64 0, .int .i64 0, .int .i64 0, .slice none 0 0]] H16 fun r17 H18 => ∃ r19 r20, r17 = .tuple #[.agg r19, .int .i64 r20] ∧ r19.size = 4 ∧ stAt H18 ⟨b5, 0, none⟩ r19.toList fun H21 => ∃ v22, v22.size = 4 ∧ rowIn H21 ⟨b5, 0, none⟩ v22 ∧ Tryz.C 17 #[.agg v22, .agg #[.int .i64 5, .int .i64 1, .int .i64 0, .int .i64 0, .int .i64 128, .int .i64 0, .int .i64 0, .int .i64 0, .int .i64 0, .int .i64 0, .slice none 0 0, .slice none 0 0, .int .i64 0, .int .i64 0, .int .i64 0, .int .i64 0, .int .i64 0, .int .i64 0, .slice none 0 0]] H21 fun r23 H24 => ∃ r25 r26, r23 = .tuple #[.agg r25, .int .i64 r26] ∧ r25.size = 4 ∧ stAt H24 ⟨b5, 0, none⟩ r25.toList fun H27 => ∃ v28, v28.size = 4 ∧ rowIn H27 ⟨b5, 0, none⟩ v28 ∧ Tryz.C 11 #[.agg v28] H27 fun r29 H30 => ∃ r31, r29 = .agg r31 ∧ alc H30 (.cells #[.int .i64 0, .int .i64 0, .slice none 0 0] 34) fun b32 H33 => r31.size = 3 ∧ stAt H33 ⟨b32, 0, none⟩ r31.toList fun H34 => ∃ v35, v35.size = 3 ∧ rowIn H34 ⟨b32, 0, none⟩ v35 ∧ Tryz.C 22 #[.agg v35] H34 fun r36 H37 => ∃ b38p b38l b38c, r36 = .slice b38p b38l b38c ∧ ∃ P39p P39l P39c, cell H37 (.add ⟨b32, 0, none⟩ 2) = some (.slice P39p P39l P39c) ∧ br (((P39l : Int) : Int) == 2) (∃ P40p P40l P40c, cell H37 (.add ⟨b32, 0, none⟩ 2) = some (.slice P40p P40l P40c) ∧ ∃ a41, P40p = some a41 ∧ 0 ≤ (0 : Int) ∧ (0 : Int) < (P40l : Int) ∧ ∃ v42, cell H37 (.add a41 (toNat (0 : Int) * 1)) = some (.int .i64 v42) ∧ br (v42 == 2147483776) (br (((b38l : Int) : Int) == 6) (∃ a43, b38p = some a43 ∧ 0 ≤ (0 : Int) ∧ (0 : Int) < (b38l : Int) ∧ ∃ v44, cell H37 (.add a43 (toNat (0 : Int) * 1)) = some (.int .u8 v44) ∧ br (v44 == 255) (∃ a45, b38p = some a45 ∧ 0 ≤ (1 : Int) ∧ (1 : Int) < (b38l : Int) ∧ ∃ v46, cell H37 (.add a45 (toNat (1 : Int) * 1)) = some (.int .u8 v46) ∧ R (.bool (v46 == 127)) H37) (R (.bool false) H37)) (R (.bool false) H37)) (R (.bool false) H37)) (R (.bool false) H37)
def Tryz.p9 : Plan := (tl (tl (tl (tl (tl (tl (tl (tl leaf))))))))
theorem Tryz.s9 {_u : Unit} {H R} (h : Tryz.S9  H R) : Tryz.C 9 #[] H R := vcs Tryz.tab_ok Tryz.mixed Tryz.func9 Tryz.cal9 Tryz.p9 h (by kernel_rfl)
def Tryz.S10 (w1 h2 : Int) (ed3p : OA) (ed3l ed3c : Nat) (H : Heap) (R : Kv) : Prop :=
 alc H (.cells #[.int .i64 0, .int .i64 0, .int .i64 0, .slice none 0 0] 26) fun b4 H5 => alc H5 (.cells #[.int .i64 0, .int .i64 0, .int .i64 0, .slice none 0 0] 29) fun b6 H7 => Tryz.C 21 #[.int .i64 w1, .int .i64 h2] H7 fun r8 H9 => ∃ r10 r11, r8 = .tuple #[.agg r10, .int .i64 r11] ∧ alc H9 (.cells #[.int .i64 0, .int .i64 0, .int .i64 0, .slice none 0 0] 26) fun b12 H13 => r10.size = 4 ∧ stAt H13 ⟨b12, 0, none⟩ r10.toList fun H14 => Tryz.C 23 #[.int .i64 w1, .int .i64 h2] H14 fun r15 H16 => ∃ r17 r18, r15 = .tuple #[.agg r17, .int .i64 r18] ∧ alc H16 (.cells #[.int .i64 0, .int .i64 0, .int .i64 0, .slice none 0 0] 29) fun b19 H20 => r17.size = 4 ∧ stAt H20 ⟨b19, 0, none⟩ r17.toList fun H21 => ∀ J22 : Kl, (∀ H23, (∀ X24 : Kl, (∀ (t25 : Int) H26, (br (decide (t25 < (ed3l : Int)))
 (∃ a27, ed3p = some a27 ∧ 0 ≤ t25 ∧ t25 < (ed3l : Int) ∧ ∃ v28, v28.size = 19 ∧ rowIn H26 (.add a27 (toNat t25 * 19)) v28 ∧ alc H26 (.cells #[.int .i64 0, .int .i64 0, .int .i64 0, .int .i64 0, .int .i64 0, .int .i64 0, .int .i64 0, .int .i64 0, .int .i64 0, .int .i64 0, .slice none 0 0, .slice none 0 0, .int .i64 0, .int .i64 0, .int .i64 0, .int .i64 0, .int .i64 0, .int .i64 0, .slice none 0 0] 52) fun b29 H30 => v28.size = 19 ∧ stAt H30 ⟨b29, 0, none⟩ v28.toList fun H31 => ∀ J32 : Kl, (∀ H33, (∃ v34, v34.size = 4 ∧ rowIn H33 ⟨b19, 0, none⟩ v34 ∧ ∃ v35, v35.size = 19 ∧ rowIn H33 ⟨b29, 0, none⟩ v35 ∧ Tryz.C 26 #[.agg v35] H33 fun r36 H37 => ∃ r38, r36 = .agg r38 ∧ (Ext H33 H37 ∨ (∃ v44, v44.size = 4 ∧ rowIn H37 ⟨b19, 0, none⟩ v44 ∧ Value.agg v44 = .agg v34)) ∧ Tryz.C 25 #[.agg v34, .agg r38] H37 fun r39 H40 => ∃ r41 r42, r39 = .tuple #[.agg r41, .int .i64 r42] ∧ r41.size = 4 ∧ stAt H40 ⟨b19, 0, none⟩ r41.toList fun H43 => X24 [.int .i64 (wrap .i64 (t25 + 1))] H43) → J32 [] H33) →
 ∃ v45, v45.size = 4 ∧ rowIn H31 ⟨b12, 0, none⟩ v45 ∧ ∃ v46, v46.size = 19 ∧ rowIn H31 ⟨b29, 0, none⟩ v46 ∧ Tryz.C 17 #[.agg v45, .agg v46] H31 fun r47 H48 => ∃ r49 r50, r47 = .tuple #[.agg r49, .int .i64 r50] ∧ alc H48 (.cells #[.int .i64 0, .int .i64 0, .int .i64 0, .slice none 0 0] 26) fun b51 H52 => r49.size = 4 ∧ stAt H52 ⟨b51, 0, none⟩ r49.toList fun H53 => br (r50 == 0)
 (∃ v54, v54.size = 4 ∧ rowIn H53 ⟨b51, 0, none⟩ v54 ∧ v54.size = 4 ∧ stAt H53 ⟨b12, 0, none⟩ v54.toList fun H55 => J32 [] H55)
 (J32 [] H53))
 (∃ v56, v56.size = 4 ∧ rowIn H26 ⟨b12, 0, none⟩ v56 ∧ ∃ v57, v57.size = 4 ∧ rowIn H26 ⟨b19, 0, none⟩ v57 ∧ v56.size = 4 ∧ stAt H26 ⟨b4, 0, none⟩ v56.toList fun H58 => (Ext H26 H58 ∨ (∃ v62, v62.size = 4 ∧ rowIn H58 ⟨b19, 0, none⟩ v62 ∧ Value.agg v62 = .agg v57)) ∧ v57.size = 4 ∧ stAt H58 ⟨b6, 0, none⟩ v57.toList fun H59 => ∃ re60, re60.size = 4 ∧ rowIn H59 ⟨b4, 0, none⟩ re60 ∧ ∃ re61, re61.size = 4 ∧ rowIn H59 ⟨b6, 0, none⟩ re61 ∧ R (.tuple #[.agg re60, .agg re61, .bool true]) H59)) → X24 [.int .i64 t25] H26) → X24 [.int .i64 0] H23) → J22 [] H23) →
 br (r11 != 0) (∃ v63, v63.size = 4 ∧ rowIn H21 ⟨b12, 0, none⟩ v63 ∧ ∃ v64, v64.size = 4 ∧ rowIn H21 ⟨b19, 0, none⟩ v64 ∧ v63.size = 4 ∧ stAt H21 ⟨b4, 0, none⟩ v63.toList fun H65 => (Ext H21 H65 ∨ (∃ v69, v69.size = 4 ∧ rowIn H65 ⟨b19, 0, none⟩ v69 ∧ Value.agg v69 = .agg v64)) ∧ v64.size = 4 ∧ stAt H65 ⟨b6, 0, none⟩ v64.toList fun H66 => ∃ re67, re67.size = 4 ∧ rowIn H66 ⟨b4, 0, none⟩ re67 ∧ ∃ re68, re68.size = 4 ∧ rowIn H66 ⟨b6, 0, none⟩ re68 ∧ R (.tuple #[.agg re67, .agg re68, .bool false]) H66) (br (decide (w1 > 16)) (∃ v70, v70.size = 4 ∧ rowIn H21 ⟨b12, 0, none⟩ v70 ∧ ∃ v71, v71.size = 4 ∧ rowIn H21 ⟨b19, 0, none⟩ v71 ∧ v70.size = 4 ∧ stAt H21 ⟨b4, 0, none⟩ v70.toList fun H72 => (Ext H21 H72 ∨ (∃ v76, v76.size = 4 ∧ rowIn H72 ⟨b19, 0, none⟩ v76 ∧ Value.agg v76 = .agg v71)) ∧ v71.size = 4 ∧ stAt H72 ⟨b6, 0, none⟩ v71.toList fun H73 => ∃ re74, re74.size = 4 ∧ rowIn H73 ⟨b4, 0, none⟩ re74 ∧ ∃ re75, re75.size = 4 ∧ rowIn H73 ⟨b6, 0, none⟩ re75 ∧ R (.tuple #[.agg re74, .agg re75, .bool false]) H73) (br (decide (h2 > 16)) (∃ v77, v77.size = 4 ∧ rowIn H21 ⟨b12, 0, none⟩ v77 ∧ ∃ v78, v78.size = 4 ∧ rowIn H21 ⟨b19, 0, none⟩ v78 ∧ v77.size = 4 ∧ stAt H21 ⟨b4, 0, none⟩ v77.toList fun H79 => (Ext H21 H79 ∨ (∃ v83, v83.size = 4 ∧ rowIn H79 ⟨b19, 0, none⟩ v83 ∧ Value.agg v83 = .agg v78)) ∧ v78.size = 4 ∧ stAt H79 ⟨b6, 0, none⟩ v78.toList fun H80 => ∃ re81, re81.size = 4 ∧ rowIn H80 ⟨b4, 0, none⟩ re81 ∧ ∃ re82, re82.size = 4 ∧ rowIn H80 ⟨b6, 0, none⟩ re82 ∧ R (.tuple #[.agg re81, .agg re82, .bool false]) H80) (Tryz.C 24 #[.slice ed3p ed3l ed3c, .int .i64 24] H21 fun r84 H85 => ∃ r86, r84 = .bool r86 ∧ br (!r86)
 (∃ v87, v87.size = 4 ∧ rowIn H85 ⟨b12, 0, none⟩ v87 ∧ ∃ v88, v88.size = 4 ∧ rowIn H85 ⟨b19, 0, none⟩ v88 ∧ v87.size = 4 ∧ stAt H85 ⟨b4, 0, none⟩ v87.toList fun H89 => (Ext H85 H89 ∨ (∃ v93, v93.size = 4 ∧ rowIn H89 ⟨b19, 0, none⟩ v93 ∧ Value.agg v93 = .agg v88)) ∧ v88.size = 4 ∧ stAt H89 ⟨b6, 0, none⟩ v88.toList fun H90 => ∃ re91, re91.size = 4 ∧ rowIn H90 ⟨b4, 0, none⟩ re91 ∧ ∃ re92, re92.size = 4 ∧ rowIn H90 ⟨b6, 0, none⟩ re92 ∧ R (.tuple #[.agg re91, .agg re92, .bool false]) H90)
 (J22 [] H85))))
def Tryz.p10 : Plan := (tl (tl (tl (two (join [] [2, 6, 7, 9, 11] g0) (two (tl (one (loop [(48, 3)] [6, 7, 9, 11, 46, 47] (tl (two (tl leaf) (two (one (tl (two (join [] [6, 7, 9, 11, 14, 46, 47, 48] (tl (tl (tl leaf)))) leaf))) leaf)))))) (tl leaf))))))
theorem Tryz.s10 {w1 h2 : Int} {ed3p : OA} {ed3l ed3c : Nat} {H R} (h : Tryz.S10 w1 h2 ed3p ed3l ed3c H R) : Tryz.C 10 #[.int .i64 w1, .int .i64 h2, .slice ed3p ed3l ed3c] H R := vcs Tryz.tab_ok Tryz.mixed Tryz.func10 Tryz.cal10 Tryz.p10 h (by kernel_rfl)
def Tryz.S11 (d1 : AV) (H : Heap) (R : Kv) : Prop :=
 alc H (.cells d1 26) fun b2 H3 => alc H3 (.cells #[.int .i64 0, .int .i64 0, .slice none 0 0] 34) fun b4 H5 => ∃ v6, v6.size = 4 ∧ rowIn H5 ⟨b2, 0, none⟩ v6 ∧ ∃ W7, cell H5 (.add ⟨b2, 0, none⟩ 0) = some (.int .i64 W7) ∧ ∃ H8, cell H5 (.add ⟨b2, 0, none⟩ 1) = some (.int .i64 H8) ∧ Tryz.C 16 #[.agg v6, .int .i64 0, .int .i64 0, .int .i64 W7, .int .i64 H8] H5 fun r9 H10 => ∃ r11p r11l r11c r12, r9 = .tuple #[.slice r11p r11l r11c, .int .i64 r12] ∧ ∃ W13, cell H10 (.add ⟨b2, 0, none⟩ 0) = some (.int .i64 W13) ∧ ∃ H14, cell H10 (.add ⟨b2, 0, none⟩ 1) = some (.int .i64 H14) ∧ #[Value.int .i64 W13, Value.int .i64 H14, Value.slice r11p r11l r11c].size = 3 ∧ stAt H10 ⟨b4, 0, none⟩ (Array.toList #[.int .i64 W13, .int .i64 H14, .slice r11p r11l r11c]) fun H15 => ∃ re16, re16.size = 3 ∧ rowIn H15 ⟨b4, 0, none⟩ re16 ∧ R (.agg re16) H15
def Tryz.p11 : Plan := (tl (tl (tl leaf)))
theorem Tryz.s11 {d1 : AV} {H R} (h : Tryz.S11 d1 H R) : Tryz.C 11 #[.agg d1] H R := vcs Tryz.tab_ok Tryz.mixed Tryz.func11 Tryz.cal11 Tryz.p11 h (by kernel_rfl)
def Tryz.S12 (d1 : AV) (x2 y3 w4 h5 : Int) (H : Heap) (R : Kv) : Prop :=
 alc H (.cells d1 29) fun b6 H7 => ∀ J8 : Kl, (∀ H9, (∀ X10 : Kl, (∀ (ou11p : OA) (ou11l ou11c : Nat) (j12 : Int) H13, (br (decide (j12 < h5))
 (∀ X14 : Kl, (∀ (ou15p : OA) (ou15l ou15c : Nat) (i16 : Int) H17, (br (decide (i16 < w4))
 (∃ v18, v18.size = 4 ∧ rowIn H17 ⟨b6, 0, none⟩ v18 ∧ Tryz.C 27 #[.agg v18, .int .i64 0, .int .i64 (wrap .i64 (x2 + i16)), .int .i64 (wrap .i64 (y3 + j12))] H17 fun r19 H20 => ∃ r21, r19 = .int .i64 r21 ∧ alc H20 (.cells #[.int .i64 r21] 3) fun b22 H23 => appQ 1 8 #[.int .i64 0] H23 ou15p ou15l ou15c (some ⟨b22, 0, none⟩) 1 3 fun ou24p ou24l ou24c H25 => X14 [.slice ou24p ou24l ou24c, .int .i64 (wrap .i64 (i16 + 1))] H25)
 (X10 [.slice ou15p ou15l ou15c, .int .i64 (wrap .i64 (j12 + 1))] H17)) → X14 [.slice ou15p ou15l ou15c, .int .i64 i16] H17) → X14 [.slice ou11p ou11l ou11c, .int .i64 0] H13)
 (R (.tuple #[.slice ou11p ou11l ou11c, .int .i64 0]) H13)) → X10 [.slice ou11p ou11l ou11c, .int .i64 j12] H13) → X10 [.slice none 0 0, .int .i64 0] H9) → J8 [] H9) →
 br (decide (x2 < 0)) (R (.tuple #[.slice none 0 0, .int .i64 12]) H7) (br (decide (y3 < 0)) (R (.tuple #[.slice none 0 0, .int .i64 12]) H7) (br (decide (w4 < 0)) (R (.tuple #[.slice none 0 0, .int .i64 12]) H7) (br (decide (h5 < 0)) (R (.tuple #[.slice none 0 0, .int .i64 12]) H7) (∃ W26, cell H7 (.add ⟨b6, 0, none⟩ 0) = some (.int .i64 W26) ∧ br (decide (x2 > W26)) (R (.tuple #[.slice none 0 0, .int .i64 12]) H7) (∃ H27, cell H7 (.add ⟨b6, 0, none⟩ 1) = some (.int .i64 H27) ∧ br (decide (y3 > H27)) (R (.tuple #[.slice none 0 0, .int .i64 12]) H7) (∃ W28, cell H7 (.add ⟨b6, 0, none⟩ 0) = some (.int .i64 W28) ∧ br (decide (w4 > (wrap .i64 (W28 - x2)))) (R (.tuple #[.slice none 0 0, .int .i64 12]) H7) (∃ H29, cell H7 (.add ⟨b6, 0, none⟩ 1) = some (.int .i64 H29) ∧ br (decide (h5 > (wrap .i64 (H29 - y3))))
 (R (.tuple #[.slice none 0 0, .int .i64 12]) H7)
 (J8 [] H7))))))))
def Tryz.p12 : Plan := (tl (two (join [] [1, 2, 3, 4, 5] g0) (tl (two (tl (one (loop [(12, 32), (13, 3)] [1, 2, 3, 4, 5] (two (tl (tl leaf)) (two (one (tl (one (loop [(12, 32), (14, 3)] [1, 2, 3, 4, 5, 13] (two (tl (tl leaf)) (two (one leaf) leaf)))))) leaf))))) (tl leaf)))))
theorem Tryz.s12 {d1 : AV} {x2 y3 w4 h5 : Int} {H R} (h : Tryz.S12 d1 x2 y3 w4 h5 H R) : Tryz.C 12 #[.agg d1, .int .i64 x2, .int .i64 y3, .int .i64 w4, .int .i64 h5] H R := vcs Tryz.tab_ok Tryz.mixed Tryz.func12 Tryz.cal12 Tryz.p12 h (by kernel_rfl)
def Tryz.S13 (v1 : Int) (H : Heap) (R : Kv) : Prop :=
 ∀ X2 : Kl, (∀ (c3 : Int) H4, (br (decide (c3 < 3))
 (Tryz.C 28 #[.int .i64 v1, .int .i64 c3] H4 fun r5 H6 => ∃ r7, r5 = .int .i64 r7 ∧ Tryz.C 28 #[.int .i64 v1, .int .i64 3] H6 fun r8 H9 => ∃ r10, r8 = .int .i64 r10 ∧ br (decide (r7 > r10))
 (R (.bool false) H9)
 (X2 [.int .i64 (wrap .i64 (c3 + 1))] H9))
 (br (decide (v1 ≥ 0)) (R (.bool (decide (v1 < 4294967296))) H4) (R (.bool false) H4))) → X2 [.int .i64 c3] H4) → X2 [.int .i64 0] H
def Tryz.p13 : Plan := (tl (two (tl (one (loop [(3, 3)] [0] (two (tl (tl leaf)) (two (one g0) leaf))))) (tl leaf)))
theorem Tryz.s13 {v1 : Int} {H R} (h : Tryz.S13 v1 H R) : Tryz.C 13 #[.int .i64 v1] H R := vcs Tryz.tab_ok Tryz.mixed Tryz.func13 Tryz.cal13 Tryz.p13 h (by kernel_rfl)
def Tryz.S14 (a1p : OA) (a1l a1c : Nat) (b2p : OA) (b2l b2c : Nat) (H : Heap) (R : Kv) : Prop :=
 br (((a1l : Int) : Int) != (b2l : Int))
 (R (.bool false) H)
 (∀ X3 : Kl, (∀ (i4 : Int) H5, (br (decide (i4 < (a1l : Int)))
 (∃ a6, a1p = some a6 ∧ 0 ≤ i4 ∧ i4 < (a1l : Int) ∧ ∃ v7, cell H5 (.add a6 (toNat i4 * 1)) = some (.int .i64 v7) ∧ ∃ a8, b2p = some a8 ∧ 0 ≤ i4 ∧ i4 < (b2l : Int) ∧ ∃ v9, cell H5 (.add a8 (toNat i4 * 1)) = some (.int .i64 v9) ∧ br (v7 != v9)
 (R (.bool false) H5)
 (X3 [.int .i64 (wrap .i64 (i4 + 1))] H5))
 (R (.bool true) H5)) → X3 [.int .i64 i4] H5) → X3 [.int .i64 0] H)
def Tryz.p14 : Plan := (tl (tg (two (tl (one (loop [(14, 3)] [1, 12, 13] (tl (two (tl leaf) (two (one (tl g0)) leaf)))))) (tl leaf))))
theorem Tryz.s14 {a1p : OA} {a1l a1c : Nat} {b2p : OA} {b2l b2c : Nat} {H R} (h : Tryz.S14 a1p a1l a1c b2p b2l b2c H R) : Tryz.C 14 #[.slice a1p a1l a1c, .slice b2p b2l b2c] H R := vcs Tryz.tab_ok Tryz.mixed Tryz.func14 Tryz.cal14 Tryz.p14 h (by kernel_rfl)
def Tryz.S15 (a1 b2 : AV) (H : Heap) (R : Kv) : Prop :=
 alc H (.cells a1 26) fun b3 H4 => alc H4 (.cells b2 29) fun b5 H6 => ∃ W7, cell H6 (.add ⟨b3, 0, none⟩ 0) = some (.int .i64 W7) ∧ ∃ W8, cell H6 (.add ⟨b5, 0, none⟩ 0) = some (.int .i64 W8) ∧ br (W7 == W8) (∃ H9, cell H6 (.add ⟨b3, 0, none⟩ 1) = some (.int .i64 H9) ∧ ∃ H10, cell H6 (.add ⟨b5, 0, none⟩ 1) = some (.int .i64 H10) ∧ br (H9 == H10) (∃ Ne11, cell H6 (.add ⟨b3, 0, none⟩ 2) = some (.int .i64 Ne11) ∧ ∃ Ne12, cell H6 (.add ⟨b5, 0, none⟩ 2) = some (.int .i64 Ne12) ∧ br (Ne11 == Ne12) (∃ Ki13p Ki13l Ki13c, cell H6 (.add ⟨b3, 0, none⟩ 3) = some (.slice Ki13p Ki13l Ki13c) ∧ ∃ v14, v14.size = 4 ∧ rowIn H6 ⟨b5, 0, none⟩ v14 ∧ Tryz.C 29 #[.slice Ki13p Ki13l Ki13c, .agg v14, .int .i64 0] H6 fun r15 H16 => ∃ r17, r15 = .bool r17 ∧ R (.bool r17) H16) (R (.bool false) H6)) (R (.bool false) H6)) (R (.bool false) H6)
def Tryz.p15 : Plan := (tl (tl leaf))
theorem Tryz.s15 {a1 b2 : AV} {H R} (h : Tryz.S15 a1 b2 H R) : Tryz.C 15 #[.agg a1, .agg b2] H R := vcs Tryz.tab_ok Tryz.mixed Tryz.func15 Tryz.cal15 Tryz.p15 h (by kernel_rfl)
def Tryz.S16 (d1 : AV) (x2 y3 w4 h5 : Int) (H : Heap) (R : Kv) : Prop :=
 alc H (.cells d1 26) fun b6 H7 => ∀ J8 : Kl, (∀ H9, (∃ v10, v10.size = 4 ∧ rowIn H9 ⟨b6, 0, none⟩ v10 ∧ v10.size = 4 ∧ 0 + 4 ≤ 8 ∧ ∃ Ki11p Ki11l Ki11c, cell H9 (.add ⟨b6, 0, none⟩ 3) = some (.slice Ki11p Ki11l Ki11c) ∧ Tryz.C 30 #[.agg (List.toArray (List.set (List.set (List.set (List.set (setL [.int .i64 0, .int .i64 0, .int .i64 0, .slice none 0 0, .int .i64 0, .int .i64 0, .int .i64 0, .int .i64 0] 0 v10.toList) 4 (.int .i64 x2)) 5 (.int .i64 y3)) 6 (.int .i64 w4)) 7 (.int .i64 h5))), .slice Ki11p Ki11l Ki11c] H9 fun r12 H13 => ∃ r14p r14l r14c, r12 = .slice r14p r14l r14c ∧ R (.tuple #[.slice r14p r14l r14c, .int .i64 0]) H13) → J8 [] H9) →
 br (decide (x2 < 0)) (R (.tuple #[.slice none 0 0, .int .i64 12]) H7) (br (decide (y3 < 0)) (R (.tuple #[.slice none 0 0, .int .i64 12]) H7) (br (decide (w4 < 0)) (R (.tuple #[.slice none 0 0, .int .i64 12]) H7) (br (decide (h5 < 0)) (R (.tuple #[.slice none 0 0, .int .i64 12]) H7) (∃ W15, cell H7 (.add ⟨b6, 0, none⟩ 0) = some (.int .i64 W15) ∧ br (decide (x2 > W15)) (R (.tuple #[.slice none 0 0, .int .i64 12]) H7) (∃ H16, cell H7 (.add ⟨b6, 0, none⟩ 1) = some (.int .i64 H16) ∧ br (decide (y3 > H16)) (R (.tuple #[.slice none 0 0, .int .i64 12]) H7) (∃ W17, cell H7 (.add ⟨b6, 0, none⟩ 0) = some (.int .i64 W17) ∧ br (decide (w4 > (wrap .i64 (W17 - x2)))) (R (.tuple #[.slice none 0 0, .int .i64 12]) H7) (∃ H18, cell H7 (.add ⟨b6, 0, none⟩ 1) = some (.int .i64 H18) ∧ br (decide (h5 > (wrap .i64 (H18 - y3))))
 (R (.tuple #[.slice none 0 0, .int .i64 12]) H7)
 (J8 [] H7))))))))
def Tryz.p16 : Plan := (tl (two (join [] [1, 2, 3, 4, 5] g0) (tl leaf)))
theorem Tryz.s16 {d1 : AV} {x2 y3 w4 h5 : Int} {H R} (h : Tryz.S16 d1 x2 y3 w4 h5 H R) : Tryz.C 16 #[.agg d1, .int .i64 x2, .int .i64 y3, .int .i64 w4, .int .i64 h5] H R := vcs Tryz.tab_ok Tryz.mixed Tryz.func16 Tryz.cal16 Tryz.p16 h (by kernel_rfl)
def Tryz.S17 (d1 e2 : AV) (H : Heap) (R : Kv) : Prop :=
 alc H (.cells d1 26) fun b3 H4 => alc H4 (.cells e2 52) fun b5 H6 => alc H6 (.cells #[.int .i64 0, .int .i64 0, .int .i64 0, .slice none 0 0] 26) fun b7 H8 => ∀ J9 : Kl, (∀ (ou10 : Addr) H11, (∀ J12 : Kl, (∀ (w13 : Addr) H14, (alc H14 (.cells #[.func (.func 33) #[] #[], .func (.func 34) #[] #[], .func (.func 35) #[] #[], .func (.func 36) #[] #[], .func (.func 37) #[] #[], .func (.func 38) #[] #[], .func (.func 39) #[] #[], .func (.func 40) #[] #[], .func (.func 41) #[] #[]] 87) fun b15 H16 => ∀ J17 : Kl, (∀ H18, (∃ Ki19, cell H18 (.add ⟨b5, 0, none⟩ 0) = some (.int .i64 Ki19) ∧ ∃ a20, (some ⟨b15, 0, none⟩) = some a20 ∧ 0 ≤ (wrap .i64 (Ki19 - 1)) ∧ (wrap .i64 (Ki19 - 1)) < ((9 : Nat) : Int) ∧ ∃ v21g v21x v21y, cell H18 (.add a20 (toNat (wrap .i64 (Ki19 - 1)) * 1)) = some (.func (.func v21g) v21x v21y) ∧ ∃ v22, v22.size = 21 ∧ rowIn H18 w13 v22 ∧ Tryz.C v21g (List.toArray (Array.toList v21x ++ [Value.agg v22] ++ Array.toList v21y)) H18 fun r23 H24 => ∃ e25, r23 = .int .i64 e25 ∧ br (e25 != 0)
 (#[Value.int .i64 0, Value.int .i64 0, Value.int .i64 0, Value.slice none 0 0].size = 4 ∧ stAt H24 ⟨b7, 0, none⟩ (Array.toList #[.int .i64 0, .int .i64 0, .int .i64 0, .slice none 0 0]) fun H26 => ∃ re27, re27.size = 4 ∧ rowIn H26 ⟨b7, 0, none⟩ re27 ∧ R (.tuple #[.agg re27, .int .i64 e25]) H26)
 (∃ ro28, cell H24 (.add w13 0) = some (.pointer ro28) ∧ ∃ a29, ro28 = some a29 ∧ ∃ Ki30p Ki30l Ki30c, cell H24 (.add a29 18) = some (.slice Ki30p Ki30l Ki30c) ∧ stAt H24 (.add ou10 3) [.slice Ki30p Ki30l Ki30c] fun H31 => ∃ v32, v32.size = 4 ∧ rowIn H31 ou10 v32 ∧ v32.size = 4 ∧ stAt H31 ⟨b7, 0, none⟩ v32.toList fun H33 => ∃ re34, re34.size = 4 ∧ rowIn H33 ⟨b7, 0, none⟩ re34 ∧ R (.tuple #[.agg re34, .int .i64 0]) H33)) → J17 [] H18) →
 ∃ Ki35, cell H16 (.add ⟨b5, 0, none⟩ 0) = some (.int .i64 Ki35) ∧ br (decide (Ki35 < 1)) (#[Value.int .i64 0, Value.int .i64 0, Value.int .i64 0, Value.slice none 0 0].size = 4 ∧ stAt H16 ⟨b7, 0, none⟩ (Array.toList #[.int .i64 0, .int .i64 0, .int .i64 0, .slice none 0 0]) fun H36 => ∃ re37, re37.size = 4 ∧ rowIn H36 ⟨b7, 0, none⟩ re37 ∧ R (.tuple #[.agg re37, .int .i64 41]) H36) (∃ Ki38, cell H16 (.add ⟨b5, 0, none⟩ 0) = some (.int .i64 Ki38) ∧ br (decide (Ki38 > ((9 : Nat) : Int)))
 (#[Value.int .i64 0, Value.int .i64 0, Value.int .i64 0, Value.slice none 0 0].size = 4 ∧ stAt H16 ⟨b7, 0, none⟩ (Array.toList #[.int .i64 0, .int .i64 0, .int .i64 0, .slice none 0 0]) fun H39 => ∃ re40, re40.size = 4 ∧ rowIn H39 ⟨b7, 0, none⟩ re40 ∧ R (.tuple #[.agg re40, .int .i64 41]) H39)
 (J17 [] H16))) → J12 [.pointer (some w13)] H14) →
 ∃ v41, v41.size = 19 ∧ rowIn H11 ⟨b5, 0, none⟩ v41 ∧ (Tryz.C 32 #[.pointer (some ou10)] H11 fun r42 H43 => ∃ r44, r42 = .pointer r44 ∧ (Ext H11 H43 ∨ (∃ v49, v49.size = 19 ∧ rowIn H43 ⟨b5, 0, none⟩ v49 ∧ Value.agg v49 = .agg v41)) ∧ v41.size = 19 ∧ 2 + 19 ≤ 21 ∧ alc H43 (.cells #[.pointer none, .pointer none, .int .i64 0, .int .i64 0, .int .i64 0, .int .i64 0, .int .i64 0, .int .i64 0, .int .i64 0, .int .i64 0, .int .i64 0, .int .i64 0, .slice none 0 0, .slice none 0 0, .int .i64 0, .int .i64 0, .int .i64 0, .int .i64 0, .int .i64 0, .int .i64 0, .slice none 0 0] 86) fun b45 H46 => (Ext H43 H46 ∨ (∃ v48, v48.size = 19 ∧ rowIn H46 ⟨b5, 0, none⟩ v48 ∧ Value.agg v48 = .agg v41)) ∧ (List.toArray (setL [.pointer r44, .pointer (some ou10), .int .i64 0, .int .i64 0, .int .i64 0, .int .i64 0, .int .i64 0, .int .i64 0, .int .i64 0, .int .i64 0, .int .i64 0, .int .i64 0, .slice none 0 0, .slice none 0 0, .int .i64 0, .int .i64 0, .int .i64 0, .int .i64 0, .int .i64 0, .int .i64 0, .slice none 0 0] 2 v41.toList)).size = 21 ∧ stAt H46 ⟨b45, 0, none⟩ (Array.toList (List.toArray (setL [.pointer r44, .pointer (some ou10), .int .i64 0, .int .i64 0, .int .i64 0, .int .i64 0, .int .i64 0, .int .i64 0, .int .i64 0, .int .i64 0, .int .i64 0, .int .i64 0, .slice none 0 0, .slice none 0 0, .int .i64 0, .int .i64 0, .int .i64 0, .int .i64 0, .int .i64 0, .int .i64 0, .slice none 0 0] 2 v41.toList))) fun H47 => J12 [.pointer (some ⟨b45, 0, none⟩)] H47) ∧ (alc H11 (.cells #[.pointer none, .pointer none, .int .i64 0, .int .i64 0, .int .i64 0, .int .i64 0, .int .i64 0, .int .i64 0, .int .i64 0, .int .i64 0, .int .i64 0, .int .i64 0, .slice none 0 0, .slice none 0 0, .int .i64 0, .int .i64 0, .int .i64 0, .int .i64 0, .int .i64 0, .int .i64 0, .slice none 0 0] 86) fun b50 H51 => (Ext H11 H51 ∨ (∃ v57, v57.size = 19 ∧ rowIn H51 ⟨b5, 0, none⟩ v57 ∧ Value.agg v57 = .agg v41)) ∧ Tryz.C 32 #[.pointer (some ou10)] H51 fun r52 H53 => ∃ r54, r52 = .pointer r54 ∧ (Ext H51 H53 ∨ (∃ v56, v56.size = 19 ∧ rowIn H53 ⟨b5, 0, none⟩ v56 ∧ Value.agg v56 = .agg v41)) ∧ v41.size = 19 ∧ 2 + 19 ≤ 21 ∧ (List.toArray (setL [.pointer r54, .pointer (some ou10), .int .i64 0, .int .i64 0, .int .i64 0, .int .i64 0, .int .i64 0, .int .i64 0, .int .i64 0, .int .i64 0, .int .i64 0, .int .i64 0, .slice none 0 0, .slice none 0 0, .int .i64 0, .int .i64 0, .int .i64 0, .int .i64 0, .int .i64 0, .int .i64 0, .slice none 0 0] 2 v41.toList)).size = 21 ∧ stAt H53 ⟨b50, 0, none⟩ (Array.toList (List.toArray (setL [.pointer r54, .pointer (some ou10), .int .i64 0, .int .i64 0, .int .i64 0, .int .i64 0, .int .i64 0, .int .i64 0, .int .i64 0, .int .i64 0, .int .i64 0, .int .i64 0, .slice none 0 0, .slice none 0 0, .int .i64 0, .int .i64 0, .int .i64 0, .int .i64 0, .int .i64 0, .int .i64 0, .slice none 0 0] 2 v41.toList))) fun H55 => J12 [.pointer (some ⟨b50, 0, none⟩)] H55)) → J9 [.pointer (some ou10)] H11) →
 ∃ W58, cell H8 (.add ⟨b3, 0, none⟩ 0) = some (.int .i64 W58) ∧ ∃ H59, cell H8 (.add ⟨b3, 0, none⟩ 1) = some (.int .i64 H59) ∧ ∃ Ne60, cell H8 (.add ⟨b3, 0, none⟩ 2) = some (.int .i64 Ne60) ∧ ∃ Ki61p Ki61l Ki61c, cell H8 (.add ⟨b3, 0, none⟩ 3) = some (.slice Ki61p Ki61l Ki61c) ∧ (Tryz.C 31 #[.slice Ki61p Ki61l Ki61c] H8 fun r62 H63 => ∃ r64p r64l r64c, r62 = .slice r64p r64l r64c ∧ (Ext H8 H63 ∨ (∃ Ne71, cell H63 (.add ⟨b3, 0, none⟩ 2) = some (.int .i64 Ne71) ∧ Value.int .i64 Ne71 = .int .i64 Ne60) ∧ (∃ H72, cell H63 (.add ⟨b3, 0, none⟩ 1) = some (.int .i64 H72) ∧ Value.int .i64 H72 = .int .i64 H59) ∧ (∃ W73, cell H63 (.add ⟨b3, 0, none⟩ 0) = some (.int .i64 W73) ∧ Value.int .i64 W73 = .int .i64 W58)) ∧ alc H63 (.cells #[.int .i64 0, .int .i64 0, .int .i64 0, .slice none 0 0] 26) fun b65 H66 => (Ext H63 H66 ∨ (∃ Ne68, cell H66 (.add ⟨b3, 0, none⟩ 2) = some (.int .i64 Ne68) ∧ Value.int .i64 Ne68 = .int .i64 Ne60) ∧ (∃ H69, cell H66 (.add ⟨b3, 0, none⟩ 1) = some (.int .i64 H69) ∧ Value.int .i64 H69 = .int .i64 H59) ∧ (∃ W70, cell H66 (.add ⟨b3, 0, none⟩ 0) = some (.int .i64 W70) ∧ Value.int .i64 W70 = .int .i64 W58)) ∧ #[Value.int .i64 W58, Value.int .i64 H59, Value.int .i64 Ne60, Value.slice r64p r64l r64c].size = 4 ∧ stAt H66 ⟨b65, 0, none⟩ (Array.toList #[.int .i64 W58, .int .i64 H59, .int .i64 Ne60, .slice r64p r64l r64c]) fun H67 => J9 [.pointer (some ⟨b65, 0, none⟩)] H67) ∧ (alc H8 (.cells #[.int .i64 0, .int .i64 0, .int .i64 0, .slice none 0 0] 26) fun b74 H75 => (Ext H8 H75 ∨ (∃ Ki83p Ki83l Ki83c, cell H75 (.add ⟨b3, 0, none⟩ 3) = some (.slice Ki83p Ki83l Ki83c) ∧ Value.slice Ki83p Ki83l Ki83c = .slice Ki61p Ki61l Ki61c) ∧ (∃ Ne84, cell H75 (.add ⟨b3, 0, none⟩ 2) = some (.int .i64 Ne84) ∧ Value.int .i64 Ne84 = .int .i64 Ne60) ∧ (∃ H85, cell H75 (.add ⟨b3, 0, none⟩ 1) = some (.int .i64 H85) ∧ Value.int .i64 H85 = .int .i64 H59) ∧ (∃ W86, cell H75 (.add ⟨b3, 0, none⟩ 0) = some (.int .i64 W86) ∧ Value.int .i64 W86 = .int .i64 W58)) ∧ Tryz.C 31 #[.slice Ki61p Ki61l Ki61c] H75 fun r76 H77 => ∃ r78p r78l r78c, r76 = .slice r78p r78l r78c ∧ (Ext H75 H77 ∨ (∃ Ne80, cell H77 (.add ⟨b3, 0, none⟩ 2) = some (.int .i64 Ne80) ∧ Value.int .i64 Ne80 = .int .i64 Ne60) ∧ (∃ H81, cell H77 (.add ⟨b3, 0, none⟩ 1) = some (.int .i64 H81) ∧ Value.int .i64 H81 = .int .i64 H59) ∧ (∃ W82, cell H77 (.add ⟨b3, 0, none⟩ 0) = some (.int .i64 W82) ∧ Value.int .i64 W82 = .int .i64 W58)) ∧ #[Value.int .i64 W58, Value.int .i64 H59, Value.int .i64 Ne60, Value.slice r78p r78l r78c].size = 4 ∧ stAt H77 ⟨b74, 0, none⟩ (Array.toList #[.int .i64 W58, .int .i64 H59, .int .i64 Ne60, .slice r78p r78l r78c]) fun H79 => J9 [.pointer (some ⟨b74, 0, none⟩)] H79)
def Tryz.p17 : Plan := (tl (two (join [(6, 999999)] [3, 4] leaf) (two (join [(7, 999999)] [3, 4, 6] leaf) (tl (two (join [] [3, 4, 6, 7, 8] g0) (two (tl g0) (tl (tl leaf))))))))
theorem Tryz.s17 {d1 e2 : AV} {H R} (h : Tryz.S17 d1 e2 H R) : Tryz.C 17 #[.agg d1, .agg e2] H R := vcs Tryz.tab_ok Tryz.mixed Tryz.func17 Tryz.cal17 Tryz.p17 h (by kernel_rfl)
def Tryz.S21 (w1 h2 : Int) (H : Heap) (R : Kv) : Prop :=
 alc H (.cells #[.int .i64 0, .int .i64 0, .int .i64 0, .slice none 0 0] 26) fun b3 H4 => ∀ J5 : Kl, (∀ H6, (#[Value.int .i64 w1, Value.int .i64 h2, Value.int .i64 1, Value.slice none 0 0].size = 4 ∧ stAt H6 ⟨b3, 0, none⟩ (Array.toList #[.int .i64 w1, .int .i64 h2, .int .i64 1, .slice none 0 0]) fun H7 => ∃ re8, re8.size = 4 ∧ rowIn H7 ⟨b3, 0, none⟩ re8 ∧ R (.tuple #[.agg re8, .int .i64 0]) H7) → J5 [] H6) →
 br (decide (w1 < 1)) (#[Value.int .i64 0, Value.int .i64 0, Value.int .i64 0, Value.slice none 0 0].size = 4 ∧ stAt H4 ⟨b3, 0, none⟩ (Array.toList #[.int .i64 0, .int .i64 0, .int .i64 0, .slice none 0 0]) fun H9 => ∃ re10, re10.size = 4 ∧ rowIn H9 ⟨b3, 0, none⟩ re10 ∧ R (.tuple #[.agg re10, .int .i64 31]) H9) (br (decide (h2 < 1)) (#[Value.int .i64 0, Value.int .i64 0, Value.int .i64 0, Value.slice none 0 0].size = 4 ∧ stAt H4 ⟨b3, 0, none⟩ (Array.toList #[.int .i64 0, .int .i64 0, .int .i64 0, .slice none 0 0]) fun H11 => ∃ re12, re12.size = 4 ∧ rowIn H11 ⟨b3, 0, none⟩ re12 ∧ R (.tuple #[.agg re12, .int .i64 31]) H11) (br (decide (w1 > 32768)) (#[Value.int .i64 0, Value.int .i64 0, Value.int .i64 0, Value.slice none 0 0].size = 4 ∧ stAt H4 ⟨b3, 0, none⟩ (Array.toList #[.int .i64 0, .int .i64 0, .int .i64 0, .slice none 0 0]) fun H13 => ∃ re14, re14.size = 4 ∧ rowIn H13 ⟨b3, 0, none⟩ re14 ∧ R (.tuple #[.agg re14, .int .i64 31]) H13) (br (decide (h2 > 32768)) (#[Value.int .i64 0, Value.int .i64 0, Value.int .i64 0, Value.slice none 0 0].size = 4 ∧ stAt H4 ⟨b3, 0, none⟩ (Array.toList #[.int .i64 0, .int .i64 0, .int .i64 0, .slice none 0 0]) fun H15 => ∃ re16, re16.size = 4 ∧ rowIn H15 ⟨b3, 0, none⟩ re16 ∧ R (.tuple #[.agg re16, .int .i64 31]) H15) (br (decide (((wrap .i64 (w1 * h2)) : Int) > 4194304))
 (#[Value.int .i64 0, Value.int .i64 0, Value.int .i64 0, Value.slice none 0 0].size = 4 ∧ stAt H4 ⟨b3, 0, none⟩ (Array.toList #[.int .i64 0, .int .i64 0, .int .i64 0, .slice none 0 0]) fun H17 => ∃ re18, re18.size = 4 ∧ rowIn H17 ⟨b3, 0, none⟩ re18 ∧ R (.tuple #[.agg re18, .int .i64 31]) H17)
 (J5 [] H4)))))
def Tryz.p21 : Plan := (tl (two (join [] [0, 1, 4] g0) (tl leaf)))
theorem Tryz.s21 {w1 h2 : Int} {H R} (h : Tryz.S21 w1 h2 H R) : Tryz.C 21 #[.int .i64 w1, .int .i64 h2] H R := vcs Tryz.tab_ok Tryz.mixed Tryz.func21 Tryz.cal21 Tryz.p21 h (by kernel_rfl)
def Tryz.S22 (p1 : AV) (H : Heap) (R : Kv) : Prop :=
 alc H (.cells p1 34) fun b2 H3 => ∃ P4p P4l P4c, cell H3 (.add ⟨b2, 0, none⟩ 2) = some (.slice P4p P4l P4c) ∧ ∀ X5 : Kl, (∀ (ou6p : OA) (ou6l ou6c : Nat) (t7 : Int) H8, (br (decide (t7 < (P4l : Int)))
 (∃ a9, P4p = some a9 ∧ 0 ≤ t7 ∧ t7 < (P4l : Int) ∧ ∃ v10, cell H8 (.add a9 (toNat t7 * 1)) = some (.int .i64 v10) ∧ Tryz.C 45 #[.int .i64 v10] H8 fun r11 H12 => ∃ r13, r11 = .agg r13 ∧ alc H12 (.cells #[.int .i64 0, .int .i64 0, .int .i64 0, .int .i64 0] 94) fun b14 H15 => r13.size = 4 ∧ stAt H15 ⟨b14, 0, none⟩ r13.toList fun H16 => 0 ≤ (3 : Int) ∧ (3 : Int) ≤ ((4 : Nat) : Int) ∧ ∀ X17 : Kl, (∀ (ou18p : OA) (ou18l ou18c : Nat) (t19 : Int) H20, (br (decide (t19 < ((((toNat 3) - 0) : Nat) : Int)))
 (∃ a21, (some (if 4 = 0 then ⟨b14, 0, none⟩ else Addr.add ⟨b14, 0, none⟩ (0 * 1))) = some a21 ∧ 0 ≤ t19 ∧ t19 < ((((toNat 3) - 0) : Nat) : Int) ∧ ∃ n22, cell H20 (.add a21 (toNat t19 * 1)) = some (.int .i64 n22) ∧ 0 ≤ (3 : Int) ∧ (3 : Int) < ((4 : Nat) : Int) ∧ ∃ v23, cell H20 (.add ⟨b14, 0, none⟩ (toNat (3 : Int) * 1)) = some (.int .i64 v23) ∧ alc H20 (.cells #[.int .u8 (wrap .u8 (wrap .i64 ((wrap .i64 (n22 + 255)) - v23)))] 5) fun b24 H25 => appQ 1 1 #[.int .u8 0] H25 ou18p ou18l ou18c (some ⟨b24, 0, none⟩) 1 5 fun ou26p ou26l ou26c H27 => X17 [.slice ou26p ou26l ou26c, .int .i64 (wrap .i64 (t19 + 1))] H27)
 (X5 [.slice ou18p ou18l ou18c, .int .i64 (wrap .i64 (t7 + 1))] H20)) → X17 [.slice ou18p ou18l ou18c, .int .i64 t19] H20) → X17 [.slice ou6p ou6l ou6c, .int .i64 0] H16)
 (R (.slice ou6p ou6l ou6c) H8)) → X5 [.slice ou6p ou6l ou6c, .int .i64 t7] H8) → X5 [.slice none 0 0, .int .i64 0] H3
def Tryz.p22 : Plan := (tl (tl (two (tl (one (loop [(3, 56), (12, 3)] [10, 11] (tl (two (tl leaf) (two (one (tl (tl (tl (one (loop [(3, 56), (20, 3)] [6, 10, 11, 12, 18, 19] (tl (two (tl leaf) (two (one (tl leaf)) leaf))))))))) leaf)))))) (tl leaf))))
theorem Tryz.s22 {p1 : AV} {H R} (h : Tryz.S22 p1 H R) : Tryz.C 22 #[.agg p1] H R := vcs Tryz.tab_ok Tryz.mixed Tryz.func22 Tryz.cal22 Tryz.p22 h (by kernel_rfl)
def Tryz.S23 (w1 h2 : Int) (H : Heap) (R : Kv) : Prop :=
 alc H (.cells #[.int .i64 0, .int .i64 0, .int .i64 0, .slice none 0 0] 29) fun b3 H4 => Tryz.C 46 #[.int .i64 w1, .int .i64 h2] H4 fun r5 H6 => ∃ r7, r5 = .bool r7 ∧ br (!r7)
 (#[Value.int .i64 0, Value.int .i64 0, Value.int .i64 0, Value.slice none 0 0].size = 4 ∧ stAt H6 ⟨b3, 0, none⟩ (Array.toList #[.int .i64 0, .int .i64 0, .int .i64 0, .slice none 0 0]) fun H8 => ∃ re9, re9.size = 4 ∧ rowIn H8 ⟨b3, 0, none⟩ re9 ∧ R (.tuple #[.agg re9, .int .i64 31]) H8)
 (#[Value.int .i64 w1, Value.int .i64 h2, Value.int .i64 1, Value.slice none 0 0].size = 4 ∧ stAt H6 ⟨b3, 0, none⟩ (Array.toList #[.int .i64 w1, .int .i64 h2, .int .i64 1, .slice none 0 0]) fun H10 => ∃ re11, re11.size = 4 ∧ rowIn H10 ⟨b3, 0, none⟩ re11 ∧ R (.tuple #[.agg re11, .int .i64 0]) H10)
def Tryz.p23 : Plan := (tl (tg (tl leaf)))
theorem Tryz.s23 {w1 h2 : Int} {H R} (h : Tryz.S23 w1 h2 H R) : Tryz.C 23 #[.int .i64 w1, .int .i64 h2] H R := vcs Tryz.tab_ok Tryz.mixed Tryz.func23 Tryz.cal23 Tryz.p23 h (by kernel_rfl)
def Tryz.S24 (li1p : OA) (li1l li1c : Nat) (mo2 : Int) (H : Heap) (R : Kv) : Prop :=
 br (decide (((li1l : Int) : Int) > mo2))
 (R (.bool false) H)
 (∀ X3 : Kl, (∀ (t4 : Int) H5, (br (decide (t4 < (li1l : Int)))
 (∀ J6 : Kl, (∀ H7, (X3 [.int .i64 (wrap .i64 (t4 + 1))] H7) → J6 [] H7) →
 ∃ a8, li1p = some a8 ∧ 0 ≤ t4 ∧ t4 < (li1l : Int) ∧ ∃ v9, v9.size = 19 ∧ rowIn H5 (.add a8 (toNat t4 * 19)) v9 ∧ alc H5 (.cells #[.int .i64 0, .int .i64 0, .int .i64 0, .int .i64 0, .int .i64 0, .int .i64 0, .int .i64 0, .int .i64 0, .int .i64 0, .int .i64 0, .slice none 0 0, .slice none 0 0, .int .i64 0, .int .i64 0, .int .i64 0, .int .i64 0, .int .i64 0, .int .i64 0, .slice none 0 0] 52) fun b10 H11 => v9.size = 19 ∧ stAt H11 ⟨b10, 0, none⟩ v9.toList fun H12 => ∃ P13p P13l P13c, cell H12 (.add ⟨b10, 0, none⟩ 10) = some (.slice P13p P13l P13c) ∧ br (decide (((P13l : Int) : Int) > 600)) (R (.bool false) H12) (∃ Sh14p Sh14l Sh14c, cell H12 (.add ⟨b10, 0, none⟩ 11) = some (.slice Sh14p Sh14l Sh14c) ∧ br (decide (((Sh14l : Int) : Int) > 300)) (R (.bool false) H12) (∃ Pa15p Pa15l Pa15c, cell H12 (.add ⟨b10, 0, none⟩ 18) = some (.slice Pa15p Pa15l Pa15c) ∧ br (decide (((Pa15l : Int) : Int) > 100)) (R (.bool false) H12) (∃ Ki16, cell H12 (.add ⟨b10, 0, none⟩ 0) = some (.int .i64 Ki16) ∧ br (Ki16 == 1) (∃ N17, cell H12 (.add ⟨b10, 0, none⟩ 4) = some (.int .i64 N17) ∧ br (N17 == 0) (∃ W18, cell H12 (.add ⟨b10, 0, none⟩ 8) = some (.int .i64 W18) ∧ ∃ H19, cell H12 (.add ⟨b10, 0, none⟩ 9) = some (.int .i64 H19) ∧ Tryz.C 46 #[.int .i64 W18, .int .i64 H19] H12 fun r20 H21 => ∃ r22, r20 = .bool r22 ∧ br r22 (∃ W23, cell H21 (.add ⟨b10, 0, none⟩ 8) = some (.int .i64 W23) ∧ ∃ H24, cell H21 (.add ⟨b10, 0, none⟩ 9) = some (.int .i64 H24) ∧ br (decide (((wrap .i64 (W23 * H24)) : Int) > 600))
 (R (.bool false) H21)
 (J6 [] H21)) (J6 [] H21)) (J6 [] H12)) (J6 [] H12)))))
 (R (.bool true) H5)) → X3 [.int .i64 t4] H5) → X3 [.int .i64 0] H)
def Tryz.p24 : Plan := (tl (tg (two (tl (one (loop [(13, 3)] [11, 12] (tl (two (tl leaf) (two (join [] [11, 12, 13] (one (tl g0))) leaf)))))) (tl leaf))))
theorem Tryz.s24 {li1p : OA} {li1l li1c : Nat} {mo2 : Int} {H R} (h : Tryz.S24 li1p li1l li1c mo2 H R) : Tryz.C 24 #[.slice li1p li1l li1c, .int .i64 mo2] H R := vcs Tryz.tab_ok Tryz.mixed Tryz.func24 Tryz.cal24 Tryz.p24 h (by kernel_rfl)
def Tryz.S25 (d1 e2 : AV) (H : Heap) (R : Kv) : Prop :=
 alc H (.cells d1 29) fun b3 H4 => alc H4 (.cells e2 73) fun b5 H6 => alc H6 (.cells #[.int .i64 0, .int .i64 0, .int .i64 0, .slice none 0 0] 29) fun b7 H8 => ∃ Ki9, cell H8 (.add ⟨b5, 0, none⟩ 0) = some (.int .i64 Ki9) ∧ br (Ki9 == 1)
 (∃ v10, v10.size = 4 ∧ rowIn H8 ⟨b3, 0, none⟩ v10 ∧ ∃ v11, v11.size = 19 ∧ rowIn H8 ⟨b5, 0, none⟩ v11 ∧ Tryz.C 47 #[.agg v10, .agg v11] H8 fun r12 H13 => ∃ r14 r15, r12 = .tuple #[.agg r14, .int .i64 r15] ∧ r14.size = 4 ∧ stAt H13 ⟨b7, 0, none⟩ r14.toList fun H16 => ∃ re17, re17.size = 4 ∧ rowIn H16 ⟨b7, 0, none⟩ re17 ∧ R (.tuple #[.agg re17, .int .i64 r15]) H16)
 (br (Ki9 == 2)
 (∃ v18, v18.size = 4 ∧ rowIn H8 ⟨b3, 0, none⟩ v18 ∧ ∃ ID19, cell H8 (.add ⟨b5, 0, none⟩ 1) = some (.int .i64 ID19) ∧ Tryz.C 48 #[.agg v18, .int .i64 ID19] H8 fun r20 H21 => ∃ r22, r20 = .int .i64 r22 ∧ br (decide (r22 < 0))
 (∃ v23, v23.size = 4 ∧ rowIn H21 ⟨b3, 0, none⟩ v23 ∧ v23.size = 4 ∧ stAt H21 ⟨b7, 0, none⟩ v23.toList fun H24 => ∃ re25, re25.size = 4 ∧ rowIn H24 ⟨b7, 0, none⟩ re25 ∧ R (.tuple #[.agg re25, .int .i64 40]) H24)
 (∃ v26, v26.size = 4 ∧ rowIn H21 ⟨b3, 0, none⟩ v26 ∧ ∃ ID27, cell H21 (.add ⟨b5, 0, none⟩ 1) = some (.int .i64 ID27) ∧ Tryz.C 49 #[.agg v26, .int .i64 ID27] H21 fun r28 H29 => ∃ r30p r30l r30c r31p r31l r31c, r28 = .tuple #[.slice r30p r30l r30c, .slice r31p r31l r31c] ∧ stAt H29 (.add ⟨b3, 0, none⟩ 3) [.slice r30p r30l r30c] fun H32 => ∃ v33, v33.size = 4 ∧ rowIn H32 ⟨b3, 0, none⟩ v33 ∧ v33.size = 4 ∧ stAt H32 ⟨b7, 0, none⟩ v33.toList fun H34 => ∃ re35, re35.size = 4 ∧ rowIn H34 ⟨b7, 0, none⟩ re35 ∧ R (.tuple #[.agg re35, .int .i64 0]) H34))
 (br (Ki9 == 3)
 (∃ v36, v36.size = 4 ∧ rowIn H8 ⟨b3, 0, none⟩ v36 ∧ ∃ v37, v37.size = 19 ∧ rowIn H8 ⟨b5, 0, none⟩ v37 ∧ Tryz.C 50 #[.agg v36, .agg v37] H8 fun r38 H39 => ∃ r40 r41, r38 = .tuple #[.agg r40, .int .i64 r41] ∧ r40.size = 4 ∧ stAt H39 ⟨b7, 0, none⟩ r40.toList fun H42 => ∃ re43, re43.size = 4 ∧ rowIn H42 ⟨b7, 0, none⟩ re43 ∧ R (.tuple #[.agg re43, .int .i64 r41]) H42)
 (∀ J44 : Kl, (∀ H45, (∃ v46, v46.size = 4 ∧ rowIn H45 ⟨b3, 0, none⟩ v46 ∧ ∃ ID47, cell H45 (.add ⟨b5, 0, none⟩ 1) = some (.int .i64 ID47) ∧ Tryz.C 48 #[.agg v46, .int .i64 ID47] H45 fun r48 H49 => ∃ i50, r48 = .int .i64 i50 ∧ br (decide (i50 < 0))
 (∃ v51, v51.size = 4 ∧ rowIn H49 ⟨b3, 0, none⟩ v51 ∧ v51.size = 4 ∧ stAt H49 ⟨b7, 0, none⟩ v51.toList fun H52 => ∃ re53, re53.size = 4 ∧ rowIn H52 ⟨b7, 0, none⟩ re53 ∧ R (.tuple #[.agg re53, .int .i64 40]) H52)
 (∀ J54 : Kl, (∀ (l55 : Addr) (f56 : Int) H57, (br (f56 != 0)
 (∃ v58, v58.size = 4 ∧ rowIn H57 ⟨b3, 0, none⟩ v58 ∧ v58.size = 4 ∧ stAt H57 ⟨b7, 0, none⟩ v58.toList fun H59 => ∃ re60, re60.size = 4 ∧ rowIn H59 ⟨b7, 0, none⟩ re60 ∧ R (.tuple #[.agg re60, .int .i64 f56]) H59)
 (alc H57 (.cells #[] 101) fun b61 H62 => ∃ L63p L63l L63c, cell H62 (.add ⟨b3, 0, none⟩ 3) = some (.slice L63p L63l L63c) ∧ appQ 19 200 #[.int .i64 0, .int .i64 0, .int .i64 0, .bool false, .int .i64 0, .int .i64 0, .int .i64 0, .int .i64 0, .slice none 0 0, .slice none 0 0, .int .i64 0, .int .i64 0, .int .i64 0, .int .i64 0, .int .i64 0, .int .i64 0, .bool false, .int .i64 0, .slice none 0 0] H62 (some ⟨b61, 0, none⟩) 0 0 L63p L63l 101 fun ap64p ap64l ap64c H65 => stAt H65 (.add ⟨b3, 0, none⟩ 3) [.slice ap64p ap64l ap64c] fun H66 => ∃ L67p L67l L67c, cell H66 (.add ⟨b3, 0, none⟩ 3) = some (.slice L67p L67l L67c) ∧ ∃ v68, v68.size = 19 ∧ rowIn H66 l55 v68 ∧ ∃ a69, L67p = some a69 ∧ 0 ≤ i50 ∧ i50 < (L67l : Int) ∧ v68.size = 19 ∧ stAt H66 (.add a69 (toNat i50 * 19)) v68.toList fun H70 => ∃ v71, v71.size = 4 ∧ rowIn H70 ⟨b3, 0, none⟩ v71 ∧ v71.size = 4 ∧ stAt H70 ⟨b7, 0, none⟩ v71.toList fun H72 => ∃ re73, re73.size = 4 ∧ rowIn H72 ⟨b7, 0, none⟩ re73 ∧ R (.tuple #[.agg re73, .int .i64 0]) H72)) → J54 [.pointer (some l55), .int .i64 f56] H57) →
 ∃ v74, v74.size = 4 ∧ rowIn H49 ⟨b3, 0, none⟩ v74 ∧ ∃ L75p L75l L75c, cell H49 (.add ⟨b3, 0, none⟩ 3) = some (.slice L75p L75l L75c) ∧ ∃ a76, L75p = some a76 ∧ 0 ≤ i50 ∧ i50 < (L75l : Int) ∧ ∃ v77, v77.size = 19 ∧ rowIn H49 (.add a76 (toNat i50 * 19)) v77 ∧ ∃ v78, v78.size = 19 ∧ rowIn H49 ⟨b5, 0, none⟩ v78 ∧ (Tryz.C 51 #[.agg v74, .agg v77, .agg v78] H49 fun r79 H80 => ∃ r81 r82, r79 = .tuple #[.agg r81, .int .i64 r82] ∧ alc H80 (.cells #[.int .i64 0, .int .i64 0, .int .i64 0, .bool false, .int .i64 0, .int .i64 0, .int .i64 0, .int .i64 0, .slice none 0 0, .slice none 0 0, .int .i64 0, .int .i64 0, .int .i64 0, .int .i64 0, .int .i64 0, .int .i64 0, .bool false, .int .i64 0, .slice none 0 0] 101) fun b83 H84 => r81.size = 19 ∧ stAt H84 ⟨b83, 0, none⟩ r81.toList fun H85 => J54 [.pointer (some ⟨b83, 0, none⟩), .int .i64 r82] H85) ∧ (alc H49 (.cells #[.int .i64 0, .int .i64 0, .int .i64 0, .bool false, .int .i64 0, .int .i64 0, .int .i64 0, .int .i64 0, .slice none 0 0, .slice none 0 0, .int .i64 0, .int .i64 0, .int .i64 0, .int .i64 0, .int .i64 0, .int .i64 0, .bool false, .int .i64 0, .slice none 0 0] 101) fun b86 H87 => (Ext H49 H87 ∨ (∃ v93, v93.size = 19 ∧ rowIn H87 ⟨b5, 0, none⟩ v93 ∧ Value.agg v93 = .agg v78) ∧ (∃ v94, v94.size = 19 ∧ rowIn H87 (.add a76 (toNat i50 * 19)) v94 ∧ Value.agg v94 = .agg v77) ∧ (∃ L95p L95l L95c, cell H87 (.add ⟨b3, 0, none⟩ 3) = some (.slice L95p L95l L95c) ∧ Value.slice L95p L95l L95c = .slice L75p L75l L75c) ∧ (∃ v96, v96.size = 4 ∧ rowIn H87 ⟨b3, 0, none⟩ v96 ∧ Value.agg v96 = .agg v74)) ∧ Tryz.C 51 #[.agg v74, .agg v77, .agg v78] H87 fun r88 H89 => ∃ r90 r91, r88 = .tuple #[.agg r90, .int .i64 r91] ∧ r90.size = 19 ∧ stAt H89 ⟨b86, 0, none⟩ r90.toList fun H92 => J54 [.pointer (some ⟨b86, 0, none⟩), .int .i64 r91] H92))) → J44 [] H45) →
 ∃ Ki97, cell H8 (.add ⟨b5, 0, none⟩ 0) = some (.int .i64 Ki97) ∧ br (decide (Ki97 < 4)) (∃ v98, v98.size = 4 ∧ rowIn H8 ⟨b3, 0, none⟩ v98 ∧ v98.size = 4 ∧ stAt H8 ⟨b7, 0, none⟩ v98.toList fun H99 => ∃ re100, re100.size = 4 ∧ rowIn H99 ⟨b7, 0, none⟩ re100 ∧ R (.tuple #[.agg re100, .int .i64 41]) H99) (∃ Ki101, cell H8 (.add ⟨b5, 0, none⟩ 0) = some (.int .i64 Ki101) ∧ br (decide (Ki101 > 9))
 (∃ v102, v102.size = 4 ∧ rowIn H8 ⟨b3, 0, none⟩ v102 ∧ v102.size = 4 ∧ stAt H8 ⟨b7, 0, none⟩ v102.toList fun H103 => ∃ re104, re104.size = 4 ∧ rowIn H103 ⟨b7, 0, none⟩ re104 ∧ R (.tuple #[.agg re104, .int .i64 41]) H103)
 (J44 [] H8)))))
def Tryz.p25 : Plan := (tl (two (tl (one (tl (two (tl leaf) (tl (two (tg (tl (tl (tl leaf)))) g0)))))) (two (join [] [2, 3, 4] g0) (tl (tg (two (join [(9, 999999), (10, 3)] [2, 4, 8] leaf) (tg (tl (tl (tl leaf))))))))))
theorem Tryz.s25 {d1 e2 : AV} {H R} (h : Tryz.S25 d1 e2 H R) : Tryz.C 25 #[.agg d1, .agg e2] H R := vcs Tryz.tab_ok Tryz.mixed Tryz.func25 Tryz.cal25 Tryz.p25 h (by kernel_rfl)
def Tryz.S26 (e1 : AV) (H : Heap) (R : Kv) : Prop :=
 alc H (.cells e1 52) fun b2 H3 => alc H3 (.cells #[.int .i64 0, .int .i64 0, .int .i64 0, .int .i64 0, .int .i64 0, .int .i64 0, .int .i64 0, .int .i64 0, .int .i64 0, .int .i64 0, .slice none 0 0, .slice none 0 0, .int .i64 0, .int .i64 0, .int .i64 0, .int .i64 0, .int .i64 0, .int .i64 0, .slice none 0 0] 73) fun b4 H5 => ∃ Ki6, cell H5 (.add ⟨b2, 0, none⟩ 0) = some (.int .i64 Ki6) ∧ ∃ ID7, cell H5 (.add ⟨b2, 0, none⟩ 1) = some (.int .i64 ID7) ∧ ∃ To8, cell H5 (.add ⟨b2, 0, none⟩ 2) = some (.int .i64 To8) ∧ ∃ At9, cell H5 (.add ⟨b2, 0, none⟩ 3) = some (.int .i64 At9) ∧ ∃ N10, cell H5 (.add ⟨b2, 0, none⟩ 4) = some (.int .i64 N10) ∧ ∃ M11, cell H5 (.add ⟨b2, 0, none⟩ 5) = some (.int .i64 M11) ∧ ∃ X12, cell H5 (.add ⟨b2, 0, none⟩ 6) = some (.int .i64 X12) ∧ ∃ Y13, cell H5 (.add ⟨b2, 0, none⟩ 7) = some (.int .i64 Y13) ∧ ∃ W14, cell H5 (.add ⟨b2, 0, none⟩ 8) = some (.int .i64 W14) ∧ ∃ H15, cell H5 (.add ⟨b2, 0, none⟩ 9) = some (.int .i64 H15) ∧ ∃ P16p P16l P16c, cell H5 (.add ⟨b2, 0, none⟩ 10) = some (.slice P16p P16l P16c) ∧ ∃ Ma17, Ma17.size = 6 ∧ rowIn H5 (.add ⟨b2, 0, none⟩ 12) Ma17 ∧ ∃ Pa18p Pa18l Pa18c, cell H5 (.add ⟨b2, 0, none⟩ 18) = some (.slice Pa18p Pa18l Pa18c) ∧ Ma17.size = 6 ∧ 12 + 6 ≤ 19 ∧ alc H5 (.cells #[.int .i64 0, .int .i64 0, .int .i64 0, .int .i64 0, .int .i64 0, .int .i64 0, .int .i64 0, .int .i64 0, .int .i64 0, .int .i64 0, .slice none 0 0, .slice none 0 0, .int .i64 0, .int .i64 0, .int .i64 0, .int .i64 0, .int .i64 0, .int .i64 0, .slice none 0 0] 73) fun b19 H20 => (List.toArray (List.set (setL [.int .i64 Ki6, .int .i64 ID7, .int .i64 To8, .int .i64 At9, .int .i64 N10, .int .i64 M11, .int .i64 X12, .int .i64 Y13, .int .i64 W14, .int .i64 H15, .slice P16p P16l P16c, .slice none 0 0, .int .i64 0, .int .i64 0, .int .i64 0, .int .i64 0, .int .i64 0, .int .i64 0, .slice none 0 0] 12 Ma17.toList) 18 (.slice Pa18p Pa18l Pa18c))).size = 19 ∧ stAt H20 ⟨b19, 0, none⟩ (Array.toList (List.toArray (List.set (setL [.int .i64 Ki6, .int .i64 ID7, .int .i64 To8, .int .i64 At9, .int .i64 N10, .int .i64 M11, .int .i64 X12, .int .i64 Y13, .int .i64 W14, .int .i64 H15, .slice P16p P16l P16c, .slice none 0 0, .int .i64 0, .int .i64 0, .int .i64 0, .int .i64 0, .int .i64 0, .int .i64 0, .slice none 0 0] 12 Ma17.toList) 18 (.slice Pa18p Pa18l Pa18c)))) fun H21 => ∃ Sh22p Sh22l Sh22c, cell H21 (.add ⟨b2, 0, none⟩ 11) = some (.slice Sh22p Sh22l Sh22c) ∧ ∀ X23 : Kl, (∀ (t24 : Int) H25, (br (decide (t24 < (Sh22l : Int)))
 (∃ a26, Sh22p = some a26 ∧ 0 ≤ t24 ∧ t24 < (Sh22l : Int) ∧ ∃ v27, v27.size = 2 ∧ rowIn H25 (.add a26 (toNat t24 * 2)) v27 ∧ alc H25 (.cells #[.int .i64 0, .int .i64 0] 105) fun b28 H29 => v27.size = 2 ∧ stAt H29 ⟨b28, 0, none⟩ v27.toList fun H30 => ∃ Sh31p Sh31l Sh31c, cell H30 (.add ⟨b19, 0, none⟩ 11) = some (.slice Sh31p Sh31l Sh31c) ∧ ∃ X32, cell H30 (.add ⟨b28, 0, none⟩ 0) = some (.int .i64 X32) ∧ ∃ Y33, cell H30 (.add ⟨b28, 0, none⟩ 1) = some (.int .i64 Y33) ∧ #[Value.int .i64 X32, Value.int .i64 Y33].size = 2 ∧ 0 + 2 ≤ 2 ∧ alc H30 (.cells (List.toArray (setL [.int .i64 0, .int .i64 0] 0 (Array.toList #[.int .i64 X32, .int .i64 Y33]))) 106) fun b34 H35 => appQ 2 16 #[.int .i64 0, .int .i64 0] H35 Sh31p Sh31l Sh31c (some ⟨b34, 0, none⟩) 1 106 fun ap36p ap36l ap36c H37 => stAt H37 (.add ⟨b19, 0, none⟩ 11) [.slice ap36p ap36l ap36c] fun H38 => X23 [.int .i64 (wrap .i64 (t24 + 1))] H38)
 (∃ v39, v39.size = 19 ∧ rowIn H25 ⟨b19, 0, none⟩ v39 ∧ v39.size = 19 ∧ stAt H25 ⟨b4, 0, none⟩ v39.toList fun H40 => ∃ re41, re41.size = 19 ∧ rowIn H40 ⟨b4, 0, none⟩ re41 ∧ R (.agg re41) H40)) → X23 [.int .i64 t24] H25) → X23 [.int .i64 0] H21
def Tryz.p26 : Plan := (tl (tl (two (tl (one (loop [(36, 3)] [2, 3, 34, 35] (tl (two (tl leaf) (two (one (tl leaf)) leaf)))))) (tl leaf))))
theorem Tryz.s26 {e1 : AV} {H R} (h : Tryz.S26 e1 H R) : Tryz.C 26 #[.agg e1] H R := vcs Tryz.tab_ok Tryz.mixed Tryz.func26 Tryz.cal26 Tryz.p26 h (by kernel_rfl)
end Go.Proofs
namespace Go.Proofs
open Go.Sh Go.Sh.Plan
open Go.IntKind (wrap)
open Int (toNat)
def Tryz.S27 (d1 : AV) (to2 x3 y4 : Int) (H : Heap) (R : Kv) : Prop :=
 alc H (.cells d1 29) fun b5 H6 => alc H6 (.cells #[.int .i64 0, .int .i64 0, .int .i64 0, .int .i64 0] 94) fun b7 H8 => ∃ v9, v9.size = 4 ∧ rowIn H8 ⟨b5, 0, none⟩ v9 ∧ Tryz.C 52 #[.agg v9, .int .i64 to2] H8 fun r10 H11 => ∃ k12p k12l k12c, r10 = .slice k12p k12l k12c ∧ ∀ X13 : Kl, (∀ (i14 : Int) H15, (br (decide (i14 < (k12l : Int)))
 (∃ L16p L16l L16c, cell H15 (.add ⟨b5, 0, none⟩ 3) = some (.slice L16p L16l L16c) ∧ ∃ a17, k12p = some a17 ∧ 0 ≤ i14 ∧ i14 < (k12l : Int) ∧ ∃ v18, cell H15 (.add a17 (toNat i14 * 1)) = some (.int .i64 v18) ∧ ∃ a19, L16p = some a19 ∧ 0 ≤ v18 ∧ v18 < (L16l : Int) ∧ ∃ v20, v20.size = 19 ∧ rowIn H15 (.add a19 (toNat v18 * 19)) v20 ∧ alc H15 (.cells #[.int .i64 0, .int .i64 0, .int .i64 0, .bool false, .int .i64 0, .int .i64 0, .int .i64 0, .int .i64 0, .slice none 0 0, .slice none 0 0, .int .i64 0, .int .i64 0, .int .i64 0, .int .i64 0, .int .i64 0, .int .i64 0, .bool false, .int .i64 0, .slice none 0 0] 101) fun b21 H22 => (Ext H15 H22 ∨ (∃ v66, v66.size = 19 ∧ rowIn H22 (.add a19 (toNat v18 * 19)) v66 ∧ Value.agg v66 = .agg v20) ∧ (∃ v67, cell H22 (.add a17 (toNat i14 * 1)) = some (.int .i64 v67) ∧ Value.int .i64 v67 = .int .i64 v18) ∧ (∃ L68p L68l L68c, cell H22 (.add ⟨b5, 0, none⟩ 3) = some (.slice L68p L68l L68c) ∧ Value.slice L68p L68l L68c = .slice L16p L16l L16c)) ∧ v20.size = 19 ∧ stAt H22 ⟨b21, 0, none⟩ v20.toList fun H23 => ∃ Hi24, cell H23 (.add ⟨b21, 0, none⟩ 3) = some (.bool Hi24) ∧ br Hi24
 (X13 [.int .i64 (wrap .i64 (i14 + 1))] H23)
 (∃ v25, v25.size = 19 ∧ rowIn H23 ⟨b21, 0, none⟩ v25 ∧ ∃ W26, cell H23 (.add ⟨b5, 0, none⟩ 0) = some (.int .i64 W26) ∧ Tryz.C 53 #[.agg v25, .int .i64 (wrap .i64 ((wrap .i64 (y4 * W26)) + x3))] H23 fun r27 H28 => ∃ f29, r27 = .int .i64 f29 ∧ ∃ Ki30, cell H28 (.add ⟨b21, 0, none⟩ 1) = some (.int .i64 Ki30) ∧ br (Ki30 == 2)
 (∃ v31, v31.size = 19 ∧ rowIn H28 ⟨b21, 0, none⟩ v31 ∧ ∃ v32, v32.size = 4 ∧ rowIn H28 ⟨b7, 0, none⟩ v32 ∧ Tryz.C 54 #[.agg v31, .agg v32, .int .i64 f29] H28 fun r33 H34 => ∃ r35, r33 = .agg r35 ∧ r35.size = 4 ∧ stAt H34 ⟨b7, 0, none⟩ r35.toList fun H36 => X13 [.int .i64 (wrap .i64 (i14 + 1))] H36)
 (∀ J37 : Kl, (∀ (s38 : Int) H39, (∃ Mo40, cell H39 (.add ⟨b21, 0, none⟩ 5) = some (.int .i64 Mo40) ∧ ∃ v41, v41.size = 4 ∧ rowIn H39 ⟨b7, 0, none⟩ v41 ∧ Tryz.C 58 #[.int .i64 s38, .int .i64 f29] H39 fun r42 H43 => ∃ r44, r42 = .int .i64 r44 ∧ (Ext H39 H43 ∨ (∃ v54, v54.size = 4 ∧ rowIn H43 ⟨b7, 0, none⟩ v54 ∧ Value.agg v54 = .agg v41) ∧ (∃ Mo55, cell H43 (.add ⟨b21, 0, none⟩ 5) = some (.int .i64 Mo55) ∧ Value.int .i64 Mo55 = .int .i64 Mo40)) ∧ Tryz.C 57 #[.int .i64 r44] H43 fun r45 H46 => ∃ r47, r45 = .agg r47 ∧ (Ext H43 H46 ∨ (∃ v52, v52.size = 4 ∧ rowIn H46 ⟨b7, 0, none⟩ v52 ∧ Value.agg v52 = .agg v41) ∧ (∃ Mo53, cell H46 (.add ⟨b21, 0, none⟩ 5) = some (.int .i64 Mo53) ∧ Value.int .i64 Mo53 = .int .i64 Mo40)) ∧ Tryz.C 56 #[.int .i64 Mo40, .agg r47, .agg v41] H46 fun r48 H49 => ∃ r50, r48 = .agg r50 ∧ r50.size = 4 ∧ stAt H49 ⟨b7, 0, none⟩ r50.toList fun H51 => X13 [.int .i64 (wrap .i64 (i14 + 1))] H51) → J37 [.int .i64 s38] H39) →
 ∃ Ki56, cell H28 (.add ⟨b21, 0, none⟩ 1) = some (.int .i64 Ki56) ∧ br (Ki56 == 0)
 (∃ v57, v57.size = 19 ∧ rowIn H28 ⟨b21, 0, none⟩ v57 ∧ Tryz.C 55 #[.agg v57, .int .i64 x3, .int .i64 y4] H28 fun r58 H59 => ∃ s60, r58 = .int .i64 s60 ∧ J37 [.int .i64 s60] H59)
 (∃ v61, v61.size = 4 ∧ rowIn H28 ⟨b5, 0, none⟩ v61 ∧ ∃ ID62, cell H28 (.add ⟨b21, 0, none⟩ 0) = some (.int .i64 ID62) ∧ Tryz.C 27 #[.agg v61, .int .i64 ID62, .int .i64 x3, .int .i64 y4] H28 fun r63 H64 => ∃ s65, r63 = .int .i64 s65 ∧ J37 [.int .i64 s65] H64))))
 (∃ v69, v69.size = 4 ∧ rowIn H15 ⟨b7, 0, none⟩ v69 ∧ Tryz.C 59 #[.agg v69] H15 fun r70 H71 => ∃ r72, r70 = .int .i64 r72 ∧ R (.int .i64 r72) H71)) → X13 [.int .i64 i14] H15) → X13 [.int .i64 0] H11
def Tryz.p27 : Plan := (tl (tl (tl (two (tl (one (loop [(11, 3)] [2, 3, 4, 9, 10] (two (tl (tl leaf)) (two (one (tl (two (tl (tl leaf)) (tl (tg (tl (two (join [(14, 3)] [2, 3, 4, 9, 10, 11, 12, 13] (tl (tl leaf))) leaf))))))) leaf))))) (tl leaf)))))
theorem Tryz.s27 {d1 : AV} {to2 x3 y4 : Int} {H R} (h : Tryz.S27 d1 to2 x3 y4 H R) : Tryz.C 27 #[.agg d1, .int .i64 to2, .int .i64 x3, .int .i64 y4] H R := vcs Tryz.tab_ok Tryz.mixed Tryz.func27 Tryz.cal27 Tryz.p27 h (by kernel_rfl)
def Tryz.S28 (v1 c2 : Int) (H : Heap) (R : Kv) : Prop :=
 0 ≤ (wrap .i64 ((24 : Int) - (wrap .i64 ((8 : Int) * c2)))) ∧ (256 : Int) ≠ 0 ∧ R (.int .i64 (Int.tmod (shrI .i64 v1 (wrap .i64 ((24 : Int) - (wrap .i64 ((8 : Int) * c2))))) 256)) H
def Tryz.p28 : Plan := (tl (tl leaf))
theorem Tryz.s28 {v1 c2 : Int} {H R} (h : Tryz.S28 v1 c2 H R) : Tryz.C 28 #[.int .i64 v1, .int .i64 c2] H R := vcs Tryz.tab_ok Tryz.mixed Tryz.func28 Tryz.cal28 Tryz.p28 h (by kernel_rfl)
def Tryz.S29 (li1p : OA) (li1l li1c : Nat) (d2 : AV) (to3 : Int) (H : Heap) (R : Kv) : Prop :=
 alc H (.cells d2 29) fun b4 H5 => ∃ v6, v6.size = 4 ∧ rowIn H5 ⟨b4, 0, none⟩ v6 ∧ Tryz.C 52 #[.agg v6, .int .i64 to3] H5 fun r7 H8 => ∃ k9p k9l k9c, r7 = .slice k9p k9l k9c ∧ br (((li1l : Int) : Int) != (k9l : Int))
 (R (.bool false) H8)
 (∀ X10 : Kl, (∀ (i11 : Int) H12, (br (decide (i11 < (li1l : Int)))
 (∃ a13, li1p = some a13 ∧ 0 ≤ i11 ∧ i11 < (li1l : Int) ∧ ∃ v14, v14.size = 19 ∧ rowIn H12 (.add a13 (toNat i11 * 19)) v14 ∧ alc H12 (.cells #[.int .i64 0, .int .i64 0, .bool false, .int .i64 0, .int .i64 0, .int .i64 0, .int .i64 0, .slice none 0 0, .slice none 0 0, .int .i64 0, .int .i64 0, .int .i64 0, .int .i64 0, .int .i64 0, .int .i64 0, .bool false, .int .i64 0, .slice none 0 0, .slice none 0 0] 58) fun b15 H16 => v14.size = 19 ∧ stAt H16 ⟨b15, 0, none⟩ v14.toList fun H17 => ∃ v18, v18.size = 19 ∧ rowIn H17 ⟨b15, 0, none⟩ v18 ∧ ∃ L19p L19l L19c, cell H17 (.add ⟨b4, 0, none⟩ 3) = some (.slice L19p L19l L19c) ∧ ∃ a20, k9p = some a20 ∧ 0 ≤ i11 ∧ i11 < (k9l : Int) ∧ ∃ v21, cell H17 (.add a20 (toNat i11 * 1)) = some (.int .i64 v21) ∧ ∃ a22, L19p = some a22 ∧ 0 ≤ v21 ∧ v21 < (L19l : Int) ∧ ∃ v23, v23.size = 19 ∧ rowIn H17 (.add a22 (toNat v21 * 19)) v23 ∧ Tryz.C 60 #[.agg v18, .agg v23] H17 fun r24 H25 => ∃ r26, r24 = .bool r26 ∧ br (!r26) (R (.bool false) H25) (∃ Ki27p Ki27l Ki27c, cell H25 (.add ⟨b15, 0, none⟩ 18) = some (.slice Ki27p Ki27l Ki27c) ∧ ∃ v28, v28.size = 4 ∧ rowIn H25 ⟨b4, 0, none⟩ v28 ∧ ∃ ID29, cell H25 (.add ⟨b15, 0, none⟩ 0) = some (.int .i64 ID29) ∧ Tryz.C 29 #[.slice Ki27p Ki27l Ki27c, .agg v28, .int .i64 ID29] H25 fun r30 H31 => ∃ r32, r30 = .bool r32 ∧ br (!r32)
 (R (.bool false) H31)
 (X10 [.int .i64 (wrap .i64 (i11 + 1))] H31)))
 (R (.bool true) H12)) → X10 [.int .i64 i11] H12) → X10 [.int .i64 0] H8)
def Tryz.p29 : Plan := (tl (tl (tg (two (tl (one (loop [(20, 3)] [4, 7, 18, 19] (tl (two (tl leaf) (two (one (tl g0)) leaf)))))) (tl leaf)))))
theorem Tryz.s29 {li1p : OA} {li1l li1c : Nat} {d2 : AV} {to3 : Int} {H R} (h : Tryz.S29 li1p li1l li1c d2 to3 H R) : Tryz.C 29 #[.slice li1p li1l li1c, .agg d2, .int .i64 to3] H R := vcs Tryz.tab_ok Tryz.mixed Tryz.func29 Tryz.cal29 Tryz.p29 h (by kernel_rfl)
def Tryz.S30 (p1 : AV) (li2p : OA) (li2l li2c : Nat) (H : Heap) (R : Kv) : Prop :=
 alc H (.cells p1 79) fun b3 H4 => ∃ w5, cell H4 (.add ⟨b3, 0, none⟩ 6) = some (.int .i64 w5) ∧ ∃ h6, cell H4 (.add ⟨b3, 0, none⟩ 7) = some (.int .i64 h6) ∧ 0 ≤ (wrap .i64 (w5 * h6)) ∧ (wrap .i64 (w5 * h6)) ≤ (wrap .i64 (w5 * h6)) ∧ ((8 : Nat) : Int) * (wrap .i64 (w5 * h6)) ≤ 281474976710656 ∧ (wrap .i64 (w5 * h6)) ≤ 281474976710656 ∧ alc H4 (.cells (List.toArray (reps (toNat (wrap .i64 (w5 * h6))) (Array.toList #[.int .i64 0]))) 3) fun b7 H8 => alc H8 (.cells #[.slice none 0 0] 32) fun b9 H10 => stAt H10 ⟨b9, 0, none⟩ [.slice (some ⟨b7, 0, none⟩) (toNat (wrap .i64 (w5 * h6))) (toNat (wrap .i64 (w5 * h6)))] fun H11 => ∀ X12 : Kl, (∀ (t13 : Int) H14, (br (decide (t13 < (li2l : Int)))
 (∃ a15, li2p = some a15 ∧ 0 ≤ t13 ∧ t13 < (li2l : Int) ∧ ∃ v16, v16.size = 19 ∧ rowIn H14 (.add a15 (toNat t13 * 19)) v16 ∧ alc H14 (.cells #[.int .i64 0, .int .i64 0, .bool false, .int .i64 0, .int .i64 0, .int .i64 0, .int .i64 0, .slice none 0 0, .slice none 0 0, .int .i64 0, .int .i64 0, .int .i64 0, .int .i64 0, .int .i64 0, .int .i64 0, .bool false, .int .i64 0, .slice none 0 0, .slice none 0 0] 58) fun b17 H18 => v16.size = 19 ∧ stAt H18 ⟨b17, 0, none⟩ v16.toList fun H19 => ∃ Hi20, cell H19 (.add ⟨b17, 0, none⟩ 2) = some (.bool Hi20) ∧ br Hi20
 (X12 [.int .i64 (wrap .i64 (t13 + 1))] H19)
 (∃ Ki21, cell H19 (.add ⟨b17, 0, none⟩ 1) = some (.int .i64 Ki21) ∧ br (Ki21 == 2)
 (∃ v22, v22.size = 8 ∧ rowIn H19 ⟨b3, 0, none⟩ v22 ∧ ∃ v23, v23.size = 19 ∧ rowIn H19 ⟨b17, 0, none⟩ v23 ∧ ∃ v24p v24l v24c, cell H19 ⟨b9, 0, none⟩ = some (.slice v24p v24l v24c) ∧ Tryz.C 61 #[.agg v22, .agg v23, .slice v24p v24l v24c] H19 fun r25 H26 => r25 = .tuple #[] ∧ X12 [.int .i64 (wrap .i64 (t13 + 1))] H26)
 (∃ v27, v27.size = 8 ∧ rowIn H19 ⟨b3, 0, none⟩ v27 ∧ ∃ v28, v28.size = 19 ∧ rowIn H19 ⟨b17, 0, none⟩ v28 ∧ Tryz.C 62 #[.agg v27, .agg v28] H19 fun r29 H30 => ∃ r31p r31l r31c, r29 = .slice r31p r31l r31c ∧ alc H30 (.cells #[.slice none 0 0] 32) fun b32 H33 => stAt H33 ⟨b32, 0, none⟩ [.slice r31p r31l r31c] fun H34 => ∃ v35, v35.size = 8 ∧ rowIn H34 ⟨b3, 0, none⟩ v35 ∧ Tryz.C 63 #[.agg v35, .func (.func 64) #[] #[.pointer (some ⟨b17, 0, none⟩), .pointer (some ⟨b32, 0, none⟩), .pointer (some ⟨b9, 0, none⟩)]] H34 fun r36 H37 => r36 = .tuple #[] ∧ X12 [.int .i64 (wrap .i64 (t13 + 1))] H37)))
 (∃ v38p v38l v38c, cell H14 ⟨b9, 0, none⟩ = some (.slice v38p v38l v38c) ∧ R (.slice v38p v38l v38c) H14)) → X12 [.int .i64 t13] H14) → X12 [.int .i64 0] H11
def Tryz.p30 : Plan := (tl (tl (two (tl (one (loop [(17, 3)] [2, 5, 15, 16] (tl (two (tl leaf) (two (one (tl (two (tl (tl leaf)) (tg (tl leaf))))) leaf)))))) (tl leaf))))
theorem Tryz.s30 {p1 : AV} {li2p : OA} {li2l li2c : Nat} {H R} (h : Tryz.S30 p1 li2p li2l li2c H R) : Tryz.C 30 #[.agg p1, .slice li2p li2l li2c] H R := vcs Tryz.tab_ok Tryz.mixed Tryz.func30 Tryz.cal30 Tryz.p30 h (by kernel_rfl)
def Tryz.S31 (li1p : OA) (li1l li1c : Nat) (H : Heap) (R : Kv) : Prop :=
 ∀ X2 : Kl, (∀ (ou3p : OA) (ou3l ou3c : Nat) (t4 : Int) H5, (br (decide (t4 < (li1l : Int)))
 (∃ a6, li1p = some a6 ∧ 0 ≤ t4 ∧ t4 < (li1l : Int) ∧ ∃ v7, v7.size = 19 ∧ rowIn H5 (.add a6 (toNat t4 * 19)) v7 ∧ alc H5 (.cells #[.int .i64 0, .int .i64 0, .bool false, .int .i64 0, .int .i64 0, .int .i64 0, .int .i64 0, .slice none 0 0, .slice none 0 0, .int .i64 0, .int .i64 0, .int .i64 0, .int .i64 0, .int .i64 0, .int .i64 0, .bool false, .int .i64 0, .slice none 0 0, .slice none 0 0] 58) fun b8 H9 => v7.size = 19 ∧ stAt H9 ⟨b8, 0, none⟩ v7.toList fun H10 => ∃ v11, v11.size = 19 ∧ rowIn H10 ⟨b8, 0, none⟩ v11 ∧ Tryz.C 44 #[.agg v11] H10 fun r12 H13 => ∃ r14, r12 = .agg r14 ∧ r14.size = 19 ∧ 0 + 19 ≤ 19 ∧ alc H13 (.cells (List.toArray (setL [.int .i64 0, .int .i64 0, .bool false, .int .i64 0, .int .i64 0, .int .i64 0, .int .i64 0, .slice none 0 0, .slice none 0 0, .int .i64 0, .int .i64 0, .int .i64 0, .int .i64 0, .int .i64 0, .int .i64 0, .bool false, .int .i64 0, .slice none 0 0, .slice none 0 0] 0 r14.toList)) 58) fun b15 H16 => appQ 19 216 #[.int .i64 0, .int .i64 0, .bool false, .int .i64 0, .int .i64 0, .int .i64 0, .int .i64 0, .slice none 0 0, .slice none 0 0, .int .i64 0, .int .i64 0, .int .i64 0, .int .i64 0, .int .i64 0, .int .i64 0, .bool false, .int .i64 0, .slice none 0 0, .slice none 0 0] H16 ou3p ou3l ou3c (some ⟨b15, 0, none⟩) 1 58 fun ou17p ou17l ou17c H18 => X2 [.slice ou17p ou17l ou17c, .int .i64 (wrap .i64 (t4 + 1))] H18)
 (R (.slice ou3p ou3l ou3c) H5)) → X2 [.slice ou3p ou3l ou3c, .int .i64 t4] H5) → X2 [.slice none 0 0, .int .i64 0] H
def Tryz.p31 : Plan := (tl (tl (two (tl (one (loop [(3, 24), (8, 3)] [6, 7] (tl (two (tl leaf) (two (one (tl leaf)) leaf)))))) (tl leaf))))
theorem Tryz.s31 {li1p : OA} {li1l li1c : Nat} {H R} (h : Tryz.S31 li1p li1l li1c H R) : Tryz.C 31 #[.slice li1p li1l li1c] H R := vcs Tryz.tab_ok Tryz.mixed Tryz.func31 Tryz.cal31 Tryz.p31 h (by kernel_rfl)
def Tryz.S32 (d1 : OA) (H : Heap) (R : Kv) : Prop :=
 ∃ a2, d1 = some a2 ∧ ∃ Ki3p Ki3l Ki3c, cell H (.add a2 3) = some (.slice Ki3p Ki3l Ki3c) ∧ alc H (.cells #[.int .i64 0, .int .i64 1, .bool false, .int .i64 0, .int .i64 0, .int .i64 0, .int .i64 0, .slice none 0 0, .slice none 0 0, .int .i64 0, .int .i64 0, .int .i64 0, .int .i64 0, .int .i64 0, .int .i64 0, .bool false, .int .i64 0, .slice none 0 0, .slice Ki3p Ki3l Ki3c] 58) fun b4 H5 => R (.pointer (some ⟨b4, 0, none⟩)) H5
def Tryz.p32 : Plan := (tl (tl leaf))
theorem Tryz.s32 {d1 : OA} {H R} (h : Tryz.S32 d1 H R) : Tryz.C 32 #[.pointer d1] H R := vcs Tryz.tab_ok Tryz.mixed Tryz.func32 Tryz.cal32 Tryz.p32 h (by kernel_rfl)
def Tryz.S33 (w1 : AV) (H : Heap) (R : Kv) : Prop :=
 alc H (.cells w1 86) fun b2 H3 => ∀ J4 : Kl, (∀ (l5 : Addr) H6, (∀ J7 : Kl, (∀ H8, (∀ J9 : Kl, (∀ H10, (∃ v11, v11.size = 21 ∧ rowIn H10 ⟨b2, 0, none⟩ v11 ∧ Tryz.C 70 #[.agg v11] H10 fun r12 H13 => ∃ r14 r15, r12 = .tuple #[.pointer r14, .int .i64 r15] ∧ br (r15 != 0)
 (R (.int .i64 r15) H13)
 (∃ ro16, cell H13 (.add ⟨b2, 0, none⟩ 0) = some (.pointer ro16) ∧ ∃ a17, ro16 = some a17 ∧ ∃ Ki18p Ki18l Ki18c, cell H13 (.add a17 18) = some (.slice Ki18p Ki18l Ki18c) ∧ Tryz.C 71 #[.slice Ki18p Ki18l Ki18c] H13 fun r19 H20 => ∃ n21, r19 = .int .i64 n21 ∧ ∃ v22, v22.size = 21 ∧ rowIn H20 ⟨b2, 0, none⟩ v22 ∧ ∃ v23, v23.size = 19 ∧ rowIn H20 l5 v23 ∧ Tryz.C 72 #[.agg v22, .pointer r14, .agg v23] H20 fun r24 H25 => ∃ e26, r24 = .int .i64 e26 ∧ br (e26 != 0)
 (R (.int .i64 e26) H25)
 (br (decide (n21 ≥ 4096))
 (R (.int .i64 31) H25)
 (∃ d27, cell H25 (.add ⟨b2, 0, none⟩ 1) = some (.pointer d27) ∧ ∃ a28, d27 = some a28 ∧ ∃ Ne29, cell H25 (.add a28 2) = some (.int .i64 Ne29) ∧ ∃ a30, d27 = some a30 ∧ stAt H25 (.add a30 2) [.int .i64 (wrap .i64 (Ne29 + 1))] fun H31 => R (.int .i64 0) H31)))) → J9 [] H10) →
 ∃ Ki32, cell H8 (.add l5 1) = some (.int .i64 Ki32) ∧ br (Ki32 == 0)
 (∃ W33, cell H8 (.add (.add ⟨b2, 0, none⟩ 2) 8) = some (.int .i64 W33) ∧ ∃ H34, cell H8 (.add (.add ⟨b2, 0, none⟩ 2) 9) = some (.int .i64 H34) ∧ Tryz.C 21 #[.int .i64 W33, .int .i64 H34] H8 fun r35 H36 => ∃ r37 r38, r35 = .tuple #[.agg r37, .int .i64 r38] ∧ alc H36 (.cells #[.int .i64 0, .int .i64 0, .int .i64 0, .slice none 0 0] 26) fun b39 H40 => r37.size = 4 ∧ stAt H40 ⟨b39, 0, none⟩ r37.toList fun H41 => br (r38 != 0)
 (R (.int .i64 r38) H41)
 (∃ W42, cell H41 (.add ⟨b39, 0, none⟩ 0) = some (.int .i64 W42) ∧ ∃ H43, cell H41 (.add ⟨b39, 0, none⟩ 1) = some (.int .i64 H43) ∧ ∃ W44, cell H41 (.add ⟨b39, 0, none⟩ 0) = some (.int .i64 W44) ∧ ∃ H45, cell H41 (.add ⟨b39, 0, none⟩ 1) = some (.int .i64 H45) ∧ (0 ≤ (wrap .i64 (W44 * H45)) ∧ (wrap .i64 (W44 * H45)) ≤ (wrap .i64 (W44 * H45)) ∧ ((8 : Nat) : Int) * (wrap .i64 (W44 * H45)) ≤ 281474976710656 ∧ (wrap .i64 (W44 * H45)) ≤ 281474976710656 ∧ alc H41 (.cells (List.toArray (reps (toNat (wrap .i64 (W44 * H45))) (Array.toList #[.int .i64 0]))) 3) fun b46 H47 => (Ext H41 H47 ∨ (∃ H52, cell H47 (.add ⟨b39, 0, none⟩ 1) = some (.int .i64 H52) ∧ Value.int .i64 H52 = .int .i64 H43) ∧ (∃ W53, cell H47 (.add ⟨b39, 0, none⟩ 0) = some (.int .i64 W53) ∧ Value.int .i64 W53 = .int .i64 W42)) ∧ stAt H47 (.add l5 5) [.int .i64 W42] fun H48 => (Ext H47 H48 ∨ (∃ H51, cell H48 (.add ⟨b39, 0, none⟩ 1) = some (.int .i64 H51) ∧ Value.int .i64 H51 = .int .i64 H43)) ∧ stAt H48 (.add l5 6) [.int .i64 H43] fun H49 => stAt H49 (.add l5 7) [.slice (some ⟨b46, 0, none⟩) (toNat (wrap .i64 (W44 * H45))) (toNat (wrap .i64 (W44 * H45)))] fun H50 => J9 [] H50) ∧ (stAt H41 (.add l5 5) [.int .i64 W42] fun H54 => (Ext H41 H54 ∨ (∃ H66, cell H54 (.add ⟨b39, 0, none⟩ 1) = some (.int .i64 H66) ∧ Value.int .i64 H66 = .int .i64 H45) ∧ (∃ W67, cell H54 (.add ⟨b39, 0, none⟩ 0) = some (.int .i64 W67) ∧ Value.int .i64 W67 = .int .i64 W44) ∧ (∃ H68, cell H54 (.add ⟨b39, 0, none⟩ 1) = some (.int .i64 H68) ∧ Value.int .i64 H68 = .int .i64 H43)) ∧ (0 ≤ (wrap .i64 (W44 * H45)) ∧ (wrap .i64 (W44 * H45)) ≤ (wrap .i64 (W44 * H45)) ∧ ((8 : Nat) : Int) * (wrap .i64 (W44 * H45)) ≤ 281474976710656 ∧ (wrap .i64 (W44 * H45)) ≤ 281474976710656 ∧ alc H54 (.cells (List.toArray (reps (toNat (wrap .i64 (W44 * H45))) (Array.toList #[.int .i64 0]))) 3) fun b55 H56 => (Ext H54 H56 ∨ (∃ H59, cell H56 (.add ⟨b39, 0, none⟩ 1) = some (.int .i64 H59) ∧ Value.int .i64 H59 = .int .i64 H43)) ∧ stAt H56 (.add l5 6) [.int .i64 H43] fun H57 => stAt H57 (.add l5 7) [.slice (some ⟨b55, 0, none⟩) (toNat (wrap .i64 (W44 * H45))) (toNat (wrap .i64 (W44 * H45)))] fun H58 => J9 [] H58) ∧ (stAt H54 (.add l5 6) [.int .i64 H43] fun H60 => (Ext H54 H60 ∨ (∃ H64, cell H60 (.add ⟨b39, 0, none⟩ 1) = some (.int .i64 H64) ∧ Value.int .i64 H64 = .int .i64 H45) ∧ (∃ W65, cell H60 (.add ⟨b39, 0, none⟩ 0) = some (.int .i64 W65) ∧ Value.int .i64 W65 = .int .i64 W44)) ∧ 0 ≤ (wrap .i64 (W44 * H45)) ∧ (wrap .i64 (W44 * H45)) ≤ (wrap .i64 (W44 * H45)) ∧ ((8 : Nat) : Int) * (wrap .i64 (W44 * H45)) ≤ 281474976710656 ∧ (wrap .i64 (W44 * H45)) ≤ 281474976710656 ∧ alc H60 (.cells (List.toArray (reps (toNat (wrap .i64 (W44 * H45))) (Array.toList #[.int .i64 0]))) 3) fun b61 H62 => stAt H62 (.add l5 7) [.slice (some ⟨b61, 0, none⟩) (toNat (wrap .i64 (W44 * H45))) (toNat (wrap .i64 (W44 * H45)))] fun H63 => J9 [] H63))))
 (J9 [] H8)) → J7 [] H8) →
 ∃ Ki69, cell H6 (.add l5 1) = some (.int .i64 Ki69) ∧ br (decide (Ki69 < 0)) (R (.int .i64 41) H6) (∃ Ki70, cell H6 (.add l5 1) = some (.int .i64 Ki70) ∧ br (decide (Ki70 > 2))
 (R (.int .i64 41) H6)
 (J7 [] H6))) → J4 [.pointer (some l5)] H6) →
 ∃ d71, cell H3 (.add ⟨b2, 0, none⟩ 1) = some (.pointer d71) ∧ ∃ a72, d71 = some a72 ∧ ∃ Ne73, cell H3 (.add a72 2) = some (.int .i64 Ne73) ∧ ∃ N74, cell H3 (.add (.add ⟨b2, 0, none⟩ 2) 4) = some (.int .i64 N74) ∧ (Tryz.C 69 #[] H3 fun r75 H76 => ∃ r77, r75 = .agg r77 ∧ (Ext H3 H76 ∨ (∃ N84, cell H76 (.add (.add ⟨b2, 0, none⟩ 2) 4) = some (.int .i64 N84) ∧ Value.int .i64 N84 = .int .i64 N74) ∧ (∃ Ne85, cell H76 (.add a72 2) = some (.int .i64 Ne85) ∧ Value.int .i64 Ne85 = .int .i64 Ne73) ∧ (∃ d86, cell H76 (.add ⟨b2, 0, none⟩ 1) = some (.pointer d86) ∧ Value.pointer d86 = .pointer d71)) ∧ r77.size = 6 ∧ 9 + 6 ≤ 19 ∧ alc H76 (.cells #[.int .i64 0, .int .i64 0, .bool false, .int .i64 0, .int .i64 0, .int .i64 0, .int .i64 0, .slice none 0 0, .slice none 0 0, .int .i64 0, .int .i64 0, .int .i64 0, .int .i64 0, .int .i64 0, .int .i64 0, .bool false, .int .i64 0, .slice none 0 0, .slice none 0 0] 58) fun b78 H79 => (Ext H76 H79 ∨ (∃ N81, cell H79 (.add (.add ⟨b2, 0, none⟩ 2) 4) = some (.int .i64 N81) ∧ Value.int .i64 N81 = .int .i64 N74) ∧ (∃ Ne82, cell H79 (.add a72 2) = some (.int .i64 Ne82) ∧ Value.int .i64 Ne82 = .int .i64 Ne73) ∧ (∃ d83, cell H79 (.add ⟨b2, 0, none⟩ 1) = some (.pointer d83) ∧ Value.pointer d83 = .pointer d71)) ∧ (List.toArray (List.set (setL [.int .i64 Ne73, .int .i64 N74, .bool false, .int .i64 255, .int .i64 0, .int .i64 0, .int .i64 0, .slice none 0 0, .slice none 0 0, .int .i64 0, .int .i64 0, .int .i64 0, .int .i64 0, .int .i64 0, .int .i64 0, .bool false, .int .i64 0, .slice none 0 0, .slice none 0 0] 9 r77.toList) 16 (.int .i64 2))).size = 19 ∧ stAt H79 ⟨b78, 0, none⟩ (Array.toList (List.toArray (List.set (setL [.int .i64 Ne73, .int .i64 N74, .bool false, .int .i64 255, .int .i64 0, .int .i64 0, .int .i64 0, .slice none 0 0, .slice none 0 0, .int .i64 0, .int .i64 0, .int .i64 0, .int .i64 0, .int .i64 0, .int .i64 0, .bool false, .int .i64 0, .slice none 0 0, .slice none 0 0] 9 r77.toList) 16 (.int .i64 2)))) fun H80 => J4 [.pointer (some ⟨b78, 0, none⟩)] H80) ∧ (alc H3 (.cells #[.int .i64 0, .int .i64 0, .bool false, .int .i64 0, .int .i64 0, .int .i64 0, .int .i64 0, .slice none 0 0, .slice none 0 0, .int .i64 0, .int .i64 0, .int .i64 0, .int .i64 0, .int .i64 0, .int .i64 0, .bool false, .int .i64 0, .slice none 0 0, .slice none 0 0] 58) fun b87 H88 => (Ext H3 H88 ∨ (∃ N96, cell H88 (.add (.add ⟨b2, 0, none⟩ 2) 4) = some (.int .i64 N96) ∧ Value.int .i64 N96 = .int .i64 N74) ∧ (∃ Ne97, cell H88 (.add a72 2) = some (.int .i64 Ne97) ∧ Value.int .i64 Ne97 = .int .i64 Ne73) ∧ (∃ d98, cell H88 (.add ⟨b2, 0, none⟩ 1) = some (.pointer d98) ∧ Value.pointer d98 = .pointer d71)) ∧ Tryz.C 69 #[] H88 fun r89 H90 => ∃ r91, r89 = .agg r91 ∧ (Ext H88 H90 ∨ (∃ N93, cell H90 (.add (.add ⟨b2, 0, none⟩ 2) 4) = some (.int .i64 N93) ∧ Value.int .i64 N93 = .int .i64 N74) ∧ (∃ Ne94, cell H90 (.add a72 2) = some (.int .i64 Ne94) ∧ Value.int .i64 Ne94 = .int .i64 Ne73) ∧ (∃ d95, cell H90 (.add ⟨b2, 0, none⟩ 1) = some (.pointer d95) ∧ Value.pointer d95 = .pointer d71)) ∧ r91.size = 6 ∧ 9 + 6 ≤ 19 ∧ (List.toArray (List.set (setL [.int .i64 Ne73, .int .i64 N74, .bool false, .int .i64 255, .int .i64 0, .int .i64 0, .int .i64 0, .slice none 0 0, .slice none 0 0, .int .i64 0, .int .i64 0, .int .i64 0, .int .i64 0, .int .i64 0, .int .i64 0, .bool false, .int .i64 0, .slice none 0 0, .slice none 0 0] 9 r91.toList) 16 (.int .i64 2))).size = 19 ∧ stAt H90 ⟨b87, 0, none⟩ (Array.toList (List.toArray (List.set (setL [.int .i64 Ne73, .int .i64 N74, .bool false, .int .i64 255, .int .i64 0, .int .i64 0, .int .i64 0, .slice none 0 0, .slice none 0 0, .int .i64 0, .int .i64 0, .int .i64 0, .int .i64 0, .int .i64 0, .int .i64 0, .bool false, .int .i64 0, .slice none 0 0, .slice none 0 0] 9 r91.toList) 16 (.int .i64 2)))) fun H92 => J4 [.pointer (some ⟨b87, 0, none⟩)] H92)
def Tryz.p33 : Plan := (tl (two (join [(3, 999999)] [1] leaf) (two (join [] [1, 3] g0) (two (join [] [1, 3] (tl (two (tl (tg leaf)) leaf))) (tl (tg (tl (two (tl g0) (tg (tl (tl leaf)))))))))))
theorem Tryz.s33 {w1 : AV} {H R} (h : Tryz.S33 w1 H R) : Tryz.C 33 #[.agg w1] H R := vcs Tryz.tab_ok Tryz.mixed Tryz.func33 Tryz.cal33 Tryz.p33 h (by kernel_rfl)
def Tryz.S34 (w1 : AV) (H : Heap) (R : Kv) : Prop :=
 alc H (.cells w1 86) fun b2 H3 => ∃ ro4, cell H3 (.add ⟨b2, 0, none⟩ 0) = some (.pointer ro4) ∧ ∃ ID5, cell H3 (.add (.add ⟨b2, 0, none⟩ 2) 1) = some (.int .i64 ID5) ∧ Tryz.C 43 #[.pointer ro4, .int .i64 ID5] H3 fun r6 H7 => ∃ r8 r9 r10, r6 = .tuple #[.pointer r8, .pointer r9, .int .i64 r10] ∧ br (Option.isNone r8)
 (R (.int .i64 40) H7)
 (∃ a11, r9 = some a11 ∧ ∃ Ki12p Ki12l Ki12c, cell H7 (.add a11 18) = some (.slice Ki12p Ki12l Ki12c) ∧ Tryz.C 73 #[.slice Ki12p Ki12l Ki12c, .int .i64 r10, .int .i64 (wrap .i64 (r10 + 1))] H7 fun r13 H14 => ∃ r15p r15l r15c, r13 = .slice r15p r15l r15c ∧ ∃ a16, r9 = some a16 ∧ stAt H14 (.add a16 18) [.slice r15p r15l r15c] fun H17 => R (.int .i64 0) H17)
def Tryz.p34 : Plan := (tl (tl (tg (tl (tl leaf)))))
theorem Tryz.s34 {w1 : AV} {H R} (h : Tryz.S34 w1 H R) : Tryz.C 34 #[.agg w1] H R := vcs Tryz.tab_ok Tryz.mixed Tryz.func34 Tryz.cal34 Tryz.p34 h (by kernel_rfl)
def Tryz.S35 (w1 : AV) (H : Heap) (R : Kv) : Prop :=
 alc H (.cells w1 86) fun b2 H3 => ∃ ro4, cell H3 (.add ⟨b2, 0, none⟩ 0) = some (.pointer ro4) ∧ ∃ ID5, cell H3 (.add (.add ⟨b2, 0, none⟩ 2) 1) = some (.int .i64 ID5) ∧ Tryz.C 43 #[.pointer ro4, .int .i64 ID5] H3 fun r6 H7 => ∃ r8 r9 r10, r6 = .tuple #[.pointer r8, .pointer r9, .int .i64 r10] ∧ br (Option.isNone r8)
 (R (.int .i64 40) H7)
 (∃ v11, v11.size = 21 ∧ rowIn H7 ⟨b2, 0, none⟩ v11 ∧ Tryz.C 70 #[.agg v11] H7 fun r12 H13 => ∃ r14 r15, r12 = .tuple #[.pointer r14, .int .i64 r15] ∧ br (r15 != 0)
 (R (.int .i64 r15) H13)
 (∀ J16 : Kl, (∀ H17, (∃ a18, r8 = some a18 ∧ ∃ v19, v19.size = 19 ∧ rowIn H17 a18 v19 ∧ alc H17 (.cells #[.int .i64 0, .int .i64 0, .bool false, .int .i64 0, .int .i64 0, .int .i64 0, .int .i64 0, .slice none 0 0, .slice none 0 0, .int .i64 0, .int .i64 0, .int .i64 0, .int .i64 0, .int .i64 0, .int .i64 0, .bool false, .int .i64 0, .slice none 0 0, .slice none 0 0] 58) fun b20 H21 => v19.size = 19 ∧ stAt H21 ⟨b20, 0, none⟩ v19.toList fun H22 => ∃ v23, v23.size = 21 ∧ rowIn H22 ⟨b2, 0, none⟩ v23 ∧ Tryz.C 34 #[.agg v23] H22 fun r24 H25 => ∃ r26, r24 = .int .i64 r26 ∧ ∃ v27, v27.size = 21 ∧ rowIn H25 ⟨b2, 0, none⟩ v27 ∧ Tryz.C 70 #[.agg v27] H25 fun r28 H29 => ∃ r30 r31, r28 = .tuple #[.pointer r30, .int .i64 r31] ∧ br (r31 != 0)
 (R (.int .i64 r31) H29)
 (∃ v32, v32.size = 21 ∧ rowIn H29 ⟨b2, 0, none⟩ v32 ∧ ∃ v33, v33.size = 19 ∧ rowIn H29 ⟨b20, 0, none⟩ v33 ∧ Tryz.C 72 #[.agg v32, .pointer r30, .agg v33] H29 fun r34 H35 => ∃ r36, r34 = .int .i64 r36 ∧ R (.int .i64 r36) H35)) → J16 [] H17) →
 ∃ To37, cell H13 (.add (.add ⟨b2, 0, none⟩ 2) 2) = some (.int .i64 To37) ∧ Tryz.C 43 #[.pointer r8, .int .i64 To37] H13 fun r38 H39 => ∃ r40 r41 r42, r38 = .tuple #[.pointer r40, .pointer r41, .int .i64 r42] ∧ ∃ To43, cell H39 (.add (.add ⟨b2, 0, none⟩ 2) 2) = some (.int .i64 To43) ∧ ∃ ID44, cell H39 (.add (.add ⟨b2, 0, none⟩ 2) 1) = some (.int .i64 ID44) ∧ br (To43 == ID44) (R (.int .i64 42) H39) (br (!(Option.isNone r40))
 (R (.int .i64 42) H39)
 (J16 [] H39))))
def Tryz.p35 : Plan := (tl (tl (tg (tl (tg (two (join [] [1, 3] (tl g0)) (tl (tl (two (tl g0) (tl leaf))))))))))
theorem Tryz.s35 {w1 : AV} {H R} (h : Tryz.S35 w1 H R) : Tryz.C 35 #[.agg w1] H R := vcs Tryz.tab_ok Tryz.mixed Tryz.func35 Tryz.cal35 Tryz.p35 h (by kernel_rfl)
def Tryz.S36 (w1 : AV) (H : Heap) (R : Kv) : Prop :=
 alc H (.cells w1 86) fun b2 H3 => ∃ v4, v4.size = 21 ∧ rowIn H3 ⟨b2, 0, none⟩ v4 ∧ Tryz.C 74 #[.agg v4] H3 fun r5 H6 => ∃ r7 r8, r5 = .tuple #[.pointer r7, .int .i64 r8] ∧ ∀ J9 : Kl, (∀ H10, (∃ P11p P11l P11c, cell H10 (.add (.add ⟨b2, 0, none⟩ 2) 10) = some (.slice P11p P11l P11c) ∧ Tryz.C 75 #[.slice P11p P11l P11c, .func (.func 76) #[] #[]] H10 fun r12 H13 => ∃ r14, r12 = .bool r14 ∧ br r14
 (R (.int .i64 25) H13)
 (∀ J15 : Kl, (∀ H16, (∃ P17p P17l P17c, cell H16 (.add (.add ⟨b2, 0, none⟩ 2) 10) = some (.slice P17p P17l P17c) ∧ ∀ X18 : Kl, (∀ (i19 : Int) H20, (br (decide (i19 < (P17l : Int)))
 (∀ J21 : Kl, (∀ H22, (X18 [.int .i64 (wrap .i64 (i19 + 1))] H22) → J21 [] H22) →
 ∃ a23, P17p = some a23 ∧ 0 ≤ i19 ∧ i19 < (P17l : Int) ∧ ∃ v24, cell H20 (.add a23 (toNat i19 * 1)) = some (.int .i64 v24) ∧ ∃ X25, cell H20 (.add (.add ⟨b2, 0, none⟩ 2) 6) = some (.int .i64 X25) ∧ ∃ W26, cell H20 (.add (.add ⟨b2, 0, none⟩ 2) 8) = some (.int .i64 W26) ∧ W26 ≠ 0 ∧ ∃ Y27, cell H20 (.add (.add ⟨b2, 0, none⟩ 2) 7) = some (.int .i64 Y27) ∧ ∃ W28, cell H20 (.add (.add ⟨b2, 0, none⟩ 2) 8) = some (.int .i64 W28) ∧ W28 ≠ 0 ∧ br (decide (((wrap .i64 (X25 + (Int.tmod i19 W26))) : Int) ≥ 0)) (∃ a29, r7 = some a29 ∧ ∃ W30, cell H20 (.add a29 5) = some (.int .i64 W30) ∧ br (decide (((wrap .i64 (X25 + (Int.tmod i19 W26))) : Int) < W30)) (br (decide (((wrap .i64 (Y27 + (wrap .i64 (Int.tdiv i19 W28)))) : Int) ≥ 0)) (∃ a31, r7 = some a31 ∧ ∃ H32, cell H20 (.add a31 6) = some (.int .i64 H32) ∧ br (decide (((wrap .i64 (Y27 + (wrap .i64 (Int.tdiv i19 W28)))) : Int) < H32))
 (∃ a33, r7 = some a33 ∧ ∃ P34p P34l P34c, cell H20 (.add a33 7) = some (.slice P34p P34l P34c) ∧ ∃ a35, r7 = some a35 ∧ ∃ W36, cell H20 (.add a35 5) = some (.int .i64 W36) ∧ ∃ a37, P34p = some a37 ∧ 0 ≤ (wrap .i64 ((wrap .i64 ((wrap .i64 (Y27 + (wrap .i64 (Int.tdiv i19 W28)))) * W36)) + (wrap .i64 (X25 + (Int.tmod i19 W26))))) ∧ (wrap .i64 ((wrap .i64 ((wrap .i64 (Y27 + (wrap .i64 (Int.tdiv i19 W28)))) * W36)) + (wrap .i64 (X25 + (Int.tmod i19 W26))))) < (P34l : Int) ∧ stAt H20 (.add a37 (toNat (wrap .i64 ((wrap .i64 ((wrap .i64 (Y27 + (wrap .i64 (Int.tdiv i19 W28)))) * W36)) + (wrap .i64 (X25 + (Int.tmod i19 W26))))) * 1)) [.int .i64 v24] fun H38 => J21 [] H38)
 (J21 [] H20)) (J21 [] H20)) (J21 [] H20)) (J21 [] H20))
 (R (.int .i64 0) H20)) → X18 [.int .i64 i19] H20) → X18 [.int .i64 0] H16) → J15 [] H16) →
 ∃ X39, cell H13 (.add (.add ⟨b2, 0, none⟩ 2) 6) = some (.int .i64 X39) ∧ br (decide (X39 < (-32768 : Int))) (R (.int .i64 31) H13) (∃ X40, cell H13 (.add (.add ⟨b2, 0, none⟩ 2) 6) = some (.int .i64 X40) ∧ br (decide (X40 > 32768)) (R (.int .i64 31) H13) (∃ Y41, cell H13 (.add (.add ⟨b2, 0, none⟩ 2) 7) = some (.int .i64 Y41) ∧ br (decide (Y41 < (-32768 : Int))) (R (.int .i64 31) H13) (∃ Y42, cell H13 (.add (.add ⟨b2, 0, none⟩ 2) 7) = some (.int .i64 Y42) ∧ br (decide (Y42 > 32768))
 (R (.int .i64 31) H13)
 (J15 [] H13)))))) → J9 [] H10) →
 br (r8 != 0)
 (R (.int .i64 r8) H6)
 (∃ a43, r7 = some a43 ∧ ∃ Ki44, cell H6 (.add a43 1) = some (.int .i64 Ki44) ∧ br (Ki44 != 0)
 (R (.int .i64 41) H6)
 (∃ W45, cell H6 (.add (.add ⟨b2, 0, none⟩ 2) 8) = some (.int .i64 W45) ∧ br (decide (W45 < 1)) (R (.int .i64 25) H6) (∃ H46, cell H6 (.add (.add ⟨b2, 0, none⟩ 2) 9) = some (.int .i64 H46) ∧ br (decide (H46 < 1)) (R (.int .i64 25) H6) (∃ W47, cell H6 (.add (.add ⟨b2, 0, none⟩ 2) 8) = some (.int .i64 W47) ∧ br (decide (W47 > 32768)) (R (.int .i64 25) H6) (∃ H48, cell H6 (.add (.add ⟨b2, 0, none⟩ 2) 9) = some (.int .i64 H48) ∧ br (decide (H48 > 32768)) (R (.int .i64 25) H6) (∃ P49p P49l P49c, cell H6 (.add (.add ⟨b2, 0, none⟩ 2) 10) = some (.slice P49p P49l P49c) ∧ ∃ W50, cell H6 (.add (.add ⟨b2, 0, none⟩ 2) 8) = some (.int .i64 W50) ∧ ∃ H51, cell H6 (.add (.add ⟨b2, 0, none⟩ 2) 9) = some (.int .i64 H51) ∧ br (((P49l : Int) : Int) != (wrap .i64 (W50 * H51)))
 (R (.int .i64 25) H6)
 (J9 [] H6)))))))
def Tryz.p36 : Plan := (tl (tl (two (join [] [1, 3] (one (tl (two (tl leaf) (tl (two (tl leaf) g0)))))) (tg (two (join [] [1, 3] g0) (two (tl (one (loop [(91, 3)] [1, 3, 89, 90] (tl (two (tl leaf) (two (join [] [1, 3, 89, 90, 91] (one (tl (tl (tl (tl leaf)))))) leaf)))))) (tl leaf)))))))
theorem Tryz.s36 {w1 : AV} {H R} (h : Tryz.S36 w1 H R) : Tryz.C 36 #[.agg w1] H R := vcs Tryz.tab_ok Tryz.mixed Tryz.func36 Tryz.cal36 Tryz.p36 h (by kernel_rfl)
def Tryz.S37 (w1 : AV) (H : Heap) (R : Kv) : Prop :=
 alc H (.cells w1 86) fun b2 H3 => ∃ v4, v4.size = 21 ∧ rowIn H3 ⟨b2, 0, none⟩ v4 ∧ Tryz.C 74 #[.agg v4] H3 fun r5 H6 => ∃ r7 r8, r5 = .tuple #[.pointer r7, .int .i64 r8] ∧ ∀ J9 : Kl, (∀ H10, (∃ N11, cell H10 (.add (.add ⟨b2, 0, none⟩ 2) 4) = some (.int .i64 N11) ∧ ∃ M12, cell H10 (.add (.add ⟨b2, 0, none⟩ 2) 5) = some (.int .i64 M12) ∧ ∃ a13, r7 = some a13 ∧ stAt H10 (.add a13 3) [.int .i64 N11] fun H14 => (Ext H10 H14 ∨ (∃ M17, cell H14 (.add (.add ⟨b2, 0, none⟩ 2) 5) = some (.int .i64 M17) ∧ Value.int .i64 M17 = .int .i64 M12)) ∧ ∃ a15, r7 = some a15 ∧ stAt H14 (.add a15 4) [.int .i64 M12] fun H16 => R (.int .i64 0) H16) → J9 [] H10) →
 br (r8 != 0)
 (R (.int .i64 r8) H6)
 (∃ N18, cell H6 (.add (.add ⟨b2, 0, none⟩ 2) 4) = some (.int .i64 N18) ∧ br (decide (N18 < 0)) (R (.int .i64 32) H6) (∃ N19, cell H6 (.add (.add ⟨b2, 0, none⟩ 2) 4) = some (.int .i64 N19) ∧ br (decide (N19 > 255)) (R (.int .i64 32) H6) (∃ M20, cell H6 (.add (.add ⟨b2, 0, none⟩ 2) 5) = some (.int .i64 M20) ∧ br (decide (M20 < 0)) (R (.int .i64 32) H6) (∃ M21, cell H6 (.add (.add ⟨b2, 0, none⟩ 2) 5) = some (.int .i64 M21) ∧ br (decide (M21 > 11))
 (R (.int .i64 32) H6)
 (∃ a22, r7 = some a22 ∧ ∃ Ki23, cell H6 (.add a22 1) = some (.int .i64 Ki23) ∧ br (Ki23 == 2) (∃ M24, cell H6 (.add (.add ⟨b2, 0, none⟩ 2) 5) = some (.int .i64 M24) ∧ br (M24 != 0)
 (R (.int .i64 41) H6)
 (J9 [] H6)) (J9 [] H6))))))
def Tryz.p37 : Plan := (tl (tl (two (join [] [1, 3] (one (tl (two (tl leaf) (tl (two (tl leaf) g0)))))) (tl (tl leaf)))))
theorem Tryz.s37 {w1 : AV} {H R} (h : Tryz.S37 w1 H R) : Tryz.C 37 #[.agg w1] H R := vcs Tryz.tab_ok Tryz.mixed Tryz.func37 Tryz.cal37 Tryz.p37 h (by kernel_rfl)
def Tryz.S38 (w1 : AV) (H : Heap) (R : Kv) : Prop :=
 alc H (.cells w1 86) fun b2 H3 => ∃ v4, v4.size = 21 ∧ rowIn H3 ⟨b2, 0, none⟩ v4 ∧ Tryz.C 74 #[.agg v4] H3 fun r5 H6 => ∃ r7 r8, r5 = .tuple #[.pointer r7, .int .i64 r8] ∧ ∀ J9 : Kl, (∀ H10, (∃ N11, cell H10 (.add (.add ⟨b2, 0, none⟩ 2) 4) = some (.int .i64 N11) ∧ ∃ a12, r7 = some a12 ∧ stAt H10 (.add a12 2) [.bool (N11 == 1)] fun H13 => R (.int .i64 0) H13) → J9 [] H10) →
 br (r8 != 0)
 (R (.int .i64 r8) H6)
 (∃ N14, cell H6 (.add (.add ⟨b2, 0, none⟩ 2) 4) = some (.int .i64 N14) ∧ br (N14 != 0) (∃ N15, cell H6 (.add (.add ⟨b2, 0, none⟩ 2) 4) = some (.int .i64 N15) ∧ br (N15 != 1)
 (R (.int .i64 32) H6)
 (J9 [] H6)) (J9 [] H6))
def Tryz.p38 : Plan := (tl (tl (two (join [] [1, 3] (one (tl (two (tl leaf) g0)))) (tl (tl leaf)))))
theorem Tryz.s38 {w1 : AV} {H R} (h : Tryz.S38 w1 H R) : Tryz.C 38 #[.agg w1] H R := vcs Tryz.tab_ok Tryz.mixed Tryz.func38 Tryz.cal38 Tryz.p38 h (by kernel_rfl)
def Tryz.S39 (w1 : AV) (H : Heap) (R : Kv) : Prop :=
 alc H (.cells w1 86) fun b2 H3 => ∃ v4, v4.size = 21 ∧ rowIn H3 ⟨b2, 0, none⟩ v4 ∧ Tryz.C 74 #[.agg v4] H3 fun r5 H6 => ∃ r7 r8, r5 = .tuple #[.pointer r7, .int .i64 r8] ∧ ∀ J9 : Kl, (∀ H10, (∃ Sh11p Sh11l Sh11c, cell H10 (.add (.add ⟨b2, 0, none⟩ 2) 11) = some (.slice Sh11p Sh11l Sh11c) ∧ ∃ d12, cell H10 (.add ⟨b2, 0, none⟩ 1) = some (.pointer d12) ∧ ∃ a13, d12 = some a13 ∧ ∃ W14, cell H10 (.add a13 0) = some (.int .i64 W14) ∧ ∃ d15, cell H10 (.add ⟨b2, 0, none⟩ 1) = some (.pointer d15) ∧ ∃ a16, d15 = some a16 ∧ ∃ H17, cell H10 (.add a16 1) = some (.int .i64 H17) ∧ Tryz.C 78 #[.slice Sh11p Sh11l Sh11c, .int .i64 W14, .int .i64 H17] H10 fun r18 H19 => ∃ r20p r20l r20c r21, r18 = .tuple #[.slice r20p r20l r20c, .int .i64 r21] ∧ br (r21 != 0)
 (R (.int .i64 r21) H19)
 (∀ J22 : Kl, (∀ H23, (∃ a24, r7 = some a24 ∧ stAt H23 (.add a24 8) [.slice r20p r20l r20c] fun H25 => R (.int .i64 0) H25) → J22 [] H23) →
 ∃ N26, cell H19 (.add (.add ⟨b2, 0, none⟩ 2) 4) = some (.int .i64 N26) ∧ br (N26 == 1)
 (∀ X27 : Kl, (∀ (i28 : Int) H29, (br (decide (i28 < (r20l : Int)))
 (∃ a30, r20p = some a30 ∧ 0 ≤ i28 ∧ i28 < (r20l : Int) ∧ ∃ v31, cell H29 (.add a30 (toNat i28 * 1)) = some (.int .u8 v31) ∧ ∃ a32, r20p = some a32 ∧ 0 ≤ i28 ∧ i28 < (r20l : Int) ∧ stAt H29 (.add a32 (toNat i28 * 1)) [.int .u8 (wrap .u8 ((255 : Int) - v31))] fun H33 => X27 [.int .i64 (wrap .i64 (i28 + 1))] H33)
 (J22 [] H29)) → X27 [.int .i64 i28] H29) → X27 [.int .i64 0] H19)
 (J22 [] H19))) → J9 [] H10) →
 br (r8 != 0)
 (R (.int .i64 r8) H6)
 (∃ N34, cell H6 (.add (.add ⟨b2, 0, none⟩ 2) 4) = some (.int .i64 N34) ∧ br (decide (N34 < 0)) (R (.int .i64 32) H6) (∃ N35, cell H6 (.add (.add ⟨b2, 0, none⟩ 2) 4) = some (.int .i64 N35) ∧ br (decide (N35 > 2))
 (R (.int .i64 32) H6)
 (∃ N36, cell H6 (.add (.add ⟨b2, 0, none⟩ 2) 4) = some (.int .i64 N36) ∧ br (N36 == 2)
 (∃ a37, r7 = some a37 ∧ stAt H6 (.add a37 8) [.slice none 0 0] fun H38 => R (.int .i64 0) H38)
 (J9 [] H6))))
def Tryz.p39 : Plan := (tl (tl (two (join [] [1, 3] (one (tl (two (tl leaf) (tl (two (tl leaf) (tl (two (tl (tl leaf)) leaf)))))))) (tl (tg (two (join [] [3, 5] (tl (two (tl (one (loop [(61, 3)] [3, 5, 60] (tl (two (tl leaf) (two (one (tl leaf)) leaf)))))) leaf))) (tl (tl leaf))))))))
theorem Tryz.s39 {w1 : AV} {H R} (h : Tryz.S39 w1 H R) : Tryz.C 39 #[.agg w1] H R := vcs Tryz.tab_ok Tryz.mixed Tryz.func39 Tryz.cal39 Tryz.p39 h (by kernel_rfl)
def Tryz.S40 (w1 : AV) (H : Heap) (R : Kv) : Prop :=
 alc H (.cells w1 86) fun b2 H3 => ∃ v4, v4.size = 21 ∧ rowIn H3 ⟨b2, 0, none⟩ v4 ∧ Tryz.C 74 #[.agg v4] H3 fun r5 H6 => ∃ r7 r8, r5 = .tuple #[.pointer r7, .int .i64 r8] ∧ ∀ J9 : Kl, (∀ H10, (∃ Ma11, Ma11.size = 6 ∧ rowIn H10 (.add (.add ⟨b2, 0, none⟩ 2) 12) Ma11 ∧ Tryz.C 79 #[.agg Ma11] H10 fun r12 H13 => ∃ r14 r15, r12 = .tuple #[.agg r14, .int .i64 r15] ∧ alc H13 (.cells #[.int .i64 0, .int .i64 0, .int .i64 0, .int .i64 0, .int .i64 0, .int .i64 0] 50) fun b16 H17 => r14.size = 6 ∧ stAt H17 ⟨b16, 0, none⟩ r14.toList fun H18 => br (r15 != 0)
 (R (.int .i64 r15) H18)
 (∃ Ma19, Ma19.size = 6 ∧ rowIn H18 (.add (.add ⟨b2, 0, none⟩ 2) 12) Ma19 ∧ ∃ N20, cell H18 (.add (.add ⟨b2, 0, none⟩ 2) 4) = some (.int .i64 N20) ∧ ∃ a21, r7 = some a21 ∧ Ma19.size = 6 ∧ stAt H18 (.add a21 9) Ma19.toList fun H22 => (Ext H18 H22 ∨ (∃ N25, cell H22 (.add (.add ⟨b2, 0, none⟩ 2) 4) = some (.int .i64 N25) ∧ Value.int .i64 N25 = .int .i64 N20)) ∧ ∃ a23, r7 = some a23 ∧ stAt H22 (.add a23 15) [.bool (N20 == 1)] fun H24 => R (.int .i64 0) H24)) → J9 [] H10) →
 br (r8 != 0)
 (R (.int .i64 r8) H6)
 (∃ a26, r7 = some a26 ∧ ∃ Ki27, cell H6 (.add a26 1) = some (.int .i64 Ki27) ∧ br (Ki27 != 0)
 (R (.int .i64 41) H6)
 (∃ N28, cell H6 (.add (.add ⟨b2, 0, none⟩ 2) 4) = some (.int .i64 N28) ∧ br (N28 != 0) (∃ N29, cell H6 (.add (.add ⟨b2, 0, none⟩ 2) 4) = some (.int .i64 N29) ∧ br (N29 != 1)
 (R (.int .i64 32) H6)
 (J9 [] H6)) (J9 [] H6)))
def Tryz.p40 : Plan := (tl (tl (two (join [] [1, 3] (one (tl (two (tl leaf) (tl (two (tl leaf) g0)))))) (two (tl g0) (tl (tl leaf))))))
theorem Tryz.s40 {w1 : AV} {H R} (h : Tryz.S40 w1 H R) : Tryz.C 40 #[.agg w1] H R := vcs Tryz.tab_ok Tryz.mixed Tryz.func40 Tryz.cal40 Tryz.p40 h (by kernel_rfl)
def Tryz.S41 (w1 : AV) (H : Heap) (R : Kv) : Prop :=
 alc H (.cells w1 86) fun b2 H3 => ∃ v4, v4.size = 21 ∧ rowIn H3 ⟨b2, 0, none⟩ v4 ∧ Tryz.C 74 #[.agg v4] H3 fun r5 H6 => ∃ r7 r8, r5 = .tuple #[.pointer r7, .int .i64 r8] ∧ br (r8 != 0)
 (R (.int .i64 r8) H6)
 (∃ a9, r7 = some a9 ∧ ∃ Ki10, cell H6 (.add a9 1) = some (.int .i64 Ki10) ∧ br (Ki10 != 2)
 (R (.int .i64 41) H6)
 (∃ N11, cell H6 (.add (.add ⟨b2, 0, none⟩ 2) 4) = some (.int .i64 N11) ∧ ∃ Pa12p Pa12l Pa12c, cell H6 (.add (.add ⟨b2, 0, none⟩ 2) 18) = some (.slice Pa12p Pa12l Pa12c) ∧ Tryz.C 80 #[.int .i64 N11, .slice Pa12p Pa12l Pa12c] H6 fun r13 H14 => ∃ r15p r15l r15c r16, r13 = .tuple #[.slice r15p r15l r15c, .bool r16] ∧ br (!r16)
 (R (.int .i64 32) H14)
 (∃ N17, cell H14 (.add (.add ⟨b2, 0, none⟩ 2) 4) = some (.int .i64 N17) ∧ ∃ Pa18p Pa18l Pa18c, cell H14 (.add (.add ⟨b2, 0, none⟩ 2) 18) = some (.slice Pa18p Pa18l Pa18c) ∧ Tryz.C 81 #[.slice Pa18p Pa18l Pa18c] H14 fun r19 H20 => ∃ r21p r21l r21c, r19 = .slice r21p r21l r21c ∧ (Ext H14 H20 ∨ (∃ N26, cell H20 (.add (.add ⟨b2, 0, none⟩ 2) 4) = some (.int .i64 N26) ∧ Value.int .i64 N26 = .int .i64 N17)) ∧ ∃ a22, r7 = some a22 ∧ stAt H20 (.add a22 16) [.int .i64 N17] fun H23 => ∃ a24, r7 = some a24 ∧ stAt H23 (.add a24 17) [.slice r21p r21l r21c] fun H25 => R (.int .i64 0) H25)))
def Tryz.p41 : Plan := (tl (tl (two (one (tl (two (tl leaf) g0))) (two (tl g0) (tl (tl leaf))))))
theorem Tryz.s41 {w1 : AV} {H R} (h : Tryz.S41 w1 H R) : Tryz.C 41 #[.agg w1] H R := vcs Tryz.tab_ok Tryz.mixed Tryz.func41 Tryz.cal41 Tryz.p41 h (by kernel_rfl)
def Tryz.S42 (li1p : OA) (li1l li1c : Nat) (H : Heap) (R : Kv) : Prop :=
 ∀ X2 : Kl, (∀ (mo3 t4 : Int) H5, (br (decide (t4 < (li1l : Int)))
 (∃ a6, li1p = some a6 ∧ 0 ≤ t4 ∧ t4 < (li1l : Int) ∧ ∃ v7, v7.size = 19 ∧ rowIn H5 (.add a6 (toNat t4 * 19)) v7 ∧ alc H5 (.cells #[.int .i64 0, .int .i64 0, .bool false, .int .i64 0, .int .i64 0, .int .i64 0, .int .i64 0, .slice none 0 0, .slice none 0 0, .int .i64 0, .int .i64 0, .int .i64 0, .int .i64 0, .int .i64 0, .int .i64 0, .bool false, .int .i64 0, .slice none 0 0, .slice none 0 0] 58) fun b8 H9 => v7.size = 19 ∧ stAt H9 ⟨b8, 0, none⟩ v7.toList fun H10 => ∃ Ki11p Ki11l Ki11c, cell H10 (.add ⟨b8, 0, none⟩ 18) = some (.slice Ki11p Ki11l Ki11c) ∧ Tryz.C 42 #[.slice Ki11p Ki11l Ki11c] H10 fun r12 H13 => ∃ r14, r12 = .int .i64 r14 ∧ X2 [.int .i64 (max mo3 (wrap .i64 ((1 : Int) + r14))), .int .i64 (wrap .i64 (t4 + 1))] H13)
 (R (.int .i64 mo3) H5)) → X2 [.int .i64 mo3, .int .i64 t4] H5) → X2 [.int .i64 0, .int .i64 0] H
def Tryz.p42 : Plan := (tl (tl (two (tl (one (loop [(3, 3), (8, 3)] [6, 7] (tl (two (tl leaf) (two (one (tl leaf)) leaf)))))) (tl leaf))))
theorem Tryz.s42 {li1p : OA} {li1l li1c : Nat} {H R} (h : Tryz.S42 li1p li1l li1c H R) : Tryz.C 42 #[.slice li1p li1l li1c] H R := vcs Tryz.tab_ok Tryz.mixed Tryz.func42 Tryz.cal42 Tryz.p42 h (by kernel_rfl)
def Tryz.S43 (in_1 : OA) (id2 : Int) (H : Heap) (R : Kv) : Prop :=
 ∃ a3, in_1 = some a3 ∧ ∃ Ki4p Ki4l Ki4c, cell H (.add a3 18) = some (.slice Ki4p Ki4l Ki4c) ∧ ∀ X5 : Kl, (∀ (i6 : Int) H7, (br (decide (i6 < (Ki4l : Int)))
 (∃ a8, in_1 = some a8 ∧ ∃ Ki9p Ki9l Ki9c, cell H7 (.add a8 18) = some (.slice Ki9p Ki9l Ki9c) ∧ ∃ a10, Ki9p = some a10 ∧ 0 ≤ i6 ∧ i6 < (Ki9l : Int) ∧ ∃ a11, (some (.add a10 (toNat i6 * 19))) = some a11 ∧ ∃ ID12, cell H7 (.add a11 0) = some (.int .i64 ID12) ∧ br (ID12 == id2)
 (R (.tuple #[.pointer (some (.add a10 (toNat i6 * 19))), .pointer in_1, .int .i64 i6]) H7)
 (Tryz.C 43 #[.pointer (some (.add a10 (toNat i6 * 19))), .int .i64 id2] H7 fun r13 H14 => ∃ r15 r16 r17, r13 = .tuple #[.pointer r15, .pointer r16, .int .i64 r17] ∧ br (!(Option.isNone r15))
 (R (.tuple #[.pointer r15, .pointer r16, .int .i64 r17]) H14)
 (X5 [.int .i64 (wrap .i64 (i6 + 1))] H14)))
 (R (.tuple #[.pointer none, .pointer none, .int .i64 0]) H7)) → X5 [.int .i64 i6] H7) → X5 [.int .i64 0] H
def Tryz.p43 : Plan := (tl (two (tl (one (loop [(17, 3)] [0, 1, 16] (tl (two (tl leaf) (two (one (tl (tl (tg (tl g0))))) leaf)))))) (tl leaf)))
theorem Tryz.s43 {in_1 : OA} {id2 : Int} {H R} (h : Tryz.S43 in_1 id2 H R) : Tryz.C 43 #[.pointer in_1, .int .i64 id2] H R := vcs Tryz.tab_ok Tryz.mixed Tryz.func43 Tryz.cal43 Tryz.p43 h (by kernel_rfl)
def Tryz.S44 (l1 : AV) (H : Heap) (R : Kv) : Prop :=
 alc H (.cells l1 58) fun b2 H3 => alc H3 (.cells #[.int .i64 0, .int .i64 0, .bool false, .int .i64 0, .int .i64 0, .int .i64 0, .int .i64 0, .slice none 0 0, .slice none 0 0, .int .i64 0, .int .i64 0, .int .i64 0, .int .i64 0, .int .i64 0, .int .i64 0, .bool false, .int .i64 0, .slice none 0 0, .slice none 0 0] 58) fun b4 H5 => ∃ P6p P6l P6c, cell H5 (.add ⟨b2, 0, none⟩ 7) = some (.slice P6p P6l P6c) ∧ ∃ Ma7p Ma7l Ma7c, cell H5 (.add ⟨b2, 0, none⟩ 8) = some (.slice Ma7p Ma7l Ma7c) ∧ ∃ Pa8p Pa8l Pa8c, cell H5 (.add ⟨b2, 0, none⟩ 17) = some (.slice Pa8p Pa8l Pa8c) ∧ Tryz.C 81 #[.slice P6p P6l P6c] H5 fun r9 H10 => ∃ r11p r11l r11c, r9 = .slice r11p r11l r11c ∧ (Ext H5 H10 ∨ (∃ Pa30p Pa30l Pa30c, cell H10 (.add ⟨b2, 0, none⟩ 17) = some (.slice Pa30p Pa30l Pa30c) ∧ Value.slice Pa30p Pa30l Pa30c = .slice Pa8p Pa8l Pa8c) ∧ (∃ Ma31p Ma31l Ma31c, cell H10 (.add ⟨b2, 0, none⟩ 8) = some (.slice Ma31p Ma31l Ma31c) ∧ Value.slice Ma31p Ma31l Ma31c = .slice Ma7p Ma7l Ma7c)) ∧ Tryz.C 82 #[.slice Ma7p Ma7l Ma7c] H10 fun r12 H13 => ∃ r14p r14l r14c, r12 = .slice r14p r14l r14c ∧ (Ext H10 H13 ∨ (∃ Pa29p Pa29l Pa29c, cell H13 (.add ⟨b2, 0, none⟩ 17) = some (.slice Pa29p Pa29l Pa29c) ∧ Value.slice Pa29p Pa29l Pa29c = .slice Pa8p Pa8l Pa8c)) ∧ Tryz.C 81 #[.slice Pa8p Pa8l Pa8c] H13 fun r15 H16 => ∃ r17p r17l r17c, r15 = .slice r17p r17l r17c ∧ stAt H16 (.add ⟨b2, 0, none⟩ 7) [.slice r11p r11l r11c] fun H18 => stAt H18 (.add ⟨b2, 0, none⟩ 8) [.slice r14p r14l r14c] fun H19 => stAt H19 (.add ⟨b2, 0, none⟩ 17) [.slice r17p r17l r17c] fun H20 => ∃ Ki21p Ki21l Ki21c, cell H20 (.add ⟨b2, 0, none⟩ 18) = some (.slice Ki21p Ki21l Ki21c) ∧ Tryz.C 31 #[.slice Ki21p Ki21l Ki21c] H20 fun r22 H23 => ∃ r24p r24l r24c, r22 = .slice r24p r24l r24c ∧ stAt H23 (.add ⟨b2, 0, none⟩ 18) [.slice r24p r24l r24c] fun H25 => ∃ v26, v26.size = 19 ∧ rowIn H25 ⟨b2, 0, none⟩ v26 ∧ v26.size = 19 ∧ stAt H25 ⟨b4, 0, none⟩ v26.toList fun H27 => ∃ re28, re28.size = 19 ∧ rowIn H27 ⟨b4, 0, none⟩ re28 ∧ R (.agg re28) H27
def Tryz.p44 : Plan := (tl (tl (tl (tl leaf))))
theorem Tryz.s44 {l1 : AV} {H R} (h : Tryz.S44 l1 H R) : Tryz.C 44 #[.agg l1] H R := vcs Tryz.tab_ok Tryz.mixed Tryz.func44 Tryz.cal44 Tryz.p44 h (by kernel_rfl)
def Tryz.S45 (p1 : Int) (H : Heap) (R : Kv) : Prop :=
 alc H (.cells #[.int .i64 0, .int .i64 0, .int .i64 0, .int .i64 0] 94) fun b2 H3 => 0 ≤ (24 : Int) ∧ 0 ≤ (16 : Int) ∧ 0 ≤ (8 : Int) ∧ #[Value.int .i64 (andI .i64 (shrI .i64 p1 24) 255), Value.int .i64 (andI .i64 (shrI .i64 p1 16) 255), Value.int .i64 (andI .i64 (shrI .i64 p1 8) 255), Value.int .i64 (andI .i64 p1 255)].size = 4 ∧ stAt H3 ⟨b2, 0, none⟩ (Array.toList #[.int .i64 (andI .i64 (shrI .i64 p1 24) 255), .int .i64 (andI .i64 (shrI .i64 p1 16) 255), .int .i64 (andI .i64 (shrI .i64 p1 8) 255), .int .i64 (andI .i64 p1 255)]) fun H4 => ∃ re5, re5.size = 4 ∧ rowIn H4 ⟨b2, 0, none⟩ re5 ∧ R (.agg re5) H4
def Tryz.p45 : Plan := (tl (tl leaf))
theorem Tryz.s45 {p1 : Int} {H R} (h : Tryz.S45 p1 H R) : Tryz.C 45 #[.int .i64 p1] H R := vcs Tryz.tab_ok Tryz.mixed Tryz.func45 Tryz.cal45 Tryz.p45 h (by kernel_rfl)
def Tryz.S46 (w1 h2 : Int) (H : Heap) (R : Kv) : Prop :=
 br (decide (w1 ≥ 1)) (br (decide (h2 ≥ 1)) (br (decide (w1 ≤ 32768)) (br (decide (h2 ≤ 32768)) (R (.bool (decide (((wrap .i64 (w1 * h2)) : Int) ≤ 4194304))) H) (R (.bool false) H)) (R (.bool false) H)) (R (.bool false) H)) (R (.bool false) H)
def Tryz.p46 : Plan := (tl (tl leaf))
theorem Tryz.s46 {w1 h2 : Int} {H R} (h : Tryz.S46 w1 h2 H R) : Tryz.C 46 #[.int .i64 w1, .int .i64 h2] H R := vcs Tryz.tab_ok Tryz.mixed Tryz.func46 Tryz.cal46 Tryz.p46 h (by kernel_rfl)
end Go.Proofs
