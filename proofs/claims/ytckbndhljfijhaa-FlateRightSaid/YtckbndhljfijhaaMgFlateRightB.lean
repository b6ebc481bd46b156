/-
  OWN WORK. Several texts in one: ShP, ShL, TileW, TileStay, ShS, ShT, FlA, GTab, GFunA, GFunB, GFunC.
-/
import Derived.Test.YtckbndhljfijhaaMgFlateRightA
import Derived.ProofKit
import Derived.OpenShut
import Derived.Test.YtckbndhljfijhaaProg
import Derived.KernelRfl

set_option linter.unusedSimpArgs false
set_option linter.unusedVariables false
set_option maxRecDepth 100000
namespace Go.Sh
def br (t : Bool) (A B : Prop) : Prop := (t = true → A) ∧ (t = false → B)
def alc (H : Heap) (o : Obj) (K : Nat → Heap → Prop) : Prop := K H.size (H.push o)
abbrev OA := Option Addr
abbrev AV := Array Value
abbrev Kv := Value → Heap → Prop
abbrev Kl := List Value → Heap → Prop
namespace Plan
def tl (a : Plan) : Plan := two leaf a
def g0 : Plan := tl (two (tl leaf) leaf)
def tg (a : Plan) : Plan := two g0 a
end Plan
theorem vcs {P : Program} {T : Tab} (hT : TabOk P T) (hm : P.follows .mixedOrders = true) {g : FuncId} {fn : Func} (hg : P.funcs[g]? = some fn) (hc : callable P g) (p : Plan) {args : Array Value} {H : Heap}
    {R : Value → Heap → Prop} {A : Prop} (h : A) (e : A = vcFun P T fn p args.toList H R) : CallsH P g args H R := by
  have := vcFun_sound hT hm hg hc (p := p) (args := args.toList) (H := H) (R := R) (Eq.mp e h)
  simpa using this
end Go.Sh
namespace Go.Sh
theorem br_i {t : Bool} {A B : Prop} (h : t = true → A) (h' : t = false → B) : br t A B := ⟨h, h'⟩
theorem br_dec {p : Prop} [Decidable p] {A B : Prop} (h : p → A) (h' : ¬ p → B) : br (decide p) A B := ⟨fun e => h (of_decide_eq_true e), fun e => h' (of_decide_eq_false e)⟩
theorem br_eq {a b : Int} {A B : Prop} (h : a = b → A) (h' : a ≠ b → B) : br (a == b) A B := ⟨fun e => h (by simpa using e), fun e => h' (by simpa using e)⟩
theorem br_ne {a b : Int} {A B : Prop} (h : a ≠ b → A) (h' : a = b → B) : br (a != b) A B := ⟨fun e => h (by simpa using e), fun e => h' (by simpa using e)⟩
theorem br_not {t : Bool} {A B : Prop} (h : t = false → A) (h' : t = true → B) : br (!t) A B := ⟨fun e => h (by simpa using e), fun e => h' (by simpa using e)⟩
theorem br_true {A B : Prop} (h : A) : br true A B := ⟨fun _ => h, fun e => (by cases e)⟩
theorem br_false {A B : Prop} (h : B) : br false A B := ⟨fun e => (by cases e), fun _ => h⟩
theorem br_t {t : Bool} {A B : Prop} (ht : t = true) (h : A) : br t A B := by subst ht; exact br_true h
theorem br_f {t : Bool} {A B : Prop} (ht : t = false) (h : B) : br t A B := by subst ht; exact br_false h
theorem br_y {p : Prop} [Decidable p] {A B : Prop} (hp : p) (h : A) : br (decide p) A B := br_dec (fun _ => h) (fun n => absurd hp n)
theorem br_n {p : Prop} [Decidable p] {A B : Prop} (hp : ¬ p) (h : B) : br (decide p) A B := br_dec (fun y => absurd y hp) (fun _ => h)
theorem br_none {α : Type} {p : Option α} {A B : Prop} (h : p = none → A) (h' : ∀ a, p = some a → B) : br (Option.isNone p) A B := by
 cases p with
 | none => exact br_true (h rfl)
 | some a => exact br_false (h' a rfl)
theorem lt_of_get {H : Heap} {b : Nat} {o : Obj} (h : H[b]? = some o) : b < H.size := (Array.getElem?_eq_some_iff.1 h).1
theorem get_push_self (H : Heap) (o : Obj) : (H.push o)[H.size]? = some o := by simp
theorem get_push {H : Heap} {b : Nat} {o x : Obj} (h : H[b]? = some x) : (H.push o)[b]? = some x := Ext.push H o b x h
theorem get_set_ne {H : Heap} {b r : Nat} {o x : Obj} (hne : r ≠ b) (h : H[b]? = some x) : (H.setIfInBounds r o)[b]? = some x := by
 rw [Array.getElem?_setIfInBounds_ne hne]; exact h
theorem get_set_self {H : Heap} {r : Nat} {o x : Obj} (h : H[r]? = some x) : (H.setIfInBounds r o)[r]? = some o := by
 rw [Array.getElem?_setIfInBounds_self_of_lt (lt_of_get h)]
theorem cell_block {H : Heap} {b i : Nat} {c : Array Value} {t : TypeId} {f : Nat × Nat} (h : H[b]? = some (.cells c t f)) : cell H ⟨b, i, none⟩ = c[i]? := by
 simp [cell, h]
theorem cell_get {H : Heap} {b i : Nat} {c : Array Value} {t : TypeId} {f : Nat × Nat} {v : Value} (h : H[b]? = some (.cells c t f)) (hv : c[i]? = some v) : cell H ⟨b, i, none⟩ = some v := by
 rw [cell_block h]; exact hv
@[simp] theorem add_none (b i n : Nat) : Addr.add ⟨b, i, none⟩ n = ⟨b, i + n, none⟩ := by
 unfold Addr.add; split <;> simp_all
theorem rowIn_block {H : Heap} {b i : Nat} {c cs : Array Value} {t : TypeId} {f : Nat × Nat} (h : H[b]? = some (.cells c t f)) (hc : ∀ j v, cs[j]? = some v → c[i + j]? = some v) :
    rowIn H ⟨b, i, none⟩ cs := by
  intro j v hv
  rw [add_none, cell_block h]
  exact hc j v hv
theorem rowIn_whole {H : Heap} {b : Nat} {c : Array Value} {t : TypeId} {f : Nat × Nat} (h : H[b]? = some (.cells c t f)) : rowIn H ⟨b, 0, none⟩ c :=
 rowIn_block h fun j v hv => by rw [Nat.zero_add]; exact hv
theorem stAt_one {H : Heap} {b i : Nat} {c : Array Value} {t : TypeId} {v : Value} {f : Heap → Prop} (h : H[b]? = some (.cells c t (0, 0))) (hi : i < c.size) (ho : v.oneCell' = true)
    (hf : f (H.setIfInBounds b (.cells (c.setIfInBounds i v) t (0, 0)))) : stAt H ⟨b, i, none⟩ [v] f := by
  refine ⟨c, t, h, rfl, (by simp; omega), by simpa using ho, ?_⟩
  have : (setL c.toList i [v]).toArray = c.setIfInBounds i v := by
    rw [setL_one (by simpa using hi)]
    apply Array.toList_inj.1
    simp
  simp only [this]
  exact hf
theorem stAt_whole {H : Heap} {b : Nat} {c : Array Value} {t : TypeId} {vs : List Value} {f : Heap → Prop} (h : H[b]? = some (.cells c t (0, 0))) (hl : vs.length = c.size) (ho : ∀ v ∈ vs, v.oneCell' = true)
    (hf : f (H.setIfInBounds b (.cells vs.toArray t (0, 0)))) : stAt H ⟨b, 0, none⟩ vs f := by
  refine ⟨c, t, h, rfl, by simp; omega, ho, ?_⟩
  have : setL c.toList 0 vs = vs := by simp [setL, hl]
  simp only [this]
  exact hf
theorem wrap_id {n : Int} (h0 : -9223372036854775808 ≤ n) (h1 : n ≤ 9223372036854775807) : IntKind.wrap .i64 n = n := wrap_i64 h0 h1
theorem wrap_u8 {n : Int} (h0 : 0 ≤ n) (h1 : n < 256) : IntKind.wrap .u8 n = n := by
 simp only [IntKind.wrap, IntKind.signed, IntKind.bits]; simp; omega
end Go.Sh
namespace Go.Sh
open Go.RowKit
theorem grown_of {W w' : World} (hos : w'.os = W.os) (ho : Out W w') (hx : Ext W.heap w'.heap) : Grown W w' := by
 refine ⟨⟨hos, ho.output, fun i hi => ?_⟩, ho.froz, hx.size⟩
 obtain ⟨o, h⟩ : ∃ o, W.heap[i]? = some o := ⟨_, Array.getElem?_eq_getElem hi⟩
 rw [hx i o h, h]
 cases o with
 | cells c t fr => exact ⟨rfl, rfl, rfl, fun _ _ => rfl⟩
 | map es k => exact .inr ⟨rfl, rfl⟩
 | _ => rfl
end Go.Sh
namespace Go.Sh
open Go.RowKit Go.ChangeShapes Go.WideShapes Go.ChangeAt
section
variable {H : Type} {enc : TypeId × Value → H} {P : Program} {W W' : World}
theorem same_of (hx : Ext W.heap W'.heap) {p : MemPlace} (hp : p.block < W.heap.size) : W.sameAt W' p := by
 have h : W'.heap[p.block]? = W.heap[p.block]? := by
  obtain ⟨o, h⟩ : ∃ o, W.heap[p.block]? = some o := ⟨_, Array.getElem?_eq_getElem hp⟩
  rw [hx _ o h, h]
 cases p with
 | cell b o => exact World.cell?_of_block (w := W) h
 | map b => exact h
theorem trodAll_ext (hl : laidOutB P = true) (hx : Ext W.heap W'.heap) {sp : Nat → Bool} : ∀ {ts : List TypeId} {vs : List Value} {ds : List (DataW H)} {ps : List MemPlace}, (ts.all fun t => P.readableRec t && decide (t < P.types.size)) = true →
    DataW.TrodAll enc P W 0 (fun _ => true) true ts vs ds ps → (∀ x ∈ ps, x.block < W.heap.size) → (∀ x ∈ ps, sp x.block = true) → DataW.TrodAll enc P W' 0 sp true ts vs ds ps
  | [], vs, ds, ps, _, h, _, _ => by
    obtain ⟨rfl, rfl, rfl⟩ := trodAll_nil h
    exact trodAll_mk0
  | t :: ts, vs, ds, ps, hr, h, hlt, hs => by
    obtain ⟨v, vs1, d, ds1, a, b, rfl, rfl, rfl, h1, h2⟩ := trodAll_cons h
    simp only [List.all_cons, Bool.and_eq_true, decide_eq_true_eq] at hr
    exact trodAll_cons_mk (WideElems.Trod_stays hl hr.1.1 hr.1.2 h1 (fun x hx' => same_of hx (hlt x (List.mem_append_left _ hx'))) (fun x hx' => hs x (List.mem_append_left _ hx')))
      (trodAll_ext hl hx (by simpa using hr.2) h2 (fun x hx' => hlt x (List.mem_append_right _ hx')) (fun x hx' => hs x (List.mem_append_right _ hx')))
theorem wf_range {a : Int} (h : (Lit.int .i64 a).wf = true) : -9223372036854775808 ≤ a ∧ a ≤ 9223372036854775807 := by
 simpa [Lit.wf, IntKind.min, IntKind.max, IntKind.signed, IntKind.bits] using h
end
end Go.Sh
namespace Go.Sh
def ints (l : List Int) : List Value := l.map (Value.int .i64)
theorem ints_get {l : List Int} {i : Nat} {v : Int} (h : l[i]? = some v) : (ints l)[i]? = some (Value.int .i64 v) := by simp [ints, h]
theorem ints_len (l : List Int) : (ints l).length = l.length := by simp [ints]
theorem ints_append (a b : List Int) : ints (a ++ b) = ints a ++ ints b := by simp [ints]
theorem ints_set (l : List Int) (i : Nat) (v : Int) : (ints l).set i (.int .i64 v) = ints (l.set i v) := by simp [ints]
theorem ints_one (l : List Int) : ∀ v ∈ ints l, v.oneCell' = true := fun v hv => by
 obtain ⟨x, _, rfl⟩ := List.mem_map.1 hv; rfl
structure RS (H : Heap) (p : Option Addr) (l : Nat) (el : TypeId) (k : Nat) (fs : List Value) : Prop where
 len : fs.length = l * k
 one : ∀ v ∈ fs, v.oneCell' = true
 at_ : l = 0 ∨ ∃ blk cs, p = some ⟨blk, 0, none⟩ ∧ H[blk]? = some (.cells cs el) ∧ ∀ (i : Nat) v, fs[i]? = some v → cs[i]? = some v
structure FS (n0 : Nat) (H : Heap) (p : Option Addr) (l c : Nat) (el : TypeId) (k : Nat) (fs : List Value) : Prop where
 len : fs.length = l * k
 le : l ≤ c
 one : ∀ v ∈ fs, v.oneCell' = true
 at_ : (p = none ∧ c = 0) ∨ ∃ blk cs, p = some ⟨blk, 0, none⟩ ∧ n0 ≤ blk ∧ H[blk]? = some (.cells cs el) ∧ cs.size = c * k ∧ ∀ (i : Nat) v, fs[i]? = some v → cs[i]? = some v
theorem FS.rs {n0 : Nat} {H : Heap} {p : Option Addr} {l c : Nat} {el : TypeId} {k : Nat} {fs : List Value} (h : FS n0 H p l c el k fs) : RS H p l el k fs := by
 refine ⟨h.len, h.one, ?_⟩
 rcases h.at_ with ⟨_, h2⟩ | ⟨blk, cs, h1, _, h3, _, h5⟩
 ·left; have := h.le; omega
 ·exact .inr ⟨blk, cs, h1, h3, h5⟩
theorem RS.keep {H H' : Heap} {p : Option Addr} {l : Nat} {el : TypeId} {k : Nat} {fs : List Value} (h : RS H p l el k fs) (hk : ∀ b cs, p = some ⟨b, 0, none⟩ → H[b]? = some (.cells cs el) → H'[b]? = some (.cells cs el)) : RS H' p l el k fs := by
 refine ⟨h.len, h.one, ?_⟩
 rcases h.at_ with h1 | ⟨blk, cs, h1, h3, h5⟩
 ·exact .inl h1
 ·exact .inr ⟨blk, cs, h1, hk _ _ h1 h3, h5⟩
theorem RS.ext {H H' : Heap} {p : Option Addr} {l : Nat} {el : TypeId} {k : Nat} {fs : List Value} (h : RS H p l el k fs) (he : Ext H H') : RS H' p l el k fs := h.keep fun b cs _ hb => he _ _ hb
theorem FS.keep {n0 : Nat} {H H' : Heap} {p : Option Addr} {l c : Nat} {el : TypeId} {k : Nat} {fs : List Value} (h : FS n0 H p l c el k fs) (hk : ∀ b cs, p = some ⟨b, 0, none⟩ → H[b]? = some (.cells cs el) → H'[b]? = some (.cells cs el)) : FS n0 H' p l c el k fs := by
 refine ⟨h.len, h.le, h.one, ?_⟩
 rcases h.at_ with h1 | ⟨blk, cs, h1, h2, h3, h5⟩
 ·exact .inl h1
 ·exact .inr ⟨blk, cs, h1, h2, hk _ _ h1 h3, h5⟩
theorem FS.ext {n0 : Nat} {H H' : Heap} {p : Option Addr} {l c : Nat} {el : TypeId} {k : Nat} {fs : List Value} (h : FS n0 H p l c el k fs) (he : Ext H H') : FS n0 H' p l c el k fs := h.keep fun b cs _ hb => he _ _ hb
theorem FS.lower {n0 n1 : Nat} {H : Heap} {p : Option Addr} {l c : Nat} {el : TypeId} {k : Nat} {fs : List Value} (h : FS n0 H p l c el k fs) (hn : n1 ≤ n0) : FS n1 H p l c el k fs := by
 refine ⟨h.len, h.le, h.one, ?_⟩
 rcases h.at_ with h1 | ⟨blk, cs, h1, h2, h3, h5⟩
 ·exact .inl h1
 ·exact .inr ⟨blk, cs, h1, by omega, h3, h5⟩
theorem FS.nil (n0 : Nat) (H : Heap) (el : TypeId) (k : Nat) : FS n0 H none 0 0 el k [] := ⟨by simp, Nat.le_refl _, by simp, .inl ⟨rfl, rfl⟩⟩
theorem RS.nil (H : Heap) (p : Option Addr) (el : TypeId) (k : Nat) : RS H p 0 el k [] := ⟨by simp, by simp, .inl rfl⟩
theorem FS.whole {n0 : Nat} {H : Heap} {b l k : Nat} {el : TypeId} {cs : Array Value} (hb : n0 ≤ b) (h : H[b]? = some (.cells cs el)) (hs : cs.size = l * k) (ho : ∀ v ∈ cs.toList, v.oneCell' = true) : FS n0 H (some ⟨b, 0, none⟩) l l el k cs.toList :=
 ⟨by simpa using hs, Nat.le_refl _, ho, .inr ⟨b, cs, rfl, hb, h, hs, fun i v hv => by simpa using hv⟩⟩
theorem RS.cell {H : Heap} {p : Option Addr} {l : Nat} {el : TypeId} {k : Nat} {fs : List Value} (h : RS H p l el k fs) {i : Nat} {v : Value} (hv : fs[i]? = some v) : ∃ blk, p = some ⟨blk, 0, none⟩ ∧ Go.Sh.cell H ⟨blk, i, none⟩ = some v := by
 rcases h.at_ with h1 | ⟨blk, cs, h1, h3, h5⟩
 ·have := (List.getElem?_eq_some_iff.1 hv).1
  have := h.len
  rw [h1] at this
  omega
 ·exact ⟨blk, h1, cell_get h3 (h5 i v hv)⟩
theorem RS.row {H : Heap} {p : Option Addr} {l : Nat} {el : TypeId} {k : Nat} {fs : List Value} (h : RS H p l el k fs) {i : Nat} (hi : i < l) (hk : 0 < k) {xs : Array Value} (hx : ∀ (j : Nat) v, xs[j]? = some v → fs[i * k + j]? = some v) : ∃ blk, p = some ⟨blk, 0, none⟩ ∧ rowIn H ⟨blk, i * k, none⟩ xs := by
 rcases h.at_ with h1 | ⟨blk, cs, h1, h3, h5⟩
 ·omega
 ·exact ⟨blk, h1, rowIn_block h3 fun j v hv => h5 _ _ (hx j v hv)⟩
structure IS (H : Heap) (p : Option Addr) (l : Nat) (fs : List Value) : Prop where
 len : fs.length = l
 get : ∀ (i : Nat) v, fs[i]? = some v → ∃ a, p = some a ∧ Go.Sh.cell H (a.add i) = some v
theorem IS.ext {H H' : Heap} {p : Option Addr} {l : Nat} {fs : List Value} (h : IS H p l fs) (he : Ext H H') : IS H' p l fs := ⟨h.len, fun i v hv => let ⟨a, h1, h2⟩ := h.get i v hv; ⟨a, h1, he.cell h2⟩⟩
theorem IS.cell {H : Heap} {p : Option Addr} {l : Nat} {fs : List Value} (h : IS H p l fs) {i : Nat} {v : Value} (hv : fs[i]? = some v) : ∃ a, p = some a ∧ Go.Sh.cell H (a.add i) = some v := h.get i v hv
theorem RS.is {H : Heap} {p : Option Addr} {l : Nat} {el : TypeId} {fs : List Value} (h : RS H p l el 1 fs) : IS H p l fs :=
 ⟨by have := h.len; omega, fun i v hv => let ⟨blk, h1, h2⟩ := h.cell hv; ⟨_, h1, by simpa using h2⟩⟩
theorem RS.rowOf {H : Heap} {p : Option Addr} {l : Nat} {el : TypeId} {k : Nat} {fs : List Value} (h : RS H p l el k fs) : rowOf H p (l * k) fs.toArray := by
 rcases h.at_ with h1 | ⟨blk, cs, h1, h3, h5⟩
 ·have := h.len
  rw [h1, Nat.zero_mul] at this
  have : fs = [] := List.length_eq_zero_iff.1 this
  subst this
  subst h1
  cases p with
  | none => rfl
  | some a => exact ⟨by simp, fun j v hv => by simp at hv⟩
 ·subst h1
  refine ⟨by simp [h.len], rowIn_block h3 fun j v hv => ?_⟩
  rw [Nat.zero_add]
  exact h5 j v (by simpa using hv)
theorem setL_get {c vs : List Value} {i : Nat} (h : i + vs.length ≤ c.length) (j : Nat) : (setL c i vs)[j]? = if i ≤ j ∧ j < i + vs.length then vs[j - i]? else c[j]? := by
 unfold setL
 by_cases h1 : j < i
 ·rw [if_neg (by omega), List.append_assoc, List.getElem?_append_left (by simp; omega), List.getElem?_take_of_lt h1]
 ·by_cases h2 : j < i + vs.length
  ·rw [if_pos ⟨by omega, h2⟩, List.append_assoc, List.getElem?_append_right (by simp; omega), List.getElem?_append_left (by simp; omega)]
   congr 1
   simp; omega
  ·rw [if_neg (by omega), List.getElem?_append_right (by simp; omega), List.getElem?_drop]
   congr 1
   simp; omega
theorem setL_len {c vs : List Value} {i : Nat} (h : i + vs.length ≤ c.length) : (setL c i vs).length = c.length := by unfold setL; simp; omega
theorem stAt_some {H : Heap} {b i : Nat} {c : Array Value} {t : TypeId} {vs : List Value} {f : Heap → Prop} (h : H[b]? = some (.cells c t (0, 0))) (hl : i + vs.length ≤ c.size) (ho : ∀ v ∈ vs, v.oneCell' = true)
    (hf : ∀ c' : Array Value, c'.size = c.size → (∀ j : Nat, c'[j]? = if i ≤ j ∧ j < i + vs.length then vs[j - i]? else c[j]?) → f (H.setIfInBounds b (.cells c' t (0, 0)))) : stAt H ⟨b, i, none⟩ vs f := by
  have hl' : i + vs.length ≤ c.toList.length := by simpa using hl
  refine ⟨c, t, h, rfl, hl, ho, ?_⟩
  refine hf (setL c.toList i vs).toArray (by simp [setL_len hl']) fun j => ?_
  rw [List.getElem?_toArray, setL_get hl' j, Array.getElem?_toList (xs := c)]
theorem FS.app' {n0 : Nat} {H : Heap} {p q : Option Addr} {l c n : Nat} {el : TypeId} {k bytes : Nat} {zero : Array Value} {fs gs : List Value} (h : FS n0 H p l c el k fs) (hrow : Go.Sh.rowOf H q (n * k) gs.toArray) (hgl : gs.length = n * k) (hgo : ∀ v ∈ gs, v.oneCell' = true) (hk : 0 < k) (hn : n0 ≤ H.size) (hz : zero.size = k)
    (hb : (l + n) * bytes ≤ 70368744177664) (hm : l + n ≤ 1000000000000) {K : Option Addr → Nat → Nat → Heap → Prop}
    (hK : ∀ p' c' H', FS n0 H' p' (l + n) c' el k (fs ++ gs) → (∀ (b : Nat) (o : Obj), H[b]? = some o → p ≠ some ⟨b, 0, none⟩ → H'[b]? = some o) → H.size ≤ H'.size → K p' (l + n) c' H') : appQ k bytes zero H p l c q n el K := by
  have hfl := h.len
  have hlen : (fs ++ gs).length = (l + n) * k := by rw [List.length_append, hfl, hgl, Nat.add_mul]
  have hone : ∀ v ∈ fs ++ gs, v.oneCell' = true := fun v hv => (List.mem_append.1 hv).elim (h.one v) (hgo v)
  refine ⟨hb, by omega, gs.toArray, hrow, fun hle => ?_, fun hlt => ?_⟩
  · rcases h.at_ with ⟨rfl, hc0⟩ | ⟨blk, cs, rfl, h2, h3, h4, h5⟩
    · refine hK none c H ⟨hlen, hle, hone, .inl ⟨rfl, hc0⟩⟩ (fun b o hb _ => hb) (Nat.le_refl _)
    · simp only [add_none, Nat.zero_add]
      have hcap : (l + n) * k ≤ c * k := Nat.mul_le_mul_right k hle
      rw [Nat.add_mul] at hcap
      refine stAt_some h3 (by show l * k + gs.length ≤ cs.size; omega) (by simpa using hgo) fun c' hc' hg => ?_
      refine hK _ _ _ ⟨hlen, hle, hone, .inr ⟨blk, c', rfl, h2, get_set_self h3, by omega, fun i v hv => ?_⟩⟩ (fun b o hb hne => get_set_ne (fun hh => hne (by rw [hh])) hb) (by simp)
      rw [hg]
      by_cases hi : i < fs.length
      · rw [if_neg (by omega)]
        rw [List.getElem?_append_left hi] at hv
        exact h5 i v hv
      · rw [List.getElem?_append_right (by omega)] at hv
        have hlt := (List.getElem?_eq_some_iff.1 hv).1
        rw [if_pos ⟨by omega, by show i < l * k + gs.length; omega⟩]
        rw [← hfl]
        simpa using hv
  · have hrow : ∃ ys, Go.Sh.rowOf H p (l * k) ys ∧ ys.toList = fs := ⟨fs.toArray, h.rs.rowOf, by simp⟩
    obtain ⟨ys, hy, hvs⟩ := hrow
    refine ⟨ys, hy, fun c' hc' => ?_⟩
    rw [zeroCells_eq _ _ (by omega)]
    have hcap : (l + n) * k ≤ c' * k := Nat.mul_le_mul_right k hc'
    have hys : ys.size = l * k := by rw [← Array.length_toList, hvs, hfl]
    refine hK _ _ _ ⟨hlen, hc', hone, .inr ⟨H.size, _, rfl, hn, get_push_self _ _, ?_, fun i v hv => ?_⟩⟩ (fun b o hb _ => get_push hb) (by simp)
    · simp only [Array.size_append, hys, List.size_toArray, reps_length, Array.length_toList, hz, hgl]
      rw [Nat.sub_mul]
      rw [Nat.add_mul] at hcap ⊢
      omega
    · have hi := (List.getElem?_eq_some_iff.1 hv).1
      rw [Array.getElem?_append_left (by simp [hys, hgl]; rw [hlen, Nat.add_mul] at hi; omega)]
      have : (ys ++ gs.toArray).toList = fs ++ gs := by simp [hvs]
      rw [← Array.getElem?_toList, this]
      exact hv
theorem FS.app {n0 : Nat} {H : Heap} {p q : Option Addr} {l c n : Nat} {el : TypeId} {k bytes : Nat} {zero : Array Value} {fs gs : List Value} (h : FS n0 H p l c el k fs) (hs : RS H q n el k gs) (hk : 0 < k) (hn : n0 ≤ H.size) (hz : zero.size = k)
    (hb : (l + n) * bytes ≤ 70368744177664) (hm : l + n ≤ 1000000000000) {K : Option Addr → Nat → Nat → Heap → Prop}
    (hK : ∀ p' c' H', FS n0 H' p' (l + n) c' el k (fs ++ gs) → (∀ (b : Nat) (o : Obj), H[b]? = some o → p ≠ some ⟨b, 0, none⟩ → H'[b]? = some o) → H.size ≤ H'.size → K p' (l + n) c' H') : appQ k bytes zero H p l c q n el K :=
  h.app' hs.rowOf hs.len hs.one hk hn hz hb hm hK
theorem FS.set {n0 : Nat} {H : Heap} {b l c : Nat} {el : TypeId} {k : Nat} {fs : List Value} {i : Nat} {v : Value} {f : Heap → Prop} (h : FS n0 H (some ⟨b, 0, none⟩) l c el k fs) (hi : i < fs.length) (ho : v.oneCell' = true)
    (hf : ∀ H', FS n0 H' (some ⟨b, 0, none⟩) l c el k (fs.set i v) → (∀ (b' : Nat) (o : Obj), H[b']? = some o → b' ≠ b → H'[b']? = some o) → H'.size = H.size → f H') : stAt H ⟨b, i, none⟩ [v] f := by
  have hlen := h.len
  rcases h.at_ with ⟨h1, _⟩ | ⟨blk, cs, h1, h2, h3, h4, h5⟩
  · cases h1
  · cases h1
    have hics : i < cs.size := by
      have := h5 i fs[i] (List.getElem?_eq_getElem hi)
      exact (Array.getElem?_eq_some_iff.1 this).1
    refine stAt_one h3 hics ho ?_
    refine hf _ ⟨by simpa using hlen, h.le, fun u hu => ?_, .inr ⟨b, cs.setIfInBounds i v, rfl, h2, get_set_self h3, by simpa using h4, fun j u hu => ?_⟩⟩ (fun b' o hb' hne => get_set_ne (Ne.symm hne) hb') (by simp)
    · rcases List.mem_or_eq_of_mem_set hu with hu | rfl
      · exact h.one u hu
      · exact ho
    · rw [List.getElem?_set] at hu
      rw [Array.getElem?_setIfInBounds]
      by_cases hij : i = j
      · subst hij
        rw [if_pos rfl, if_pos hi] at hu
        rw [if_pos rfl, if_pos hics]
        exact hu
      · rw [if_neg hij] at hu
        rw [if_neg hij]
        exact h5 j u hu
theorem zeros_FS {n0 : Nat} {H : Heap} {n b : Nat} {el : TypeId} (hb : n0 ≤ b) (h : H[b]? = some (.cells (List.toArray (reps n [Value.int .i64 0])) el)) : FS n0 H (some ⟨b, 0, none⟩) n n el 1 (ints (List.replicate n 0)) := by
 refine ⟨by simp [ints], Nat.le_refl _, ints_one _, .inr ⟨b, _, rfl, hb, h, by simp [reps_length], fun i v hv => ?_⟩⟩
 rw [List.getElem?_toArray]
 have hi : i < n := by have := (List.getElem?_eq_some_iff.1 hv).1; simpa [ints] using this
 rw [reps_get [Value.int .i64 0] (by decide) n i (by simpa using hi)]
 simp only [ints, List.map_replicate, List.getElem?_replicate, if_pos hi] at hv
 simpa [Nat.mod_one] using hv
end Go.Sh
namespace Go.Sh
structure Rs where
 at_ : Heap → List Nat → Prop
 loc : ∀ {H H' : Heap} {fp : List Nat}, at_ H fp → (∀ b ∈ fp, ∀ o, H[b]? = some o → H'[b]? = some o) → at_ H' fp
 has : ∀ {H : Heap} {fp : List Nat}, at_ H fp → ∀ b ∈ fp, b < H.size
def Rs.cell (b : Nat) (cs : Array Value) (ty : TypeId) : Rs where
 at_ H fp := fp = [b] ∧ H[b]? = some (.cells cs ty)
 loc h hk := ⟨h.1, hk _ (by rw [h.1]; exact List.mem_singleton.2 rfl) _ h.2⟩
 has h b hb := by rw [h.1, List.mem_singleton] at hb; subst hb; exact lt_of_get h.2
def Rs.sl (p : Option Addr) (l c : Nat) (el : TypeId) (k : Nat) (fs : List Value) : Rs where
 at_ H fp := FS 0 H p l c el k fs ∧ ((p = none ∧ fp = []) ∨ ∃ blk, p = some ⟨blk, 0, none⟩ ∧ fp = [blk])
 loc h hk := by
  refine ⟨h.1.keep fun b cs hp hb => hk b ?_ _ hb, h.2⟩
  rcases h.2 with ⟨h1, _⟩ | ⟨blk, h1, h2⟩
  ·rw [h1] at hp; cases hp
  ·rw [h1] at hp; cases hp; rw [h2]; exact List.mem_singleton.2 rfl
 has h b hb := by
  rcases h.2 with ⟨_, h2⟩ | ⟨blk, h1, h2⟩
  ·rw [h2] at hb; cases hb
  ·rw [h2, List.mem_singleton] at hb
   subst hb
   rcases h.1.at_ with ⟨h3, _⟩ | ⟨blk', cs, h3, _, h4, _⟩
   ·rw [h1] at h3; cases h3
   ·rw [h1] at h3; cases h3; exact lt_of_get h4
def Rs.star (r s : Rs) : Rs where
 at_ H fp := ∃ a b, fp = a ++ b ∧ r.at_ H a ∧ s.at_ H b
 loc := fun ⟨a, b, e, h1, h2⟩ hk => ⟨a, b, e, r.loc h1 fun x hx => hk x (by rw [e]; exact List.mem_append_left _ hx), s.loc h2 fun x hx => hk x (by rw [e]; exact List.mem_append_right _ hx)⟩
 has := fun ⟨a, b, e, h1, h2⟩ x hx => by
  rw [e] at hx
  rcases List.mem_append.1 hx with hx | hx
  ·exact r.has h1 x hx
  ·exact s.has h2 x hx
def Rs.ex {α : Type} (f : α → Rs) : Rs where
 at_ H fp := ∃ a, (f a).at_ H fp
 loc := fun ⟨a, h⟩ hk => ⟨a, (f a).loc h hk⟩
 has := fun ⟨a, h⟩ => (f a).has h
def Rs.pu (q : Prop) (r : Rs) : Rs where
 at_ H fp := q ∧ r.at_ H fp
 loc := fun ⟨a, h⟩ hk => ⟨a, r.loc h hk⟩
 has := fun ⟨a, h⟩ => r.has h
def Lie (H : Heap) : List Rs → List (List Nat) → Prop
 | [], [] => True
 | r :: σ, fp :: fps => r.at_ H fp ∧ Lie H σ fps
 | _, _ => False
theorem Lie.get {H : Heap} : ∀ {σ : List Rs} {fps : List (List Nat)}, Lie H σ fps → ∀ {i : Nat} {r : Rs}, σ[i]? = some r → ∃ fp, fps[i]? = some fp ∧ r.at_ H fp
 | [], [], _, i, r, h => by simp at h
 | r :: σ, fp :: fps, hl, 0, s, h => by simp at h; subst h; exact ⟨fp, rfl, hl.1⟩
 | r :: σ, fp :: fps, hl, i + 1, s, h => by
  simp only [List.getElem?_cons_succ] at h ⊢
  exact Lie.get hl.2 h
theorem Lie.has {H : Heap} : ∀ {σ : List Rs} {fps : List (List Nat)}, Lie H σ fps → ∀ b ∈ fps.flatten, b < H.size
 | [], [], _, b, hb => by simp at hb
 | r :: σ, fp :: fps, hl, b, hb => by
  simp only [List.flatten_cons, List.mem_append] at hb
  rcases hb with hb | hb
  ·exact r.has hl.1 b hb
  ·exact Lie.has hl.2 b hb
theorem Lie.loc {H H' : Heap} : ∀ {σ : List Rs} {fps : List (List Nat)}, Lie H σ fps → (∀ b ∈ fps.flatten, ∀ o, H[b]? = some o → H'[b]? = some o) → Lie H' σ fps
 | [], [], _, _ => trivial
 | r :: σ, fp :: fps, hl, hk => by
  simp only [List.flatten_cons, List.mem_append] at hk
  exact ⟨r.loc hl.1 fun b hb => hk b (.inl hb), Lie.loc hl.2 fun b hb => hk b (.inr hb)⟩
theorem Lie.set {H H' : Heap} : ∀ {σ : List Rs} {fps : List (List Nat)} {i : Nat} {fp fp' : List Nat} {r' : Rs}, Lie H σ fps → fps.flatten.Nodup → fps[i]? = some fp → r'.at_ H' fp' → fp'.Nodup → (∀ b ∈ fp', b ∈ fp ∨ H.size ≤ b) →
    (∀ b o, H[b]? = some o → b ∉ fp → H'[b]? = some o) → Lie H' (σ.set i r') (fps.set i fp') ∧ (fps.set i fp').flatten.Nodup
  | [], [], i, fp, fp', r', hl, hn, hi, h, hn', hf, hk => by simp at hi
  | r :: σ, g :: fps, 0, fp, fp', r', hl, hn, hi, h, hn', hf, hk => by
    simp at hi; subst hi
    simp only [List.flatten_cons, List.nodup_append] at hn
    refine ⟨⟨h, hl.2.loc fun b hb o ho => hk b o ho fun hg => hn.2.2 b hg b hb rfl⟩, ?_⟩
    simp only [List.set_cons_zero, List.flatten_cons, List.nodup_append]
    refine ⟨hn', hn.2.1, fun a ha b hb hab => ?_⟩
    subst hab
    rcases hf a ha with h1 | h1
    · exact hn.2.2 a h1 a hb rfl
    · have := Lie.has hl.2 a hb; omega
  | r :: σ, g :: fps, i + 1, fp, fp', r', hl, hn, hi, h, hn', hf, hk => by
    simp only [List.getElem?_cons_succ] at hi
    simp only [List.flatten_cons, List.nodup_append] at hn
    obtain ⟨h1, h2⟩ := Lie.set hl.2 hn.2.1 hi h hn' hf hk
    have hmem : ∀ b ∈ fp, b ∈ fps.flatten := fun b hb => List.mem_flatten.2 ⟨fp, List.mem_of_getElem? hi, hb⟩
    refine ⟨⟨r.loc hl.1 fun b hb o ho => hk b o ho fun hg => hn.2.2 b hb b (hmem b hg) rfl, h1⟩, ?_⟩
    simp only [List.set_cons_succ, List.flatten_cons, List.nodup_append]
    refine ⟨hn.1, h2, fun a ha b hb hab => ?_⟩
    subst hab
    obtain ⟨f, hf1, hf2⟩ := List.mem_flatten.1 hb
    rcases List.mem_or_eq_of_mem_set hf1 with hf1 | rfl
    · exact hn.2.2 a ha a (List.mem_flatten.2 ⟨f, hf1, hf2⟩) rfl
    · rcases hf a hf2 with h3 | h3
      · exact hn.2.2 a ha a (hmem a h3) rfl
      · have := r.has hl.1 a ha; omega
structure St (H0 H : Heap) (σ : List Rs) : Prop where
 ext : Ext H0 H
 own : ∃ fps, Lie H σ fps ∧ fps.flatten.Nodup ∧ ∀ b ∈ fps.flatten, H0.size ≤ b
theorem St.nil (H : Heap) : St H H [] := ⟨Ext.refl H, [], trivial, by simp, by simp⟩
variable {H0 H H' : Heap} {σ τ : List Rs}
theorem nodup_mem : ∀ {fps : List (List Nat)}, fps.flatten.Nodup → ∀ fp ∈ fps, fp.Nodup
 | [], _, fp, h => by cases h
 | g :: r, hn, fp, h => by
  rw [List.flatten_cons, List.nodup_append] at hn
  rcases List.mem_cons.1 h with rfl | h
  ·exact hn.1
  ·exact nodup_mem hn.2.1 fp h
theorem St.upd (hs : St H0 H σ) {i : Nat} {r r' : Rs} (hi : σ[i]? = some r)
    (h : ∀ fp, r.at_ H fp → fp.Nodup → (∀ b ∈ fp, H0.size ≤ b) → ∃ fp', r'.at_ H' fp' ∧ fp'.Nodup ∧ (∀ b ∈ fp', b ∈ fp ∨ H.size ≤ b) ∧ ∀ b o, H[b]? = some o → b ∉ fp → H'[b]? = some o) : St H0 H' (σ.set i r') := by
  obtain ⟨he, fps, hl, hn, hb⟩ := hs
  obtain ⟨fp, hfp, hat⟩ := hl.get hi
  have hmem : ∀ b ∈ fp, b ∈ fps.flatten := fun b hb => List.mem_flatten.2 ⟨fp, List.mem_of_getElem? hfp, hb⟩
  have hfn : fp.Nodup := nodup_mem hn _ (List.mem_of_getElem? hfp)
  obtain ⟨fp', h1, h2, h3, h4⟩ := h fp hat hfn fun b hb' => hb b (hmem b hb')
  obtain ⟨h5, h6⟩ := hl.set hn hfp h1 h2 h3 h4
  refine ⟨fun b o ho => h4 b o (he b o ho) fun hf => ?_, _, h5, h6, fun b hb' => ?_⟩
  · have := hb b (hmem b hf); have := lt_of_get ho; omega
  · obtain ⟨f, hf1, hf2⟩ := List.mem_flatten.1 hb'
    rcases List.mem_or_eq_of_mem_set hf1 with hf1 | rfl
    · exact hb b (List.mem_flatten.2 ⟨f, hf1, hf2⟩)
    · rcases h3 b hf2 with h7 | h7
      · exact hb b (hmem b h7)
      · have := he.size; omega
theorem St.as (hs : St H0 H σ) (i : Nat) {r r' : Rs} (hi : σ[i]? = some r) (h : ∀ fp, r.at_ H fp → r'.at_ H fp) : St H0 H (σ.set i r') :=
 hs.upd hi fun fp h1 h2 _ => ⟨fp, h fp h1, h2, fun b hb => .inl hb, fun b o ho _ => ho⟩
theorem St.step (hs : St H0 H σ) (he : Ext H H') : St H0 H' σ := by
 obtain ⟨h1, fps, hl, hn, hb⟩ := hs
 exact ⟨h1.trans he, fps, hl.loc fun b _ o ho => he b o ho, hn, hb⟩
theorem Lie.append {H : Heap} : ∀ {σ τ : List Rs} {f g : List (List Nat)}, Lie H σ f → Lie H τ g → Lie H (σ ++ τ) (f ++ g)
 | [], _, [], _, _, h => h
 | _ :: _, _, _ :: _, _, h, h' => ⟨h.1, Lie.append h.2 h'⟩
theorem Lie.split {H : Heap} : ∀ {σ τ : List Rs} {f : List (List Nat)}, Lie H (σ ++ τ) f → ∃ a b, f = a ++ b ∧ Lie H σ a ∧ Lie H τ b
 | [], _, f, h => ⟨[], f, rfl, trivial, h⟩
 | r :: σ, τ, [], h => h.elim
 | r :: σ, τ, g :: f, h => let ⟨a, b, e, h1, h2⟩ := Lie.split h.2; ⟨g :: a, b, by rw [e]; rfl, ⟨h.1, h1⟩, h2⟩
theorem St.call (hs : St H0 H σ) (ht : St H H' τ) : St H0 H' (τ ++ σ) := by
 obtain ⟨h1, fps, hl, hn, hb⟩ := hs
 obtain ⟨h2, gps, hl2, hn2, hb2⟩ := ht
 refine ⟨h1.trans h2, gps ++ fps, hl2.append (hl.loc fun b _ o ho => h2 b o ho), ?_, fun b h => ?_⟩
 ·rw [List.flatten_append, List.nodup_append]
  refine ⟨hn2, hn, fun a ha b hb' hab => ?_⟩
  subst hab
  have := hb2 a ha; have := hl.has a hb'; omega
 ·rw [List.flatten_append, List.mem_append] at h
  rcases h with h | h
  ·have := hb2 b h; have := h1.size; omega
  ·exact hb b h
theorem St.perm (hs : St H0 H σ) (hp : σ.Perm τ) : St H0 H τ := by
 obtain ⟨he, fps, hl, hn, hb⟩ := hs
 have : ∀ {σ τ : List Rs}, σ.Perm τ → ∀ fps, Lie H σ fps → ∃ gps, Lie H τ gps ∧ fps.Perm gps := by
  intro σ τ hp
  induction hp with
  | nil => intro fps h; exact ⟨fps, h, List.Perm.refl _⟩
  | cons x _ ih =>
   intro fps h
   match fps, h with
   | f :: fps, h => obtain ⟨g, h1, h2⟩ := ih fps h.2; exact ⟨f :: g, ⟨h.1, h1⟩, h2.cons f⟩
  | swap x y l =>
   intro fps h
   match fps, h with
   | f :: g :: fps, h => exact ⟨g :: f :: fps, ⟨h.2.1, h.1, h.2.2⟩, List.Perm.swap _ _ _⟩
  | trans _ _ ih1 ih2 =>
   intro fps h
   obtain ⟨g, h1, h2⟩ := ih1 fps h
   obtain ⟨k, h3, h4⟩ := ih2 g h1
   exact ⟨k, h3, h2.trans h4⟩
 obtain ⟨gps, h1, h2⟩ := this hp fps hl
 exact ⟨he, gps, h1, (h2.flatten.nodup_iff).1 hn, fun b h => hb b ((h2.flatten.mem_iff).2 h)⟩
theorem St.app (hs : St H0 H (σ ++ τ)) : St H0 H σ ∧ St H0 H τ := by
 obtain ⟨he, fps, hl, hn, hb⟩ := hs
 obtain ⟨a, b, rfl, h1, h2⟩ := hl.split
 rw [List.flatten_append, List.nodup_append] at hn
 rw [List.flatten_append] at hb
 exact ⟨⟨he, a, h1, hn.1, fun x hx => hb x (List.mem_append_left _ hx)⟩, ⟨he, b, h2, hn.2.1, fun x hx => hb x (List.mem_append_right _ hx)⟩⟩
theorem St.tail {r : Rs} (hs : St H0 H (r :: σ)) : St H0 H σ := (St.app (σ := [r]) hs).2
theorem St.drop (hs : St H0 H σ) (n : Nat) : St H0 H (σ.drop n) := by
 rw [← List.take_append_drop n σ] at hs
 exact hs.app.2
theorem St.take (hs : St H0 H σ) (n : Nat) : St H0 H (σ.take n) := by
 rw [← List.take_append_drop n σ] at hs
 exact hs.app.1
theorem St.swap {r s : Rs} (hs : St H0 H (r :: s :: σ)) : St H0 H (s :: r :: σ) := hs.perm (List.Perm.swap _ _ _)
theorem St.front (hs : St H0 H σ) (i : Nat) {r : Rs} (hi : σ[i]? = some r) : St H0 H (r :: σ.eraseIdx i) := by
 refine hs.perm ?_
 have : ∀ (l : List Rs) (i : Nat), l[i]? = some r → l.Perm (r :: l.eraseIdx i) := by
  intro l
  induction l with
  | nil => intro i h; simp at h
  | cons x l ih =>
   intro i h
   cases i with
   | zero => simp at h; subst h; exact List.Perm.refl _
   | succ i => exact ((ih i (by simpa using h)).cons x).trans (List.Perm.swap _ _ _)
 exact this σ i hi
theorem St.back {r r' : Rs} {i : Nat} (hi : σ[i]? = some r) (hs : St H0 H (r' :: σ.eraseIdx i)) : St H0 H (σ.set i r') := by
 refine hs.perm ?_
 have : ∀ (l : List Rs) (i : Nat), l[i]? = some r → (r' :: l.eraseIdx i).Perm (l.set i r') := by
  intro l
  induction l with
  | nil => intro i h; simp at h
  | cons x l ih =>
   intro i h
   cases i with
   | zero => exact List.Perm.refl _
   | succ i => exact (List.Perm.swap _ _ _).trans ((ih i (by simpa using h)).cons x)
 exact this σ i hi
theorem St.del (hs : St H0 H σ) (i : Nat) : St H0 H (σ.eraseIdx i) := by
 rcases Nat.lt_or_ge i σ.length with h | h
 ·exact (hs.front i (List.getElem?_eq_getElem h)).tail
 ·rw [List.eraseIdx_of_length_le h]; exact hs
theorem St.cat {r s : Rs} (hs : St H0 H (r :: s :: σ)) : St H0 H (.star r s :: σ) := by
 obtain ⟨he, fps, hl, hn, hb⟩ := hs
 match fps, hl with
 | f :: g :: fps, hl => exact ⟨he, (f ++ g) :: fps, ⟨⟨f, g, rfl, hl.1, hl.2.1⟩, hl.2.2⟩, by simpa using hn, fun b h => hb b (by simpa using h)⟩
theorem St.cut {r s : Rs} (hs : St H0 H (.star r s :: σ)) : St H0 H (r :: s :: σ) := by
 obtain ⟨he, fps, hl, hn, hb⟩ := hs
 match fps, hl with
 | _ :: fps, ⟨⟨f, g, rfl, h1, h2⟩, h3⟩ => exact ⟨he, f :: g :: fps, ⟨h1, h2, h3⟩, by simpa using hn, fun b h => hb b (by simpa using h)⟩
theorem St.unex {α : Type} {f : α → Rs} (hs : St H0 H (.ex f :: σ)) : ∃ a, St H0 H (f a :: σ) := by
 obtain ⟨he, fps, hl, hn, hb⟩ := hs
 match fps, hl with
 | g :: fps, ⟨⟨a, h1⟩, h3⟩ => exact ⟨a, he, g :: fps, ⟨h1, h3⟩, hn, hb⟩
theorem St.inex {α : Type} {f : α → Rs} (a : α) (hs : St H0 H (f a :: σ)) : St H0 H (.ex f :: σ) := by
 obtain ⟨he, fps, hl, hn, hb⟩ := hs
 match fps, hl with
 | g :: fps, ⟨h1, h3⟩ => exact ⟨he, g :: fps, ⟨⟨a, h1⟩, h3⟩, hn, hb⟩
theorem St.fact {q : Prop} {r : Rs} (hs : St H0 H (.pu q r :: σ)) : q ∧ St H0 H (r :: σ) := by
 obtain ⟨he, fps, hl, hn, hb⟩ := hs
 match fps, hl with
 | g :: fps, ⟨⟨a, h1⟩, h3⟩ => exact ⟨a, he, g :: fps, ⟨h1, h3⟩, hn, hb⟩
theorem St.with {q : Prop} {r : Rs} (hq : q) (hs : St H0 H (r :: σ)) : St H0 H (.pu q r :: σ) := by
 obtain ⟨he, fps, hl, hn, hb⟩ := hs
 match fps, hl with
 | g :: fps, ⟨h1, h3⟩ => exact ⟨he, g :: fps, ⟨⟨hq, h1⟩, h3⟩, hn, hb⟩
theorem St.new (hs : St H0 H σ) {r : Rs} {fp : List Nat} (he : Ext H H') (h : r.at_ H' fp) (hn : fp.Nodup) (hb : ∀ b ∈ fp, H.size ≤ b) : St H0 H' (r :: σ) :=
 St.call (τ := [r]) hs ⟨he, [fp], ⟨h, trivial⟩, by simpa using hn, by simpa using hb⟩
theorem St.block (hs : St H0 H σ) (i : Nat) {b : Nat} {cs : Array Value} {ty : TypeId} (hi : σ[i]? = some (.cell b cs ty)) : H[b]? = some (.cells cs ty) := by
 obtain ⟨_, fps, hl, _⟩ := hs
 obtain ⟨fp, _, h⟩ := hl.get hi
 exact h.2
theorem St.get (hs : St H0 H σ) (i : Nat) {b j : Nat} {cs : Array Value} {ty : TypeId} {v : Value} (hi : σ[i]? = some (.cell b cs ty)) (hj : cs[j]? = some v) : Sh.cell H ⟨b, j, none⟩ = some v :=
 cell_get (hs.block i hi) hj
theorem St.alc (hs : St H0 H σ) {cs : Array Value} {ty : TypeId} {K : Nat → Heap → Prop} (hK : ∀ b H', St H0 H' (.cell b cs ty :: σ) → K b H') : Sh.alc H (.cells cs ty) K :=
 hK _ _ (hs.new (Ext.push _ _) (fp := [H.size]) ⟨rfl, get_push_self _ _⟩ (by simp) (by simp))
theorem St.alcE (hs : St H0 H σ) {cs : Array Value} {ty : TypeId} {K : Nat → Heap → Prop} (hK : ∀ b H', Ext H H' → St H0 H' (.cell b cs ty :: σ) → K b H') : Sh.alc H (.cells cs ty) K :=
 hK _ _ (Ext.push _ _) (hs.new (Ext.push _ _) (fp := [H.size]) ⟨rfl, get_push_self _ _⟩ (by simp) (by simp))
theorem St.put (hs : St H0 H σ) (i : Nat) {b j : Nat} {cs : Array Value} {ty : TypeId} {v : Value} {f : Heap → Prop} (hi : σ[i]? = some (.cell b cs ty)) (hj : j < cs.size) (ho : v.oneCell' = true)
    (hK : ∀ H', St H0 H' (σ.set i (.cell b (cs.setIfInBounds j v) ty)) → f H') : stAt H ⟨b, j, none⟩ [v] f :=
  stAt_one (hs.block i hi) hj ho (hK _ (hs.upd hi fun fp h1 _ _ => ⟨[b], ⟨rfl, get_set_self h1.2⟩, by simp, fun x hx => .inl (h1.1 ▸ hx), fun x o ho hx => get_set_ne (fun he => hx (by rw [h1.1, he]; exact List.mem_singleton.2 rfl)) ho⟩))
theorem St.putAll (hs : St H0 H σ) (i : Nat) {b : Nat} {cs : Array Value} {ty : TypeId} {vs : List Value} {f : Heap → Prop} (hi : σ[i]? = some (.cell b cs ty)) (hl : vs.length = cs.size) (ho : ∀ v ∈ vs, v.oneCell' = true)
    (hK : ∀ H', St H0 H' (σ.set i (.cell b vs.toArray ty)) → f H') : stAt H ⟨b, 0, none⟩ vs f :=
  stAt_whole (hs.block i hi) hl ho (hK _ (hs.upd hi fun fp h1 _ _ => ⟨[b], ⟨rfl, get_set_self h1.2⟩, by simp, fun x hx => .inl (h1.1 ▸ hx), fun x o ho hx => get_set_ne (fun he => hx (by rw [h1.1, he]; exact List.mem_singleton.2 rfl)) ho⟩))
theorem St.fs (hs : St H0 H σ) (i : Nat) {p : Option Addr} {l c k : Nat} {el : TypeId} {fs : List Value} (hi : σ[i]? = some (.sl p l c el k fs)) : FS 0 H p l c el k fs := by
 obtain ⟨_, fps, hl, _⟩ := hs
 obtain ⟨fp, _, h⟩ := hl.get hi
 exact h.1
theorem St.rs (hs : St H0 H σ) (i : Nat) {p : Option Addr} {l c k : Nat} {el : TypeId} {fs : List Value} (hi : σ[i]? = some (.sl p l c el k fs)) : RS H p l el k fs := (hs.fs i hi).rs
theorem St.is (hs : St H0 H σ) (i : Nat) {p : Option Addr} {l c : Nat} {el : TypeId} {fs : List Value} (hi : σ[i]? = some (.sl p l c el 1 fs)) : IS H p l fs := (hs.rs i hi).is
theorem FS.resrc {n0 : Nat} {H : Heap} {p : Option Addr} {l c k : Nat} {el : TypeId} {fs : List Value} (h : FS n0 H p l c el k fs) : ∃ fp, (Rs.sl p l c el k fs).at_ H fp ∧ fp.Nodup ∧ (∀ b ∈ fp, n0 ≤ b) ∧ ∀ b ∈ fp, p = some ⟨b, 0, none⟩ := by
 rcases h.at_ with ⟨h1, h2⟩ | ⟨blk, cs, h1, h2, h3, h4, h5⟩
 ·exact ⟨[], ⟨h.lower (Nat.zero_le _), .inl ⟨h1, rfl⟩⟩, by simp, by simp, by simp⟩
 ·exact ⟨[blk], ⟨h.lower (Nat.zero_le _), .inr ⟨blk, h1, rfl⟩⟩, by simp, by simpa using h2, by simpa using h1⟩
theorem St.newSl (hs : St H0 H σ) {p : Option Addr} {l c k : Nat} {el : TypeId} {fs : List Value} (he : Ext H H') (h : FS H.size H' p l c el k fs) : St H0 H' (.sl p l c el k fs :: σ) := by
 obtain ⟨fp, h1, h2, h3, _⟩ := h.resrc
 exact hs.new he h1 h2 h3
theorem St.nilSl (hs : St H0 H σ) (el : TypeId) (k : Nat) : St H0 H (.sl none 0 0 el k [] :: σ) := hs.newSl (Ext.refl _) (FS.nil _ _ _ _)
theorem St.toSl (hs : St H0 H σ) (i : Nat) {b l k : Nat} {cs : Array Value} {ty : TypeId} {fs : List Value} (hi : σ[i]? = some (.cell b cs ty)) (hl : cs.size = l * k) (hf : cs.toList = fs) (ho : ∀ v ∈ fs, v.oneCell' = true) :
    St H0 H (σ.set i (.sl (some ⟨b, 0, none⟩) l l ty k fs)) :=
  hs.as i hi fun fp h => ⟨⟨by rw [← hf]; simpa using hl, Nat.le_refl _, ho, .inr ⟨b, cs, rfl, Nat.zero_le _, h.2, hl, fun j v hv => by rw [← hf] at hv; simpa using hv⟩⟩, .inr ⟨b, rfl, h.1⟩⟩
theorem FS.app2 {n0 : Nat} {H : Heap} {p q : Option Addr} {l c n : Nat} {el : TypeId} {k bytes : Nat} {zero : Array Value} {fs gs : List Value} (h : FS n0 H p l c el k fs) (hrow : Go.Sh.rowOf H q (n * k) gs.toArray) (hgl : gs.length = n * k) (hgo : ∀ v ∈ gs, v.oneCell' = true) (hk : 0 < k) (hn : n0 ≤ H.size) (hz : zero.size = k)
    (hb : (l + n) * bytes ≤ 70368744177664) (hm : l + n ≤ 1000000000000) {K : Option Addr → Nat → Nat → Heap → Prop}
    (hK : ∀ p' c' H', FS n0 H' p' (l + n) c' el k (fs ++ gs) → (∀ (b : Nat) (o : Obj), H[b]? = some o → p ≠ some ⟨b, 0, none⟩ → H'[b]? = some o) → (p' = p ∨ p' = some ⟨H.size, 0, none⟩) → K p' (l + n) c' H') : appQ k bytes zero H p l c q n el K := by
  by_cases hle : l + n ≤ c
  · obtain ⟨g1, g2, xs, g3, g4, _⟩ := h.app' (K := fun p' l' c' H' => p' = p → K p' l' c' H') hrow hgl hgo hk hn hz hb hm fun p' c' H' h1 h2 h3 hp => hK p' c' H' h1 h2 (.inl hp)
    refine ⟨g1, g2, xs, g3, fun hle => ?_, fun hlt => by omega⟩
    have := g4 hle
    cases p with
    | none => exact this rfl
    | some a =>
      obtain ⟨cs, T, a1, a2, a3, a4, a5⟩ := this
      exact ⟨cs, T, a1, a2, a3, a4, a5 rfl⟩
  · obtain ⟨g1, g2, xs, g3, _, g4⟩ := h.app' (K := fun p' l' c' H' => p' = some ⟨H.size, 0, none⟩ → K p' l' c' H') hrow hgl hgo hk hn hz hb hm fun p' c' H' h1 h2 h3 hp => hK p' c' H' h1 h2 (.inr hp)
    refine ⟨g1, g2, xs, g3, fun hle' => by omega, fun hlt => ?_⟩
    obtain ⟨ys, b1, b2⟩ := g4 hlt
    exact ⟨ys, b1, fun c' hc' => b2 c' hc' rfl⟩
theorem Rs.sl_at {H : Heap} {p : Option Addr} {l c k : Nat} {el : TypeId} {fs : List Value} {fp : List Nat} (h : (Rs.sl p l c el k fs).at_ H fp) {b : Nat} (hp : p = some ⟨b, 0, none⟩) : fp = [b] := by
 rcases h.2 with ⟨h1, _⟩ | ⟨blk, h1, h2⟩
 ·rw [hp] at h1; cases h1
 ·rw [hp] at h1; cases h1; exact h2
theorem St.slSet (hs : St H0 H σ) {i : Nat} {p p' : Option Addr} {l c l' c' k : Nat} {el : TypeId} {fs fs' : List Value} (hi : σ[i]? = some (.sl p l c el k fs)) (h : FS 0 H' p' l' c' el k fs')
    (hk : ∀ (b : Nat) (o : Obj), H[b]? = some o → p ≠ some ⟨b, 0, none⟩ → H'[b]? = some o) (hp : p' = p ∨ p' = some ⟨H.size, 0, none⟩) : St H0 H' (σ.set i (.sl p' l' c' el k fs')) := by
  refine hs.upd hi fun fp h1 h2 h3 => ?_
  obtain ⟨fp', g1, g2, _, g4⟩ := h.resrc
  refine ⟨fp', g1, g2, fun b hb => ?_, fun b o ho hb => hk b o ho fun he => hb (by rw [Rs.sl_at h1 he]; exact List.mem_singleton.2 rfl)⟩
  have := g4 b hb
  rcases hp with rfl | hp
  · left; rw [Rs.sl_at h1 this]; exact List.mem_singleton.2 rfl
  · rw [this] at hp; cases hp; exact .inr (Nat.le_refl _)
theorem St.appS (hs : St H0 H σ) (i : Nat) {p q : Option Addr} {l c n k bytes : Nat} {el : TypeId} {zero : Array Value} {fs gs : List Value} (hi : σ[i]? = some (.sl p l c el k fs)) (hrow : Go.Sh.rowOf H q (n * k) gs.toArray) (hgl : gs.length = n * k)
    (hgo : ∀ v ∈ gs, v.oneCell' = true) (hk : 0 < k) (hz : zero.size = k) (hb : (l + n) * bytes ≤ 70368744177664) (hm : l + n ≤ 1000000000000) {K : Option Addr → Nat → Nat → Heap → Prop}
    (hK : ∀ p' c' H', St H0 H' (σ.set i (.sl p' (l + n) c' el k (fs ++ gs))) → K p' (l + n) c' H') : appQ k bytes zero H p l c q n el K :=
  (hs.fs i hi).app2 hrow hgl hgo hk (Nat.zero_le _) hz hb hm fun p' c' H' h1 h2 h3 => hK p' c' H' (hs.slSet hi h1 h2 h3)
theorem St.appC (hs : St H0 H σ) (i m : Nat) {p : Option Addr} {b l c n k bytes : Nat} {el ty : TypeId} {zero cs : Array Value} {fs : List Value} (hi : σ[i]? = some (.sl p l c el k fs)) (hm' : σ[m]? = some (.cell b cs ty)) (hgl : cs.size = n * k)
    (hgo : ∀ v ∈ cs.toList, v.oneCell' = true) (hk : 0 < k) (hz : zero.size = k) (hb : (l + n) * bytes ≤ 70368744177664) (hm : l + n ≤ 1000000000000) {K : Option Addr → Nat → Nat → Heap → Prop}
    (hK : ∀ p' c' H', St H0 H' (σ.set i (.sl p' (l + n) c' el k (fs ++ cs.toList))) → K p' (l + n) c' H') : appQ k bytes zero H p l c (some ⟨b, 0, none⟩) n el K :=
  hs.appS i hi (gs := cs.toList) (show Go.Sh.rowOf H (Option.some ⟨b, 0, none⟩) (n * k) cs.toList.toArray from ⟨by simpa using hgl, by simpa using rowIn_whole (hs.block m hm')⟩) (by simpa using hgl) hgo hk hz hb hm hK
theorem IS.rowOf {H : Heap} {p : Option Addr} {l : Nat} {fs : List Value} (h : IS H p l fs) : Go.Sh.rowOf H p (l * 1) fs.toArray := by
 cases p with
 | none =>
  have : fs = [] := List.eq_nil_iff_forall_not_mem.2 fun v hv => by
   obtain ⟨i, hi⟩ := List.getElem?_of_mem hv
   obtain ⟨a, h1, _⟩ := h.get i v hi
   cases h1
  subst this; rfl
 | some a =>
  refine ⟨by simp [h.len], fun j v hv => ?_⟩
  obtain ⟨a', h1, h2⟩ := h.get j v (by simpa using hv)
  cases h1; exact h2
theorem St.appI (hs : St H0 H σ) (i : Nat) {p q : Option Addr} {l c n bytes : Nat} {el : TypeId} {zero : Array Value} {fs gs : List Value} (hi : σ[i]? = some (.sl p l c el 1 fs)) (hr : IS H q n gs) (ho : ∀ v ∈ gs, v.oneCell' = true) (hz : zero.size = 1)
    (hb : (l + n) * bytes ≤ 70368744177664) (hm : l + n ≤ 1000000000000) {K : Option Addr → Nat → Nat → Heap → Prop}
    (hK : ∀ p' c' H', St H0 H' (σ.set i (.sl p' (l + n) c' el 1 (fs ++ gs))) → K p' (l + n) c' H') : appQ 1 bytes zero H p l c q n el K :=
  hs.appS i hi hr.rowOf (by simp [hr.len]) ho (by decide) hz hb hm hK
theorem St.slPut (hs : St H0 H σ) (i : Nat) {b l c k j : Nat} {el : TypeId} {fs : List Value} {v : Value} {f : Heap → Prop} (hi : σ[i]? = some (.sl (some ⟨b, 0, none⟩) l c el k fs)) (hj : j < fs.length) (ho : v.oneCell' = true)
    (hK : ∀ H', St H0 H' (σ.set i (.sl (some ⟨b, 0, none⟩) l c el k (fs.set j v))) → f H') : stAt H ⟨b, j, none⟩ [v] f :=
  (hs.fs i hi).set hj ho fun H' h1 h2 h3 => hK H' (hs.slSet hi h1 (fun b' o ho hne => h2 b' o ho fun he => hne (by rw [he])) (.inl rfl))
theorem St.slSome (hs : St H0 H σ) (i : Nat) {p : Option Addr} {l c k j : Nat} {el : TypeId} {fs : List Value} (hi : σ[i]? = some (.sl p l c el k fs)) (hj : j < fs.length) : ∃ b, p = some ⟨b, 0, none⟩ := by
 obtain ⟨b, h, _⟩ := (hs.rs i hi).cell (List.getElem?_eq_getElem hj)
 exact ⟨b, h⟩
def kints (k : IntKind) (l : List Int) : List Value := l.map (Value.int k)
theorem kints_get {k : IntKind} {l : List Int} {i : Nat} {v : Int} (h : l[i]? = some v) : (kints k l)[i]? = some (Value.int k v) := by simp [kints, h]
theorem kints_len (k : IntKind) (l : List Int) : (kints k l).length = l.length := by simp [kints]
theorem kints_append (k : IntKind) (a b : List Int) : kints k (a ++ b) = kints k a ++ kints k b := by simp [kints]
theorem kints_set (k : IntKind) (l : List Int) (i : Nat) (v : Int) : (kints k l).set i (.int k v) = kints k (l.set i v) := by simp [kints]
theorem kints_one (k : IntKind) (l : List Int) : ∀ v ∈ kints k l, v.oneCell' = true := fun v hv => by
 obtain ⟨x, _, rfl⟩ := List.mem_map.1 hv; rfl
theorem IS.rd {H : Heap} {p : Option Addr} {l : Nat} {k : IntKind} {ls : List Int} (h : IS H p l (kints k ls)) {i x : Int} (h0 : 0 ≤ i) (h1 : i < l) (hx : ls[i.toNat]? = some x) {K : Int → Prop} (hK : K x) :
    ∃ a : Addr, p = some a ∧ 0 ≤ i ∧ i < ((l : Nat) : Int) ∧ ∃ v : Int, Sh.cell H (Addr.add a (Int.toNat i * 1)) = some (.int k v) ∧ K v := by
  obtain ⟨a, hp, hc⟩ := h.get _ _ (kints_get hx)
  exact ⟨a, hp, h0, h1, x, by simpa using hc, hK⟩
theorem IS.get' {H : Heap} {p : Option Addr} {l : Nat} {k : IntKind} {ls : List Int} (h : IS H p l (kints k ls)) {i : Nat} (hi : i < l) : ∃ x, ls[i]? = some x := by
 have := h.len; rw [kints_len] at this
 exact ⟨ls[i], List.getElem?_eq_getElem (by omega)⟩
theorem IS.length {H : Heap} {p : Option Addr} {l : Nat} {k : IntKind} {ls : List Int} (h : IS H p l (kints k ls)) : ls.length = l := by have := h.len; rwa [kints_len] at this
theorem add_add (a : Addr) (i j : Nat) : (a.add i).add j = a.add (i + j) := by
 obtain ⟨b, o, s⟩ := a
 unfold Addr.add
 cases s <;> simp <;> split <;> split <;> simp_all <;> omega
theorem IS.part {H : Heap} {a : Addr} {l : Nat} {fs : List Value} (h : IS H (some a) l fs) {i n : Nat} (hi : i + n ≤ l) : IS H (some (a.add i)) n ((fs.drop i).take n) := by
 refine ⟨by have := h.len; simp; omega, fun j v hv => ?_⟩
 rw [List.getElem?_take] at hv
 split at hv
 ·rw [List.getElem?_drop] at hv
  obtain ⟨a', h1, h2⟩ := h.get _ _ hv
  cases h1
  refine ⟨_, rfl, ?_⟩
  rw [show (a.add i).add j = a.add (i + j) from add_add a i j]
  exact h2
 ·cases hv
theorem upto {n : Nat} {Q : Nat → Prop} (h : ∀ i, i ≤ n → (i < n → Q (i + 1)) → Q i) : ∀ i, i ≤ n → Q i := by
 have : ∀ m i, n - i = m → i ≤ n → Q i := by
  intro m
  induction m with
  | zero => intro i hm hi; exact h i hi fun hlt => by omega
  | succ m ih => intro i hm hi; exact h i hi fun hlt => ih (i + 1) (by omega) (by omega)
 exact fun i hi => this (n - i) i rfl hi
end Go.Sh
namespace Go.Proofs
open Go.Sh
theorem gD_left {α : Type} (a b : List α) (d : α) (i : Nat) (h : i < a.length) : (a ++ b).getD i d = a.getD i d := by simp [List.getD_eq_getElem?_getD, List.getElem?_append_left h]
theorem gD_right {α : Type} (a b : List α) (d : α) (i : Nat) (h : a.length ≤ i) : (a ++ b).getD i d = b.getD (i - a.length) d := by simp [List.getD_eq_getElem?_getD, List.getElem?_append_right h]
theorem gD_none {α : Type} (a : List α) (d : α) {i : Nat} (h : a.length ≤ i) : a.getD i d = d := by simp [List.getD_eq_getElem?_getD, List.getElem?_eq_none h]
theorem gD_get {α : Type} {a : List α} {d : α} {i : Nat} {x : α} (h : a[i]? = some x) : a.getD i d = x := by simp [List.getD_eq_getElem?_getD, h]
theorem get_gD {α : Type} (a : List α) (d : α) {i : Nat} (h : i < a.length) : a[i]? = some (a.getD i d) := by rw [List.getD_eq_getElem?_getD, List.getElem?_eq_getElem h]; rfl
def bpos (hi : Bool) (i : Nat) : Nat := if hi then 7 - i % 8 else i % 8
def bitB (hi : Bool) (B : List Int) (i : Nat) : Int := B.getD (i / 8) 0 / 2 ^ bpos hi i % 2
def numB (hi : Bool) (B : List Int) (at_ : Nat) : Nat → Int
 | 0 => 0
 | n + 1 => if hi then 2 * numB hi B at_ n + bitB hi B (at_ + n) else numB hi B at_ n + bitB hi B (at_ + n) * 2 ^ n
theorem bpos_lt (hi : Bool) (i : Nat) : bpos hi i < 8 := by unfold bpos; split <;> omega
theorem bpos_ne {hi : Bool} {i j : Nat} (h : i / 8 = j / 8) (hne : i ≠ j) : bpos hi i ≠ bpos hi j := by unfold bpos; split <;> omega
theorem bitB_rng (hi : Bool) (B : List Int) (i : Nat) : bitB hi B i = 0 ∨ bitB hi B i = 1 := by unfold bitB; omega
theorem pow_cast (n : Nat) : ((2 ^ n : Nat) : Int) = (2 : Int) ^ n := by simp
theorem two_pow_pos (n : Nat) : (0 : Int) < 2 ^ n := Int.pow_pos (by omega)
theorem pow_le {m n : Nat} (h : m ≤ n) : (2 : Int) ^ m ≤ 2 ^ n := by
 rw [← pow_cast, ← pow_cast]; exact Int.ofNat_le.2 (Nat.pow_le_pow_right (by omega) h)
theorem numB_rng (hi : Bool) (B : List Int) (at_ : Nat) : ∀ n, 0 ≤ numB hi B at_ n ∧ numB hi B at_ n < 2 ^ n
 | 0 => by simp [numB]
 | n + 1 => by
  have h := numB_rng hi B at_ n
  have hp := two_pow_pos n
  rw [numB, Int.pow_succ]
  rcases bitB_rng hi B (at_ + n) with hb | hb <;> rw [hb] <;> split <;> omega
theorem ofInt_nat {n : Nat} {x : Int} (h0 : 0 ≤ x) (h1 : x < 2 ^ n) : (BitVec.ofInt n x).toNat = x.toNat := by
 rw [BitVec.toNat_ofInt]
 congr 1
 rw [pow_cast]; exact Int.emod_eq_of_lt h0 h1
theorem or_sum {a b : Int} {k : Nat} (a0 : 0 ≤ a) (ak : a < 2 ^ k) (b0 : 0 ≤ b) (hs : a + b * 2 ^ k < 9223372036854775808) : orI .i64 a (b * 2 ^ k) = a + b * 2 ^ k := by
 have hp := two_pow_pos k
 have hb : 0 ≤ b * 2 ^ k := Int.mul_nonneg b0 (Int.le_of_lt hp)
 have e64 : (2 : Int) ^ 64 = 18446744073709551616 := by decide
 unfold orI
 rw [show IntKind.bits .i64 = 64 from rfl, BitVec.toNat_or, ofInt_nat a0 (by omega), ofInt_nat hb (by omega)]
 have h1 : (b * 2 ^ k).toNat = 2 ^ k * b.toNat := by
  obtain ⟨n, rfl⟩ := Int.eq_ofNat_of_zero_le b0
  rw [← pow_cast, ← Int.natCast_mul, Int.toNat_natCast, Int.toNat_natCast, Nat.mul_comm]
 have h2 : a.toNat < 2 ^ k := by
  have := pow_cast k; omega
 rw [h1, Nat.or_comm, ← Nat.two_pow_add_eq_or_of_lt h2, ← h1]
 rw [wrap_id (by omega) (by omega)]
 omega
theorem or_sum' {a b : Int} {k : Nat} (a0 : 0 ≤ a) (ak : a < 2 ^ k) (b0 : 0 ≤ b) (hs : a + b * 2 ^ k < 9223372036854775808) : orI .i64 (b * 2 ^ k) a = a + b * 2 ^ k := by
 rw [← or_sum a0 ak b0 hs]
 unfold orI
 rw [BitVec.or_comm]
theorem shl_of {x : Int} {k : Nat} (h0 : 0 ≤ x) (hk : k ≤ 62) (hs : x * 2 ^ k < 9223372036854775808) : shlI .i64 x k = x * 2 ^ k := by
 unfold shlI
 rw [show min (k : Int).toNat (IntKind.bits .i64) = k from by rw [Int.toNat_natCast]; exact Nat.min_eq_left (by show k ≤ 64; omega)]
 have := Int.mul_nonneg h0 (Int.le_of_lt (two_pow_pos k))
 exact wrap_id (by omega) (by omega)
theorem shr_of (x : Int) {k : Nat} (hk : k ≤ 62) : shrI .i64 x k = x / 2 ^ k := by
 unfold shrI
 rw [show min (k : Int).toNat (IntKind.bits .i64) = k from by rw [Int.toNat_natCast]; exact Nat.min_eq_left (by show k ≤ 64; omega)]
 exact Int.fdiv_eq_ediv_of_nonneg _ (Int.le_of_lt (two_pow_pos k))
theorem shr8_of (x : Int) {k : Nat} (hk : k ≤ 8) : shrI .u8 x k = x / 2 ^ k := by
 unfold shrI
 rw [show min (k : Int).toNat (IntKind.bits .u8) = k from by rw [Int.toNat_natCast]; exact Nat.min_eq_left hk]
 exact Int.fdiv_eq_ediv_of_nonneg _ (Int.le_of_lt (two_pow_pos k))
theorem andI_1 (a : Int) : andI .i64 a (1 : Int) = a % 2 := by
 unfold andI
 rw [show IntKind.bits .i64 = 64 from rfl, BitVec.toNat_and, BitVec.toNat_ofInt, BitVec.toNat_ofInt]
 rw [show ((1 : Int) % ((2 ^ 64 : Nat) : Int)).toNat = 1 from by decide, Nat.and_one_is_mod]
 have h2 : (((a % ((2 ^ 64 : Nat) : Int)).toNat % 2 : Nat) : Int) = a % 2 := by
  rw [show ((2 ^ 64 : Nat) : Int) = 18446744073709551616 from by decide]; omega
 rw [h2]
 exact wrap_id (by omega) (by omega)
theorem one1 {v : Value} (h : v.oneCell' = true) : ∀ u ∈ [v], u.oneCell' = true := fun u hu => by rw [List.mem_singleton.1 hu]; exact h
theorem or_byte : ∀ (x : Fin 256) (j : Fin 8) (b : Fin 2), x.val / 2 ^ j.val % 2 = 0 → orI .u8 (x.val : Int) (shlI .u8 (b.val : Int) (j.val : Int)) = ((x.val + b.val * 2 ^ j.val : Nat) : Int) ∧ x.val + b.val * 2 ^ j.val < 256 := by decide +kernel
theorem bit_set : ∀ (x : Fin 256) (j : Fin 8) (b : Fin 2) (i : Fin 8), x.val / 2 ^ j.val % 2 = 0 → (x.val + b.val * 2 ^ j.val) / 2 ^ i.val % 2 = if i = j then b.val else x.val / 2 ^ i.val % 2 := by decide +kernel
structure WOk (hi : Bool) (ws B : List Int) : Prop where
 len : B.length = (ws.length + 7) / 8
 rng : ∀ x ∈ B, 0 ≤ x ∧ x < 256
 bit : ∀ i : Nat, bitB hi B i = ws.getD i 0
theorem WOk.nil (hi : Bool) : WOk hi [] [] := ⟨rfl, by simp, fun i => by simp [bitB]⟩
theorem getD_rng {B : List Int} (h : ∀ x ∈ B, 0 ≤ x ∧ x < 256) (i : Nat) : 0 ≤ B.getD i 0 ∧ B.getD i 0 < 256 := by
 rw [List.getD_eq_getElem?_getD]
 cases hb : B[i]? with
 | none => simp
 | some x => exact h x (List.mem_of_getElem? hb)
theorem WOk.put {hi : Bool} {ws B : List Int} {b : Int} (h : WOk hi ws B) (hb : b = 0 ∨ b = 1) {C : List Int} (hC : C = if ws.length % 8 = 0 then B ++ [0] else B) :
    ∃ x, C[ws.length / 8]? = some x ∧ 0 ≤ x ∧ x < 256 ∧ WOk hi (ws ++ [b]) (C.set (ws.length / 8) (orI .u8 x (shlI .u8 b (bpos hi ws.length)))) := by
  have hl := h.len
  have hlen : C.length = ws.length / 8 + 1 := by
    rw [hC]; split
    · simp; omega
    · omega
  have hr : ∀ x ∈ C, 0 ≤ x ∧ x < 256 := by
    rw [hC]; split
    · intro x hx
      rcases List.mem_append.1 hx with hx | hx
      · exact h.rng x hx
      · simp at hx; subst hx; omega
    · exact h.rng
  have hbit : ∀ i : Nat, bitB hi C i = ws.getD i 0 := fun i => by
    rw [← h.bit i, hC]
    split
    · unfold bitB
      by_cases hi' : i / 8 < B.length
      · rw [gD_left _ _ _ _ hi']
      · rw [gD_none B _ (by omega)]
        by_cases he : i / 8 = B.length
        · rw [gD_right _ _ _ _ (by omega), he, Nat.sub_self]; rfl
        · rw [gD_none _ _ (by simp; omega)]
    · rfl
  have hx : C[ws.length / 8]? = some (C.getD (ws.length / 8) 0) := by
    rw [List.getD_eq_getElem?_getD, List.getElem?_eq_getElem (by omega)]; rfl
  generalize hxe : C.getD (ws.length / 8) 0 = x at hx
  have hxr := hr x (List.mem_of_getElem? hx)
  refine ⟨x, hx, hxr.1, hxr.2, ?_⟩
  obtain ⟨n, rfl⟩ := Int.eq_ofNat_of_zero_le hxr.1
  have hn : n < 256 := by omega
  obtain ⟨c, hc, rfl⟩ : ∃ c : Nat, c < 2 ∧ b = (c : Int) := by
    rcases hb with rfl | rfl
    · exact ⟨0, by omega, rfl⟩
    · exact ⟨1, by omega, rfl⟩
  have hz : n / 2 ^ bpos hi ws.length % 2 = 0 := by
    have h1 := hbit ws.length
    unfold bitB at h1
    rw [hxe, gD_none _ _ (Nat.le_refl _), ← pow_cast] at h1
    omega
  obtain ⟨ho, ho2⟩ := or_byte ⟨n, hn⟩ ⟨bpos hi ws.length, bpos_lt hi _⟩ ⟨c, hc⟩ hz
  simp only at ho ho2
  rw [ho]
  refine ⟨by rw [List.length_set, hlen, List.length_append, List.length_singleton]; omega, fun y hy => ?_, fun i => ?_⟩
  · rcases List.mem_or_eq_of_mem_set hy with hy | rfl
    · exact hr y hy
    · exact ⟨Int.natCast_nonneg _, Int.ofNat_lt.2 ho2⟩
  · by_cases he : i / 8 = ws.length / 8
    · have hs := bit_set ⟨n, hn⟩ ⟨bpos hi ws.length, bpos_lt hi _⟩ ⟨c, hc⟩ ⟨bpos hi i, bpos_lt hi _⟩ hz
      simp only [Fin.mk.injEq] at hs
      have hg : (C.set (ws.length / 8) ((n + c * 2 ^ bpos hi ws.length : Nat) : Int)).getD (i / 8) 0 = ((n + c * 2 ^ bpos hi ws.length : Nat) : Int) := by
        rw [he, List.getD_eq_getElem?_getD, List.getElem?_set_self (by omega)]; rfl
      unfold bitB
      rw [hg, ← pow_cast]
      by_cases hil : i = ws.length
      · subst hil
        rw [if_pos rfl] at hs
        rw [gD_right _ _ _ _ (Nat.le_refl _), Nat.sub_self]
        show _ = (c : Int)
        omega
      · rw [if_neg (bpos_ne he hil)] at hs
        have h1 := hbit i
        unfold bitB at h1
        rw [he, hxe, ← pow_cast] at h1
        have h2 : (ws ++ [(c : Int)]).getD i 0 = ws.getD i 0 := by
          by_cases hlt : i < ws.length
          · rw [gD_left _ _ _ _ hlt]
          · rw [gD_none _ _ (by simp; omega), gD_none _ _ (by omega)]
        rw [h2, ← h1]
        omega
    · have hg : (C.set (ws.length / 8) ((n + c * 2 ^ bpos hi ws.length : Nat) : Int)).getD (i / 8) 0 = C.getD (i / 8) 0 := by
        rw [List.getD_eq_getElem?_getD, List.getElem?_set_ne (Ne.symm he), ← List.getD_eq_getElem?_getD]
      have h2 : (ws ++ [(c : Int)]).getD i 0 = ws.getD i 0 := by
        by_cases hlt : i < ws.length
        · rw [gD_left _ _ _ _ hlt]
        · rw [gD_none _ _ (by simp; omega), gD_none _ _ (by omega)]
      rw [h2, ← hbit i]
      unfold bitB
      rw [hg]
def bitsOf (hi : Bool) (v : Int) (n : Nat) : List Int := (List.range n).map fun k => v / 2 ^ (if hi then n - 1 - k else k) % 2
theorem bitsOf_len (hi : Bool) (v : Int) (n : Nat) : (bitsOf hi v n).length = n := by simp [bitsOf]
end Go.Proofs
namespace Go.Proofs
open Go.Sh
def Try.i0 : TI := ⟨.tuple [], 1, 0, Value.tuple #[]⟩
theorem Try.tok0 : TIok Try.prog 0 Try.i0 := ⟨by kernel_rfl, by kernel_rfl⟩
def Try.i3 : TI := ⟨.int .i64, 1, 8, Value.int .i64 0⟩
theorem Try.tok3 : TIok Try.prog 3 Try.i3 := ⟨by kernel_rfl, by kernel_rfl⟩
def Try.i4 : TI := ⟨.bool, 1, 1, Value.bool false⟩
theorem Try.tok4 : TIok Try.prog 4 Try.i4 := ⟨by kernel_rfl, by kernel_rfl⟩
def Try.i5 : TI := ⟨.int .u8, 1, 1, Value.int .u8 0⟩
theorem Try.tok5 : TIok Try.prog 5 Try.i5 := ⟨by kernel_rfl, by kernel_rfl⟩
def Try.i9 : TI := ⟨.str, 1, 16, Value.string ByteArray.empty⟩
theorem Try.tok9 : TIok Try.prog 9 Try.i9 := ⟨by kernel_rfl, by kernel_rfl⟩
def Try.i22 : TI := ⟨.sl 5, 1, 24, Value.slice none 0 0⟩
theorem Try.tok22 : TIok Try.prog 22 Try.i22 := ⟨by kernel_rfl, by kernel_rfl⟩
def Try.i26 : TI := ⟨.int .i64, 1, 8, Value.int .i64 0⟩
theorem Try.tok26 : TIok Try.prog 26 Try.i26 := ⟨by kernel_rfl, by kernel_rfl⟩
def Try.i27 : TI := ⟨.tuple [22, 3, 26], 1, 0, Value.tuple #[Value.slice none 0 0, Value.int .i64 0, Value.int .i64 0]⟩
theorem Try.tok27 : TIok Try.prog 27 Try.i27 := ⟨by kernel_rfl, by kernel_rfl⟩
def Try.i31 : TI := ⟨.tuple [22, 3, 3], 1, 0, Value.tuple #[Value.slice none 0 0, Value.int .i64 0, Value.int .i64 0]⟩
theorem Try.tok31 : TIok Try.prog 31 Try.i31 := ⟨by kernel_rfl, by kernel_rfl⟩
def Try.i35 : TI := ⟨.tuple [22, 26], 1, 0, Value.tuple #[Value.slice none 0 0, Value.int .i64 0]⟩
theorem Try.tok35 : TIok Try.prog 35 Try.i35 := ⟨by kernel_rfl, by kernel_rfl⟩
def Try.i38 : TI := ⟨.sl 82, 1, 24, Value.slice none 0 0⟩
theorem Try.tok38 : TIok Try.prog 38 Try.i38 := ⟨by kernel_rfl, by kernel_rfl⟩
def Try.i40 : TI := ⟨.ptr 89, 1, 8, Value.pointer none⟩
theorem Try.tok40 : TIok Try.prog 40 Try.i40 := ⟨by kernel_rfl, by kernel_rfl⟩
def Try.i43 : TI := ⟨.struct [(0, 40)], 1, 8, Value.agg #[Value.pointer none]⟩
theorem Try.tok43 : TIok Try.prog 43 Try.i43 := ⟨by kernel_rfl, by kernel_rfl⟩
def Try.i46 : TI := ⟨.sl 3, 1, 24, Value.slice none 0 0⟩
theorem Try.tok46 : TIok Try.prog 46 Try.i46 := ⟨by kernel_rfl, by kernel_rfl⟩
def Try.i48 : TI := ⟨.struct [(0, 46), (1, 46), (2, 46), (3, 46)], 4, 96, Value.agg #[Value.slice none 0 0, Value.slice none 0 0, Value.slice none 0 0, Value.slice none 0 0]⟩
theorem Try.tok48 : TIok Try.prog 48 Try.i48 := ⟨by kernel_rfl, by kernel_rfl⟩
def Try.i50 : TI := ⟨.tuple [46, 46], 1, 0, Value.tuple #[Value.slice none 0 0, Value.slice none 0 0]⟩
theorem Try.tok50 : TIok Try.prog 50 Try.i50 := ⟨by kernel_rfl, by kernel_rfl⟩
def Try.i55 : TI := ⟨.ptr 59, 1, 8, Value.pointer none⟩
theorem Try.tok55 : TIok Try.prog 55 Try.i55 := ⟨by kernel_rfl, by kernel_rfl⟩
def Try.i56 : TI := ⟨.ptr 103, 1, 8, Value.pointer none⟩
theorem Try.tok56 : TIok Try.prog 56 Try.i56 := ⟨by kernel_rfl, by kernel_rfl⟩
def Try.i59 : TI := ⟨.struct [(0, 56), (1, 22), (2, 3), (3, 26)], 4, 48, Value.agg #[Value.pointer none, Value.slice none 0 0, Value.int .i64 0, Value.int .i64 0]⟩
theorem Try.tok59 : TIok Try.prog 59 Try.i59 := ⟨by kernel_rfl, by kernel_rfl⟩
def Try.i61 : TI := ⟨.ptr 108, 1, 8, Value.pointer none⟩
theorem Try.tok61 : TIok Try.prog 61 Try.i61 := ⟨by kernel_rfl, by kernel_rfl⟩
def Try.i62 : TI := ⟨.tuple [61, 4], 1, 0, Value.tuple #[Value.pointer none, Value.bool false]⟩
theorem Try.tok62 : TIok Try.prog 62 Try.i62 := ⟨by kernel_rfl, by kernel_rfl⟩
def Try.i65 : TI := ⟨.tuple [61, 61], 1, 0, Value.tuple #[Value.pointer none, Value.pointer none]⟩
theorem Try.tok65 : TIok Try.prog 65 Try.i65 := ⟨by kernel_rfl, by kernel_rfl⟩
def Try.i69 : TI := ⟨.ptr 71, 1, 8, Value.pointer none⟩
theorem Try.tok69 : TIok Try.prog 69 Try.i69 := ⟨by kernel_rfl, by kernel_rfl⟩
def Try.i71 : TI := ⟨.struct [(0, 22), (1, 3), (2, 22), (3, 3), (4, 3)], 5, 72, Value.agg #[Value.slice none 0 0, Value.int .i64 0, Value.slice none 0 0, Value.int .i64 0, Value.int .i64 0]⟩
theorem Try.tok71 : TIok Try.prog 71 Try.i71 := ⟨by kernel_rfl, by kernel_rfl⟩
def Try.i73 : TI := ⟨.struct [(0, 46), (1, 46), (2, 3), (3, 4)], 4, 64, Value.agg #[Value.slice none 0 0, Value.slice none 0 0, Value.int .i64 0, Value.bool false]⟩
theorem Try.tok73 : TIok Try.prog 73 Try.i73 := ⟨by kernel_rfl, by kernel_rfl⟩
def Try.i74 : TI := ⟨.tuple [73, 73], 1, 0, Value.tuple #[Value.agg #[Value.slice none 0 0, Value.slice none 0 0, Value.int .i64 0, Value.bool false], Value.agg #[Value.slice none 0 0, Value.slice none 0 0, Value.int .i64 0, Value.bool false]]⟩
theorem Try.tok74 : TIok Try.prog 74 Try.i74 := ⟨by kernel_rfl, by kernel_rfl⟩
def Try.i80 : TI := ⟨.int .u64, 1, 8, Value.int .u64 0⟩
theorem Try.tok80 : TIok Try.prog 80 Try.i80 := ⟨by kernel_rfl, by kernel_rfl⟩
def Try.i82 : TI := ⟨.struct [(0, 3), (1, 3), (2, 5)], 3, 24, Value.agg #[Value.int .i64 0, Value.int .i64 0, Value.int .u8 0]⟩
theorem Try.tok82 : TIok Try.prog 82 Try.i82 := ⟨by kernel_rfl, by kernel_rfl⟩
def Try.i83 : TI := ⟨.ptr 85, 1, 8, Value.pointer none⟩
theorem Try.tok83 : TIok Try.prog 83 Try.i83 := ⟨by kernel_rfl, by kernel_rfl⟩
def Try.i85 : TI := ⟨.struct [(0, 22), (1, 46), (2, 46)], 3, 72, Value.agg #[Value.slice none 0 0, Value.slice none 0 0, Value.slice none 0 0]⟩
theorem Try.tok85 : TIok Try.prog 85 Try.i85 := ⟨by kernel_rfl, by kernel_rfl⟩
def Try.i86 : TI := ⟨.tuple [3, 3], 1, 0, Value.tuple #[Value.int .i64 0, Value.int .i64 0]⟩
theorem Try.tok86 : TIok Try.prog 86 Try.i86 := ⟨by kernel_rfl, by kernel_rfl⟩
def Try.i89 : TI := ⟨.struct [(0, 22), (1, 3), (2, 4)], 3, 40, Value.agg #[Value.slice none 0 0, Value.int .i64 0, Value.bool false]⟩
theorem Try.tok89 : TIok Try.prog 89 Try.i89 := ⟨by kernel_rfl, by kernel_rfl⟩
def Try.i91 : TI := ⟨.tuple [3, 3, 3], 1, 0, Value.tuple #[Value.int .i64 0, Value.int .i64 0, Value.int .i64 0]⟩
theorem Try.tok91 : TIok Try.prog 91 Try.i91 := ⟨by kernel_rfl, by kernel_rfl⟩
def Try.i94 : TI := ⟨.fn, 1, 8, Value.nilFunc⟩
theorem Try.tok94 : TIok Try.prog 94 Try.i94 := ⟨by kernel_rfl, by kernel_rfl⟩
def Try.i95 : TI := ⟨.tuple [46, 4], 1, 0, Value.tuple #[Value.slice none 0 0, Value.bool false]⟩
theorem Try.tok95 : TIok Try.prog 95 Try.i95 := ⟨by kernel_rfl, by kernel_rfl⟩
def Try.i103 : TI := ⟨.struct [(0, 22), (1, 3), (2, 4)], 3, 40, Value.agg #[Value.slice none 0 0, Value.int .i64 0, Value.bool false]⟩
theorem Try.tok103 : TIok Try.prog 103 Try.i103 := ⟨by kernel_rfl, by kernel_rfl⟩
def Try.i104 : TI := ⟨.tuple [3, 4], 1, 0, Value.tuple #[Value.int .i64 0, Value.bool false]⟩
theorem Try.tok104 : TIok Try.prog 104 Try.i104 := ⟨by kernel_rfl, by kernel_rfl⟩
def Try.i106 : TI := ⟨.sl 109, 1, 24, Value.slice none 0 0⟩
theorem Try.tok106 : TIok Try.prog 106 Try.i106 := ⟨by kernel_rfl, by kernel_rfl⟩
def Try.i108 : TI := ⟨.struct [(0, 106)], 1, 24, Value.agg #[Value.slice none 0 0]⟩
theorem Try.tok108 : TIok Try.prog 108 Try.i108 := ⟨by kernel_rfl, by kernel_rfl⟩
def Try.i109 : TI := ⟨.arr 2 3, 2, 16, Value.agg #[Value.int .i64 0, Value.int .i64 0]⟩
theorem Try.tok109 : TIok Try.prog 109 Try.i109 := ⟨by kernel_rfl, by kernel_rfl⟩
def Try.i116 : TI := ⟨.arr 19 3, 19, 152, Value.agg #[Value.int .i64 0, Value.int .i64 0, Value.int .i64 0, Value.int .i64 0, Value.int .i64 0, Value.int .i64 0, Value.int .i64 0, Value.int .i64 0, Value.int .i64 0, Value.int .i64 0, Value.int .i64 0, Value.int .i64 0, Value.int .i64 0, Value.int .i64 0, Value.int .i64 0, Value.int .i64 0, Value.int .i64 0, Value.int .i64 0, Value.int .i64 0]⟩
theorem Try.tok116 : TIok Try.prog 116 Try.i116 := ⟨by kernel_rfl, by kernel_rfl⟩
def Try.i119 : TI := ⟨.sl 22, 1, 24, Value.slice none 0 0⟩
theorem Try.tok119 : TIok Try.prog 119 Try.i119 := ⟨by kernel_rfl, by kernel_rfl⟩
def Try.i124 : TI := ⟨.sl 46, 1, 24, Value.slice none 0 0⟩
theorem Try.tok124 : TIok Try.prog 124 Try.i124 := ⟨by kernel_rfl, by kernel_rfl⟩
def Try.i126 : TI := ⟨.sl 128, 1, 24, Value.slice none 0 0⟩
theorem Try.tok126 : TIok Try.prog 126 Try.i126 := ⟨by kernel_rfl, by kernel_rfl⟩
def Try.i128 : TI := ⟨.struct [(0, 3), (1, 46)], 2, 32, Value.agg #[Value.int .i64 0, Value.slice none 0 0]⟩
theorem Try.tok128 : TIok Try.prog 128 Try.i128 := ⟨by kernel_rfl, by kernel_rfl⟩
def Try.i130 : TI := ⟨.fn, 1, 8, Value.nilFunc⟩
theorem Try.tok130 : TIok Try.prog 130 Try.i130 := ⟨by kernel_rfl, by kernel_rfl⟩
def Try.i141 : TI := ⟨.sl 126, 1, 24, Value.slice none 0 0⟩
theorem Try.tok141 : TIok Try.prog 141 Try.i141 := ⟨by kernel_rfl, by kernel_rfl⟩
def Try.tab : Tab := [(0, Try.i0), (3, Try.i3), (4, Try.i4), (5, Try.i5), (9, Try.i9), (22, Try.i22), (26, Try.i26), (27, Try.i27), (31, Try.i31), (35, Try.i35), (38, Try.i38), (40, Try.i40), (43, Try.i43), (46, Try.i46), (48, Try.i48), (50, Try.i50), (55, Try.i55), (56, Try.i56), (59, Try.i59), (61, Try.i61), (62, Try.i62), (65, Try.i65), (69, Try.i69), (71, Try.i71), (73, Try.i73), (74, Try.i74), (80, Try.i80), (82, Try.i82), (83, Try.i83), (85, Try.i85), (86, Try.i86), (89, Try.i89), (91, Try.i91), (94, Try.i94), (95, Try.i95), (103, Try.i103), (104, Try.i104), (106, Try.i106), (108, Try.i108), (109, Try.i109), (116, Try.i116), (119, Try.i119), (124, Try.i124), (126, Try.i126), (128, Try.i128), (130, Try.i130), (141, Try.i141)]
theorem Try.tab_ok : TabOk Try.prog Try.tab := by
 unfold TabOk Try.tab
 simp only [List.forall_mem_cons]
 exact ⟨Try.tok0, Try.tok3, Try.tok4, Try.tok5, Try.tok9, Try.tok22, Try.tok26, Try.tok27, Try.tok31, Try.tok35, Try.tok38, Try.tok40, Try.tok43, Try.tok46, Try.tok48, Try.tok50, Try.tok55, Try.tok56, Try.tok59, Try.tok61, Try.tok62, Try.tok65, Try.tok69, Try.tok71, Try.tok73, Try.tok74, Try.tok80, Try.tok82, Try.tok83, Try.tok85, Try.tok86, Try.tok89, Try.tok91, Try.tok94, Try.tok95, Try.tok103, Try.tok104, Try.tok106, Try.tok108, Try.tok109, Try.tok116, Try.tok119, Try.tok124, Try.tok126, Try.tok128, Try.tok130, Try.tok141, fun _ h => by cases h⟩
abbrev Try.C := CallsH Try.prog
theorem Try.mixed : Try.prog.follows .mixedOrders = true := by kernel_rfl
theorem Try.cal3 : callable Try.prog 3 := ⟨Try.f3, Try.func3, by kernel_rfl, by kernel_rfl⟩
theorem Try.cal4 : callable Try.prog 4 := ⟨Try.f4, Try.func4, by kernel_rfl, by kernel_rfl⟩
theorem Try.cal5 : callable Try.prog 5 := ⟨Try.f5, Try.func5, by kernel_rfl, by kernel_rfl⟩
theorem Try.cal6 : callable Try.prog 6 := ⟨Try.f6, Try.func6, by kernel_rfl, by kernel_rfl⟩
theorem Try.cal7 : callable Try.prog 7 := ⟨Try.f7, Try.func7, by kernel_rfl, by kernel_rfl⟩
theorem Try.cal8 : callable Try.prog 8 := ⟨Try.f8, Try.func8, by kernel_rfl, by kernel_rfl⟩
theorem Try.cal9 : callable Try.prog 9 := ⟨Try.f9, Try.func9, by kernel_rfl, by kernel_rfl⟩
theorem Try.cal10 : callable Try.prog 10 := ⟨Try.f10, Try.func10, by kernel_rfl, by kernel_rfl⟩
theorem Try.cal11 : callable Try.prog 11 := ⟨Try.f11, Try.func11, by kernel_rfl, by kernel_rfl⟩
theorem Try.cal12 : callable Try.prog 12 := ⟨Try.f12, Try.func12, by kernel_rfl, by kernel_rfl⟩
theorem Try.cal13 : callable Try.prog 13 := ⟨Try.f13, Try.func13, by kernel_rfl, by kernel_rfl⟩
theorem Try.cal14 : callable Try.prog 14 := ⟨Try.f14, Try.func14, by kernel_rfl, by kernel_rfl⟩
theorem Try.cal15 : callable Try.prog 15 := ⟨Try.f15, Try.func15, by kernel_rfl, by kernel_rfl⟩
theorem Try.cal16 : callable Try.prog 16 := ⟨Try.f16, Try.func16, by kernel_rfl, by kernel_rfl⟩
theorem Try.cal17 : callable Try.prog 17 := ⟨Try.f17, Try.func17, by kernel_rfl, by kernel_rfl⟩
theorem Try.cal18 : callable Try.prog 18 := ⟨Try.f18, Try.func18, by kernel_rfl, by kernel_rfl⟩
theorem Try.cal19 : callable Try.prog 19 := ⟨Try.f19, Try.func19, by kernel_rfl, by kernel_rfl⟩
theorem Try.cal20 : callable Try.prog 20 := ⟨Try.f20, Try.func20, by kernel_rfl, by kernel_rfl⟩
theorem Try.cal21 : callable Try.prog 21 := ⟨Try.f21, Try.func21, by kernel_rfl, by kernel_rfl⟩
theorem Try.cal22 : callable Try.prog 22 := ⟨Try.f22, Try.func22, by kernel_rfl, by kernel_rfl⟩
theorem Try.cal23 : callable Try.prog 23 := ⟨Try.f23, Try.func23, by kernel_rfl, by kernel_rfl⟩
theorem Try.cal24 : callable Try.prog 24 := ⟨Try.f24, Try.func24, by kernel_rfl, by kernel_rfl⟩
theorem Try.cal25 : callable Try.prog 25 := ⟨Try.f25, Try.func25, by kernel_rfl, by kernel_rfl⟩
theorem Try.cal26 : callable Try.prog 26 := ⟨Try.f26, Try.func26, by kernel_rfl, by kernel_rfl⟩
theorem Try.cal27 : callable Try.prog 27 := ⟨Try.f27, Try.func27, by kernel_rfl, by kernel_rfl⟩
theorem Try.cal28 : callable Try.prog 28 := ⟨Try.f28, Try.func28, by kernel_rfl, by kernel_rfl⟩
theorem Try.cal30 : callable Try.prog 30 := ⟨Try.f30, Try.func30, by kernel_rfl, by kernel_rfl⟩
theorem Try.cal31 : callable Try.prog 31 := ⟨Try.f31, Try.func31, by kernel_rfl, by kernel_rfl⟩
theorem Try.cal32 : callable Try.prog 32 := ⟨Try.f32, Try.func32, by kernel_rfl, by kernel_rfl⟩
theorem Try.cal33 : callable Try.prog 33 := ⟨Try.f33, Try.func33, by kernel_rfl, by kernel_rfl⟩
theorem Try.cal34 : callable Try.prog 34 := ⟨Try.f34, Try.func34, by kernel_rfl, by kernel_rfl⟩
theorem Try.cal35 : callable Try.prog 35 := ⟨Try.f35, Try.func35, by kernel_rfl, by kernel_rfl⟩
theorem Try.cal36 : callable Try.prog 36 := ⟨Try.f36, Try.func36, by kernel_rfl, by kernel_rfl⟩
theorem Try.cal37 : callable Try.prog 37 := ⟨Try.f37, Try.func37, by kernel_rfl, by kernel_rfl⟩
theorem Try.cal38 : callable Try.prog 38 := ⟨Try.f38, Try.func38, by kernel_rfl, by kernel_rfl⟩
theorem Try.cal40 : callable Try.prog 40 := ⟨Try.f40, Try.func40, by kernel_rfl, by kernel_rfl⟩
theorem Try.cal41 : callable Try.prog 41 := ⟨Try.f41, Try.func41, by kernel_rfl, by kernel_rfl⟩
theorem Try.cal42 : callable Try.prog 42 := ⟨Try.f42, Try.func42, by kernel_rfl, by kernel_rfl⟩
theorem Try.cal43 : callable Try.prog 43 := ⟨Try.f43, Try.func43, by kernel_rfl, by kernel_rfl⟩
theorem Try.cal44 : callable Try.prog 44 := ⟨Try.f44, Try.func44, by kernel_rfl, by kernel_rfl⟩
theorem Try.cal45 : callable Try.prog 45 := ⟨Try.f45, Try.func45, by kernel_rfl, by kernel_rfl⟩
theorem Try.cal46 : callable Try.prog 46 := ⟨Try.f46, Try.func46, by kernel_rfl, by kernel_rfl⟩
theorem Try.cal47 : callable Try.prog 47 := ⟨Try.f47, Try.func47, by kernel_rfl, by kernel_rfl⟩
theorem Try.cal48 : callable Try.prog 48 := ⟨Try.f48, Try.func48, by kernel_rfl, by kernel_rfl⟩
theorem Try.cal49 : callable Try.prog 49 := ⟨Try.f49, Try.func49, by kernel_rfl, by kernel_rfl⟩
theorem Try.cal50 : callable Try.prog 50 := ⟨Try.f50, Try.func50, by kernel_rfl, by kernel_rfl⟩
theorem Try.cal51 : callable Try.prog 51 := ⟨Try.f51, Try.func51, by kernel_rfl, by kernel_rfl⟩
theorem Try.cal52 : callable Try.prog 52 := ⟨Try.f52, Try.func52, by kernel_rfl, by kernel_rfl⟩
theorem Try.cal53 : callable Try.prog 53 := ⟨Try.f53, Try.func53, by kernel_rfl, by kernel_rfl⟩
theorem Try.cal54 : callable Try.prog 54 := ⟨Try.f54, Try.func54, by kernel_rfl, by kernel_rfl⟩
theorem Try.cal55 : callable Try.prog 55 := ⟨Try.f55, Try.func55, by kernel_rfl, by kernel_rfl⟩
theorem Try.cal56 : callable Try.prog 56 := ⟨Try.f56, Try.func56, by kernel_rfl, by kernel_rfl⟩
theorem Try.cal57 : callable Try.prog 57 := ⟨Try.f57, Try.func57, by kernel_rfl, by kernel_rfl⟩
theorem Try.cal58 : callable Try.prog 58 := ⟨Try.f58, Try.func58, by kernel_rfl, by kernel_rfl⟩
theorem Try.cal59 : callable Try.prog 59 := ⟨Try.f59, Try.func59, by kernel_rfl, by kernel_rfl⟩
theorem Try.cal61 : callable Try.prog 61 := ⟨Try.f61, Try.func61, by kernel_rfl, by kernel_rfl⟩
theorem Try.cal62 : callable Try.prog 62 := ⟨Try.f62, Try.func62, by kernel_rfl, by kernel_rfl⟩
theorem Try.cal63 : callable Try.prog 63 := ⟨Try.f63, Try.func63, by kernel_rfl, by kernel_rfl⟩
theorem Try.cal64 : callable Try.prog 64 := ⟨Try.f64, Try.func64, by kernel_rfl, by kernel_rfl⟩
theorem Try.cal65 : callable Try.prog 65 := ⟨Try.f65, Try.func65, by kernel_rfl, by kernel_rfl⟩
theorem Try.cal66 : callable Try.prog 66 := ⟨Try.f66, Try.func66, by kernel_rfl, by kernel_rfl⟩
theorem Try.cal68 : callable Try.prog 68 := ⟨Try.f68, Try.func68, by kernel_rfl, by kernel_rfl⟩
theorem Try.cal69 : callable Try.prog 69 := ⟨Try.f69, Try.func69, by kernel_rfl, by kernel_rfl⟩
theorem Try.cal70 : callable Try.prog 70 := ⟨Try.f70, Try.func70, by kernel_rfl, by kernel_rfl⟩
theorem Try.cal71 : callable Try.prog 71 := ⟨Try.f71, Try.func71, by kernel_rfl, by kernel_rfl⟩
theorem Try.cal72 : callable Try.prog 72 := ⟨Try.f72, Try.func72, by kernel_rfl, by kernel_rfl⟩
theorem Try.cal73 : callable Try.prog 73 := ⟨Try.f73, Try.func73, by kernel_rfl, by kernel_rfl⟩
theorem Try.cal74 : callable Try.prog 74 := ⟨Try.f74, Try.func74, by kernel_rfl, by kernel_rfl⟩
theorem Try.cal75 : callable Try.prog 75 := ⟨Try.f75, Try.func75, by kernel_rfl, by kernel_rfl⟩
theorem Try.cal76 : callable Try.prog 76 := ⟨Try.f76, Try.func76, by kernel_rfl, by kernel_rfl⟩
theorem Try.cal77 : callable Try.prog 77 := ⟨Try.f77, Try.func77, by kernel_rfl, by kernel_rfl⟩
theorem Try.cal78 : callable Try.prog 78 := ⟨Try.f78, Try.func78, by kernel_rfl, by kernel_rfl⟩
theorem Try.cal79 : callable Try.prog 79 := ⟨Try.f79, Try.func79, by kernel_rfl, by kernel_rfl⟩
theorem Try.cal80 : callable Try.prog 80 := ⟨Try.f80, Try.func80, by kernel_rfl, by kernel_rfl⟩
theorem Try.cal81 : callable Try.prog 81 := ⟨Try.f81, Try.func81, by kernel_rfl, by kernel_rfl⟩
theorem Try.cal82 : callable Try.prog 82 := ⟨Try.f82, Try.func82, by kernel_rfl, by kernel_rfl⟩
theorem Try.cal83 : callable Try.prog 83 := ⟨Try.f83, Try.func83, by kernel_rfl, by kernel_rfl⟩
theorem Try.cal84 : callable Try.prog 84 := ⟨Try.f84, Try.func84, by kernel_rfl, by kernel_rfl⟩
theorem Try.cal85 : callable Try.prog 85 := ⟨Try.f85, Try.func85, by kernel_rfl, by kernel_rfl⟩
theorem Try.cal86 : callable Try.prog 86 := ⟨Try.f86, Try.func86, by kernel_rfl, by kernel_rfl⟩
theorem Try.cal87 : callable Try.prog 87 := ⟨Try.f87, Try.func87, by kernel_rfl, by kernel_rfl⟩
theorem Try.cal88 : callable Try.prog 88 := ⟨Try.f88, Try.func88, by kernel_rfl, by kernel_rfl⟩
theorem Try.cal89 : callable Try.prog 89 := ⟨Try.f89, Try.func89, by kernel_rfl, by kernel_rfl⟩
theorem Try.cal90 : callable Try.prog 90 := ⟨Try.f90, Try.func90, by kernel_rfl, by kernel_rfl⟩
theorem Try.cal91 : callable Try.prog 91 := ⟨Try.f91, Try.func91, by kernel_rfl, by kernel_rfl⟩
theorem Try.cal92 : callable Try.prog 92 := ⟨Try.f92, Try.func92, by kernel_rfl, by kernel_rfl⟩
theorem Try.cal93 : callable Try.prog 93 := ⟨Try.f93, Try.func93, by kernel_rfl, by kernel_rfl⟩
theorem Try.cal94 : callable Try.prog 94 := ⟨Try.f94, Try.func94, by kernel_rfl, by kernel_rfl⟩
theorem Try.cal95 : callable Try.prog 95 := ⟨Try.f95, Try.func95, by kernel_rfl, by kernel_rfl⟩
theorem Try.cal96 : callable Try.prog 96 := ⟨Try.f96, Try.func96, by kernel_rfl, by kernel_rfl⟩
theorem Try.cal97 : callable Try.prog 97 := ⟨Try.f97, Try.func97, by kernel_rfl, by kernel_rfl⟩
end Go.Proofs
namespace Go.Proofs
open Go.Sh Go.Sh.Plan
open Go.IntKind (wrap)
open Int (toNat)
def Try.S3 (b1p : OA) (b1l b1c : Nat) (ef2 : Int) (mo3p : OA) (mo3l mo3c : Nat) (H : Heap) (R : Kv) : Prop :=
 Try.C 7 #[] H fun r4 H5 => ∃ r6, r4 = .bool r6 ∧ br (!r6)
 (R (.bool false) H5)
 (∀ J7 : Kl, (∀ H8, (0 ≤ (0 : Int) ∧ (0 : Int) ≤ (wrap .i64 ((b1l : Int) + 9)) ∧ ((1 : Nat) : Int) * (wrap .i64 ((b1l : Int) + 9)) ≤ 281474976710656 ∧ (wrap .i64 ((b1l : Int) + 9)) ≤ 281474976710656 ∧ alc H8 (.cells (List.toArray (reps (toNat (wrap .i64 ((b1l : Int) + 9))) (Array.toList #[.int .u8 0]))) 5) fun b9 H10 => appQ 1 1 #[.int .u8 0] H10 (some ⟨b9, 0, none⟩) (toNat 0) (toNat (wrap .i64 ((b1l : Int) + 9))) b1p b1l 5 fun gi11p gi11l gi11c H12 => Try.C 8 #[.slice gi11p gi11l gi11c, .int .i64 ef2] H12 fun r13 H14 => ∃ s15p s15l s15c, r13 = .slice s15p s15l s15c ∧ ∀ J16 : Kl, (∀ H17, (Try.C 11 #[.slice s15p s15l s15c, .slice mo3p mo3l mo3c] H17 fun r18 H19 => ∃ r20p r20l r20c, r18 = .slice r20p r20l r20c ∧ Try.C 10 #[.slice r20p r20l r20c, .int .i64 (b1l : Int)] H19 fun r21 H22 => ∃ r23p r23l r23c r24 r25, r21 = .tuple #[.slice r23p r23l r23c, .int .i64 r24, .int .i64 r25] ∧ br (r25 == 0) (br (r24 == (s15l : Int)) (Try.C 9 #[.slice r23p r23l r23c, .slice b1p b1l b1c] H22 fun r26 H27 => ∃ r28, r26 = .bool r28 ∧ R (.bool r28) H27) (R (.bool false) H22)) (R (.bool false) H22)) → J16 [] H17) →
 Try.C 9 #[.slice gi11p gi11l gi11c, .slice b1p b1l b1c] H14 fun r29 H30 => ∃ r31, r29 = .bool r31 ∧ br (!r31) (R (.bool false) H30) ((65535 : Int) ≠ 0 ∧ br (decide (((s15l : Int) : Int) > (wrap .i64 ((b1l : Int) + (wrap .i64 ((5 : Int) * (wrap .i64 ((wrap .i64 (Int.tdiv (b1l : Int) 65535)) + 1))))))))
 (R (.bool false) H30)
 (J16 [] H30))) → J7 [] H8) →
 br (decide (((b1l : Int) : Int) > 20000)) (R (.bool true) H5) (br (decide (((mo3l : Int) : Int) > 100))
 (R (.bool true) H5)
 (J7 [] H5)))
def Try.p3 : Plan := (tl (tg (two (join [] [0, 1, 2] g0) (tl (tl (two (join [] [0, 2, 8] g0) (tl (tl leaf))))))))
theorem Try.s3 {b1p : OA} {b1l b1c : Nat} {ef2 : Int} {mo3p : OA} {mo3l mo3c : Nat} {H R} (h : Try.S3 b1p b1l b1c ef2 mo3p mo3l mo3c H R) : Try.C 3 #[.slice b1p b1l b1c, .int .i64 ef2, .slice mo3p mo3l mo3c] H R := vcs Try.tab_ok Try.mixed Try.func3 Try.cal3 Try.p3 h (by kernel_rfl)
def Try.S4 (b1p : OA) (b1l b1c : Nat) (ef2 : Int) (H : Heap) (R : Kv) : Prop :=
 Try.C 7 #[] H fun r3 H4 => ∃ r5, r3 = .bool r5 ∧ br (!r5)
 (R (.bool false) H4)
 (br (decide (((b1l : Int) : Int) > 600))
 (R (.bool true) H4)
 (Try.C 8 #[.slice b1p b1l b1c, .int .i64 ef2] H4 fun r6 H7 => ∃ r8p r8l r8c, r6 = .slice r8p r8l r8c ∧ Try.C 12 #[.slice r8p r8l r8c, .int .i64 (b1l : Int)] H7 fun r9 H10 => ∃ r11p r11l r11c r12 r13, r9 = .tuple #[.slice r11p r11l r11c, .int .i64 r12, .int .i64 r13] ∧ br (r13 == 0) (Try.C 8 #[.slice b1p b1l b1c, .int .i64 ef2] H10 fun r14 H15 => ∃ r16p r16l r16c, r14 = .slice r16p r16l r16c ∧ br (r12 == (r16l : Int)) (Try.C 9 #[.slice r11p r11l r11c, .slice b1p b1l b1c] H15 fun r17 H18 => ∃ r19, r17 = .bool r19 ∧ R (.bool r19) H18) (R (.bool false) H15)) (R (.bool false) H10)))
def Try.p4 : Plan := (tl (tg (tg (tl (tl leaf)))))
theorem Try.s4 {b1p : OA} {b1l b1c : Nat} {ef2 : Int} {H R} (h : Try.S4 b1p b1l b1c ef2 H R) : Try.C 4 #[.slice b1p b1l b1c, .int .i64 ef2] H R := vcs Try.tab_ok Try.mixed Try.func4 Try.cal4 Try.p4 h (by kernel_rfl)
def Try.S5 (b1p : OA) (b1l b1c : Nat) (ef2 at_3 le4 : Int) (H : Heap) (R : Kv) : Prop :=
 Try.C 7 #[] H fun r5 H6 => ∃ r7, r5 = .bool r7 ∧ br (!r7)
 (R (.bool false) H6)
 (∀ J8 : Kl, (∀ H9, (Try.C 8 #[.slice b1p b1l b1c, .int .i64 ef2] H9 fun r10 H11 => ∃ s12p s12l s12c, r10 = .slice s12p s12l s12c ∧ br (((s12l : Int) : Int) == 0)
 (R (.bool false) H11)
 ((s12l : Int) ≠ 0 ∧ 0 ≤ (Int.tmod at_3 (s12l : Int)) ∧ (Int.tmod at_3 (s12l : Int)) ≤ (s12c : Int) ∧ Try.C 10 #[.slice (if s12c = 0 then s12p else Option.map (fun x => Addr.add x (0 * 1)) s12p) ((toNat (Int.tmod at_3 (s12l : Int))) - 0) (s12c - 0), .int .i64 (b1l : Int)] H11 fun r13 H14 => ∃ r15p r15l r15c r16 r17, r13 = .tuple #[.slice r15p r15l r15c, .int .i64 r16, .int .i64 r17] ∧ Try.C 10 #[.slice s12p s12l s12c, .int .i64 (wrap .i64 ((b1l : Int) - le4))] H14 fun r18 H19 => ∃ r20p r20l r20c r21 r22, r18 = .tuple #[.slice r20p r20l r20c, .int .i64 r21, .int .i64 r22] ∧ br (r17 == 20) (br (r16 == 0) (br (((r15l : Int) : Int) == 0) (br (le4 == 0) (br (r22 == 0) (br (r21 == (s12l : Int)) (R (.bool true) H19) (br (decide (le4 > 0)) (br (r22 == 24) (R (.bool (r21 == 0)) H19) (R (.bool false) H19)) (R (.bool false) H19))) (br (decide (le4 > 0)) (br (r22 == 24) (R (.bool (r21 == 0)) H19) (R (.bool false) H19)) (R (.bool false) H19))) (br (decide (le4 > 0)) (br (r22 == 24) (R (.bool (r21 == 0)) H19) (R (.bool false) H19)) (R (.bool false) H19))) (R (.bool false) H19)) (R (.bool false) H19)) (R (.bool false) H19))) → J8 [] H9) →
 br (decide (((b1l : Int) : Int) > 3000)) (R (.bool true) H6) (br (decide (at_3 < 0)) (R (.bool true) H6) (br (decide (le4 < 0)) (R (.bool true) H6) (br (decide (le4 > (b1l : Int)))
 (R (.bool true) H6)
 (J8 [] H6)))))
def Try.p5 : Plan := (tl (tg (two (join [] [0, 1, 2, 3] g0) (tl (tg (tl (tl (tl leaf))))))))
theorem Try.s5 {b1p : OA} {b1l b1c : Nat} {ef2 at_3 le4 : Int} {H R} (h : Try.S5 b1p b1l b1c ef2 at_3 le4 H R) : Try.C 5 #[.slice b1p b1l b1c, .int .i64 ef2, .int .i64 at_3, .int .i64 le4] H R := vcs Try.tab_ok Try.mixed Try.func5 Try.cal5 Try.p5 h (by kernel_rfl)
def Try.S6 (te1p : OA) (te1l te1c : Nat) (ef2 bi3 c4 : Int) (H : Heap) (R : Kv) : Prop :=
 Try.C 7 #[] H fun r5 H6 => ∃ r7, r5 = .bool r7 ∧ br (!r7)
 (R (.bool false) H6)
 (∀ J8 : Kl, (∀ H9, (Try.C 13 #[.slice te1p te1l te1c, .int .i64 ef2] H9 fun r10 H11 => ∃ z12p z12l z12c, r10 = .slice z12p z12l z12c ∧ br (decide (((z12l : Int) : Int) < 6))
 (R (.bool false) H11)
 (alc H11 (.cells #[] 5) fun b13 H14 => appQ 1 1 #[.int .u8 0] H14 (some ⟨b13, 0, none⟩) 0 0 z12p z12l 5 fun a15p a15l a15c H16 => (8 : Int) ≠ 0 ∧ ∃ a17, a15p = some a17 ∧ 0 ≤ (wrap .i64 ((wrap .i64 ((a15l : Int) - 1)) - (wrap .i64 (Int.tdiv bi3 8)))) ∧ (wrap .i64 ((wrap .i64 ((a15l : Int) - 1)) - (wrap .i64 (Int.tdiv bi3 8)))) < (a15l : Int) ∧ ∃ v18, cell H16 (.add a17 (toNat (wrap .i64 ((wrap .i64 ((a15l : Int) - 1)) - (wrap .i64 (Int.tdiv bi3 8)))) * 1)) = some (.int .u8 v18) ∧ (8 : Int) ≠ 0 ∧ 0 ≤ (Int.tmod bi3 8) ∧ ∃ a19, a15p = some a19 ∧ 0 ≤ (wrap .i64 ((wrap .i64 ((a15l : Int) - 1)) - (wrap .i64 (Int.tdiv bi3 8)))) ∧ (wrap .i64 ((wrap .i64 ((a15l : Int) - 1)) - (wrap .i64 (Int.tdiv bi3 8)))) < (a15l : Int) ∧ stAt H16 (.add a19 (toNat (wrap .i64 ((wrap .i64 ((a15l : Int) - 1)) - (wrap .i64 (Int.tdiv bi3 8)))) * 1)) [.int .u8 (xorI .u8 v18 (shlI .u8 1 (Int.tmod bi3 8)))] fun H20 => Try.C 14 #[.slice a15p a15l a15c, .int .i64 (te1l : Int)] H20 fun r21 H22 => ∃ r23p r23l r23c r24, r21 = .tuple #[.slice r23p r23l r23c, .int .i64 r24] ∧ alc H22 (.cells #[] 5) fun b25 H26 => appQ 1 1 #[.int .u8 0] H26 (some ⟨b25, 0, none⟩) 0 0 z12p z12l 5 fun ap27p ap27l ap27c H28 => alc H28 (.cells #[.int .u8 c4] 5) fun b29 H30 => appQ 1 1 #[.int .u8 0] H30 ap27p ap27l ap27c (some ⟨b29, 0, none⟩) 1 5 fun ap31p ap31l ap31c H32 => Try.C 14 #[.slice ap31p ap31l ap31c, .int .i64 (te1l : Int)] H32 fun r33 H34 => ∃ r35p r35l r35c r36, r33 = .tuple #[.slice r35p r35l r35c, .int .i64 r36] ∧ 0 ≤ (wrap .i64 ((z12l : Int) - 1)) ∧ (wrap .i64 ((z12l : Int) - 1)) ≤ (z12c : Int) ∧ Try.C 14 #[.slice (if z12c = 0 then z12p else Option.map (fun x => Addr.add x (0 * 1)) z12p) ((toNat (wrap .i64 ((z12l : Int) - 1))) - 0) (z12c - 0), .int .i64 (te1l : Int)] H34 fun r37 H38 => ∃ r39p r39l r39c r40, r37 = .tuple #[.slice r39p r39l r39c, .int .i64 r40] ∧ br (r24 == 23) (br (r36 == 25) (R (.bool (r40 == 20)) H38) (R (.bool false) H38)) (R (.bool false) H38))) → J8 [] H9) →
 br (decide (((te1l : Int) : Int) > 2000)) (R (.bool true) H6) (br (decide (bi3 < 0)) (R (.bool true) H6) (br (decide (bi3 > 31))
 (R (.bool true) H6)
 (J8 [] H6))))
def Try.p6 : Plan := (tl (tg (two (join [] [0, 1, 2, 3] g0) (tl (tg (tl (tl (tl (tl (tl (tl leaf)))))))))))
theorem Try.s6 {te1p : OA} {te1l te1c : Nat} {ef2 bi3 c4 : Int} {H R} (h : Try.S6 te1p te1l te1c ef2 bi3 c4 H R) : Try.C 6 #[.slice te1p te1l te1c, .int .i64 ef2, .int .i64 bi3, .int .u8 c4] H R := vcs Try.tab_ok Try.mixed Try.func6 Try.cal6 Try.p6 h (by kernel_rfl)
def Try.S7  (H : Heap) (R : Kv) : Prop :=
 alc H (.cells #[.int .u8 75, .int .u8 4, .int .u8 0, .int .u8 9] 5) fun b1 H2 => Try.C 10 #[.slice (some ⟨b1, 0, none⟩) 4 4, .int .i64 10] H2 fun r3 H4 => ∃ r5p r5l r5c r6 r7, r3 = .tuple #[.slice r5p r5l r5c, .int .i64 r6, .int .i64 r7] ∧ alc H4 (.cells #[.int .u8 120, .int .u8 156, .int .u8 75, .int .u8 4, .int .u8 0, .int .u8 0, .int .u8 98, .int .u8 0, .int .u8 98] 5) fun b8 H9 => Try.C 14 #[.slice (some ⟨b8, 0, none⟩) 9 9, .int .i64 1] H9 fun r10 H11 => ∃ r12p r12l r12c r13, r10 = .tuple #[.slice r12p r12l r12c, .int .i64 r13] ∧ br (r7 == 0) (∃ bs14 : List Int, bsOf H11 r5p r5l bs14 ∧ br (((textOf bs14) : ByteArray) == (ByteArray.mk #[97])) (br (r6 == 3) (br (r13 == 0) (∃ bs15 : List Int, bsOf H11 r12p r12l bs15 ∧ R (.bool (((textOf bs15) : ByteArray) == (ByteArray.mk #[97]))) H11) (R (.bool false) H11)) (R (.bool false) H11)) (R (.bool false) H11)) (R (.bool false) H11)
def Try.p7 : Plan := (tl (tl (tl (tl leaf))))
theorem Try.s7 {_u : Unit} {H R} (h : Try.S7  H R) : Try.C 7 #[] H R := vcs Try.tab_ok Try.mixed Try.func7 Try.cal7 Try.p7 h (by kernel_rfl)
def Try.S8 (b1p : OA) (b1l b1c : Nat) (ef2 : Int) (H : Heap) (R : Kv) : Prop :=
 Try.C 15 #[.slice b1p b1l b1c, .int .i64 ef2] H fun r3 H4 => ∃ li5p li5l li5c, r3 = .slice li5p li5l li5c ∧ Try.C 16 #[.bool false] H4 fun r6 H7 => ∃ r8, r6 = .pointer r8 ∧ alc H7 (.cells #[.pointer none] 43) fun b9 H10 => #[Value.pointer r8].size = 1 ∧ stAt H10 ⟨b9, 0, none⟩ (Array.toList #[.pointer r8]) fun H11 => ∃ Wr12, cell H11 (.add ⟨b9, 0, none⟩ 0) = some (.pointer Wr12) ∧ Try.C 17 #[.pointer Wr12, .int .i64 3, .int .i64 3] H11 fun r13 H14 => ∃ r15, r13 = .bool r15 ∧ ∃ v16, v16.size = 1 ∧ rowIn H14 ⟨b9, 0, none⟩ v16 ∧ Try.C 20 #[] H14 fun r17 H18 => ∃ r19p r19l r19c r20p r20l r20c, r17 = .tuple #[.slice r19p r19l r19c, .slice r20p r20l r20c] ∧ (Ext H14 H18 ∨ (∃ v50, v50.size = 1 ∧ rowIn H18 ⟨b9, 0, none⟩ v50 ∧ Value.agg v50 = .agg v16)) ∧ Try.C 19 #[.slice r19p r19l r19c, .slice r20p r20l r20c] H18 fun r21 H22 => ∃ r23, r21 = .agg r23 ∧ (Ext H18 H22 ∨ (∃ v49, v49.size = 1 ∧ rowIn H22 ⟨b9, 0, none⟩ v49 ∧ Value.agg v49 = .agg v16)) ∧ Try.C 18 #[.agg v16, .slice li5p li5l li5c, .agg r23] H22 fun r24 H25 => r24 = .tuple #[] ∧ ∃ Wr26, cell H25 (.add ⟨b9, 0, none⟩ 0) = some (.pointer Wr26) ∧ Try.C 21 #[.pointer Wr26] H25 fun r27 H28 => ∃ be29p be29l be29c, r27 = .slice be29p be29l be29c ∧ ∀ J30 : Kl, (∀ (be31p : OA) (be31l be31c : Nat) H32, (Try.C 23 #[.slice b1p b1l b1c] H32 fun r33 H34 => ∃ x35p x35l x35c, r33 = .slice x35p x35l x35c ∧ br (decide (((x35l : Int) : Int) < (be31l : Int)))
 (R (.slice x35p x35l x35c) H34)
 (R (.slice be31p be31l be31c) H34)) → J30 [.slice be31p be31l be31c] H32) →
 br (decide (((li5l : Int) : Int) > 20))
 (Try.C 16 #[.bool false] H28 fun r36 H37 => ∃ r38, r36 = .pointer r38 ∧ alc H37 (.cells #[.pointer none] 43) fun b39 H40 => #[Value.pointer r38].size = 1 ∧ stAt H40 ⟨b39, 0, none⟩ (Array.toList #[.pointer r38]) fun H41 => ∃ v42, v42.size = 1 ∧ rowIn H41 ⟨b39, 0, none⟩ v42 ∧ Try.C 22 #[.agg v42, .slice li5p li5l li5c, .int .i64 1] H41 fun r43 H44 => r43 = .tuple #[] ∧ ∃ Wr45, cell H44 (.add ⟨b39, 0, none⟩ 0) = some (.pointer Wr45) ∧ Try.C 21 #[.pointer Wr45] H44 fun r46 H47 => ∃ x48p x48l x48c, r46 = .slice x48p x48l x48c ∧ br (decide (((x48l : Int) : Int) < (be29l : Int)))
 (J30 [.slice x48p x48l x48c] H47)
 (J30 [.slice be29p be29l be29c] H47))
 (J30 [.slice be29p be29l be29c] H28)
def Try.p8 : Plan := (tl (tl (tl (tl (tl (tl (two (join [(7, 22)] [0] (tl (two (tl (tl (tl (tl (tl leaf))))) leaf))) (two (tl (tl (tl leaf))) (tl leaf)))))))))
theorem Try.s8 {b1p : OA} {b1l b1c : Nat} {ef2 : Int} {H R} (h : Try.S8 b1p b1l b1c ef2 H R) : Try.C 8 #[.slice b1p b1l b1c, .int .i64 ef2] H R := vcs Try.tab_ok Try.mixed Try.func8 Try.cal8 Try.p8 h (by kernel_rfl)
def Try.S9 (a1p : OA) (a1l a1c : Nat) (b2p : OA) (b2l b2c : Nat) (H : Heap) (R : Kv) : Prop :=
 br (((a1l : Int) : Int) != (b2l : Int))
 (R (.bool false) H)
 (∀ X3 : Kl, (∀ (i4 : Int) H5, (br (decide (i4 < (a1l : Int)))
 (∃ a6, a1p = some a6 ∧ 0 ≤ i4 ∧ i4 < (a1l : Int) ∧ ∃ v7, cell H5 (.add a6 (toNat i4 * 1)) = some (.int .u8 v7) ∧ ∃ a8, b2p = some a8 ∧ 0 ≤ i4 ∧ i4 < (b2l : Int) ∧ ∃ v9, cell H5 (.add a8 (toNat i4 * 1)) = some (.int .u8 v9) ∧ br (v7 != v9)
 (R (.bool false) H5)
 (X3 [.int .i64 (wrap .i64 (i4 + 1))] H5))
 (R (.bool true) H5)) → X3 [.int .i64 i4] H5) → X3 [.int .i64 0] H)
def Try.p9 : Plan := (tl (tg (two (tl (one (loop [(5, 3)] [0, 1] (two (tl (tl leaf)) (two (one g0) leaf))))) (tl leaf))))
theorem Try.s9 {a1p : OA} {a1l a1c : Nat} {b2p : OA} {b2l b2c : Nat} {H R} (h : Try.S9 a1p a1l a1c b2p b2l b2c H R) : Try.C 9 #[.slice a1p a1l a1c, .slice b2p b2l b2c] H R := vcs Try.tab_ok Try.mixed Try.func9 Try.cal9 Try.p9 h (by kernel_rfl)
def Try.S10 (b1p : OA) (b1l b1c : Nat) (mo2 : Int) (H : Heap) (R : Kv) : Prop :=
 Try.C 24 #[.slice b1p b1l b1c, .bool false] H fun r3 H4 => ∃ r5, r3 = .pointer r5 ∧ alc H4 (.cells #[.pointer r5, .slice none 0 0, .int .i64 (max mo2 0), .int .i64 0] 59) fun b6 H7 => ∀ J8 : Kl, (∀ H9, (∃ a10, (some ⟨b6, 0, none⟩) = some a10 ∧ ∃ e11, cell H9 (.add a10 3) = some (.int .i64 e11) ∧ br (e11 != 0)
 (∃ a12, (some ⟨b6, 0, none⟩) = some a12 ∧ ∃ e13, cell H9 (.add a12 3) = some (.int .i64 e13) ∧ R (.tuple #[.slice none 0 0, .int .i64 0, .int .i64 e13]) H9)
 (∃ a14, (some ⟨b6, 0, none⟩) = some a14 ∧ ∃ ou15p ou15l ou15c, cell H9 (.add a14 1) = some (.slice ou15p ou15l ou15c) ∧ ∃ a16, (some ⟨b6, 0, none⟩) = some a16 ∧ ∃ r17, cell H9 (.add a16 0) = some (.pointer r17) ∧ Try.C 31 #[.pointer r17] H9 fun r18 H19 => ∃ r20, r18 = .int .i64 r20 ∧ (Ext H9 H19 ∨ (∃ ou21p ou21l ou21c, cell H19 (.add a14 1) = some (.slice ou21p ou21l ou21c) ∧ Value.slice ou21p ou21l ou21c = .slice ou15p ou15l ou15c)) ∧ (8 : Int) ≠ 0 ∧ R (.tuple #[.slice ou15p ou15l ou15c, .int .i64 (wrap .i64 (Int.tdiv (wrap .i64 (r20 + 7)) 8)), .int .i64 0]) H19)) → J8 [] H9) →
 ∀ X22 : Kl, (∀ (la23 : Bool) H24, (∀ J25 : Kl, (∀ H26, (Try.C 25 #[.pointer (some ⟨b6, 0, none⟩), .int .i64 1] H26 fun r27 H28 => ∃ r29, r27 = .int .i64 r29 ∧ Try.C 25 #[.pointer (some ⟨b6, 0, none⟩), .int .i64 2] H28 fun r30 H31 => ∃ ki32, r30 = .int .i64 ki32 ∧ ∃ a33, (some ⟨b6, 0, none⟩) = some a33 ∧ ∃ e34, cell H31 (.add a33 3) = some (.int .i64 e34) ∧ br (e34 != 0)
 (X22 [.bool (r29 == 1)] H31)
 (br (ki32 == 0)
 (Try.C 26 #[.pointer (some ⟨b6, 0, none⟩)] H31 fun r35 H36 => r35 = .tuple #[] ∧ X22 [.bool (r29 == 1)] H36)
 (br (ki32 == 1)
 (Try.C 20 #[] H31 fun r37 H38 => ∃ r39p r39l r39c r40p r40l r40c, r37 = .tuple #[.slice r39p r39l r39c, .slice r40p r40l r40c] ∧ Try.C 27 #[.slice r39p r39l r39c] H38 fun r41 H42 => ∃ r43 r44, r41 = .tuple #[.pointer r43, .bool r44] ∧ Try.C 27 #[.slice r40p r40l r40c] H42 fun r45 H46 => ∃ r47 r48, r45 = .tuple #[.pointer r47, .bool r48] ∧ Try.C 28 #[.pointer (some ⟨b6, 0, none⟩), .pointer r43, .pointer r47] H46 fun r49 H50 => r49 = .tuple #[] ∧ X22 [.bool (r29 == 1)] H50)
 (br (ki32 == 2)
 (Try.C 29 #[.pointer (some ⟨b6, 0, none⟩)] H31 fun r51 H52 => ∃ r53 r54, r51 = .tuple #[.pointer r53, .pointer r54] ∧ Try.C 28 #[.pointer (some ⟨b6, 0, none⟩), .pointer r53, .pointer r54] H52 fun r55 H56 => r55 = .tuple #[] ∧ X22 [.bool (r29 == 1)] H56)
 (Try.C 30 #[.pointer (some ⟨b6, 0, none⟩), .int .i64 25] H31 fun r57 H58 => r57 = .tuple #[] ∧ X22 [.bool (r29 == 1)] H58))))) → J25 [] H26) →
 br (!la23) (∃ a59, (some ⟨b6, 0, none⟩) = some a59 ∧ ∃ e60, cell H24 (.add a59 3) = some (.int .i64 e60) ∧ br (e60 == 0)
 (J25 [] H24)
 (J8 [] H24)) (J8 [] H24)) → X22 [.bool la23] H24) → X22 [.bool false] H7
def Try.p10 : Plan := (tl (tl (two (join [] [7] (tl (one (loop [(8, 4)] [7] (two (join [] [7] (tl (tl leaf))) (one (tl (tl (one (tl (tl (tl (tl (tl (two (tl (tl (tl leaf))) g0))))))))))))))) (tg (tl leaf)))))
theorem Try.s10 {b1p : OA} {b1l b1c : Nat} {mo2 : Int} {H R} (h : Try.S10 b1p b1l b1c mo2 H R) : Try.C 10 #[.slice b1p b1l b1c, .int .i64 mo2] H R := vcs Try.tab_ok Try.mixed Try.func10 Try.cal10 Try.p10 h (by kernel_rfl)
def Try.S11 (a1p : OA) (a1l a1c : Nat) (b2p : OA) (b2l b2c : Nat) (H : Heap) (R : Kv) : Prop :=
 alc H (.cells #[] 5) fun b3 H4 => appQ 1 1 #[.int .u8 0] H4 (some ⟨b3, 0, none⟩) 0 0 a1p a1l 5 fun ou5p ou5l ou5c H6 => appQ 1 1 #[.int .u8 0] H6 ou5p ou5l ou5c b2p b2l 5 fun ap7p ap7l ap7c H8 => R (.slice ap7p ap7l ap7c) H8
def Try.p11 : Plan := (tl (tl (tl leaf)))
theorem Try.s11 {a1p : OA} {a1l a1c : Nat} {b2p : OA} {b2l b2c : Nat} {H R} (h : Try.S11 a1p a1l a1c b2p b2l b2c H R) : Try.C 11 #[.slice a1p a1l a1c, .slice b2p b2l b2c] H R := vcs Try.tab_ok Try.mixed Try.func11 Try.cal11 Try.p11 h (by kernel_rfl)
def Try.S12 (b1p : OA) (b1l b1c : Nat) (mo2 : Int) (H : Heap) (R : Kv) : Prop :=
 ∀ J3 : Kl, (∀ (mo4 : Int) H5, (alc H5 (.cells #[.slice b1p b1l b1c, .int .i64 0, .slice none 0 0, .int .i64 mo4, .int .i64 0] 71) fun b6 H7 => ∀ J8 : Kl, (∀ H9, (∃ a10, (some ⟨b6, 0, none⟩) = some a10 ∧ ∃ E11, cell H9 (.add a10 4) = some (.int .i64 E11) ∧ br (E11 != 0)
 (∃ a12, (some ⟨b6, 0, none⟩) = some a12 ∧ ∃ E13, cell H9 (.add a12 4) = some (.int .i64 E13) ∧ R (.tuple #[.slice none 0 0, .int .i64 0, .int .i64 E13]) H9)
 (∃ a14, (some ⟨b6, 0, none⟩) = some a14 ∧ ∃ Ou15p Ou15l Ou15c, cell H9 (.add a14 2) = some (.slice Ou15p Ou15l Ou15c) ∧ ∃ a16, (some ⟨b6, 0, none⟩) = some a16 ∧ ∃ At17, cell H9 (.add a16 1) = some (.int .i64 At17) ∧ (8 : Int) ≠ 0 ∧ R (.tuple #[.slice Ou15p Ou15l Ou15c, .int .i64 (wrap .i64 (Int.tdiv (wrap .i64 (At17 + 7)) 8)), .int .i64 0]) H9)) → J8 [] H9) →
 ∀ X18 : Kl, (∀ (la19 : Int) H20, (∀ J21 : Kl, (∀ H22, (Try.C 32 #[.pointer (some ⟨b6, 0, none⟩), .int .i64 1] H22 fun r23 H24 => ∃ la25, r23 = .int .i64 la25 ∧ Try.C 32 #[.pointer (some ⟨b6, 0, none⟩), .int .i64 2] H24 fun r26 H27 => ∃ ki28, r26 = .int .i64 ki28 ∧ ∃ a29, (some ⟨b6, 0, none⟩) = some a29 ∧ ∃ E30, cell H27 (.add a29 4) = some (.int .i64 E30) ∧ br (E30 != 0)
 (J8 [] H27)
 (br (ki28 == 0)
 (Try.C 33 #[.pointer (some ⟨b6, 0, none⟩)] H27 fun r31 H32 => r31 = .tuple #[] ∧ X18 [.int .i64 la25] H32)
 (br (ki28 == 1)
 (Try.C 34 #[] H27 fun r33 H34 => ∃ r35 r36, r33 = .tuple #[.agg r35, .agg r36] ∧ alc H34 (.cells #[.slice none 0 0, .slice none 0 0, .int .i64 0, .bool false] 73) fun b37 H38 => alc H38 (.cells #[.slice none 0 0, .slice none 0 0, .int .i64 0, .bool false] 73) fun b39 H40 => r35.size = 4 ∧ stAt H40 ⟨b37, 0, none⟩ r35.toList fun H41 => r36.size = 4 ∧ stAt H41 ⟨b39, 0, none⟩ r36.toList fun H42 => ∃ v43, v43.size = 4 ∧ rowIn H42 ⟨b37, 0, none⟩ v43 ∧ ∃ v44, v44.size = 4 ∧ rowIn H42 ⟨b39, 0, none⟩ v44 ∧ Try.C 35 #[.pointer (some ⟨b6, 0, none⟩), .agg v43, .agg v44] H42 fun r45 H46 => r45 = .tuple #[] ∧ X18 [.int .i64 la25] H46)
 (br (ki28 == 2)
 (Try.C 36 #[.pointer (some ⟨b6, 0, none⟩)] H27 fun r47 H48 => ∃ r49 r50, r47 = .tuple #[.agg r49, .agg r50] ∧ alc H48 (.cells #[.slice none 0 0, .slice none 0 0, .int .i64 0, .bool false] 73) fun b51 H52 => alc H52 (.cells #[.slice none 0 0, .slice none 0 0, .int .i64 0, .bool false] 73) fun b53 H54 => r49.size = 4 ∧ stAt H54 ⟨b51, 0, none⟩ r49.toList fun H55 => r50.size = 4 ∧ stAt H55 ⟨b53, 0, none⟩ r50.toList fun H56 => ∃ v57, v57.size = 4 ∧ rowIn H56 ⟨b51, 0, none⟩ v57 ∧ ∃ v58, v58.size = 4 ∧ rowIn H56 ⟨b53, 0, none⟩ v58 ∧ Try.C 35 #[.pointer (some ⟨b6, 0, none⟩), .agg v57, .agg v58] H56 fun r59 H60 => r59 = .tuple #[] ∧ X18 [.int .i64 la25] H60)
 (Try.C 37 #[.pointer (some ⟨b6, 0, none⟩), .int .i64 25] H27 fun r61 H62 => r61 = .tuple #[] ∧ X18 [.int .i64 la25] H62))))) → J21 [] H22) →
 br (la19 == 0) (∃ a63, (some ⟨b6, 0, none⟩) = some a63 ∧ ∃ E64, cell H20 (.add a63 4) = some (.int .i64 E64) ∧ br (E64 == 0)
 (J21 [] H20)
 (J8 [] H20)) (J8 [] H20)) → X18 [.int .i64 la19] H20) → X18 [.int .i64 0] H7) → J3 [.int .i64 mo4] H5) →
 br (decide (mo2 < 0))
 (J3 [.int .i64 0] H)
 (J3 [.int .i64 mo2] H)
def Try.p12 : Plan := (tl (two (join [(1, 3)] [0] (tl (tl leaf))) (tl (tl (two (join [] [7] (one (loop [(8, 3)] [7] (two (join [] [7] (tl (tl leaf))) (one (tl (tl (two (tl (tl leaf)) (tl (one (tl (tl (tl (two (tl leaf) g0)))))))))))))) (tg (tl leaf)))))))
theorem Try.s12 {b1p : OA} {b1l b1c : Nat} {mo2 : Int} {H R} (h : Try.S12 b1p b1l b1c mo2 H R) : Try.C 12 #[.slice b1p b1l b1c, .int .i64 mo2] H R := vcs Try.tab_ok Try.mixed Try.func12 Try.cal12 Try.p12 h (by kernel_rfl)
def Try.S13 (b1p : OA) (b1l b1c : Nat) (ef2 : Int) (H : Heap) (R : Kv) : Prop :=
 alc H (.cells #[.slice b1p b1l b1c] 22) fun b3 H4 => Try.C 38 #[.slice (some ⟨b3, 0, none⟩) 1 1] H4 fun r5 H6 => ∃ su7, r5 = .int .i64 su7 ∧ alc H6 (.cells #[.int .u8 120, .int .u8 156] 5) fun b8 H9 => Try.C 8 #[.slice b1p b1l b1c, .int .i64 ef2] H9 fun r10 H11 => ∃ r12p r12l r12c, r10 = .slice r12p r12l r12c ∧ 0 ≤ (24 : Int) ∧ 0 ≤ (16 : Int) ∧ 0 ≤ (8 : Int) ∧ alc H11 (.cells #[.int .u8 (wrap .u8 (shrI .i64 su7 24)), .int .u8 (wrap .u8 (shrI .i64 su7 16)), .int .u8 (wrap .u8 (shrI .i64 su7 8)), .int .u8 (wrap .u8 su7)] 5) fun b13 H14 => alc H14 (.cells #[.slice (some ⟨b8, 0, none⟩) 2 2, .slice r12p r12l r12c, .slice (some ⟨b13, 0, none⟩) 4 4] 22) fun b15 H16 => Try.C 39 #[.slice (some ⟨b15, 0, none⟩) 3 3] H16 fun r17 H18 => ∃ r19p r19l r19c, r17 = .slice r19p r19l r19c ∧ R (.slice r19p r19l r19c) H18
def Try.p13 : Plan := (tl (tl (tl leaf)))
theorem Try.s13 {b1p : OA} {b1l b1c : Nat} {ef2 : Int} {H R} (h : Try.S13 b1p b1l b1c ef2 H R) : Try.C 13 #[.slice b1p b1l b1c, .int .i64 ef2] H R := vcs Try.tab_ok Try.mixed Try.func13 Try.cal13 Try.p13 h (by kernel_rfl)
def Try.S14 (b1p : OA) (b1l b1c : Nat) (mo2 : Int) (H : Heap) (R : Kv) : Prop :=
 br (decide (((b1l : Int) : Int) < 2))
 (R (.tuple #[.slice none 0 0, .int .i64 20]) H)
 (∀ J3 : Kl, (∀ H4, (0 ≤ (2 : Int) ∧ (2 : Int) ≤ (b1l : Int) ∧ Try.C 10 #[.slice (if b1c = (toNat 2) then b1p else Option.map (fun x => Addr.add x ((toNat 2) * 1)) b1p) (b1l - (toNat 2)) (b1c - (toNat 2)), .int .i64 mo2] H4 fun r5 H6 => ∃ r7p r7l r7c r8 r9, r5 = .tuple #[.slice r7p r7l r7c, .int .i64 r8, .int .i64 r9] ∧ br (r9 != 0)
 (R (.tuple #[.slice none 0 0, .int .i64 r9]) H6)
 (0 ≤ (wrap .i64 ((2 : Int) + r8)) ∧ (wrap .i64 ((2 : Int) + r8)) ≤ (b1l : Int) ∧ br (decide (((((b1l - (toNat (wrap .i64 ((2 : Int) + r8)))) : Nat) : Int) : Int) < 4))
 (R (.tuple #[.slice none 0 0, .int .i64 20]) H6)
 (0 ≤ (4 : Int) ∧ (4 : Int) ≤ (((b1c - (toNat (wrap .i64 ((2 : Int) + r8)))) : Nat) : Int) ∧ ∀ X10 : Kl, (∀ (su11 t12 : Int) H13, (br (decide (t12 < ((((toNat 4) - 0) : Nat) : Int)))
 (∃ a14, (if (b1c - (toNat (wrap .i64 ((2 : Int) + r8)))) = 0 then (if b1c = (toNat (wrap .i64 ((2 : Int) + r8))) then b1p else Option.map (fun x => Addr.add x ((toNat (wrap .i64 ((2 : Int) + r8))) * 1)) b1p) else Option.map (fun x => Addr.add x (0 * 1)) (if b1c = (toNat (wrap .i64 ((2 : Int) + r8))) then b1p else Option.map (fun x => Addr.add x ((toNat (wrap .i64 ((2 : Int) + r8))) * 1)) b1p)) = some a14 ∧ 0 ≤ t12 ∧ t12 < ((((toNat 4) - 0) : Nat) : Int) ∧ ∃ c15, cell H13 (.add a14 (toNat t12 * 1)) = some (.int .u8 c15) ∧ 0 ≤ (8 : Int) ∧ X10 [.int .i64 (orI .i64 (shlI .i64 su11 8) (wrap .i64 c15)), .int .i64 (wrap .i64 (t12 + 1))] H13)
 (alc H13 (.cells #[.slice r7p r7l r7c] 22) fun b16 H17 => Try.C 38 #[.slice (some ⟨b16, 0, none⟩) 1 1] H17 fun r18 H19 => ∃ r20, r18 = .int .i64 r20 ∧ br (su11 != r20)
 (R (.tuple #[.slice none 0 0, .int .i64 23]) H19)
 (br (decide (((((b1l - (toNat (wrap .i64 ((2 : Int) + r8)))) : Nat) : Int) : Int) > 4))
 (R (.tuple #[.slice none 0 0, .int .i64 25]) H19)
 (R (.tuple #[.slice r7p r7l r7c, .int .i64 0]) H19)))) → X10 [.int .i64 su11, .int .i64 t12] H13) → X10 [.int .i64 0, .int .i64 0] H6))) → J3 [] H4) →
 ∃ a21, b1p = some a21 ∧ 0 ≤ (0 : Int) ∧ (0 : Int) < (b1l : Int) ∧ ∃ v22, cell H (.add a21 (toNat (0 : Int) * 1)) = some (.int .u8 v22) ∧ 0 ≤ (8 : Int) ∧ ∃ a23, b1p = some a23 ∧ 0 ≤ (1 : Int) ∧ (1 : Int) < (b1l : Int) ∧ ∃ v24, cell H (.add a23 (toNat (1 : Int) * 1)) = some (.int .u8 v24) ∧ (31 : Int) ≠ 0 ∧ br (((Int.tmod (orI .i64 (shlI .i64 (wrap .i64 v22) 8) (wrap .i64 v24)) 31) : Int) != 0) (R (.tuple #[.slice none 0 0, .int .i64 25]) H) (∃ a25, b1p = some a25 ∧ 0 ≤ (0 : Int) ∧ (0 : Int) < (b1l : Int) ∧ ∃ v26, cell H (.add a25 (toNat (0 : Int) * 1)) = some (.int .u8 v26) ∧ br (((andI .u8 v26 15) : Int) != 8) (R (.tuple #[.slice none 0 0, .int .i64 25]) H) (∃ a27, b1p = some a27 ∧ 0 ≤ (0 : Int) ∧ (0 : Int) < (b1l : Int) ∧ ∃ v28, cell H (.add a27 (toNat (0 : Int) * 1)) = some (.int .u8 v28) ∧ 0 ≤ (4 : Int) ∧ br (decide (((shrI .u8 v28 4) : Int) > 7)) (R (.tuple #[.slice none 0 0, .int .i64 25]) H) (∃ a29, b1p = some a29 ∧ 0 ≤ (1 : Int) ∧ (1 : Int) < (b1l : Int) ∧ ∃ v30, cell H (.add a29 (toNat (1 : Int) * 1)) = some (.int .u8 v30) ∧ br (((andI .u8 v30 32) : Int) != 0)
 (R (.tuple #[.slice none 0 0, .int .i64 25]) H)
 (J3 [] H)))))
def Try.p14 : Plan := (tl (tg (two (join [] [0, 1] (tl g0)) (tl (tg (tl (tg (tl (two (tl (one (loop [(11, 3), (72, 3)] [7, 10, 70, 71] (tl (two (tl leaf) (two (one (tl leaf)) leaf)))))) (two (one (tl (two (tl leaf) g0))) (tl leaf)))))))))))
theorem Try.s14 {b1p : OA} {b1l b1c : Nat} {mo2 : Int} {H R} (h : Try.S14 b1p b1l b1c mo2 H R) : Try.C 14 #[.slice b1p b1l b1c, .int .i64 mo2] H R := vcs Try.tab_ok Try.mixed Try.func14 Try.cal14 Try.p14 h (by kernel_rfl)
def Try.S15 (b1p : OA) (b1l b1c : Nat) (ef2 : Int) (H : Heap) (R : Kv) : Prop :=
 br (decide (ef2 ≤ 0))
 (∀ X3 : Kl, (∀ (ou4p : OA) (ou4l ou4c : Nat) (t5 : Int) H6, (br (decide (t5 < (b1l : Int)))
 (∃ a7, b1p = some a7 ∧ 0 ≤ t5 ∧ t5 < (b1l : Int) ∧ ∃ c8, cell H6 (.add a7 (toNat t5 * 1)) = some (.int .u8 c8) ∧ #[Value.int .i64 0, Value.int .i64 0, Value.int .u8 c8].size = 3 ∧ 0 + 3 ≤ 3 ∧ alc H6 (.cells (List.toArray (setL [.int .i64 0, .int .i64 0, .int .u8 0] 0 (Array.toList #[.int .i64 0, .int .i64 0, .int .u8 c8]))) 82) fun b9 H10 => appQ 3 24 #[.int .i64 0, .int .i64 0, .int .u8 0] H10 ou4p ou4l ou4c (some ⟨b9, 0, none⟩) 1 82 fun ou11p ou11l ou11c H12 => X3 [.slice ou11p ou11l ou11c, .int .i64 (wrap .i64 (t5 + 1))] H12)
 (R (.slice ou4p ou4l ou4c) H6)) → X3 [.slice ou4p ou4l ou4c, .int .i64 t5] H6) → X3 [.slice none 0 0, .int .i64 0] H)
 (∀ J13 : Kl, (∀ (f14 : OA) H15, (∀ X16 : Kl, (∀ (ou17p : OA) (ou17l ou17c : Nat) (at_18 : Int) H19, (br (decide (at_18 < (b1l : Int)))
 (Try.C 40 #[.pointer f14, .int .i64 at_18, .int .i64 (min ef2 64)] H19 fun r20 H21 => ∃ r22 r23, r20 = .tuple #[.int .i64 r22, .int .i64 r23] ∧ br (r22 == 0)
 (∃ a24, b1p = some a24 ∧ 0 ≤ at_18 ∧ at_18 < (b1l : Int) ∧ ∃ v25, cell H21 (.add a24 (toNat at_18 * 1)) = some (.int .u8 v25) ∧ #[Value.int .i64 0, Value.int .i64 0, Value.int .u8 v25].size = 3 ∧ 0 + 3 ≤ 3 ∧ alc H21 (.cells (List.toArray (setL [.int .i64 0, .int .i64 0, .int .u8 0] 0 (Array.toList #[.int .i64 0, .int .i64 0, .int .u8 v25]))) 82) fun b26 H27 => appQ 3 24 #[.int .i64 0, .int .i64 0, .int .u8 0] H27 ou17p ou17l ou17c (some ⟨b26, 0, none⟩) 1 82 fun ou28p ou28l ou28c H29 => Try.C 41 #[.pointer f14, .int .i64 at_18] H29 fun r30 H31 => r30 = .tuple #[] ∧ X16 [.slice ou28p ou28l ou28c, .int .i64 (wrap .i64 (at_18 + 1))] H31)
 (#[Value.int .i64 r22, Value.int .i64 r23, Value.int .u8 0].size = 3 ∧ 0 + 3 ≤ 3 ∧ alc H21 (.cells (List.toArray (setL [.int .i64 0, .int .i64 0, .int .u8 0] 0 (Array.toList #[.int .i64 r22, .int .i64 r23, .int .u8 0]))) 82) fun b32 H33 => appQ 3 24 #[.int .i64 0, .int .i64 0, .int .u8 0] H33 ou17p ou17l ou17c (some ⟨b32, 0, none⟩) 1 82 fun ou34p ou34l ou34c H35 => ∀ X36 : Kl, (∀ (at_37 t38 : Int) H39, (br (decide (t38 < r22))
 (Try.C 41 #[.pointer f14, .int .i64 at_37] H39 fun r40 H41 => r40 = .tuple #[] ∧ X36 [.int .i64 (wrap .i64 (at_37 + 1)), .int .i64 (wrap .i64 (t38 + 1))] H41)
 (X16 [.slice ou34p ou34l ou34c, .int .i64 at_37] H39)) → X36 [.int .i64 at_37, .int .i64 t38] H39) → X36 [.int .i64 at_18, .int .i64 0] H35))
 (R (.slice ou17p ou17l ou17c) H19)) → X16 [.slice ou17p ou17l ou17c, .int .i64 at_18] H19) → X16 [.slice none 0 0, .int .i64 0] H15) → J13 [.pointer f14] H15) →
 (0 ≤ (4096 : Int) ∧ (4096 : Int) ≤ (4096 : Int) ∧ ((8 : Nat) : Int) * (4096 : Int) ≤ 281474976710656 ∧ (4096 : Int) ≤ 281474976710656 ∧ alc H (.cells (List.toArray (reps (toNat 4096) (Array.toList #[.int .i64 0]))) 3) fun b42 H43 => (Ext H H43 ∨ (Value.int .i64 (b1l : Int) = .int .i64 (b1l : Int))) ∧ 0 ≤ (b1l : Int) ∧ (b1l : Int) ≤ (b1l : Int) ∧ ((8 : Nat) : Int) * (b1l : Int) ≤ 281474976710656 ∧ (b1l : Int) ≤ 281474976710656 ∧ alc H43 (.cells (List.toArray (reps (toNat (b1l : Int)) (Array.toList #[.int .i64 0]))) 3) fun b44 H45 => alc H45 (.cells #[.slice b1p b1l b1c, .slice (some ⟨b42, 0, none⟩) (toNat 4096) (toNat 4096), .slice (some ⟨b44, 0, none⟩) (toNat (b1l : Int)) (toNat (b1l : Int))] 85) fun b46 H47 => J13 [.pointer (some ⟨b46, 0, none⟩)] H47) ∧ (0 ≤ (b1l : Int) ∧ (b1l : Int) ≤ (b1l : Int) ∧ ((8 : Nat) : Int) * (b1l : Int) ≤ 281474976710656 ∧ (b1l : Int) ≤ 281474976710656 ∧ alc H (.cells (List.toArray (reps (toNat (b1l : Int)) (Array.toList #[.int .i64 0]))) 3) fun b48 H49 => 0 ≤ (4096 : Int) ∧ (4096 : Int) ≤ (4096 : Int) ∧ ((8 : Nat) : Int) * (4096 : Int) ≤ 281474976710656 ∧ (4096 : Int) ≤ 281474976710656 ∧ alc H49 (.cells (List.toArray (reps (toNat 4096) (Array.toList #[.int .i64 0]))) 3) fun b50 H51 => alc H51 (.cells #[.slice b1p b1l b1c, .slice (some ⟨b50, 0, none⟩) (toNat 4096) (toNat 4096), .slice (some ⟨b48, 0, none⟩) (toNat (b1l : Int)) (toNat (b1l : Int))] 85) fun b52 H53 => J13 [.pointer (some ⟨b52, 0, none⟩)] H53))
def Try.p15 : Plan := (tl (tl (two (tl (two (two (tl (one (loop [(5, 38), (16, 3)] [14, 15] (tl (two (tl leaf) (two (one (tl leaf)) leaf)))))) (tl leaf)) leaf)) (tl (two (join [(8, 83)] [0, 1, 5] leaf) (two (tl (one (loop [(5, 38), (9, 3)] [0, 1, 8] (two (tl (tl leaf)) (one (tl (two (tl (two (tl (tl (tl leaf))) leaf)) (tl (tl (one (loop [(9, 3), (69, 3)] [0, 1, 5, 8, 68] (tl (two (tl leaf) (two (one (tl leaf)) leaf)))))))))))))) (tl leaf)))))))
theorem Try.s15 {b1p : OA} {b1l b1c : Nat} {ef2 : Int} {H R} (h : Try.S15 b1p b1l b1c ef2 H R) : Try.C 15 #[.slice b1p b1l b1c, .int .i64 ef2] H R := vcs Try.tab_ok Try.mixed Try.func15 Try.cal15 Try.p15 h (by kernel_rfl)
def Try.S16 (hi1 : Bool) (H : Heap) (R : Kv) : Prop :=
 alc H (.cells #[.slice none 0 0, .int .i64 0, .bool hi1] 89) fun b2 H3 => R (.pointer (some ⟨b2, 0, none⟩)) H3
def Try.p16 : Plan := (tl (tl leaf))
theorem Try.s16 {hi1 : Bool} {H R} (h : Try.S16 hi1 H R) : Try.C 16 #[.bool hi1] H R := vcs Try.tab_ok Try.mixed Try.func16 Try.cal16 Try.p16 h (by kernel_rfl)
def Try.S17 (w1 : OA) (v2 n3 : Int) (H : Heap) (R : Kv) : Prop :=
 ∀ J4 : Kl, (∀ H5, (∀ X6 : Kl, (∀ (k7 : Int) H8, (br (decide (k7 < n3))
 (∀ J9 : Kl, (∀ (k10 : Int) H11, (0 ≤ k10 ∧ Try.C 42 #[.pointer w1, .int .i64 (shrI .i64 v2 k10)] H11 fun r12 H13 => r12 = .tuple #[] ∧ X6 [.int .i64 (wrap .i64 (k7 + 1))] H13) → J9 [.int .i64 k10] H11) →
 ∃ a14, w1 = some a14 ∧ ∃ hi15, cell H8 (.add a14 2) = some (.bool hi15) ∧ br hi15
 (J9 [.int .i64 (wrap .i64 ((wrap .i64 (n3 - 1)) - k7))] H8)
 (J9 [.int .i64 k7] H8))
 (R (.bool true) H8)) → X6 [.int .i64 k7] H8) → X6 [.int .i64 0] H5) → J4 [] H5) →
 br (decide (n3 < 0)) (R (.bool false) H) (br (decide (n3 > 24)) (R (.bool false) H) (br (decide (v2 < 0)) (R (.bool false) H) (0 ≤ n3 ∧ br (decide (v2 ≥ (shlI .i64 1 n3)))
 (R (.bool false) H)
 (J4 [] H))))
def Try.p17 : Plan := (tl (two (join [] [0, 1, 2] g0) (two (tl (one (loop [(25, 3)] [0, 1, 2, 24] (tl (two (tl leaf) (two (one (tl (two (join [(7, 3)] [0, 1, 2, 24, 25] (tl (tl leaf))) leaf))) leaf)))))) (tl leaf))))
theorem Try.s17 {w1 : OA} {v2 n3 : Int} {H R} (h : Try.S17 w1 v2 n3 H R) : Try.C 17 #[.pointer w1, .int .i64 v2, .int .i64 n3] H R := vcs Try.tab_ok Try.mixed Try.func17 Try.cal17 Try.p17 h (by kernel_rfl)
def Try.S18 (d1 : AV) (li2p : OA) (li2l li2c : Nat) (c3 : AV) (H : Heap) (R : Kv) : Prop :=
 alc H (.cells d1 43) fun b4 H5 => alc H5 (.cells c3 48) fun b6 H7 => ∀ X8 : Kl, (∀ (t9 : Int) H10, (br (decide (t9 < (li2l : Int)))
 (∃ a11, li2p = some a11 ∧ 0 ≤ t9 ∧ t9 < (li2l : Int) ∧ ∃ v12, v12.size = 3 ∧ rowIn H10 (.add a11 (toNat t9 * 3)) v12 ∧ alc H10 (.cells #[.int .i64 0, .int .i64 0, .int .u8 0] 82) fun b13 H14 => v12.size = 3 ∧ stAt H14 ⟨b13, 0, none⟩ v12.toList fun H15 => ∃ Le16, cell H15 (.add ⟨b13, 0, none⟩ 0) = some (.int .i64 Le16) ∧ br (Le16 == 0)
 (∃ v17, v17.size = 1 ∧ rowIn H15 ⟨b4, 0, none⟩ v17 ∧ ∃ l18p l18l l18c, cell H15 (.add ⟨b6, 0, none⟩ 2) = some (.slice l18p l18l l18c) ∧ ∃ Li19, cell H15 (.add ⟨b13, 0, none⟩ 2) = some (.int .u8 Li19) ∧ ∃ a20, l18p = some a20 ∧ 0 ≤ Li19 ∧ Li19 < (l18l : Int) ∧ ∃ v21, cell H15 (.add a20 (toNat Li19 * 1)) = some (.int .i64 v21) ∧ ∃ li22p li22l li22c, cell H15 (.add ⟨b6, 0, none⟩ 0) = some (.slice li22p li22l li22c) ∧ ∃ Li23, cell H15 (.add ⟨b13, 0, none⟩ 2) = some (.int .u8 Li23) ∧ ∃ a24, li22p = some a24 ∧ 0 ≤ Li23 ∧ Li23 < (li22l : Int) ∧ ∃ v25, cell H15 (.add a24 (toNat Li23 * 1)) = some (.int .i64 v25) ∧ Try.C 43 #[.agg v17, .int .i64 v21, .int .i64 v25] H15 fun r26 H27 => r26 = .tuple #[] ∧ X8 [.int .i64 (wrap .i64 (t9 + 1))] H27)
 (∃ Le28, cell H15 (.add ⟨b13, 0, none⟩ 0) = some (.int .i64 Le28) ∧ Try.C 44 #[.int .i64 Le28] H15 fun r29 H30 => ∃ r31 r32 r33, r29 = .tuple #[.int .i64 r31, .int .i64 r32, .int .i64 r33] ∧ ∃ v34, v34.size = 1 ∧ rowIn H30 ⟨b4, 0, none⟩ v34 ∧ ∃ l35p l35l l35c, cell H30 (.add ⟨b6, 0, none⟩ 2) = some (.slice l35p l35l l35c) ∧ ∃ a36, l35p = some a36 ∧ 0 ≤ r31 ∧ r31 < (l35l : Int) ∧ ∃ v37, cell H30 (.add a36 (toNat r31 * 1)) = some (.int .i64 v37) ∧ ∃ li38p li38l li38c, cell H30 (.add ⟨b6, 0, none⟩ 0) = some (.slice li38p li38l li38c) ∧ ∃ a39, li38p = some a39 ∧ 0 ≤ r31 ∧ r31 < (li38l : Int) ∧ ∃ v40, cell H30 (.add a39 (toNat r31 * 1)) = some (.int .i64 v40) ∧ Try.C 43 #[.agg v34, .int .i64 v37, .int .i64 v40] H30 fun r41 H42 => r41 = .tuple #[] ∧ ∃ Wr43, cell H42 (.add ⟨b4, 0, none⟩ 0) = some (.pointer Wr43) ∧ Try.C 17 #[.pointer Wr43, .int .i64 r32, .int .i64 r33] H42 fun r44 H45 => ∃ r46, r44 = .bool r46 ∧ ∃ Di47, cell H45 (.add ⟨b13, 0, none⟩ 1) = some (.int .i64 Di47) ∧ Try.C 45 #[.int .i64 Di47, .int .i64 0, .int .i64 29, .func (.func 46) #[] #[]] H45 fun r48 H49 => ∃ r50 r51 r52, r48 = .tuple #[.int .i64 r50, .int .i64 r51, .int .i64 r52] ∧ ∃ v53, v53.size = 1 ∧ rowIn H49 ⟨b4, 0, none⟩ v53 ∧ ∃ d54p d54l d54c, cell H49 (.add ⟨b6, 0, none⟩ 3) = some (.slice d54p d54l d54c) ∧ ∃ a55, d54p = some a55 ∧ 0 ≤ r50 ∧ r50 < (d54l : Int) ∧ ∃ v56, cell H49 (.add a55 (toNat r50 * 1)) = some (.int .i64 v56) ∧ ∃ di57p di57l di57c, cell H49 (.add ⟨b6, 0, none⟩ 1) = some (.slice di57p di57l di57c) ∧ ∃ a58, di57p = some a58 ∧ 0 ≤ r50 ∧ r50 < (di57l : Int) ∧ ∃ v59, cell H49 (.add a58 (toNat r50 * 1)) = some (.int .i64 v59) ∧ Try.C 43 #[.agg v53, .int .i64 v56, .int .i64 v59] H49 fun r60 H61 => r60 = .tuple #[] ∧ ∃ Wr62, cell H61 (.add ⟨b4, 0, none⟩ 0) = some (.pointer Wr62) ∧ Try.C 17 #[.pointer Wr62, .int .i64 r51, .int .i64 r52] H61 fun r63 H64 => ∃ r65, r63 = .bool r65 ∧ X8 [.int .i64 (wrap .i64 (t9 + 1))] H64))
 (∃ v66, v66.size = 1 ∧ rowIn H10 ⟨b4, 0, none⟩ v66 ∧ ∃ l67p l67l l67c, cell H10 (.add ⟨b6, 0, none⟩ 2) = some (.slice l67p l67l l67c) ∧ ∃ a68, l67p = some a68 ∧ 0 ≤ (256 : Int) ∧ (256 : Int) < (l67l : Int) ∧ ∃ v69, cell H10 (.add a68 (toNat (256 : Int) * 1)) = some (.int .i64 v69) ∧ ∃ li70p li70l li70c, cell H10 (.add ⟨b6, 0, none⟩ 0) = some (.slice li70p li70l li70c) ∧ ∃ a71, li70p = some a71 ∧ 0 ≤ (256 : Int) ∧ (256 : Int) < (li70l : Int) ∧ ∃ v72, cell H10 (.add a71 (toNat (256 : Int) * 1)) = some (.int .i64 v72) ∧ Try.C 43 #[.agg v66, .int .i64 v69, .int .i64 v72] H10 fun r73 H74 => r73 = .tuple #[] ∧ R (.tuple #[]) H74)) → X8 [.int .i64 t9] H10) → X8 [.int .i64 0] H7
def Try.p18 : Plan := (tl (two (tl (one (loop [(13, 3)] [3, 5, 11, 12] (tl (two (tl leaf) (two (one (tl (tg (tl (tl (tl (tl (tl leaf)))))))) leaf)))))) leaf))
theorem Try.s18 {d1 : AV} {li2p : OA} {li2l li2c : Nat} {c3 : AV} {H R} (h : Try.S18 d1 li2p li2l li2c c3 H R) : Try.C 18 #[.agg d1, .slice li2p li2l li2c, .agg c3] H R := vcs Try.tab_ok Try.mixed Try.func18 Try.cal18 Try.p18 h (by kernel_rfl)
def Try.S19 (li1p : OA) (li1l li1c : Nat) (di2p : OA) (di2l di2c : Nat) (H : Heap) (R : Kv) : Prop :=
 alc H (.cells #[.slice none 0 0, .slice none 0 0, .slice none 0 0, .slice none 0 0] 48) fun b3 H4 => Try.C 47 #[.slice li1p li1l li1c] H4 fun r5 H6 => ∃ r7p r7l r7c r8, r5 = .tuple #[.slice r7p r7l r7c, .bool r8] ∧ Try.C 47 #[.slice di2p di2l di2c] H6 fun r9 H10 => ∃ r11p r11l r11c r12, r9 = .tuple #[.slice r11p r11l r11c, .bool r12] ∧ #[Value.slice li1p li1l li1c, Value.slice di2p di2l di2c, Value.slice r7p r7l r7c, Value.slice r11p r11l r11c].size = 4 ∧ stAt H10 ⟨b3, 0, none⟩ (Array.toList #[.slice li1p li1l li1c, .slice di2p di2l di2c, .slice r7p r7l r7c, .slice r11p r11l r11c]) fun H13 => ∃ re14, re14.size = 4 ∧ rowIn H13 ⟨b3, 0, none⟩ re14 ∧ R (.agg re14) H13
def Try.p19 : Plan := (tl (tl (tl (tl leaf))))
theorem Try.s19 {li1p : OA} {li1l li1c : Nat} {di2p : OA} {di2l di2c : Nat} {H R} (h : Try.S19 li1p li1l li1c di2p di2l di2c H R) : Try.C 19 #[.slice li1p li1l li1c, .slice di2p di2l di2c] H R := vcs Try.tab_ok Try.mixed Try.func19 Try.cal19 Try.p19 h (by kernel_rfl)
def Try.S20  (H : Heap) (R : Kv) : Prop :=
 ∀ X1 : Kl, (∀ (li2p : OA) (li2l li2c : Nat) (s3 : Int) H4, (br (decide (s3 < 288))
 (∀ J5 : Kl, (∀ (n6 : Int) H7, (alc H7 (.cells #[.int .i64 n6] 3) fun b8 H9 => appQ 1 8 #[.int .i64 0] H9 li2p li2l li2c (some ⟨b8, 0, none⟩) 1 3 fun li10p li10l li10c H11 => X1 [.slice li10p li10l li10c, .int .i64 (wrap .i64 (s3 + 1))] H11) → J5 [.int .i64 n6] H7) →
 br (decide (s3 ≥ 144)) (br (decide (s3 < 256))
 (J5 [.int .i64 9] H4)
 (br (decide (s3 ≥ 256)) (br (decide (s3 < 280))
 (J5 [.int .i64 7] H4)
 (J5 [.int .i64 8] H4)) (J5 [.int .i64 8] H4))) (br (decide (s3 ≥ 256)) (br (decide (s3 < 280))
 (J5 [.int .i64 7] H4)
 (J5 [.int .i64 8] H4)) (J5 [.int .i64 8] H4)))
 (∀ X12 : Kl, (∀ (di13p : OA) (di13l di13c : Nat) (t14 : Int) H15, (br (decide (t14 < 32))
 (alc H15 (.cells #[.int .i64 5] 3) fun b16 H17 => appQ 1 8 #[.int .i64 0] H17 di13p di13l di13c (some ⟨b16, 0, none⟩) 1 3 fun di18p di18l di18c H19 => X12 [.slice di18p di18l di18c, .int .i64 (wrap .i64 (t14 + 1))] H19)
 (R (.tuple #[.slice li2p li2l li2c, .slice di13p di13l di13c]) H15)) → X12 [.slice di13p di13l di13c, .int .i64 t14] H15) → X12 [.slice none 0 0, .int .i64 0] H4)) → X1 [.slice li2p li2l li2c, .int .i64 s3] H4) → X1 [.slice none 0 0, .int .i64 0] H
def Try.p20 : Plan := (tl (two (tl (one (loop [(0, 46), (4, 3)] [1] (tl (two (tl leaf) (two (one (tl (tl (two (join [(3, 3)] [0, 1, 4] (tl (tl (tl (tl leaf))))) leaf)))) leaf)))))) (two (tl (one (loop [(1, 46), (24, 3)] [0] (tl (two (tl leaf) (two (one leaf) leaf)))))) (tl leaf))))
theorem Try.s20 {_u : Unit} {H R} (h : Try.S20  H R) : Try.C 20 #[] H R := vcs Try.tab_ok Try.mixed Try.func20 Try.cal20 Try.p20 h (by kernel_rfl)
def Try.S21 (w1 : OA) (H : Heap) (R : Kv) : Prop :=
 ∃ a2, w1 = some a2 ∧ ∃ b3p b3l b3c, cell H (.add a2 0) = some (.slice b3p b3l b3c) ∧ Try.C 48 #[.slice b3p b3l b3c] H fun r4 H5 => ∃ r6p r6l r6c, r4 = .slice r6p r6l r6c ∧ R (.slice r6p r6l r6c) H5
def Try.p21 : Plan := (tl (tl leaf))
theorem Try.s21 {w1 : OA} {H R} (h : Try.S21 w1 H R) : Try.C 21 #[.pointer w1] H R := vcs Try.tab_ok Try.mixed Try.func21 Try.cal21 Try.p21 h (by kernel_rfl)
def Try.S22 (d1 : AV) (li2p : OA) (li2l li2c : Nat) (la3 : Int) (H : Heap) (R : Kv) : Prop :=
 alc H (.cells d1 43) fun b4 H5 => Try.C 49 #[.slice li2p li2l li2c] H5 fun r6 H7 => ∃ r8p r8l r8c r9p r9l r9c, r6 = .tuple #[.slice r8p r8l r8c, .slice r9p r9l r9c] ∧ Try.C 50 #[.slice r8p r8l r8c] H7 fun r10 H11 => ∃ r12p r12l r12c, r10 = .slice r12p r12l r12c ∧ Try.C 50 #[.slice r9p r9l r9c] H11 fun r13 H14 => ∃ r15p r15l r15c, r13 = .slice r15p r15l r15c ∧ Try.C 19 #[.slice r12p r12l r12c, .slice r15p r15l r15c] H14 fun r16 H17 => ∃ r18, r16 = .agg r18 ∧ alc H17 (.cells #[.slice none 0 0, .slice none 0 0, .slice none 0 0, .slice none 0 0] 48) fun b19 H20 => r18.size = 4 ∧ stAt H20 ⟨b19, 0, none⟩ r18.toList fun H21 => ∃ li22p li22l li22c, cell H21 (.add ⟨b19, 0, none⟩ 0) = some (.slice li22p li22l li22c) ∧ ∃ di23p di23l di23c, cell H21 (.add ⟨b19, 0, none⟩ 1) = some (.slice di23p di23l di23c) ∧ alc H21 (.cells #[.slice li22p li22l li22c, .slice di23p di23l di23c] 46) fun b24 H25 => Try.C 51 #[.slice (some ⟨b24, 0, none⟩) 2 2] H25 fun r26 H27 => ∃ al28p al28l al28c, r26 = .slice al28p al28l al28c ∧ 0 ≤ (19 : Int) ∧ (19 : Int) ≤ (19 : Int) ∧ ((8 : Nat) : Int) * (19 : Int) ≤ 281474976710656 ∧ (19 : Int) ≤ 281474976710656 ∧ alc H27 (.cells (List.toArray (reps (toNat 19) (Array.toList #[.int .i64 0]))) 3) fun b29 H30 => ∀ X31 : Kl, (∀ (t32 : Int) H33, (br (decide (t32 < (al28l : Int)))
 (∃ a34, al28p = some a34 ∧ 0 ≤ t32 ∧ t32 < (al28l : Int) ∧ ∃ n35, cell H33 (.add a34 (toNat t32 * 1)) = some (.int .i64 n35) ∧ ∃ a36, (some ⟨b29, 0, none⟩) = some a36 ∧ 0 ≤ n35 ∧ n35 < (((toNat 19) : Nat) : Int) ∧ ∃ v37, cell H33 (.add a36 (toNat n35 * 1)) = some (.int .i64 v37) ∧ ∃ a38, (some ⟨b29, 0, none⟩) = some a38 ∧ 0 ≤ n35 ∧ n35 < (((toNat 19) : Nat) : Int) ∧ stAt H33 (.add a38 (toNat n35 * 1)) [.int .i64 (wrap .i64 (v37 + 1))] fun H39 => X31 [.int .i64 (wrap .i64 (t32 + 1))] H39)
 (Try.C 53 #[.slice (some ⟨b29, 0, none⟩) (toNat 19) (toNat 19)] H33 fun r40 H41 => ∃ r42p r42l r42c, r40 = .slice r42p r42l r42c ∧ Try.C 52 #[.slice r42p r42l r42c, .int .i64 7] H41 fun r43 H44 => ∃ r45p r45l r45c r46, r43 = .tuple #[.slice r45p r45l r45c, .bool r46] ∧ Try.C 47 #[.slice r45p r45l r45c] H44 fun r47 H48 => ∃ r49p r49l r49c r50, r47 = .tuple #[.slice r49p r49l r49c, .bool r50] ∧ ∃ Wr51, cell H48 (.add ⟨b4, 0, none⟩ 0) = some (.pointer Wr51) ∧ Try.C 17 #[.pointer Wr51, .int .i64 la3, .int .i64 1] H48 fun r52 H53 => ∃ r54, r52 = .bool r54 ∧ ∃ Wr55, cell H53 (.add ⟨b4, 0, none⟩ 0) = some (.pointer Wr55) ∧ Try.C 17 #[.pointer Wr55, .int .i64 2, .int .i64 2] H53 fun r56 H57 => ∃ r58, r56 = .bool r58 ∧ ∃ Wr59, cell H57 (.add ⟨b4, 0, none⟩ 0) = some (.pointer Wr59) ∧ ∃ li60p li60l li60c, cell H57 (.add ⟨b19, 0, none⟩ 0) = some (.slice li60p li60l li60c) ∧ Try.C 17 #[.pointer Wr59, .int .i64 (wrap .i64 ((li60l : Int) - 257)), .int .i64 5] H57 fun r61 H62 => ∃ r63, r61 = .bool r63 ∧ ∃ Wr64, cell H62 (.add ⟨b4, 0, none⟩ 0) = some (.pointer Wr64) ∧ ∃ di65p di65l di65c, cell H62 (.add ⟨b19, 0, none⟩ 1) = some (.slice di65p di65l di65c) ∧ Try.C 17 #[.pointer Wr64, .int .i64 (wrap .i64 ((di65l : Int) - 1)), .int .i64 5] H62 fun r66 H67 => ∃ r68, r66 = .bool r68 ∧ ∃ Wr69, cell H67 (.add ⟨b4, 0, none⟩ 0) = some (.pointer Wr69) ∧ Try.C 17 #[.pointer Wr69, .int .i64 15, .int .i64 4] H67 fun r70 H71 => ∃ r72, r70 = .bool r72 ∧ Try.C 54 #[] H71 fun r73 H74 => ∃ r75p r75l r75c, r73 = .slice r75p r75l r75c ∧ ∀ X76 : Kl, (∀ (t77 : Int) H78, (br (decide (t77 < (r75l : Int)))
 (∃ a79, r75p = some a79 ∧ 0 ≤ t77 ∧ t77 < (r75l : Int) ∧ ∃ s80, cell H78 (.add a79 (toNat t77 * 1)) = some (.int .i64 s80) ∧ ∃ Wr81, cell H78 (.add ⟨b4, 0, none⟩ 0) = some (.pointer Wr81) ∧ ∃ a82, r45p = some a82 ∧ 0 ≤ s80 ∧ s80 < (r45l : Int) ∧ ∃ v83, cell H78 (.add a82 (toNat s80 * 1)) = some (.int .i64 v83) ∧ Try.C 17 #[.pointer Wr81, .int .i64 v83, .int .i64 3] H78 fun r84 H85 => ∃ r86, r84 = .bool r86 ∧ X76 [.int .i64 (wrap .i64 (t77 + 1))] H85)
 (∀ X87 : Kl, (∀ (t88 : Int) H89, (br (decide (t88 < (al28l : Int)))
 (∃ a90, al28p = some a90 ∧ 0 ≤ t88 ∧ t88 < (al28l : Int) ∧ ∃ n91, cell H89 (.add a90 (toNat t88 * 1)) = some (.int .i64 n91) ∧ ∃ v92, v92.size = 1 ∧ rowIn H89 ⟨b4, 0, none⟩ v92 ∧ ∃ a93, r49p = some a93 ∧ 0 ≤ n91 ∧ n91 < (r49l : Int) ∧ ∃ v94, cell H89 (.add a93 (toNat n91 * 1)) = some (.int .i64 v94) ∧ ∃ a95, r45p = some a95 ∧ 0 ≤ n91 ∧ n91 < (r45l : Int) ∧ ∃ v96, cell H89 (.add a95 (toNat n91 * 1)) = some (.int .i64 v96) ∧ Try.C 43 #[.agg v92, .int .i64 v94, .int .i64 v96] H89 fun r97 H98 => r97 = .tuple #[] ∧ X87 [.int .i64 (wrap .i64 (t88 + 1))] H98)
 (∃ v99, v99.size = 1 ∧ rowIn H89 ⟨b4, 0, none⟩ v99 ∧ ∃ v100, v100.size = 4 ∧ rowIn H89 ⟨b19, 0, none⟩ v100 ∧ Try.C 18 #[.agg v99, .slice li2p li2l li2c, .agg v100] H89 fun r101 H102 => r101 = .tuple #[] ∧ R (.tuple #[]) H102)) → X87 [.int .i64 t88] H89) → X87 [.int .i64 0] H78)) → X76 [.int .i64 t77] H78) → X76 [.int .i64 0] H74)) → X31 [.int .i64 t32] H33) → X31 [.int .i64 0] H30
def Try.p22 : Plan := (tl (tl (tl (tl (tl (two (tl (one (loop [(40, 3)] [1, 2, 3, 8, 9, 10, 38, 39] (tl (two (tl leaf) (two (one (tl leaf)) leaf)))))) (tl (tl (tl (tl (tl (tl (tl (two (tl (one (loop [(88, 3)] [1, 3, 8, 9, 13, 15, 86, 87] (tl (two (tl leaf) (two (one (tl leaf)) leaf)))))) (two (tl (one (loop [(102, 3)] [1, 3, 8, 13, 15, 100, 101] (tl (two (tl leaf) (two (one (tl leaf)) leaf)))))) leaf)))))))))))))))
theorem Try.s22 {d1 : AV} {li2p : OA} {li2l li2c : Nat} {la3 : Int} {H R} (h : Try.S22 d1 li2p li2l li2c la3 H R) : Try.C 22 #[.agg d1, .slice li2p li2l li2c, .int .i64 la3] H R := vcs Try.tab_ok Try.mixed Try.func22 Try.cal22 Try.p22 h (by kernel_rfl)
def Try.S23 (b1p : OA) (b1l b1c : Nat) (H : Heap) (R : Kv) : Prop :=
 Try.C 16 #[.bool false] H fun r2 H3 => ∃ r4, r2 = .pointer r4 ∧ alc H3 (.cells #[.pointer none] 43) fun b5 H6 => #[Value.pointer r4].size = 1 ∧ stAt H6 ⟨b5, 0, none⟩ (Array.toList #[.pointer r4]) fun H7 => ∀ X8 : Kl, (∀ (b9p : OA) (b9l b9c : Nat) (la10 : Bool) H11, (br (!la10)
 (∀ J12 : Kl, (∀ H13, (∃ Wr14, cell H13 (.add ⟨b5, 0, none⟩ 0) = some (.pointer Wr14) ∧ Try.C 55 #[.pointer Wr14, .int .i64 0] H13 fun r15 H16 => r15 = .tuple #[] ∧ ∃ Wr17, cell H16 (.add ⟨b5, 0, none⟩ 0) = some (.pointer Wr17) ∧ Try.C 17 #[.pointer Wr17, .int .i64 (min (b9l : Int) 65535), .int .i64 16] H16 fun r18 H19 => ∃ r20, r18 = .bool r20 ∧ ∃ Wr21, cell H19 (.add ⟨b5, 0, none⟩ 0) = some (.pointer Wr21) ∧ Try.C 17 #[.pointer Wr21, .int .i64 (xorI .i64 (min (b9l : Int) 65535) 65535), .int .i64 16] H19 fun r22 H23 => ∃ r24, r22 = .bool r24 ∧ 0 ≤ (min (b9l : Int) 65535) ∧ (min (b9l : Int) 65535) ≤ (b9c : Int) ∧ ∀ X25 : Kl, (∀ (t26 : Int) H27, (br (decide (t26 < ((((toNat (min (b9l : Int) 65535)) - 0) : Nat) : Int)))
 (∃ a28, (if b9c = 0 then b9p else Option.map (fun x => Addr.add x (0 * 1)) b9p) = some a28 ∧ 0 ≤ t26 ∧ t26 < ((((toNat (min (b9l : Int) 65535)) - 0) : Nat) : Int) ∧ ∃ c29, cell H27 (.add a28 (toNat t26 * 1)) = some (.int .u8 c29) ∧ ∃ Wr30, cell H27 (.add ⟨b5, 0, none⟩ 0) = some (.pointer Wr30) ∧ Try.C 17 #[.pointer Wr30, .int .i64 (wrap .i64 c29), .int .i64 8] H27 fun r31 H32 => ∃ r33, r31 = .bool r33 ∧ X25 [.int .i64 (wrap .i64 (t26 + 1))] H32)
 (0 ≤ (min (b9l : Int) 65535) ∧ (min (b9l : Int) 65535) ≤ (b9l : Int) ∧ X8 [.slice (if b9c = (toNat (min (b9l : Int) 65535)) then b9p else Option.map (fun x => Addr.add x ((toNat (min (b9l : Int) 65535)) * 1)) b9p) (b9l - (toNat (min (b9l : Int) 65535))) (b9c - (toNat (min (b9l : Int) 65535))), .bool (((min (b9l : Int) 65535) : Int) == (b9l : Int))] H27)) → X25 [.int .i64 t26] H27) → X25 [.int .i64 0] H23) → J12 [] H13) →
 br (((min (b9l : Int) 65535) : Int) == (b9l : Int))
 (∃ Wr34, cell H11 (.add ⟨b5, 0, none⟩ 0) = some (.pointer Wr34) ∧ Try.C 17 #[.pointer Wr34, .int .i64 1, .int .i64 3] H11 fun r35 H36 => ∃ r37, r35 = .bool r37 ∧ J12 [] H36)
 (∃ Wr38, cell H11 (.add ⟨b5, 0, none⟩ 0) = some (.pointer Wr38) ∧ Try.C 17 #[.pointer Wr38, .int .i64 0, .int .i64 3] H11 fun r39 H40 => ∃ r41, r39 = .bool r41 ∧ J12 [] H40))
 (∃ Wr42, cell H11 (.add ⟨b5, 0, none⟩ 0) = some (.pointer Wr42) ∧ Try.C 21 #[.pointer Wr42] H11 fun r43 H44 => ∃ r45p r45l r45c, r43 = .slice r45p r45l r45c ∧ R (.slice r45p r45l r45c) H44)) → X8 [.slice b9p b9l b9c, .bool la10] H11) → X8 [.slice b1p b1l b1c, .bool false] H7
def Try.p23 : Plan := (tl (tl (two (tl (one (loop [(0, 22), (4, 4)] [3] (two (tl (tl leaf)) (one (tl (tl (two (join [] [0, 3, 4, 5] (tl (tl leaf))) (tl (tl (tl (two (tl (one (loop [(42, 3)] [0, 3, 4, 5, 40, 41] (tl (two (tl leaf) (two (one (tl leaf)) leaf)))))) leaf)))))))))))) (tl leaf))))
theorem Try.s23 {b1p : OA} {b1l b1c : Nat} {H R} (h : Try.S23 b1p b1l b1c H R) : Try.C 23 #[.slice b1p b1l b1c] H R := vcs Try.tab_ok Try.mixed Try.func23 Try.cal23 Try.p23 h (by kernel_rfl)
def Try.S24 (b1p : OA) (b1l b1c : Nat) (hi2 : Bool) (H : Heap) (R : Kv) : Prop :=
 Try.C 48 #[.slice b1p b1l b1c] H fun r3 H4 => ∃ r5p r5l r5c, r3 = .slice r5p r5l r5c ∧ alc H4 (.cells #[.slice r5p r5l r5c, .int .i64 0, .bool hi2] 103) fun b6 H7 => R (.pointer (some ⟨b6, 0, none⟩)) H7
def Try.p24 : Plan := (tl (tl leaf))
theorem Try.s24 {b1p : OA} {b1l b1c : Nat} {hi2 : Bool} {H R} (h : Try.S24 b1p b1l b1c hi2 H R) : Try.C 24 #[.slice b1p b1l b1c, .bool hi2] H R := vcs Try.tab_ok Try.mixed Try.func24 Try.cal24 Try.p24 h (by kernel_rfl)
def Try.S25 (f1 : OA) (n2 : Int) (H : Heap) (R : Kv) : Prop :=
 ∃ a3, f1 = some a3 ∧ ∃ r4, cell H (.add a3 0) = some (.pointer r4) ∧ Try.C 56 #[.pointer r4, .int .i64 n2] H fun r5 H6 => ∃ r7 r8, r5 = .tuple #[.int .i64 r7, .bool r8] ∧ br (!r8)
 (Try.C 30 #[.pointer f1, .int .i64 20] H6 fun r9 H10 => r9 = .tuple #[] ∧ R (.int .i64 r7) H10)
 (R (.int .i64 r7) H6)
def Try.p25 : Plan := (tl (tl (two (tl (tl leaf)) (tl leaf))))
theorem Try.s25 {f1 : OA} {n2 : Int} {H R} (h : Try.S25 f1 n2 H R) : Try.C 25 #[.pointer f1, .int .i64 n2] H R := vcs Try.tab_ok Try.mixed Try.func25 Try.cal25 Try.p25 h (by kernel_rfl)
end Go.Proofs
namespace Go.Proofs
open Go.Sh Go.Sh.Plan
open Go.IntKind (wrap)
open Int (toNat)
def Try.S26 (f1 : OA) (H : Heap) (R : Kv) : Prop :=
 ∃ a2, f1 = some a2 ∧ ∃ r3, cell H (.add a2 0) = some (.pointer r3) ∧ Try.C 57 #[.pointer r3] H fun r4 H5 => r4 = .tuple #[] ∧ Try.C 25 #[.pointer f1, .int .i64 16] H5 fun r6 H7 => ∃ n8, r6 = .int .i64 n8 ∧ Try.C 25 #[.pointer f1, .int .i64 16] H7 fun r9 H10 => ∃ m11, r9 = .int .i64 m11 ∧ ∀ J12 : Kl, (∀ H13, (∀ X14 : Kl, (∀ (k15 : Int) H16, (∀ J17 : Kl, (∀ H18, (∃ a19, f1 = some a19 ∧ ∃ ou20p ou20l ou20c, cell H18 (.add a19 1) = some (.slice ou20p ou20l ou20c) ∧ Try.C 25 #[.pointer f1, .int .i64 8] H18 fun r21 H22 => ∃ r23, r21 = .int .i64 r23 ∧ (Ext H18 H22 ∨ (∃ ou31p ou31l ou31c, cell H22 (.add a19 1) = some (.slice ou31p ou31l ou31c) ∧ Value.slice ou31p ou31l ou31c = .slice ou20p ou20l ou20c)) ∧ alc H22 (.cells #[.int .u8 (wrap .u8 r23)] 5) fun b24 H25 => (Ext H22 H25 ∨ (∃ ou30p ou30l ou30c, cell H25 (.add a19 1) = some (.slice ou30p ou30l ou30c) ∧ Value.slice ou30p ou30l ou30c = .slice ou20p ou20l ou20c)) ∧ appQ 1 1 #[.int .u8 0] H25 ou20p ou20l ou20c (some ⟨b24, 0, none⟩) 1 5 fun ap26p ap26l ap26c H27 => ∃ a28, f1 = some a28 ∧ stAt H27 (.add a28 1) [.slice ap26p ap26l ap26c] fun H29 => X14 [.int .i64 (wrap .i64 (k15 + 1))] H29) → J17 [] H18) →
 br (decide (k15 < n8)) (∃ a32, f1 = some a32 ∧ ∃ e33, cell H16 (.add a32 3) = some (.int .i64 e33) ∧ br (e33 == 0)
 (J17 [] H16)
 (R (.tuple #[]) H16)) (R (.tuple #[]) H16)) → X14 [.int .i64 k15] H16) → X14 [.int .i64 0] H13) → J12 [] H13) →
 ∃ a34, f1 = some a34 ∧ ∃ e35, cell H10 (.add a34 3) = some (.int .i64 e35) ∧ br (e35 != 0)
 (R (.tuple #[]) H10)
 (br (((xorI .i64 n8 m11) : Int) != 65535)
 (Try.C 30 #[.pointer f1, .int .i64 25] H10 fun r36 H37 => r36 = .tuple #[] ∧ J12 [] H37)
 (∃ a38, f1 = some a38 ∧ ∃ mo39, cell H10 (.add a38 2) = some (.int .i64 mo39) ∧ ∃ a40, f1 = some a40 ∧ ∃ ou41p ou41l ou41c, cell H10 (.add a40 1) = some (.slice ou41p ou41l ou41c) ∧ br (decide (n8 > (wrap .i64 (mo39 - (ou41l : Int)))))
 (Try.C 30 #[.pointer f1, .int .i64 24] H10 fun r42 H43 => r42 = .tuple #[] ∧ J12 [] H43)
 (J12 [] H10)))
def Try.p26 : Plan := (tl (tl (two (join [] [0, 2] (one (tl (tl (tl (tl (tl (tl leaf)))))))) (tl (one (loop [(4, 3)] [0, 2] (two (join [] [0, 2, 4] (tl (tl leaf))) (two (one leaf) leaf))))))))
theorem Try.s26 {f1 : OA} {H R} (h : Try.S26 f1 H R) : Try.C 26 #[.pointer f1] H R := vcs Try.tab_ok Try.mixed Try.func26 Try.cal26 Try.p26 h (by kernel_rfl)
def Try.S27 (le1p : OA) (le1l le1c : Nat) (H : Heap) (R : Kv) : Prop :=
 Try.C 47 #[.slice le1p le1l le1c] H fun r2 H3 => ∃ r4p r4l r4c r5, r2 = .tuple #[.slice r4p r4l r4c, .bool r5] ∧ br (!r5)
 (R (.tuple #[.pointer none, .bool false]) H3)
 (0 ≤ (1 : Int) ∧ (1 : Int) ≤ (1 : Int) ∧ ((16 : Nat) : Int) * (1 : Int) ≤ 281474976710656 ∧ (1 : Int) ≤ 281474976710656 ∧ alc H3 (.cells (List.toArray (reps (toNat 1) (Array.toList #[.int .i64 0, .int .i64 0]))) 109) fun b6 H7 => alc H7 (.cells #[.slice (some ⟨b6, 0, none⟩) (toNat 1) (toNat 1)] 108) fun b8 H9 => ∀ X10 : Kl, (∀ (s11 : Int) H12, (br (decide (s11 < (le1l : Int)))
 (∃ a13, le1p = some a13 ∧ 0 ≤ s11 ∧ s11 < (le1l : Int) ∧ ∃ n14, cell H12 (.add a13 (toNat s11 * 1)) = some (.int .i64 n14) ∧ ∀ X15 : Kl, (∀ (at_16 k17 : Int) H18, (br (decide (k17 ≥ 0))
 (∃ a19, r4p = some a19 ∧ 0 ≤ s11 ∧ s11 < (r4l : Int) ∧ ∃ v20, cell H18 (.add a19 (toNat s11 * 1)) = some (.int .i64 v20) ∧ 0 ≤ k17 ∧ br (k17 == 0)
 (∃ a21, (some ⟨b8, 0, none⟩) = some a21 ∧ ∃ no22p no22l no22c, cell H18 (.add a21 0) = some (.slice no22p no22l no22c) ∧ ∃ a23, no22p = some a23 ∧ 0 ≤ at_16 ∧ at_16 < (no22l : Int) ∧ 0 ≤ (andI .i64 (shrI .i64 v20 k17) 1) ∧ (andI .i64 (shrI .i64 v20 k17) 1) < ((2 : Nat) : Int) ∧ stAt H18 (.add (.add a23 (toNat at_16 * 2)) (toNat (andI .i64 (shrI .i64 v20 k17) 1) * 1)) [.int .i64 (wrap .i64 ((-1 : Int) - s11))] fun H24 => X10 [.int .i64 (wrap .i64 (s11 + 1))] H24)
 (∀ J25 : Kl, (∀ H26, (∃ a27, (some ⟨b8, 0, none⟩) = some a27 ∧ ∃ no28p no28l no28c, cell H26 (.add a27 0) = some (.slice no28p no28l no28c) ∧ ∃ a29, no28p = some a29 ∧ 0 ≤ at_16 ∧ at_16 < (no28l : Int) ∧ 0 ≤ (andI .i64 (shrI .i64 v20 k17) 1) ∧ (andI .i64 (shrI .i64 v20 k17) 1) < ((2 : Nat) : Int) ∧ ∃ at_30, cell H26 (.add (.add a29 (toNat at_16 * 2)) (toNat (andI .i64 (shrI .i64 v20 k17) 1) * 1)) = some (.int .i64 at_30) ∧ X15 [.int .i64 at_30, .int .i64 (wrap .i64 (k17 - 1))] H26) → J25 [] H26) →
 ∃ a31, (some ⟨b8, 0, none⟩) = some a31 ∧ ∃ no32p no32l no32c, cell H18 (.add a31 0) = some (.slice no32p no32l no32c) ∧ ∃ a33, no32p = some a33 ∧ 0 ≤ at_16 ∧ at_16 < (no32l : Int) ∧ 0 ≤ (andI .i64 (shrI .i64 v20 k17) 1) ∧ (andI .i64 (shrI .i64 v20 k17) 1) < ((2 : Nat) : Int) ∧ ∃ v34, cell H18 (.add (.add a33 (toNat at_16 * 2)) (toNat (andI .i64 (shrI .i64 v20 k17) 1) * 1)) = some (.int .i64 v34) ∧ br (v34 == 0)
 (∃ a35, (some ⟨b8, 0, none⟩) = some a35 ∧ ∃ no36p no36l no36c, cell H18 (.add a35 0) = some (.slice no36p no36l no36c) ∧ #[Value.int .i64 0, Value.int .i64 0].size = 2 ∧ 0 + 2 ≤ 2 ∧ alc H18 (.cells (List.toArray (setL [.int .i64 0, .int .i64 0] 0 (Array.toList #[.int .i64 0, .int .i64 0]))) 109) fun b37 H38 => appQ 2 16 #[.int .i64 0, .int .i64 0] H38 no36p no36l no36c (some ⟨b37, 0, none⟩) 1 109 fun ap39p ap39l ap39c H40 => ∃ a41, (some ⟨b8, 0, none⟩) = some a41 ∧ stAt H40 (.add a41 0) [.slice ap39p ap39l ap39c] fun H42 => ∃ a43, (some ⟨b8, 0, none⟩) = some a43 ∧ ∃ no44p no44l no44c, cell H42 (.add a43 0) = some (.slice no44p no44l no44c) ∧ ∃ a45, (some ⟨b8, 0, none⟩) = some a45 ∧ ∃ no46p no46l no46c, cell H42 (.add a45 0) = some (.slice no46p no46l no46c) ∧ ∃ a47, no44p = some a47 ∧ 0 ≤ at_16 ∧ at_16 < (no44l : Int) ∧ 0 ≤ (andI .i64 (shrI .i64 v20 k17) 1) ∧ (andI .i64 (shrI .i64 v20 k17) 1) < ((2 : Nat) : Int) ∧ stAt H42 (.add (.add a47 (toNat at_16 * 2)) (toNat (andI .i64 (shrI .i64 v20 k17) 1) * 1)) [.int .i64 (wrap .i64 ((no46l : Int) - 1))] fun H48 => J25 [] H48)
 (J25 [] H18)))
 (X10 [.int .i64 (wrap .i64 (s11 + 1))] H18)) → X15 [.int .i64 at_16, .int .i64 k17] H18) → X15 [.int .i64 0, .int .i64 (wrap .i64 (n14 - 1))] H12)
 (R (.tuple #[.pointer (some ⟨b8, 0, none⟩), .bool true]) H12)) → X10 [.int .i64 s11] H12) → X10 [.int .i64 0] H9)
def Try.p27 : Plan := (tl (tl (tg (tl (two (tl (one (loop [(24, 3)] [4, 6, 22, 23] (tl (two (tl leaf) (two (one (tl (tl (tl (one (loop [(9, 3), (10, 3)] [4, 6, 7, 22, 23, 24] (two (tl (tl leaf)) (two (one (tl (tg (two (join [] [4, 6, 7, 9, 10, 11, 22, 23, 24] g0) leaf)))) leaf)))))))) leaf)))))) (tl leaf))))))
theorem Try.s27 {le1p : OA} {le1l le1c : Nat} {H R} (h : Try.S27 le1p le1l le1c H R) : Try.C 27 #[.slice le1p le1l le1c] H R := vcs Try.tab_ok Try.mixed Try.func27 Try.cal27 Try.p27 h (by kernel_rfl)
def Try.S28 (f1 li2 di3 : OA) (H : Heap) (R : Kv) : Prop :=
 ∀ X4 : Kl, (∀ H5, (∃ a6, f1 = some a6 ∧ ∃ e7, cell H5 (.add a6 3) = some (.int .i64 e7) ∧ br (e7 != 0)
 (R (.tuple #[]) H5)
 (Try.C 58 #[.pointer f1, .pointer li2] H5 fun r8 H9 => ∃ s10, r8 = .int .i64 s10 ∧ ∃ a11, f1 = some a11 ∧ ∃ e12, cell H9 (.add a11 3) = some (.int .i64 e12) ∧ br (e12 != 0) (R (.tuple #[]) H9) (br (s10 == 256)
 (R (.tuple #[]) H9)
 (br (decide (s10 > 256))
 (Try.C 59 #[.pointer f1, .int .i64 s10, .pointer di3] H9 fun r13 H14 => r13 = .tuple #[] ∧ X4 [] H14)
 (∃ a15, f1 = some a15 ∧ ∃ ou16p ou16l ou16c, cell H9 (.add a15 1) = some (.slice ou16p ou16l ou16c) ∧ ∃ a17, f1 = some a17 ∧ ∃ mo18, cell H9 (.add a17 2) = some (.int .i64 mo18) ∧ br (decide (((ou16l : Int) : Int) ≥ mo18))
 (Try.C 30 #[.pointer f1, .int .i64 24] H9 fun r19 H20 => r19 = .tuple #[] ∧ X4 [] H20)
 (∃ a21, f1 = some a21 ∧ ∃ ou22p ou22l ou22c, cell H9 (.add a21 1) = some (.slice ou22p ou22l ou22c) ∧ alc H9 (.cells #[.int .u8 (wrap .u8 s10)] 5) fun b23 H24 => appQ 1 1 #[.int .u8 0] H24 ou22p ou22l ou22c (some ⟨b23, 0, none⟩) 1 5 fun ap25p ap25l ap25c H26 => ∃ a27, f1 = some a27 ∧ stAt H26 (.add a27 1) [.slice ap25p ap25l ap25c] fun H28 => X4 [] H28)))))) → X4 [] H5) → X4 [] H
def Try.p28 : Plan := (scope [] [0, 1, 2] leaf (two (tl (tl leaf)) (tl (two (one (tl (tl (tl (tl (tl (tl leaf))))))) leaf))))
theorem Try.s28 {f1 li2 di3 : OA} {H R} (h : Try.S28 f1 li2 di3 H R) : Try.C 28 #[.pointer f1, .pointer li2, .pointer di3] H R := vcs Try.tab_ok Try.mixed Try.func28 Try.cal28 Try.p28 h (by kernel_rfl)
def Try.S30 (f1 : OA) (e2 : Int) (H : Heap) (R : Kv) : Prop :=
 ∃ a3, f1 = some a3 ∧ ∃ e4, cell H (.add a3 3) = some (.int .i64 e4) ∧ br (e4 == 0)
 (∃ a5, f1 = some a5 ∧ stAt H (.add a5 3) [.int .i64 e2] fun H6 => R (.tuple #[]) H6)
 (R (.tuple #[]) H)
def Try.p30 : Plan := (tl (tl leaf))
theorem Try.s30 {f1 : OA} {e2 : Int} {H R} (h : Try.S30 f1 e2 H R) : Try.C 30 #[.pointer f1, .int .i64 e2] H R := vcs Try.tab_ok Try.mixed Try.func30 Try.cal30 Try.p30 h (by kernel_rfl)
def Try.S31 (r1 : OA) (H : Heap) (R : Kv) : Prop :=
 ∃ a2, r1 = some a2 ∧ ∃ at_3, cell H (.add a2 1) = some (.int .i64 at_3) ∧ R (.int .i64 at_3) H
def Try.p31 : Plan := (tl (tl leaf))
theorem Try.s31 {r1 : OA} {H R} (h : Try.S31 r1 H R) : Try.C 31 #[.pointer r1] H R := vcs Try.tab_ok Try.mixed Try.func31 Try.cal31 Try.p31 h (by kernel_rfl)
def Try.S32 (r1 : OA) (n2 : Int) (H : Heap) (R : Kv) : Prop :=
 ∃ a3, r1 = some a3 ∧ ∃ At4, cell H (.add a3 1) = some (.int .i64 At4) ∧ ∃ a5, r1 = some a5 ∧ ∃ B6p B6l B6c, cell H (.add a5 0) = some (.slice B6p B6l B6c) ∧ br (decide (((wrap .i64 (At4 + n2)) : Int) > (wrap .i64 ((8 : Int) * (B6l : Int)))))
 (Try.C 37 #[.pointer r1, .int .i64 20] H fun r7 H8 => r7 = .tuple #[] ∧ R (.int .i64 0) H8)
 (∀ X9 : Kl, (∀ (v10 k11 : Int) H12, (br (decide (k11 < n2))
 (∃ a13, r1 = some a13 ∧ ∃ B14p B14l B14c, cell H12 (.add a13 0) = some (.slice B14p B14l B14c) ∧ ∃ a15, r1 = some a15 ∧ ∃ At16, cell H12 (.add a15 1) = some (.int .i64 At16) ∧ (8 : Int) ≠ 0 ∧ ∃ a17, B14p = some a17 ∧ 0 ≤ (wrap .i64 (Int.tdiv At16 8)) ∧ (wrap .i64 (Int.tdiv At16 8)) < (B14l : Int) ∧ ∃ v18, cell H12 (.add a17 (toNat (wrap .i64 (Int.tdiv At16 8)) * 1)) = some (.int .u8 v18) ∧ ∃ a19, r1 = some a19 ∧ ∃ At20, cell H12 (.add a19 1) = some (.int .i64 At20) ∧ (8 : Int) ≠ 0 ∧ 0 ≤ (Int.tmod At20 8) ∧ (2 : Int) ≠ 0 ∧ 0 ≤ k11 ∧ ∃ a21, r1 = some a21 ∧ ∃ At22, cell H12 (.add a21 1) = some (.int .i64 At22) ∧ ∃ a23, r1 = some a23 ∧ stAt H12 (.add a23 1) [.int .i64 (wrap .i64 (At22 + 1))] fun H24 => X9 [.int .i64 (wrap .i64 (v10 + (shlI .i64 (Int.tmod (shrI .i64 (wrap .i64 v18) (Int.tmod At20 8)) 2) k11))), .int .i64 (wrap .i64 (k11 + 1))] H24)
 (R (.int .i64 v10) H12)) → X9 [.int .i64 v10, .int .i64 k11] H12) → X9 [.int .i64 0, .int .i64 0] H)
def Try.p32 : Plan := (tl (two (tl (two (tl (tl leaf)) leaf)) (tl (two (tl (one (loop [(5, 3), (6, 3)] [0, 1] (two (tl (tl leaf)) (two (one (tl leaf)) leaf))))) (tl leaf)))))
theorem Try.s32 {r1 : OA} {n2 : Int} {H R} (h : Try.S32 r1 n2 H R) : Try.C 32 #[.pointer r1, .int .i64 n2] H R := vcs Try.tab_ok Try.mixed Try.func32 Try.cal32 Try.p32 h (by kernel_rfl)
def Try.S33 (r1 : OA) (H : Heap) (R : Kv) : Prop :=
 ∃ a2, r1 = some a2 ∧ ∃ At3, cell H (.add a2 1) = some (.int .i64 At3) ∧ (8 : Int) ≠ 0 ∧ ∃ a4, r1 = some a4 ∧ stAt H (.add a4 1) [.int .i64 (wrap .i64 ((wrap .i64 (Int.tdiv (wrap .i64 (At3 + 7)) 8)) * 8))] fun H5 => Try.C 32 #[.pointer r1, .int .i64 16] H5 fun r6 H7 => ∃ n8, r6 = .int .i64 n8 ∧ Try.C 32 #[.pointer r1, .int .i64 16] H7 fun r9 H10 => ∃ m11, r9 = .int .i64 m11 ∧ ∃ a12, r1 = some a12 ∧ ∃ E13, cell H10 (.add a12 4) = some (.int .i64 E13) ∧ br (E13 != 0)
 (R (.tuple #[]) H10)
 (∀ J14 : Kl, (∀ H15, (∃ a16, r1 = some a16 ∧ ∃ Ou17p Ou17l Ou17c, cell H15 (.add a16 2) = some (.slice Ou17p Ou17l Ou17c) ∧ ∃ a18, r1 = some a18 ∧ ∃ Mo19, cell H15 (.add a18 3) = some (.int .i64 Mo19) ∧ br (decide (((wrap .i64 ((Ou17l : Int) + n8)) : Int) > Mo19))
 (Try.C 37 #[.pointer r1, .int .i64 24] H15 fun r20 H21 => r20 = .tuple #[] ∧ R (.tuple #[]) H21)
 (∀ X22 : Kl, (∀ (k23 : Int) H24, (br (decide (k23 < n8))
 (Try.C 32 #[.pointer r1, .int .i64 8] H24 fun r25 H26 => ∃ c27, r25 = .int .i64 c27 ∧ ∃ a28, r1 = some a28 ∧ ∃ E29, cell H26 (.add a28 4) = some (.int .i64 E29) ∧ br (E29 != 0)
 (R (.tuple #[]) H26)
 (∃ a30, r1 = some a30 ∧ ∃ Ou31p Ou31l Ou31c, cell H26 (.add a30 2) = some (.slice Ou31p Ou31l Ou31c) ∧ alc H26 (.cells #[.int .u8 (wrap .u8 c27)] 5) fun b32 H33 => appQ 1 1 #[.int .u8 0] H33 Ou31p Ou31l Ou31c (some ⟨b32, 0, none⟩) 1 5 fun ap34p ap34l ap34c H35 => ∃ a36, r1 = some a36 ∧ stAt H35 (.add a36 2) [.slice ap34p ap34l ap34c] fun H37 => X22 [.int .i64 (wrap .i64 (k23 + 1))] H37))
 (R (.tuple #[]) H24)) → X22 [.int .i64 k23] H24) → X22 [.int .i64 0] H15)) → J14 [] H15) →
 br (((wrap .i64 (n8 + m11)) : Int) != 65535) (Try.C 37 #[.pointer r1, .int .i64 25] H10 fun r38 H39 => r38 = .tuple #[] ∧ R (.tuple #[]) H39) (br (((andI .i64 n8 m11) : Int) != 0)
 (Try.C 37 #[.pointer r1, .int .i64 25] H10 fun r40 H41 => r40 = .tuple #[] ∧ R (.tuple #[]) H41)
 (J14 [] H10)))
def Try.p33 : Plan := (tl (tl (tl (two (tl (tl leaf)) (two (join [] [0, 2] g0) (tg (tl (one (loop [(4, 3)] [0, 2] (two (tl (tl leaf)) (two (one (tl (two (tl (tl leaf)) leaf))) leaf)))))))))))
theorem Try.s33 {r1 : OA} {H R} (h : Try.S33 r1 H R) : Try.C 33 #[.pointer r1] H R := vcs Try.tab_ok Try.mixed Try.func33 Try.cal33 Try.p33 h (by kernel_rfl)
def Try.S34  (H : Heap) (R : Kv) : Prop :=
 alc H (.cells #[.slice none 0 0, .slice none 0 0, .int .i64 0, .bool false] 73) fun b1 H2 => alc H2 (.cells #[.slice none 0 0, .slice none 0 0, .int .i64 0, .bool false] 73) fun b3 H4 => 0 ≤ (288 : Int) ∧ (288 : Int) ≤ (288 : Int) ∧ ((8 : Nat) : Int) * (288 : Int) ≤ 281474976710656 ∧ (288 : Int) ≤ 281474976710656 ∧ alc H4 (.cells (List.toArray (reps (toNat 288) (Array.toList #[.int .i64 0]))) 3) fun b5 H6 => ∀ X7 : Kl, (∀ (s8 : Int) H9, (br (decide (s8 < 288))
 (∃ a10, (some ⟨b5, 0, none⟩) = some a10 ∧ 0 ≤ s8 ∧ s8 < (((toNat 288) : Nat) : Int) ∧ stAt H9 (.add a10 (toNat s8 * 1)) [.int .i64 8] fun H11 => ∀ J12 : Kl, (∀ H13, (∀ J14 : Kl, (∀ H15, (br (decide (s8 ≥ 280))
 (∃ a16, (some ⟨b5, 0, none⟩) = some a16 ∧ 0 ≤ s8 ∧ s8 < (((toNat 288) : Nat) : Int) ∧ stAt H15 (.add a16 (toNat s8 * 1)) [.int .i64 8] fun H17 => X7 [.int .i64 (wrap .i64 (s8 + 1))] H17)
 (X7 [.int .i64 (wrap .i64 (s8 + 1))] H15)) → J14 [] H15) →
 br (decide (s8 ≥ 256))
 (∃ a18, (some ⟨b5, 0, none⟩) = some a18 ∧ 0 ≤ s8 ∧ s8 < (((toNat 288) : Nat) : Int) ∧ stAt H13 (.add a18 (toNat s8 * 1)) [.int .i64 7] fun H19 => J14 [] H19)
 (J14 [] H13)) → J12 [] H13) →
 br (decide (s8 ≥ 144))
 (∃ a20, (some ⟨b5, 0, none⟩) = some a20 ∧ 0 ≤ s8 ∧ s8 < (((toNat 288) : Nat) : Int) ∧ stAt H11 (.add a20 (toNat s8 * 1)) [.int .i64 9] fun H21 => J12 [] H21)
 (J12 [] H11))
 (0 ≤ (32 : Int) ∧ (32 : Int) ≤ (32 : Int) ∧ ((8 : Nat) : Int) * (32 : Int) ≤ 281474976710656 ∧ (32 : Int) ≤ 281474976710656 ∧ alc H9 (.cells (List.toArray (reps (toNat 32) (Array.toList #[.int .i64 0]))) 3) fun b22 H23 => ∀ X24 : Kl, (∀ (s25 : Int) H26, (br (decide (s25 < 32))
 (∃ a27, (some ⟨b22, 0, none⟩) = some a27 ∧ 0 ≤ s25 ∧ s25 < (((toNat 32) : Nat) : Int) ∧ stAt H26 (.add a27 (toNat s25 * 1)) [.int .i64 5] fun H28 => X24 [.int .i64 (wrap .i64 (s25 + 1))] H28)
 (Try.C 61 #[.slice (some ⟨b5, 0, none⟩) (toNat 288) (toNat 288)] H26 fun r29 H30 => ∃ r31, r29 = .agg r31 ∧ Try.C 61 #[.slice (some ⟨b22, 0, none⟩) (toNat 32) (toNat 32)] H30 fun r32 H33 => ∃ r34, r32 = .agg r34 ∧ r31.size = 4 ∧ stAt H33 ⟨b1, 0, none⟩ r31.toList fun H35 => r34.size = 4 ∧ stAt H35 ⟨b3, 0, none⟩ r34.toList fun H36 => ∃ re37, re37.size = 4 ∧ rowIn H36 ⟨b1, 0, none⟩ re37 ∧ ∃ re38, re38.size = 4 ∧ rowIn H36 ⟨b3, 0, none⟩ re38 ∧ R (.tuple #[.agg re37, .agg re38]) H36)) → X24 [.int .i64 s25] H26) → X24 [.int .i64 0] H23)) → X7 [.int .i64 s8] H9) → X7 [.int .i64 0] H6
def Try.p34 : Plan := (tl (tl (two (tl (one (loop [(3, 3)] [0, 1, 2] (two (tl (tl leaf)) (two (one (tl (two (join [] [0, 1, 2, 3] (tl (tl leaf))) (two (join [] [0, 1, 2, 3] (tl (tl leaf))) (tl (tl leaf)))))) leaf))))) (tl (two (tl (one (loop [(5, 3)] [0, 1, 2, 4] (two (tl (tl leaf)) (two (one leaf) leaf))))) (tl leaf))))))
theorem Try.s34 {_u : Unit} {H R} (h : Try.S34  H R) : Try.C 34 #[] H R := vcs Try.tab_ok Try.mixed Try.func34 Try.cal34 Try.p34 h (by kernel_rfl)
def Try.S35 (r1 : OA) (l2 d3 : AV) (H : Heap) (R : Kv) : Prop :=
 alc H (.cells l2 73) fun b4 H5 => alc H5 (.cells d3 73) fun b6 H7 => ∀ X8 : Kl, (∀ H9, (∃ a10, r1 = some a10 ∧ ∃ E11, cell H9 (.add a10 4) = some (.int .i64 E11) ∧ br (E11 == 0)
 (∃ v12, v12.size = 4 ∧ rowIn H9 ⟨b4, 0, none⟩ v12 ∧ Try.C 62 #[.pointer r1, .agg v12] H9 fun r13 H14 => ∃ s15, r13 = .int .i64 s15 ∧ ∀ J16 : Kl, (∀ H17, (br (decide (s15 > 256))
 (∃ v18, v18.size = 4 ∧ rowIn H17 ⟨b6, 0, none⟩ v18 ∧ Try.C 63 #[.pointer r1, .int .i64 s15, .agg v18] H17 fun r19 H20 => r19 = .tuple #[] ∧ X8 [] H20)
 (∃ a21, r1 = some a21 ∧ ∃ Ou22p Ou22l Ou22c, cell H17 (.add a21 2) = some (.slice Ou22p Ou22l Ou22c) ∧ ∃ a23, r1 = some a23 ∧ ∃ Mo24, cell H17 (.add a23 3) = some (.int .i64 Mo24) ∧ br (decide (((wrap .i64 ((Ou22l : Int) + 1)) : Int) > Mo24))
 (Try.C 37 #[.pointer r1, .int .i64 24] H17 fun r25 H26 => r25 = .tuple #[] ∧ R (.tuple #[]) H26)
 (∃ a27, r1 = some a27 ∧ ∃ Ou28p Ou28l Ou28c, cell H17 (.add a27 2) = some (.slice Ou28p Ou28l Ou28c) ∧ alc H17 (.cells #[.int .u8 (wrap .u8 s15)] 5) fun b29 H30 => appQ 1 1 #[.int .u8 0] H30 Ou28p Ou28l Ou28c (some ⟨b29, 0, none⟩) 1 5 fun ap31p ap31l ap31c H32 => ∃ a33, r1 = some a33 ∧ stAt H32 (.add a33 2) [.slice ap31p ap31l ap31c] fun H34 => X8 [] H34))) → J16 [] H17) →
 ∃ a35, r1 = some a35 ∧ ∃ E36, cell H14 (.add a35 4) = some (.int .i64 E36) ∧ br (E36 != 0) (R (.tuple #[]) H14) (br (s15 == 256)
 (R (.tuple #[]) H14)
 (J16 [] H14)))
 (R (.tuple #[]) H9)) → X8 [] H9) → X8 [] H7
def Try.p35 : Plan := (tl (one (loop [] [0, 4, 5] (two (tl (tl leaf)) (one (tl (two (join [] [0, 4, 5, 6] (tl (tl leaf))) (tg (tg leaf)))))))))
theorem Try.s35 {r1 : OA} {l2 d3 : AV} {H R} (h : Try.S35 r1 l2 d3 H R) : Try.C 35 #[.pointer r1, .agg l2, .agg d3] H R := vcs Try.tab_ok Try.mixed Try.func35 Try.cal35 Try.p35 h (by kernel_rfl)
def Try.S36 (r1 : OA) (H : Heap) (R : Kv) : Prop :=
 alc H (.cells #[.slice none 0 0, .slice none 0 0, .int .i64 0, .bool false] 73) fun b2 H3 => alc H3 (.cells #[.slice none 0 0, .slice none 0 0, .int .i64 0, .bool false] 73) fun b4 H5 => Try.C 32 #[.pointer r1, .int .i64 5] H5 fun r6 H7 => ∃ hl8, r6 = .int .i64 hl8 ∧ Try.C 32 #[.pointer r1, .int .i64 5] H7 fun r9 H10 => ∃ hd11, r9 = .int .i64 hd11 ∧ Try.C 32 #[.pointer r1, .int .i64 4] H10 fun r12 H13 => ∃ hc14, r12 = .int .i64 hc14 ∧ ∀ J15 : Kl, (∀ H16, (alc H16 (.cells #[.int .i64 0, .int .i64 0, .int .i64 0, .int .i64 0, .int .i64 0, .int .i64 0, .int .i64 0, .int .i64 0, .int .i64 0, .int .i64 0, .int .i64 0, .int .i64 0, .int .i64 0, .int .i64 0, .int .i64 0, .int .i64 0, .int .i64 0, .int .i64 0, .int .i64 0] 116) fun b17 H18 => #[Value.int .i64 16, Value.int .i64 17, Value.int .i64 18, Value.int .i64 0, Value.int .i64 8, Value.int .i64 7, Value.int .i64 9, Value.int .i64 6, Value.int .i64 10, Value.int .i64 5, Value.int .i64 11, Value.int .i64 4, Value.int .i64 12, Value.int .i64 3, Value.int .i64 13, Value.int .i64 2, Value.int .i64 14, Value.int .i64 1, Value.int .i64 15].size = 19 ∧ stAt H18 ⟨b17, 0, none⟩ (Array.toList #[.int .i64 16, .int .i64 17, .int .i64 18, .int .i64 0, .int .i64 8, .int .i64 7, .int .i64 9, .int .i64 6, .int .i64 10, .int .i64 5, .int .i64 11, .int .i64 4, .int .i64 12, .int .i64 3, .int .i64 13, .int .i64 2, .int .i64 14, .int .i64 1, .int .i64 15]) fun H19 => 0 ≤ (19 : Int) ∧ (19 : Int) ≤ (19 : Int) ∧ ((8 : Nat) : Int) * (19 : Int) ≤ 281474976710656 ∧ (19 : Int) ≤ 281474976710656 ∧ alc H19 (.cells (List.toArray (reps (toNat 19) (Array.toList #[.int .i64 0]))) 3) fun b20 H21 => ∀ X22 : Kl, (∀ (i23 : Int) H24, (br (decide (i23 < (wrap .i64 (hc14 + 4))))
 (0 ≤ i23 ∧ i23 < ((19 : Nat) : Int) ∧ ∃ v25, cell H24 (.add ⟨b17, 0, none⟩ (toNat i23 * 1)) = some (.int .i64 v25) ∧ Try.C 32 #[.pointer r1, .int .i64 3] H24 fun r26 H27 => ∃ r28, r26 = .int .i64 r28 ∧ (Ext H24 H27 ∨ (∃ v31, cell H27 (.add ⟨b17, 0, none⟩ (toNat i23 * 1)) = some (.int .i64 v31) ∧ Value.int .i64 v31 = .int .i64 v25)) ∧ ∃ a29, (some ⟨b20, 0, none⟩) = some a29 ∧ 0 ≤ v25 ∧ v25 < (((toNat 19) : Nat) : Int) ∧ stAt H27 (.add a29 (toNat v25 * 1)) [.int .i64 r28] fun H30 => X22 [.int .i64 (wrap .i64 (i23 + 1))] H30)
 (Try.C 61 #[.slice (some ⟨b20, 0, none⟩) (toNat 19) (toNat 19)] H24 fun r32 H33 => ∃ r34, r32 = .agg r34 ∧ alc H33 (.cells #[.slice none 0 0, .slice none 0 0, .int .i64 0, .bool false] 73) fun b35 H36 => r34.size = 4 ∧ stAt H36 ⟨b35, 0, none⟩ r34.toList fun H37 => ∀ J38 : Kl, (∀ H39, (∀ J40 : Kl, (∀ (li41p : OA) (li41l li41c : Nat) H42, (∃ a43, r1 = some a43 ∧ ∃ E44, cell H42 (.add a43 4) = some (.int .i64 E44) ∧ br (E44 != 0)
 (#[Value.slice none 0 0, Value.slice none 0 0, Value.int .i64 0, Value.bool false].size = 4 ∧ stAt H42 ⟨b2, 0, none⟩ (Array.toList #[.slice none 0 0, .slice none 0 0, .int .i64 0, .bool false]) fun H45 => #[Value.slice none 0 0, Value.slice none 0 0, Value.int .i64 0, Value.bool false].size = 4 ∧ stAt H45 ⟨b4, 0, none⟩ (Array.toList #[.slice none 0 0, .slice none 0 0, .int .i64 0, .bool false]) fun H46 => ∃ re47, re47.size = 4 ∧ rowIn H46 ⟨b2, 0, none⟩ re47 ∧ ∃ re48, re48.size = 4 ∧ rowIn H46 ⟨b4, 0, none⟩ re48 ∧ R (.tuple #[.agg re47, .agg re48]) H46)
 (0 ≤ (wrap .i64 (hl8 + 257)) ∧ (wrap .i64 (hl8 + 257)) ≤ (li41c : Int) ∧ Try.C 61 #[.slice (if li41c = 0 then li41p else Option.map (fun x => Addr.add x (0 * 1)) li41p) ((toNat (wrap .i64 (hl8 + 257))) - 0) (li41c - 0)] H42 fun r49 H50 => ∃ r51, r49 = .agg r51 ∧ alc H50 (.cells #[.slice none 0 0, .slice none 0 0, .int .i64 0, .bool false] 73) fun b52 H53 => r51.size = 4 ∧ stAt H53 ⟨b52, 0, none⟩ r51.toList fun H54 => 0 ≤ (wrap .i64 (hl8 + 257)) ∧ (wrap .i64 (hl8 + 257)) ≤ (li41l : Int) ∧ Try.C 61 #[.slice (if li41c = (toNat (wrap .i64 (hl8 + 257))) then li41p else Option.map (fun x => Addr.add x ((toNat (wrap .i64 (hl8 + 257))) * 1)) li41p) (li41l - (toNat (wrap .i64 (hl8 + 257)))) (li41c - (toNat (wrap .i64 (hl8 + 257))))] H54 fun r55 H56 => ∃ r57, r55 = .agg r57 ∧ alc H56 (.cells #[.slice none 0 0, .slice none 0 0, .int .i64 0, .bool false] 73) fun b58 H59 => r57.size = 4 ∧ stAt H59 ⟨b58, 0, none⟩ r57.toList fun H60 => ∀ J61 : Kl, (∀ H62, (∃ v63, v63.size = 4 ∧ rowIn H62 ⟨b52, 0, none⟩ v63 ∧ ∃ v64, v64.size = 4 ∧ rowIn H62 ⟨b58, 0, none⟩ v64 ∧ v63.size = 4 ∧ stAt H62 ⟨b2, 0, none⟩ v63.toList fun H65 => (Ext H62 H65 ∨ (∃ v69, v69.size = 4 ∧ rowIn H65 ⟨b58, 0, none⟩ v69 ∧ Value.agg v69 = .agg v64)) ∧ v64.size = 4 ∧ stAt H65 ⟨b4, 0, none⟩ v64.toList fun H66 => ∃ re67, re67.size = 4 ∧ rowIn H66 ⟨b2, 0, none⟩ re67 ∧ ∃ re68, re68.size = 4 ∧ rowIn H66 ⟨b4, 0, none⟩ re68 ∧ R (.tuple #[.agg re67, .agg re68]) H66) → J61 [] H62) →
 ∃ v70, v70.size = 4 ∧ rowIn H60 ⟨b52, 0, none⟩ v70 ∧ Try.C 64 #[.agg v70, .bool true, .bool false] H60 fun r71 H72 => ∃ r73, r71 = .bool r73 ∧ br (!r73) (Try.C 37 #[.pointer r1, .int .i64 21] H72 fun r74 H75 => r74 = .tuple #[] ∧ J61 [] H75) (∃ v76, v76.size = 4 ∧ rowIn H72 ⟨b58, 0, none⟩ v76 ∧ Try.C 64 #[.agg v76, .bool true, .bool true] H72 fun r77 H78 => ∃ r79, r77 = .bool r79 ∧ br (!r79)
 (Try.C 37 #[.pointer r1, .int .i64 21] H78 fun r80 H81 => r80 = .tuple #[] ∧ J61 [] H81)
 (J61 [] H78)))) → J40 [.slice li41p li41l li41c] H42) →
 ∀ X82 : Kl, (∀ (li83p : OA) (li83l li83c : Nat) H84, (∀ J85 : Kl, (∀ H86, (∃ v87, v87.size = 4 ∧ rowIn H86 ⟨b35, 0, none⟩ v87 ∧ Try.C 65 #[.pointer r1, .agg v87, .slice li83p li83l li83c, .int .i64 (wrap .i64 ((wrap .i64 (hl8 + hd11)) + 258))] H86 fun r88 H89 => ∃ li90p li90l li90c, r88 = .slice li90p li90l li90c ∧ X82 [.slice li90p li90l li90c] H89) → J85 [] H86) →
 br (decide (((li83l : Int) : Int) < (wrap .i64 ((wrap .i64 (hl8 + hd11)) + 258)))) (∃ a91, r1 = some a91 ∧ ∃ E92, cell H84 (.add a91 4) = some (.int .i64 E92) ∧ br (E92 == 0)
 (J85 [] H84)
 (J40 [.slice li83p li83l li83c] H84)) (J40 [.slice li83p li83l li83c] H84)) → X82 [.slice li83p li83l li83c] H84) → X82 [.slice none 0 0] H39) → J38 [] H39) →
 ∃ a93, r1 = some a93 ∧ ∃ E94, cell H37 (.add a93 4) = some (.int .i64 E94) ∧ br (E94 == 0) (∃ v95, v95.size = 4 ∧ rowIn H37 ⟨b35, 0, none⟩ v95 ∧ Try.C 64 #[.agg v95, .bool false, .bool false] H37 fun r96 H97 => ∃ r98, r96 = .bool r98 ∧ br (!r98)
 (Try.C 37 #[.pointer r1, .int .i64 21] H97 fun r99 H100 => r99 = .tuple #[] ∧ J38 [] H100)
 (J38 [] H97)) (J38 [] H37))) → X22 [.int .i64 i23] H24) → X22 [.int .i64 0] H21) → J15 [] H16) →
 ∃ a101, r1 = some a101 ∧ ∃ E102, cell H13 (.add a101 4) = some (.int .i64 E102) ∧ br (E102 == 0) (br (decide (hl8 > 29)) (Try.C 37 #[.pointer r1, .int .i64 25] H13 fun r103 H104 => r103 = .tuple #[] ∧ J15 [] H104) (br (decide (hd11 > 29))
 (Try.C 37 #[.pointer r1, .int .i64 25] H13 fun r105 H106 => r105 = .tuple #[] ∧ J15 [] H106)
 (J15 [] H13))) (J15 [] H13)
def Try.p36 : Plan := (tl (tl (tl (tl (two (join [] [0, 2, 3, 4, 5, 6] (tl (tl leaf))) (tl (tl (two (tl (one (loop [(9, 3)] [0, 2, 3, 4, 5, 6, 7, 8] (two (tl (tl leaf)) (two (one leaf) leaf))))) (tl (two (join [] [0, 2, 3, 4, 5, 10] (tl (tl leaf))) (tl (tl (two (join [(12, 46)] [0, 2, 3, 4] (one (loop [(12, 46)] [0, 2, 3, 4, 10, 11] (two (join [] [0, 2, 3, 4, 10, 11, 12] (tl (tl leaf))) (one leaf))))) (tg (tl (tl (two (join [] [2, 3, 13, 14] (tl (tl leaf))) (tl leaf))))))))))))))))))
theorem Try.s36 {r1 : OA} {H R} (h : Try.S36 r1 H R) : Try.C 36 #[.pointer r1] H R := vcs Try.tab_ok Try.mixed Try.func36 Try.cal36 Try.p36 h (by kernel_rfl)
def Try.S37 (r1 : OA) (e2 : Int) (H : Heap) (R : Kv) : Prop :=
 ∃ a3, r1 = some a3 ∧ ∃ E4, cell H (.add a3 4) = some (.int .i64 E4) ∧ br (E4 == 0)
 (∃ a5, r1 = some a5 ∧ stAt H (.add a5 4) [.int .i64 e2] fun H6 => R (.tuple #[]) H6)
 (R (.tuple #[]) H)
def Try.p37 : Plan := (tl (tl leaf))
theorem Try.s37 {r1 : OA} {e2 : Int} {H R} (h : Try.S37 r1 e2 H R) : Try.C 37 #[.pointer r1, .int .i64 e2] H R := vcs Try.tab_ok Try.mixed Try.func37 Try.cal37 Try.p37 h (by kernel_rfl)
def Try.S38 (pa1p : OA) (pa1l pa1c : Nat) (H : Heap) (R : Kv) : Prop :=
 ∀ X2 : Kl, (∀ (su3 t4 : Int) H5, (br (decide (t4 < (pa1l : Int)))
 (∃ a6, pa1p = some a6 ∧ 0 ≤ t4 ∧ t4 < (pa1l : Int) ∧ ∃ p7p p7l p7c, cell H5 (.add a6 (toNat t4 * 1)) = some (.slice p7p p7l p7c) ∧ Try.C 66 #[.int .i64 su3, .slice p7p p7l p7c] H5 fun r8 H9 => ∃ su10, r8 = .int .i64 su10 ∧ X2 [.int .i64 su10, .int .i64 (wrap .i64 (t4 + 1))] H9)
 (R (.int .i64 su3) H5)) → X2 [.int .i64 su3, .int .i64 t4] H5) → X2 [.int .i64 1, .int .i64 0] H
def Try.p38 : Plan := (tl (tl (two (tl (one (loop [(3, 3), (8, 3)] [6, 7] (tl (two (tl leaf) (two (one (tl leaf)) leaf)))))) (tl leaf))))
theorem Try.s38 {pa1p : OA} {pa1l pa1c : Nat} {H R} (h : Try.S38 pa1p pa1l pa1c H R) : Try.C 38 #[.slice pa1p pa1l pa1c] H R := vcs Try.tab_ok Try.mixed Try.func38 Try.cal38 Try.p38 h (by kernel_rfl)
def Try.S40 (f1 : OA) (at_2 ef3 : Int) (H : Heap) (R : Kv) : Prop :=
 ∃ a4, f1 = some a4 ∧ ∃ b5p b5l b5c, cell H (.add a4 0) = some (.slice b5p b5l b5c) ∧ br (decide (((wrap .i64 (at_2 + 3)) : Int) > (b5l : Int)))
 (R (.tuple #[.int .i64 0, .int .i64 0]) H)
 (∀ J6 : Kl, (∀ (le7 di8 : Int) H9, (R (.tuple #[.int .i64 le7, .int .i64 di8]) H9) → J6 [.int .i64 le7, .int .i64 di8] H9) →
 ∃ a10, f1 = some a10 ∧ ∃ fi11p fi11l fi11c, cell H (.add a10 1) = some (.slice fi11p fi11l fi11c) ∧ ∃ a12, f1 = some a12 ∧ ∃ b13p b13l b13c, cell H (.add a12 0) = some (.slice b13p b13l b13c) ∧ 0 ≤ at_2 ∧ at_2 ≤ (b13l : Int) ∧ Try.C 68 #[.slice (if b13c = (toNat at_2) then b13p else Option.map (fun x => Addr.add x ((toNat at_2) * 1)) b13p) (b13l - (toNat at_2)) (b13c - (toNat at_2))] H fun r14 H15 => ∃ r16, r14 = .int .i64 r16 ∧ (Ext H H15 ∨ (∃ fi56p fi56l fi56c, cell H15 (.add a10 1) = some (.slice fi56p fi56l fi56c) ∧ Value.slice fi56p fi56l fi56c = .slice fi11p fi11l fi11c)) ∧ ∃ a17, fi11p = some a17 ∧ 0 ≤ r16 ∧ r16 < (fi11l : Int) ∧ ∃ p18, cell H15 (.add a17 (toNat r16 * 1)) = some (.int .i64 p18) ∧ ∀ X19 : Kl, (∀ (le20 di21 tr22 p23 : Int) H24, (∀ J25 : Kl, (∀ H26, (∀ J27 : Kl, (∀ (le28 di29 tr30 : Int) H31, (∃ a32, f1 = some a32 ∧ ∃ ah33p ah33l ah33c, cell H31 (.add a32 2) = some (.slice ah33p ah33l ah33c) ∧ ∃ a34, ah33p = some a34 ∧ 0 ≤ (wrap .i64 (p23 - 1)) ∧ (wrap .i64 (p23 - 1)) < (ah33l : Int) ∧ ∃ p35, cell H31 (.add a34 (toNat (wrap .i64 (p23 - 1)) * 1)) = some (.int .i64 p35) ∧ X19 [.int .i64 le28, .int .i64 di29, .int .i64 tr30, .int .i64 p35] H31) → J27 [.int .i64 le28, .int .i64 di29, .int .i64 tr30] H31) →
 ∀ J36 : Kl, (∀ (n37 : Int) H38, (∀ J39 : Kl, (∀ (le40 di41 : Int) H42, (br (le40 == 258) (J6 [.int .i64 le40, .int .i64 di41] H42) (br (decide (le40 > 0)) (br (decide (((wrap .i64 (tr22 + 1)) : Int) ≥ (wrap .i64 ((8 : Int) * ef3))))
 (J6 [.int .i64 le40, .int .i64 di41] H42)
 (J27 [.int .i64 le40, .int .i64 di41, .int .i64 (wrap .i64 (tr22 + 1))] H42)) (J27 [.int .i64 le40, .int .i64 di41, .int .i64 (wrap .i64 (tr22 + 1))] H42))) → J39 [.int .i64 le40, .int .i64 di41] H42) →
 br (decide (n37 ≥ 3)) (br (decide (n37 > le20))
 (J39 [.int .i64 n37, .int .i64 (wrap .i64 (at_2 - (wrap .i64 (p23 - 1))))] H38)
 (J39 [.int .i64 le20, .int .i64 di21] H38)) (J39 [.int .i64 le20, .int .i64 di21] H38)) → J36 [.int .i64 n37] H38) →
 ∀ X43 : Kl, (∀ (n44 : Int) H45, (br (decide (n44 < 258)) (∃ a46, f1 = some a46 ∧ ∃ b47p b47l b47c, cell H45 (.add a46 0) = some (.slice b47p b47l b47c) ∧ br (decide (((wrap .i64 (at_2 + n44)) : Int) < (b47l : Int))) (∃ a48, f1 = some a48 ∧ ∃ b49p b49l b49c, cell H45 (.add a48 0) = some (.slice b49p b49l b49c) ∧ ∃ a50, b49p = some a50 ∧ 0 ≤ (wrap .i64 ((wrap .i64 (p23 - 1)) + n44)) ∧ (wrap .i64 ((wrap .i64 (p23 - 1)) + n44)) < (b49l : Int) ∧ ∃ v51, cell H45 (.add a50 (toNat (wrap .i64 ((wrap .i64 (p23 - 1)) + n44)) * 1)) = some (.int .u8 v51) ∧ ∃ a52, f1 = some a52 ∧ ∃ b53p b53l b53c, cell H45 (.add a52 0) = some (.slice b53p b53l b53c) ∧ ∃ a54, b53p = some a54 ∧ 0 ≤ (wrap .i64 (at_2 + n44)) ∧ (wrap .i64 (at_2 + n44)) < (b53l : Int) ∧ ∃ v55, cell H45 (.add a54 (toNat (wrap .i64 (at_2 + n44)) * 1)) = some (.int .u8 v55) ∧ br (v51 == v55)
 (X43 [.int .i64 (wrap .i64 (n44 + 1))] H45)
 (J36 [.int .i64 n44] H45)) (J36 [.int .i64 n44] H45)) (J36 [.int .i64 n44] H45)) → X43 [.int .i64 n44] H45) → X43 [.int .i64 0] H26) → J25 [] H26) →
 br (decide (p23 > 0)) (br (decide (((wrap .i64 (at_2 - (wrap .i64 (p23 - 1)))) : Int) ≤ 32768))
 (J25 [] H24)
 (J6 [.int .i64 le20, .int .i64 di21] H24)) (J6 [.int .i64 le20, .int .i64 di21] H24)) → X19 [.int .i64 le20, .int .i64 di21, .int .i64 tr22, .int .i64 p23] H24) → X19 [.int .i64 0, .int .i64 0, .int .i64 0, .int .i64 p18] H15)
def Try.p40 : Plan := (tl (tg (tl (two (join [(6, 3), (7, 3)] [] (tl (one (loop [(6, 3), (7, 3), (8, 3), (9, 3)] [0, 1, 2] (two (join [] [0, 1, 2, 6, 7, 8, 9] (tl (tl leaf))) (two (join [(6, 3), (7, 3), (8, 3)] [0, 1, 2, 9] (one (tl (two (join [(10, 3)] [0, 1, 2, 6, 7, 8, 9] (one (loop [(10, 3)] [0, 1, 2, 6, 7, 8, 9] (two (tl (tl leaf)) (one leaf))))) (two (join [(6, 3), (7, 3)] [0, 1, 2, 8, 9] (tl (tl leaf))) (tl (tl (tl leaf)))))))) leaf)))))) (tl leaf)))))
theorem Try.s40 {f1 : OA} {at_2 ef3 : Int} {H R} (h : Try.S40 f1 at_2 ef3 H R) : Try.C 40 #[.pointer f1, .int .i64 at_2, .int .i64 ef3] H R := vcs Try.tab_ok Try.mixed Try.func40 Try.cal40 Try.p40 h (by kernel_rfl)
def Try.S41 (f1 : OA) (at_2 : Int) (H : Heap) (R : Kv) : Prop :=
 ∃ a3, f1 = some a3 ∧ ∃ b4p b4l b4c, cell H (.add a3 0) = some (.slice b4p b4l b4c) ∧ br (decide (((wrap .i64 (at_2 + 3)) : Int) ≤ (b4l : Int)))
 (∃ a5, f1 = some a5 ∧ ∃ b6p b6l b6c, cell H (.add a5 0) = some (.slice b6p b6l b6c) ∧ 0 ≤ at_2 ∧ at_2 ≤ (b6l : Int) ∧ Try.C 68 #[.slice (if b6c = (toNat at_2) then b6p else Option.map (fun x => Addr.add x ((toNat at_2) * 1)) b6p) (b6l - (toNat at_2)) (b6c - (toNat at_2))] H fun r7 H8 => ∃ h9, r7 = .int .i64 h9 ∧ ∃ a10, f1 = some a10 ∧ ∃ ah11p ah11l ah11c, cell H8 (.add a10 2) = some (.slice ah11p ah11l ah11c) ∧ ∃ a12, f1 = some a12 ∧ ∃ fi13p fi13l fi13c, cell H8 (.add a12 1) = some (.slice fi13p fi13l fi13c) ∧ ∃ a14, f1 = some a14 ∧ ∃ fi15p fi15l fi15c, cell H8 (.add a14 1) = some (.slice fi15p fi15l fi15c) ∧ ∃ a16, fi15p = some a16 ∧ 0 ≤ h9 ∧ h9 < (fi15l : Int) ∧ ∃ v17, cell H8 (.add a16 (toNat h9 * 1)) = some (.int .i64 v17) ∧ ∃ a18, ah11p = some a18 ∧ 0 ≤ at_2 ∧ at_2 < (ah11l : Int) ∧ stAt H8 (.add a18 (toNat at_2 * 1)) [.int .i64 v17] fun H19 => ∃ a20, fi13p = some a20 ∧ 0 ≤ h9 ∧ h9 < (fi13l : Int) ∧ stAt H19 (.add a20 (toNat h9 * 1)) [.int .i64 (wrap .i64 (at_2 + 1))] fun H21 => R (.tuple #[]) H21)
 (R (.tuple #[]) H)
def Try.p41 : Plan := g0
theorem Try.s41 {f1 : OA} {at_2 : Int} {H R} (h : Try.S41 f1 at_2 H R) : Try.C 41 #[.pointer f1, .int .i64 at_2] H R := vcs Try.tab_ok Try.mixed Try.func41 Try.cal41 Try.p41 h (by kernel_rfl)
def Try.S42 (w1 : OA) (v2 : Int) (H : Heap) (R : Kv) : Prop :=
 ∀ J3 : Kl, (∀ H4, (∃ a5, w1 = some a5 ∧ ∃ b6p b6l b6c, cell H4 (.add a5 0) = some (.slice b6p b6l b6c) ∧ ∃ a7, w1 = some a7 ∧ ∃ n8, cell H4 (.add a7 1) = some (.int .i64 n8) ∧ (8 : Int) ≠ 0 ∧ ∃ a9, b6p = some a9 ∧ 0 ≤ (wrap .i64 (Int.tdiv n8 8)) ∧ (wrap .i64 (Int.tdiv n8 8)) < (b6l : Int) ∧ ∃ v10, cell H4 (.add a9 (toNat (wrap .i64 (Int.tdiv n8 8)) * 1)) = some (.int .u8 v10) ∧ ∃ a11, w1 = some a11 ∧ ∃ n12, cell H4 (.add a11 1) = some (.int .i64 n12) ∧ ∃ a13, w1 = some a13 ∧ ∃ hi14, cell H4 (.add a13 2) = some (.bool hi14) ∧ Try.C 69 #[.int .i64 n12, .bool hi14] H4 fun r15 H16 => ∃ r17, r15 = .int .i64 r17 ∧ (Ext H4 H16 ∨ (∃ v24, cell H16 (.add a9 (toNat (wrap .i64 (Int.tdiv n8 8)) * 1)) = some (.int .u8 v24) ∧ Value.int .u8 v24 = .int .u8 v10) ∧ (∃ n25, cell H16 (.add a7 1) = some (.int .i64 n25) ∧ Value.int .i64 n25 = .int .i64 n8) ∧ (∃ b26p b26l b26c, cell H16 (.add a5 0) = some (.slice b26p b26l b26c) ∧ Value.slice b26p b26l b26c = .slice b6p b6l b6c)) ∧ 0 ≤ r17 ∧ ∃ a18, b6p = some a18 ∧ 0 ≤ (wrap .i64 (Int.tdiv n8 8)) ∧ (wrap .i64 (Int.tdiv n8 8)) < (b6l : Int) ∧ stAt H16 (.add a18 (toNat (wrap .i64 (Int.tdiv n8 8)) * 1)) [.int .u8 (orI .u8 v10 (shlI .u8 (wrap .u8 (andI .i64 v2 1)) r17))] fun H19 => ∃ a20, w1 = some a20 ∧ ∃ n21, cell H19 (.add a20 1) = some (.int .i64 n21) ∧ ∃ a22, w1 = some a22 ∧ stAt H19 (.add a22 1) [.int .i64 (wrap .i64 (n21 + 1))] fun H23 => R (.tuple #[]) H23) → J3 [] H4) →
 ∃ a27, w1 = some a27 ∧ ∃ n28, cell H (.add a27 1) = some (.int .i64 n28) ∧ (8 : Int) ≠ 0 ∧ br (((Int.tmod n28 8) : Int) == 0)
 (∃ a29, w1 = some a29 ∧ ∃ b30p b30l b30c, cell H (.add a29 0) = some (.slice b30p b30l b30c) ∧ alc H (.cells #[.int .u8 0] 5) fun b31 H32 => appQ 1 1 #[.int .u8 0] H32 b30p b30l b30c (some ⟨b31, 0, none⟩) 1 5 fun ap33p ap33l ap33c H34 => ∃ a35, w1 = some a35 ∧ stAt H34 (.add a35 0) [.slice ap33p ap33l ap33c] fun H36 => J3 [] H36)
 (J3 [] H)
def Try.p42 : Plan := (two (join [] [0, 1] (tl (tl leaf))) (tl leaf))
theorem Try.s42 {w1 : OA} {v2 : Int} {H R} (h : Try.S42 w1 v2 H R) : Try.C 42 #[.pointer w1, .int .i64 v2] H R := vcs Try.tab_ok Try.mixed Try.func42 Try.cal42 Try.p42 h (by kernel_rfl)
def Try.S43 (d1 : AV) (co2 n3 : Int) (H : Heap) (R : Kv) : Prop :=
 alc H (.cells d1 43) fun b4 H5 => ∀ X6 : Kl, (∀ (k7 : Int) H8, (br (decide (k7 ≥ 0))
 (∃ Wr9, cell H8 (.add ⟨b4, 0, none⟩ 0) = some (.pointer Wr9) ∧ 0 ≤ k7 ∧ Try.C 17 #[.pointer Wr9, .int .i64 (andI .i64 (shrI .i64 co2 k7) 1), .int .i64 1] H8 fun r10 H11 => ∃ r12, r10 = .bool r12 ∧ X6 [.int .i64 (wrap .i64 (k7 - 1))] H11)
 (R (.tuple #[]) H8)) → X6 [.int .i64 k7] H8) → X6 [.int .i64 (wrap .i64 (n3 - 1))] H5
def Try.p43 : Plan := (tl (tl (one (loop [(6, 3)] [1, 3] (two (tl (tl leaf)) (two (one leaf) leaf))))))
theorem Try.s43 {d1 : AV} {co2 n3 : Int} {H R} (h : Try.S43 d1 co2 n3 H R) : Try.C 43 #[.agg d1, .int .i64 co2, .int .i64 n3] H R := vcs Try.tab_ok Try.mixed Try.func43 Try.cal43 Try.p43 h (by kernel_rfl)
def Try.S44 (n1 : Int) (H : Heap) (R : Kv) : Prop :=
 br (n1 == 258)
 (R (.tuple #[.int .i64 285, .int .i64 0, .int .i64 0]) H)
 (Try.C 45 #[.int .i64 n1, .int .i64 257, .int .i64 284, .func (.func 70) #[] #[]] H fun r2 H3 => ∃ r4 r5 r6, r2 = .tuple #[.int .i64 r4, .int .i64 r5, .int .i64 r6] ∧ R (.tuple #[.int .i64 r4, .int .i64 r5, .int .i64 r6]) H3)
def Try.p44 : Plan := (tl (tg (tl leaf)))
theorem Try.s44 {n1 : Int} {H R} (h : Try.S44 n1 H R) : Try.C 44 #[.int .i64 n1] H R := vcs Try.tab_ok Try.mixed Try.func44 Try.cal44 Try.p44 h (by kernel_rfl)
def Try.S45 (v1 from_2 to3 : Int) (ba4g : Nat) (ba4x ba4y : AV) (H : Heap) (R : Kv) : Prop :=
 ∀ X5 : Kl, (∀ (s6 : Int) H7, (Try.C ba4g (List.toArray (Array.toList ba4x ++ [Value.int .i64 s6] ++ Array.toList ba4y)) H7 fun r8 H9 => ∃ r10 r11, r8 = .tuple #[.int .i64 r10, .int .i64 r11] ∧ br (decide (r10 ≤ v1)) (br (decide (s6 ≥ from_2))
 (R (.tuple #[.int .i64 s6, .int .i64 (wrap .i64 (v1 - r10)), .int .i64 r11]) H9)
 (X5 [.int .i64 (wrap .i64 (s6 - 1))] H9)) (X5 [.int .i64 (wrap .i64 (s6 - 1))] H9)) → X5 [.int .i64 s6] H7) → X5 [.int .i64 to3] H
def Try.p45 : Plan := (tl (tl (one (loop [(11, 3)] [0, 1, 3] (one (tl (tg leaf)))))))
theorem Try.s45 {v1 from_2 to3 : Int} {ba4g : Nat} {ba4x ba4y : AV} {H R} (h : Try.S45 v1 from_2 to3 ba4g ba4x ba4y H R) : Try.C 45 #[.int .i64 v1, .int .i64 from_2, .int .i64 to3, .func (.func ba4g) ba4x ba4y] H R := vcs Try.tab_ok Try.mixed Try.func45 Try.cal45 Try.p45 h (by kernel_rfl)
def Try.S46 (s1 : Int) (H : Heap) (R : Kv) : Prop :=
 br (decide (s1 < 4))
 (R (.tuple #[.int .i64 (wrap .i64 ((1 : Int) + s1)), .int .i64 0]) H)
 ((2 : Int) ≠ 0 ∧ (2 : Int) ≠ 0 ∧ 0 ≤ (wrap .i64 ((wrap .i64 (Int.tdiv s1 2)) - 1)) ∧ R (.tuple #[.int .i64 (wrap .i64 ((1 : Int) + (shlI .i64 (wrap .i64 ((2 : Int) + (Int.tmod s1 2))) (wrap .i64 ((wrap .i64 (Int.tdiv s1 2)) - 1))))), .int .i64 (wrap .i64 ((wrap .i64 (Int.tdiv s1 2)) - 1))]) H)
def Try.p46 : Plan := (tl (tg (tl (tl leaf))))
theorem Try.s46 {s1 : Int} {H R} (h : Try.S46 s1 H R) : Try.C 46 #[.int .i64 s1] H R := vcs Try.tab_ok Try.mixed Try.func46 Try.cal46 Try.p46 h (by kernel_rfl)
def Try.S47 (le1p : OA) (le1l le1c : Nat) (H : Heap) (R : Kv) : Prop :=
 Try.C 71 #[.slice le1p le1l le1c] H fun r2 H3 => ∃ r4 r5, r2 = .tuple #[.int .i64 r4, .bool r5] ∧ ∀ J6 : Kl, (∀ H7, (0 ≤ (le1l : Int) ∧ (le1l : Int) ≤ (le1l : Int) ∧ ((8 : Nat) : Int) * (le1l : Int) ≤ 281474976710656 ∧ (le1l : Int) ≤ 281474976710656 ∧ alc H7 (.cells (List.toArray (reps (toNat (le1l : Int)) (Array.toList #[.int .i64 0]))) 3) fun b8 H9 => ∀ X10 : Kl, (∀ (ne11 n12 : Int) H13, (br (decide (n12 ≤ 16))
 (0 ≤ (1 : Int) ∧ ∀ X14 : Kl, (∀ (ne15 s16 : Int) H17, (br (decide (s16 < (le1l : Int)))
 (∃ a18, le1p = some a18 ∧ 0 ≤ s16 ∧ s16 < (le1l : Int) ∧ ∃ l19, cell H17 (.add a18 (toNat s16 * 1)) = some (.int .i64 l19) ∧ br (l19 == n12)
 (∃ a20, (some ⟨b8, 0, none⟩) = some a20 ∧ 0 ≤ s16 ∧ s16 < (((toNat (le1l : Int)) : Nat) : Int) ∧ stAt H17 (.add a20 (toNat s16 * 1)) [.int .i64 ne15] fun H21 => X14 [.int .i64 (wrap .i64 (ne15 + 1)), .int .i64 (wrap .i64 (s16 + 1))] H21)
 (X14 [.int .i64 ne15, .int .i64 (wrap .i64 (s16 + 1))] H17))
 (X10 [.int .i64 ne15, .int .i64 (wrap .i64 (n12 + 1))] H17)) → X14 [.int .i64 ne15, .int .i64 s16] H17) → X14 [.int .i64 (shlI .i64 ne11 1), .int .i64 0] H13)
 (R (.tuple #[.slice (some ⟨b8, 0, none⟩) (toNat (le1l : Int)) (toNat (le1l : Int)), .bool true]) H13)) → X10 [.int .i64 ne11, .int .i64 n12] H13) → X10 [.int .i64 0, .int .i64 1] H9) → J6 [] H7) →
 br (!r5) (R (.tuple #[.slice none 0 0, .bool false]) H3) (br (decide (r4 > 65536))
 (R (.tuple #[.slice none 0 0, .bool false]) H3)
 (J6 [] H3))
def Try.p47 : Plan := (tl (tl (two (join [] [0] g0) (tl (tl (two (tl (one (loop [(7, 3), (8, 3)] [0, 6] (two (tl (tl leaf)) (two (one (tl (tl (one (loop [(7, 3), (33, 3)] [0, 6, 8, 31, 32] (tl (two (tl leaf) (two (one (tl g0)) leaf)))))))) leaf))))) (tl leaf)))))))
theorem Try.s47 {le1p : OA} {le1l le1c : Nat} {H R} (h : Try.S47 le1p le1l le1c H R) : Try.C 47 #[.slice le1p le1l le1c] H R := vcs Try.tab_ok Try.mixed Try.func47 Try.cal47 Try.p47 h (by kernel_rfl)
def Try.S48 (s1p : OA) (s1l s1c : Nat) (H : Heap) (R : Kv) : Prop :=
 br (Option.isNone s1p)
 (R (.slice none 0 0) H)
 (alc H (.cells #[] 5) fun b2 H3 => appQ 1 1 #[.int .u8 0] H3 (some ⟨b2, 0, none⟩) 0 0 s1p s1l 5 fun ap4p ap4l ap4c H5 => R (.slice ap4p ap4l ap4c) H5)
def Try.p48 : Plan := (tl (tg (tl leaf)))
theorem Try.s48 {s1p : OA} {s1l s1c : Nat} {H R} (h : Try.S48 s1p s1l s1c H R) : Try.C 48 #[.slice s1p s1l s1c] H R := vcs Try.tab_ok Try.mixed Try.func48 Try.cal48 Try.p48 h (by kernel_rfl)
end Go.Proofs
namespace Go.Proofs
open Go.Sh Go.Sh.Plan
open Go.IntKind (wrap)
open Int (toNat)
def Try.S49 (li1p : OA) (li1l li1c : Nat) (H : Heap) (R : Kv) : Prop :=
 ∀ J2 : Kl, (∀ (li3p : OA) (li3l li3c : Nat) (di4p : OA) (di4l di4c : Nat) H5, (∃ a6, li3p = some a6 ∧ 0 ≤ (256 : Int) ∧ (256 : Int) < (li3l : Int) ∧ stAt H5 (.add a6 (toNat (256 : Int) * 1)) [.int .i64 1] fun H7 => ∀ X8 : Kl, (∀ (t9 : Int) H10, (br (decide (t9 < (li1l : Int)))
 (∃ a11, li1p = some a11 ∧ 0 ≤ t9 ∧ t9 < (li1l : Int) ∧ ∃ v12, v12.size = 3 ∧ rowIn H10 (.add a11 (toNat t9 * 3)) v12 ∧ alc H10 (.cells #[.int .i64 0, .int .i64 0, .int .u8 0] 82) fun b13 H14 => v12.size = 3 ∧ stAt H14 ⟨b13, 0, none⟩ v12.toList fun H15 => ∃ Le16, cell H15 (.add ⟨b13, 0, none⟩ 0) = some (.int .i64 Le16) ∧ br (Le16 == 0)
 (∃ Li17, cell H15 (.add ⟨b13, 0, none⟩ 2) = some (.int .u8 Li17) ∧ ∃ a18, li3p = some a18 ∧ 0 ≤ Li17 ∧ Li17 < (li3l : Int) ∧ ∃ v19, cell H15 (.add a18 (toNat Li17 * 1)) = some (.int .i64 v19) ∧ ∃ a20, li3p = some a20 ∧ 0 ≤ Li17 ∧ Li17 < (li3l : Int) ∧ stAt H15 (.add a20 (toNat Li17 * 1)) [.int .i64 (wrap .i64 (v19 + 1))] fun H21 => X8 [.int .i64 (wrap .i64 (t9 + 1))] H21)
 (∃ Le22, cell H15 (.add ⟨b13, 0, none⟩ 0) = some (.int .i64 Le22) ∧ Try.C 44 #[.int .i64 Le22] H15 fun r23 H24 => ∃ r25 r26 r27, r23 = .tuple #[.int .i64 r25, .int .i64 r26, .int .i64 r27] ∧ ∃ a28, li3p = some a28 ∧ 0 ≤ r25 ∧ r25 < (li3l : Int) ∧ ∃ v29, cell H24 (.add a28 (toNat r25 * 1)) = some (.int .i64 v29) ∧ ∃ a30, li3p = some a30 ∧ 0 ≤ r25 ∧ r25 < (li3l : Int) ∧ stAt H24 (.add a30 (toNat r25 * 1)) [.int .i64 (wrap .i64 (v29 + 1))] fun H31 => ∃ Di32, cell H31 (.add ⟨b13, 0, none⟩ 1) = some (.int .i64 Di32) ∧ Try.C 45 #[.int .i64 Di32, .int .i64 0, .int .i64 29, .func (.func 46) #[] #[]] H31 fun r33 H34 => ∃ r35 r36 r37, r33 = .tuple #[.int .i64 r35, .int .i64 r36, .int .i64 r37] ∧ ∃ a38, di4p = some a38 ∧ 0 ≤ r35 ∧ r35 < (di4l : Int) ∧ ∃ v39, cell H34 (.add a38 (toNat r35 * 1)) = some (.int .i64 v39) ∧ ∃ a40, di4p = some a40 ∧ 0 ≤ r35 ∧ r35 < (di4l : Int) ∧ stAt H34 (.add a40 (toNat r35 * 1)) [.int .i64 (wrap .i64 (v39 + 1))] fun H41 => X8 [.int .i64 (wrap .i64 (t9 + 1))] H41))
 (R (.tuple #[.slice li3p li3l li3c, .slice di4p di4l di4c]) H10)) → X8 [.int .i64 t9] H10) → X8 [.int .i64 0] H7) → J2 [.slice li3p li3l li3c, .slice di4p di4l di4c] H5) →
 (0 ≤ (286 : Int) ∧ (286 : Int) ≤ (286 : Int) ∧ ((8 : Nat) : Int) * (286 : Int) ≤ 281474976710656 ∧ (286 : Int) ≤ 281474976710656 ∧ alc H (.cells (List.toArray (reps (toNat 286) (Array.toList #[.int .i64 0]))) 3) fun b42 H43 => 0 ≤ (30 : Int) ∧ (30 : Int) ≤ (30 : Int) ∧ ((8 : Nat) : Int) * (30 : Int) ≤ 281474976710656 ∧ (30 : Int) ≤ 281474976710656 ∧ alc H43 (.cells (List.toArray (reps (toNat 30) (Array.toList #[.int .i64 0]))) 3) fun b44 H45 => J2 [.slice (some ⟨b42, 0, none⟩) (toNat 286) (toNat 286), .slice (some ⟨b44, 0, none⟩) (toNat 30) (toNat 30)] H45) ∧ (0 ≤ (30 : Int) ∧ (30 : Int) ≤ (30 : Int) ∧ ((8 : Nat) : Int) * (30 : Int) ≤ 281474976710656 ∧ (30 : Int) ≤ 281474976710656 ∧ alc H (.cells (List.toArray (reps (toNat 30) (Array.toList #[.int .i64 0]))) 3) fun b46 H47 => 0 ≤ (286 : Int) ∧ (286 : Int) ≤ (286 : Int) ∧ ((8 : Nat) : Int) * (286 : Int) ≤ 281474976710656 ∧ (286 : Int) ≤ 281474976710656 ∧ alc H47 (.cells (List.toArray (reps (toNat 286) (Array.toList #[.int .i64 0]))) 3) fun b48 H49 => J2 [.slice (some ⟨b48, 0, none⟩) (toNat 286) (toNat 286), .slice (some ⟨b46, 0, none⟩) (toNat 30) (toNat 30)] H49)
def Try.p49 : Plan := (tl (two (join [(2, 46), (3, 46)] [0] leaf) (tl (two (tl (one (loop [(15, 3)] [2, 3, 13, 14] (tl (two (tl leaf) (two (one (tl (tg (tl (tl (tl leaf)))))) leaf)))))) (tl leaf)))))
theorem Try.s49 {li1p : OA} {li1l li1c : Nat} {H R} (h : Try.S49 li1p li1l li1c H R) : Try.C 49 #[.slice li1p li1l li1c] H R := vcs Try.tab_ok Try.mixed Try.func49 Try.cal49 Try.p49 h (by kernel_rfl)
def Try.S50 (co1p : OA) (co1l co1c : Nat) (H : Heap) (R : Kv) : Prop :=
 Try.C 72 #[.slice co1p co1l co1c] H fun r2 H3 => ∃ co4p co4l co4c, r2 = .slice co4p co4l co4c ∧ ∀ X5 : Kl, (∀ (n6 t7 : Int) H8, (br (decide (t7 < (co4l : Int)))
 (∃ a9, co4p = some a9 ∧ 0 ≤ t7 ∧ t7 < (co4l : Int) ∧ ∃ c10, cell H8 (.add a9 (toNat t7 * 1)) = some (.int .i64 c10) ∧ br (decide (c10 > 0))
 (X5 [.int .i64 (wrap .i64 (n6 + 1)), .int .i64 (wrap .i64 (t7 + 1))] H8)
 (X5 [.int .i64 n6, .int .i64 (wrap .i64 (t7 + 1))] H8))
 (∀ X11 : Kl, (∀ (n12 s13 : Int) H14, (br (decide (n12 < 2))
 (∃ a15, co4p = some a15 ∧ 0 ≤ s13 ∧ s13 < (co4l : Int) ∧ ∃ v16, cell H14 (.add a15 (toNat s13 * 1)) = some (.int .i64 v16) ∧ br (v16 == 0)
 (∃ a17, co4p = some a17 ∧ 0 ≤ s13 ∧ s13 < (co4l : Int) ∧ stAt H14 (.add a17 (toNat s13 * 1)) [.int .i64 1] fun H18 => X11 [.int .i64 (wrap .i64 (n12 + 1)), .int .i64 (wrap .i64 (s13 + 1))] H18)
 (X11 [.int .i64 n12, .int .i64 (wrap .i64 (s13 + 1))] H14))
 (Try.C 52 #[.slice co4p co4l co4c, .int .i64 15] H14 fun r19 H20 => ∃ r21p r21l r21c r22, r19 = .tuple #[.slice r21p r21l r21c, .bool r22] ∧ R (.slice r21p r21l r21c) H20)) → X11 [.int .i64 n12, .int .i64 s13] H14) → X11 [.int .i64 n6, .int .i64 0] H8)) → X5 [.int .i64 n6, .int .i64 t7] H8) → X5 [.int .i64 0, .int .i64 0] H3
def Try.p50 : Plan := (tl (tl (tl (two (tl (one (loop [(3, 3), (13, 3)] [0, 11, 12] (tl (two (tl leaf) (two (one (tl (tl (tl leaf)))) leaf)))))) (two (tl (one (loop [(3, 3), (6, 3)] [0] (two (tl (tl leaf)) (two (one g0) leaf))))) (tl (tl leaf)))))))
theorem Try.s50 {co1p : OA} {co1l co1c : Nat} {H R} (h : Try.S50 co1p co1l co1c H R) : Try.C 50 #[.slice co1p co1l co1c] H R := vcs Try.tab_ok Try.mixed Try.func50 Try.cal50 Try.p50 h (by kernel_rfl)
def Try.S51 (sl1p : OA) (sl1l sl1c : Nat) (H : Heap) (R : Kv) : Prop :=
 ∀ X2 : Kl, (∀ (si3 t4 : Int) H5, (br (decide (t4 < (sl1l : Int)))
 (∃ a6, sl1p = some a6 ∧ 0 ≤ t4 ∧ t4 < (sl1l : Int) ∧ ∃ s7p s7l s7c, cell H5 (.add a6 (toNat t4 * 1)) = some (.slice s7p s7l s7c) ∧ br (decide (((wrap .i64 (si3 + (s7l : Int))) : Int) < 0))
 (False)
 (X2 [.int .i64 (wrap .i64 (si3 + (s7l : Int))), .int .i64 (wrap .i64 (t4 + 1))] H5))
 (Try.C 73 #[.slice none 0 0, .int .i64 si3] H5 fun r8 H9 => ∃ ne10p ne10l ne10c, r8 = .slice ne10p ne10l ne10c ∧ ∀ X11 : Kl, (∀ (ne12p : OA) (ne12l ne12c : Nat) (t13 : Int) H14, (br (decide (t13 < (sl1l : Int)))
 (∃ a15, sl1p = some a15 ∧ 0 ≤ t13 ∧ t13 < (sl1l : Int) ∧ ∃ s16p s16l s16c, cell H14 (.add a15 (toNat t13 * 1)) = some (.slice s16p s16l s16c) ∧ appQ 1 8 #[.int .i64 0] H14 ne12p ne12l ne12c s16p s16l 3 fun ne17p ne17l ne17c H18 => X11 [.slice ne17p ne17l ne17c, .int .i64 (wrap .i64 (t13 + 1))] H18)
 (R (.slice ne12p ne12l ne12c) H14)) → X11 [.slice ne12p ne12l ne12c, .int .i64 t13] H14) → X11 [.slice ne10p ne10l ne10c, .int .i64 0] H9)) → X2 [.int .i64 si3, .int .i64 t4] H5) → X2 [.int .i64 0, .int .i64 0] H
def Try.p51 : Plan := (tl (tl (two (tl (one (loop [(3, 3), (11, 3)] [0, 9, 10] (tl (two (tl leaf) (two (one (tl (tl (tl (tl leaf))))) leaf)))))) (tl (two (tl (one (loop [(6, 46), (27, 3)] [25, 26] (tl (two (tl leaf) (two (one (tl leaf)) leaf)))))) (tl leaf))))))
theorem Try.s51 {sl1p : OA} {sl1l sl1c : Nat} {H R} (h : Try.S51 sl1p sl1l sl1c H R) : Try.C 51 #[.slice sl1p sl1l sl1c] H R := vcs Try.tab_ok Try.mixed Try.func51 Try.cal51 Try.p51 h (by kernel_rfl)
def Try.S52 (co1p : OA) (co1l co1c : Nat) (mo2 : Int) (H : Heap) (R : Kv) : Prop :=
 ∀ J3 : Kl, (∀ H4, (∀ X5 : Kl, (∀ (le6p : OA) (le6l le6c : Nat) (s7 : Int) H8, (br (decide (s7 < (co1l : Int)))
 (∃ a9, co1p = some a9 ∧ 0 ≤ s7 ∧ s7 < (co1l : Int) ∧ ∃ n10, cell H8 (.add a9 (toNat s7 * 1)) = some (.int .i64 n10) ∧ ∀ J11 : Kl, (∀ H12, (br (decide (n10 > 0))
 (alc H12 (.cells #[.int .i64 s7] 3) fun b13 H14 => #[Value.int .i64 n10, Value.slice (some ⟨b13, 0, none⟩) 1 1].size = 2 ∧ 0 + 2 ≤ 2 ∧ alc H14 (.cells (List.toArray (setL [.int .i64 0, .slice none 0 0] 0 (Array.toList #[.int .i64 n10, .slice (some ⟨b13, 0, none⟩) 1 1]))) 128) fun b15 H16 => appQ 2 32 #[.int .i64 0, .slice none 0 0] H16 le6p le6l le6c (some ⟨b15, 0, none⟩) 1 128 fun le17p le17l le17c H18 => X5 [.slice le17p le17l le17c, .int .i64 (wrap .i64 (s7 + 1))] H18)
 (X5 [.slice le6p le6l le6c, .int .i64 (wrap .i64 (s7 + 1))] H12)) → J11 [] H12) →
 br (decide (n10 < 0)) (R (.tuple #[.slice none 0 0, .bool false]) H8) (br (decide (n10 > 1099511627776))
 (R (.tuple #[.slice none 0 0, .bool false]) H8)
 (J11 [] H8)))
 (0 ≤ (co1l : Int) ∧ (co1l : Int) ≤ (co1l : Int) ∧ ((8 : Nat) : Int) * (co1l : Int) ≤ 281474976710656 ∧ (co1l : Int) ≤ 281474976710656 ∧ alc H8 (.cells (List.toArray (reps (toNat (co1l : Int)) (Array.toList #[.int .i64 0]))) 3) fun b19 H20 => 0 ≤ mo2 ∧ br (decide (((le6l : Int) : Int) > (shlI .i64 1 mo2)))
 (R (.tuple #[.slice none 0 0, .bool false]) H20)
 (br (((le6l : Int) : Int) == 1)
 (∃ a21, le6p = some a21 ∧ 0 ≤ (0 : Int) ∧ (0 : Int) < (le6l : Int) ∧ ∃ sy22p sy22l sy22c, cell H20 (.add (.add a21 (toNat (0 : Int) * 2)) 1) = some (.slice sy22p sy22l sy22c) ∧ ∃ a23, sy22p = some a23 ∧ 0 ≤ (0 : Int) ∧ (0 : Int) < (sy22l : Int) ∧ ∃ v24, cell H20 (.add a23 (toNat (0 : Int) * 1)) = some (.int .i64 v24) ∧ ∃ a25, (some ⟨b19, 0, none⟩) = some a25 ∧ 0 ≤ v24 ∧ v24 < (((toNat (co1l : Int)) : Nat) : Int) ∧ stAt H20 (.add a25 (toNat v24 * 1)) [.int .i64 1] fun H26 => R (.tuple #[.slice (some ⟨b19, 0, none⟩) (toNat (co1l : Int)) (toNat (co1l : Int)), .bool true]) H26)
 (Try.C 74 #[.slice le6p le6l le6c, .func (.func 75) #[] #[]] H20 fun r27 H28 => r27 = .tuple #[] ∧ ∀ X29 : Kl, (∀ (ro30p : OA) (ro30l ro30c : Nat) (t31 : Int) H32, (br (decide (t31 < mo2))
 (Try.C 77 #[.slice ro30p ro30l ro30c] H32 fun r33 H34 => ∃ r35p r35l r35c, r33 = .slice r35p r35l r35c ∧ Try.C 76 #[.slice le6p le6l le6c, .slice r35p r35l r35c] H34 fun r36 H37 => ∃ ro38p ro38l ro38c, r36 = .slice ro38p ro38l ro38c ∧ X29 [.slice ro38p ro38l ro38c, .int .i64 (wrap .i64 (t31 + 1))] H37)
 (0 ≤ (max 0 (wrap .i64 ((wrap .i64 ((2 : Int) * (le6l : Int))) - 2))) ∧ (max 0 (wrap .i64 ((wrap .i64 ((2 : Int) * (le6l : Int))) - 2))) ≤ (ro30c : Int) ∧ ∀ X39 : Kl, (∀ (t40 : Int) H41, (br (decide (t40 < ((((toNat (max 0 (wrap .i64 ((wrap .i64 ((2 : Int) * (le6l : Int))) - 2)))) - 0) : Nat) : Int)))
 (∃ a42, (if ro30c = 0 then ro30p else Option.map (fun x => Addr.add x (0 * 2)) ro30p) = some a42 ∧ 0 ≤ t40 ∧ t40 < ((((toNat (max 0 (wrap .i64 ((wrap .i64 ((2 : Int) * (le6l : Int))) - 2)))) - 0) : Nat) : Int) ∧ ∃ v43, v43.size = 2 ∧ rowIn H41 (.add a42 (toNat t40 * 2)) v43 ∧ alc H41 (.cells #[.int .i64 0, .slice none 0 0] 128) fun b44 H45 => v43.size = 2 ∧ stAt H45 ⟨b44, 0, none⟩ v43.toList fun H46 => ∃ sy47p sy47l sy47c, cell H46 (.add ⟨b44, 0, none⟩ 1) = some (.slice sy47p sy47l sy47c) ∧ ∀ X48 : Kl, (∀ (t49 : Int) H50, (br (decide (t49 < (sy47l : Int)))
 (∃ a51, sy47p = some a51 ∧ 0 ≤ t49 ∧ t49 < (sy47l : Int) ∧ ∃ s52, cell H50 (.add a51 (toNat t49 * 1)) = some (.int .i64 s52) ∧ ∃ a53, (some ⟨b19, 0, none⟩) = some a53 ∧ 0 ≤ s52 ∧ s52 < (((toNat (co1l : Int)) : Nat) : Int) ∧ ∃ v54, cell H50 (.add a53 (toNat s52 * 1)) = some (.int .i64 v54) ∧ ∃ a55, (some ⟨b19, 0, none⟩) = some a55 ∧ 0 ≤ s52 ∧ s52 < (((toNat (co1l : Int)) : Nat) : Int) ∧ stAt H50 (.add a55 (toNat s52 * 1)) [.int .i64 (wrap .i64 (v54 + 1))] fun H56 => X48 [.int .i64 (wrap .i64 (t49 + 1))] H56)
 (X39 [.int .i64 (wrap .i64 (t40 + 1))] H50)) → X48 [.int .i64 t49] H50) → X48 [.int .i64 0] H46)
 (R (.tuple #[.slice (some ⟨b19, 0, none⟩) (toNat (co1l : Int)) (toNat (co1l : Int)), .bool true]) H41)) → X39 [.int .i64 t40] H41) → X39 [.int .i64 0] H32)) → X29 [.slice ro30p ro30l ro30c, .int .i64 t31] H32) → X29 [.slice none 0 0, .int .i64 0] H28)))) → X5 [.slice le6p le6l le6c, .int .i64 s7] H8) → X5 [.slice none 0 0, .int .i64 0] H4) → J3 [] H4) →
 br (decide (mo2 < 1)) (R (.tuple #[.slice none 0 0, .bool false]) H) (br (decide (mo2 > 16)) (R (.tuple #[.slice none 0 0, .bool false]) H) (br (decide (((co1l : Int) : Int) > 300))
 (R (.tuple #[.slice none 0 0, .bool false]) H)
 (J3 [] H)))
def Try.p52 : Plan := (tl (two (join [] [0, 1] g0) (tl (two (tl (one (loop [(6, 126), (29, 3)] [0, 1, 27, 28] (tl (two (tl leaf) (two (one (tl (two (join [] [0, 1, 6, 7, 8, 27, 28, 29] g0) (tl (tl leaf))))) leaf)))))) (tl (two (tl (one (tl (two (tl leaf) (tl (two (tl (tl leaf)) leaf)))))) (tl (tl (two (tl (one (loop [(11, 126), (75, 3)] [6, 9, 74] (tl (two (tl leaf) (two (one leaf) leaf)))))) (two (tl (one (loop [(90, 3)] [9, 88, 89] (tl (two (tl leaf) (two (one (tl (tl (one (loop [(97, 3)] [9, 88, 89, 90, 95, 96] (tl (two (tl leaf) (two (one (tl leaf)) leaf)))))))) leaf)))))) (tl leaf)))))))))))
theorem Try.s52 {co1p : OA} {co1l co1c : Nat} {mo2 : Int} {H R} (h : Try.S52 co1p co1l co1c mo2 H R) : Try.C 52 #[.slice co1p co1l co1c, .int .i64 mo2] H R := vcs Try.tab_ok Try.mixed Try.func52 Try.cal52 Try.p52 h (by kernel_rfl)
def Try.S53 (co1p : OA) (co1l co1c : Nat) (H : Heap) (R : Kv) : Prop :=
 ∀ X2 : Kl, (∀ (n3 t4 : Int) H5, (br (decide (t4 < (co1l : Int)))
 (∃ a6, co1p = some a6 ∧ 0 ≤ t4 ∧ t4 < (co1l : Int) ∧ ∃ c7, cell H5 (.add a6 (toNat t4 * 1)) = some (.int .i64 c7) ∧ X2 [.int .i64 (wrap .i64 (n3 + (min c7 1))), .int .i64 (wrap .i64 (t4 + 1))] H5)
 (∀ X8 : Kl, (∀ (n9 s10 : Int) H11, (br (decide (n9 < 2))
 (∃ a12, co1p = some a12 ∧ 0 ≤ s10 ∧ s10 < (co1l : Int) ∧ ∃ v13, cell H11 (.add a12 (toNat s10 * 1)) = some (.int .i64 v13) ∧ br (v13 == 0)
 (∃ a14, co1p = some a14 ∧ 0 ≤ s10 ∧ s10 < (co1l : Int) ∧ ∃ v15, cell H11 (.add a14 (toNat s10 * 1)) = some (.int .i64 v15) ∧ ∃ a16, co1p = some a16 ∧ 0 ≤ s10 ∧ s10 < (co1l : Int) ∧ stAt H11 (.add a16 (toNat s10 * 1)) [.int .i64 (wrap .i64 (v15 + 1))] fun H17 => X8 [.int .i64 (wrap .i64 (n9 + 1)), .int .i64 (wrap .i64 (s10 + 1))] H17)
 (X8 [.int .i64 n9, .int .i64 (wrap .i64 (s10 + 1))] H11))
 (R (.slice co1p co1l co1c) H11)) → X8 [.int .i64 n9, .int .i64 s10] H11) → X8 [.int .i64 n3, .int .i64 0] H5)) → X2 [.int .i64 n3, .int .i64 t4] H5) → X2 [.int .i64 0, .int .i64 0] H
def Try.p53 : Plan := (tl (tl (two (tl (one (loop [(3, 3), (9, 3)] [0, 7, 8] (tl (two (tl leaf) (two (one (tl leaf)) leaf)))))) (two (tl (one (loop [(3, 3), (6, 3)] [0] (two (tl (tl leaf)) (two (one g0) leaf))))) (tl leaf)))))
theorem Try.s53 {co1p : OA} {co1l co1c : Nat} {H R} (h : Try.S53 co1p co1l co1c H R) : Try.C 53 #[.slice co1p co1l co1c] H R := vcs Try.tab_ok Try.mixed Try.func53 Try.cal53 Try.p53 h (by kernel_rfl)
def Try.S54  (H : Heap) (R : Kv) : Prop :=
 alc H (.cells #[.int .i64 16, .int .i64 17, .int .i64 18, .int .i64 0, .int .i64 8, .int .i64 7, .int .i64 9, .int .i64 6, .int .i64 10, .int .i64 5, .int .i64 11, .int .i64 4, .int .i64 12, .int .i64 3, .int .i64 13, .int .i64 2, .int .i64 14, .int .i64 1, .int .i64 15] 3) fun b1 H2 => R (.slice (some ⟨b1, 0, none⟩) 19 19) H2
def Try.p54 : Plan := (tl (tl leaf))
theorem Try.s54 {_u : Unit} {H R} (h : Try.S54  H R) : Try.C 54 #[] H R := vcs Try.tab_ok Try.mixed Try.func54 Try.cal54 Try.p54 h (by kernel_rfl)
def Try.S55 (w1 : OA) (v2 : Int) (H : Heap) (R : Kv) : Prop :=
 ∀ X3 : Kl, (∀ H4, (∃ a5, w1 = some a5 ∧ ∃ n6, cell H4 (.add a5 1) = some (.int .i64 n6) ∧ (8 : Int) ≠ 0 ∧ br (((Int.tmod n6 8) : Int) != 0)
 (Try.C 42 #[.pointer w1, .int .i64 v2] H4 fun r7 H8 => r7 = .tuple #[] ∧ X3 [] H8)
 (R (.tuple #[]) H4)) → X3 [] H4) → X3 [] H
def Try.p55 : Plan := (one (loop [] [0, 1] (two (tl (tl leaf)) (one leaf))))
theorem Try.s55 {w1 : OA} {v2 : Int} {H R} (h : Try.S55 w1 v2 H R) : Try.C 55 #[.pointer w1, .int .i64 v2] H R := vcs Try.tab_ok Try.mixed Try.func55 Try.cal55 Try.p55 h (by kernel_rfl)
def Try.S56 (r1 : OA) (n2 : Int) (H : Heap) (R : Kv) : Prop :=
 ∀ J3 : Kl, (∀ H4, (∀ X5 : Kl, (∀ (v6 k7 : Int) H8, (br (decide (k7 < n2))
 (∃ a9, r1 = some a9 ∧ ∃ b10p b10l b10c, cell H8 (.add a9 0) = some (.slice b10p b10l b10c) ∧ ∃ a11, r1 = some a11 ∧ ∃ at_12, cell H8 (.add a11 1) = some (.int .i64 at_12) ∧ (8 : Int) ≠ 0 ∧ ∃ a13, b10p = some a13 ∧ 0 ≤ (wrap .i64 (Int.tdiv at_12 8)) ∧ (wrap .i64 (Int.tdiv at_12 8)) < (b10l : Int) ∧ ∃ v14, cell H8 (.add a13 (toNat (wrap .i64 (Int.tdiv at_12 8)) * 1)) = some (.int .u8 v14) ∧ ∃ a15, r1 = some a15 ∧ ∃ at_16, cell H8 (.add a15 1) = some (.int .i64 at_16) ∧ ∃ a17, r1 = some a17 ∧ ∃ hi18, cell H8 (.add a17 2) = some (.bool hi18) ∧ Try.C 69 #[.int .i64 at_16, .bool hi18] H8 fun r19 H20 => ∃ r21, r19 = .int .i64 r21 ∧ (Ext H8 H20 ∨ (∃ v31, cell H20 (.add a13 (toNat (wrap .i64 (Int.tdiv at_12 8)) * 1)) = some (.int .u8 v31) ∧ Value.int .u8 v31 = .int .u8 v14) ∧ (∃ at_32, cell H20 (.add a11 1) = some (.int .i64 at_32) ∧ Value.int .i64 at_32 = .int .i64 at_12) ∧ (∃ b33p b33l b33c, cell H20 (.add a9 0) = some (.slice b33p b33l b33c) ∧ Value.slice b33p b33l b33c = .slice b10p b10l b10c)) ∧ 0 ≤ r21 ∧ ∀ J22 : Kl, (∀ (v23 : Int) H24, (∃ a25, r1 = some a25 ∧ ∃ at_26, cell H24 (.add a25 1) = some (.int .i64 at_26) ∧ ∃ a27, r1 = some a27 ∧ stAt H24 (.add a27 1) [.int .i64 (wrap .i64 (at_26 + 1))] fun H28 => X5 [.int .i64 v23, .int .i64 (wrap .i64 (k7 + 1))] H28) → J22 [.int .i64 v23] H24) →
 ∃ a29, r1 = some a29 ∧ ∃ hi30, cell H20 (.add a29 2) = some (.bool hi30) ∧ br hi30
 (0 ≤ (1 : Int) ∧ J22 [.int .i64 (orI .i64 (shlI .i64 v6 1) (andI .i64 (wrap .i64 (shrI .u8 v14 r21)) 1))] H20)
 (0 ≤ k7 ∧ J22 [.int .i64 (orI .i64 v6 (shlI .i64 (andI .i64 (wrap .i64 (shrI .u8 v14 r21)) 1) k7))] H20))
 (R (.tuple #[.int .i64 v6, .bool true]) H8)) → X5 [.int .i64 v6, .int .i64 k7] H8) → X5 [.int .i64 0, .int .i64 0] H4) → J3 [] H4) →
 br (decide (n2 < 0)) (R (.tuple #[.int .i64 0, .bool false]) H) (br (decide (n2 > 24)) (R (.tuple #[.int .i64 0, .bool false]) H) (Try.C 78 #[.pointer r1] H fun r34 H35 => ∃ r36, r34 = .int .i64 r36 ∧ br (decide (n2 > r36))
 (R (.tuple #[.int .i64 0, .bool false]) H35)
 (J3 [] H35)))
def Try.p56 : Plan := (tl (two (join [] [0, 1] g0) (tl (two (tl (one (loop [(6, 3), (22, 3)] [0, 21] (tl (two (tl leaf) (two (one (tl (tl (two (join [(6, 3)] [0, 21, 22] (tl (tl leaf))) leaf)))) leaf)))))) (tl leaf)))))
theorem Try.s56 {r1 : OA} {n2 : Int} {H R} (h : Try.S56 r1 n2 H R) : Try.C 56 #[.pointer r1, .int .i64 n2] H R := vcs Try.tab_ok Try.mixed Try.func56 Try.cal56 Try.p56 h (by kernel_rfl)
def Try.S57 (r1 : OA) (H : Heap) (R : Kv) : Prop :=
 ∃ a2, r1 = some a2 ∧ ∃ at_3, cell H (.add a2 1) = some (.int .i64 at_3) ∧ (8 : Int) ≠ 0 ∧ ∃ a4, r1 = some a4 ∧ stAt H (.add a4 1) [.int .i64 (wrap .i64 ((wrap .i64 (Int.tdiv (wrap .i64 (at_3 + 7)) 8)) * 8))] fun H5 => R (.tuple #[]) H5
def Try.p57 : Plan := leaf
theorem Try.s57 {r1 : OA} {H R} (h : Try.S57 r1 H R) : Try.C 57 #[.pointer r1] H R := vcs Try.tab_ok Try.mixed Try.func57 Try.cal57 Try.p57 h (by kernel_rfl)
def Try.S58 (f1 d2 : OA) (H : Heap) (R : Kv) : Prop :=
 ∀ X3 : Kl, (∀ (st4 : Int) H5, (Try.C 25 #[.pointer f1, .int .i64 1] H5 fun r6 H7 => ∃ bi8, r6 = .int .i64 bi8 ∧ ∃ a9, f1 = some a9 ∧ ∃ e10, cell H7 (.add a9 3) = some (.int .i64 e10) ∧ br (e10 != 0)
 (R (.int .i64 0) H7)
 (Try.C 79 #[.pointer d2, .int .i64 st4, .int .i64 bi8] H7 fun r11 H12 => ∃ r13 r14, r11 = .tuple #[.int .i64 r13, .int .i64 r14] ∧ br (decide (r13 < 0))
 (Try.C 30 #[.pointer f1, .int .i64 21] H12 fun r15 H16 => r15 = .tuple #[] ∧ R (.int .i64 0) H16)
 (br (decide (r14 < 0))
 (X3 [.int .i64 r13] H12)
 (R (.int .i64 r14) H12)))) → X3 [.int .i64 st4] H5) → X3 [.int .i64 0] H
def Try.p58 : Plan := (tl (scope [(5, 3)] [0, 1] leaf (tl (tg (tl (two (one (tl (two (tl (tl leaf)) (tl (tl leaf))))) (tl leaf)))))))
theorem Try.s58 {f1 d2 : OA} {H R} (h : Try.S58 f1 d2 H R) : Try.C 58 #[.pointer f1, .pointer d2] H R := vcs Try.tab_ok Try.mixed Try.func58 Try.cal58 Try.p58 h (by kernel_rfl)
def Try.S59 (f1 : OA) (s2 : Int) (di3 : OA) (H : Heap) (R : Kv) : Prop :=
 br (decide (s2 > 285))
 (Try.C 30 #[.pointer f1, .int .i64 25] H fun r4 H5 => r4 = .tuple #[] ∧ R (.tuple #[]) H5)
 (Try.C 70 #[.int .i64 s2] H fun r6 H7 => ∃ r8 r9, r6 = .tuple #[.int .i64 r8, .int .i64 r9] ∧ Try.C 25 #[.pointer f1, .int .i64 r9] H7 fun r10 H11 => ∃ r12, r10 = .int .i64 r12 ∧ Try.C 58 #[.pointer f1, .pointer di3] H11 fun r13 H14 => ∃ t15, r13 = .int .i64 t15 ∧ ∃ a16, f1 = some a16 ∧ ∃ e17, cell H14 (.add a16 3) = some (.int .i64 e17) ∧ br (e17 != 0)
 (R (.tuple #[]) H14)
 (br (decide (t15 > 29))
 (Try.C 30 #[.pointer f1, .int .i64 25] H14 fun r18 H19 => r18 = .tuple #[] ∧ R (.tuple #[]) H19)
 (Try.C 46 #[.int .i64 t15] H14 fun r20 H21 => ∃ r22 r23, r20 = .tuple #[.int .i64 r22, .int .i64 r23] ∧ Try.C 25 #[.pointer f1, .int .i64 r23] H21 fun r24 H25 => ∃ r26, r24 = .int .i64 r26 ∧ ∃ a27, f1 = some a27 ∧ ∃ e28, cell H25 (.add a27 3) = some (.int .i64 e28) ∧ br (e28 != 0)
 (R (.tuple #[]) H25)
 (∃ a29, f1 = some a29 ∧ ∃ ou30p ou30l ou30c, cell H25 (.add a29 1) = some (.slice ou30p ou30l ou30c) ∧ br (decide (((wrap .i64 (r22 + r26)) : Int) > (ou30l : Int)))
 (Try.C 30 #[.pointer f1, .int .i64 22] H25 fun r31 H32 => r31 = .tuple #[] ∧ R (.tuple #[]) H32)
 (∃ a33, f1 = some a33 ∧ ∃ mo34, cell H25 (.add a33 2) = some (.int .i64 mo34) ∧ ∃ a35, f1 = some a35 ∧ ∃ ou36p ou36l ou36c, cell H25 (.add a35 1) = some (.slice ou36p ou36l ou36c) ∧ br (decide (((wrap .i64 (r8 + r12)) : Int) > (wrap .i64 (mo34 - (ou36l : Int)))))
 (Try.C 30 #[.pointer f1, .int .i64 24] H25 fun r37 H38 => r37 = .tuple #[] ∧ R (.tuple #[]) H38)
 (∀ X39 : Kl, (∀ (t40 : Int) H41, (br (decide (t40 < (wrap .i64 (r8 + r12))))
 (∃ a42, f1 = some a42 ∧ ∃ ou43p ou43l ou43c, cell H41 (.add a42 1) = some (.slice ou43p ou43l ou43c) ∧ ∃ a44, f1 = some a44 ∧ ∃ ou45p ou45l ou45c, cell H41 (.add a44 1) = some (.slice ou45p ou45l ou45c) ∧ ∃ a46, f1 = some a46 ∧ ∃ ou47p ou47l ou47c, cell H41 (.add a46 1) = some (.slice ou47p ou47l ou47c) ∧ ∃ a48, ou45p = some a48 ∧ 0 ≤ (wrap .i64 ((ou47l : Int) - (wrap .i64 (r22 + r26)))) ∧ (wrap .i64 ((ou47l : Int) - (wrap .i64 (r22 + r26)))) < (ou45l : Int) ∧ ∃ v49, cell H41 (.add a48 (toNat (wrap .i64 ((ou47l : Int) - (wrap .i64 (r22 + r26)))) * 1)) = some (.int .u8 v49) ∧ alc H41 (.cells #[.int .u8 v49] 5) fun b50 H51 => (Ext H41 H51 ∨ (∃ ou56p ou56l ou56c, cell H51 (.add a42 1) = some (.slice ou56p ou56l ou56c) ∧ Value.slice ou56p ou56l ou56c = .slice ou43p ou43l ou43c)) ∧ appQ 1 1 #[.int .u8 0] H51 ou43p ou43l ou43c (some ⟨b50, 0, none⟩) 1 5 fun ap52p ap52l ap52c H53 => ∃ a54, f1 = some a54 ∧ stAt H53 (.add a54 1) [.slice ap52p ap52l ap52c] fun H55 => X39 [.int .i64 (wrap .i64 (t40 + 1))] H55)
 (R (.tuple #[]) H41)) → X39 [.int .i64 t40] H41) → X39 [.int .i64 0] H25))))))
def Try.p59 : Plan := (tg (tl (tl (tl (two (tl (tl leaf)) (tg (tl (tl (one (tl (tl (tl (tl (tl (tl (tl (one (loop [(47, 3)] [0, 9, 46] (tl (two (tl leaf) (two (one leaf) leaf)))))))))))))))))))))
theorem Try.s59 {f1 : OA} {s2 : Int} {di3 : OA} {H R} (h : Try.S59 f1 s2 di3 H R) : Try.C 59 #[.pointer f1, .int .i64 s2, .pointer di3] H R := vcs Try.tab_ok Try.mixed Try.func59 Try.cal59 Try.p59 h (by kernel_rfl)
def Try.S61 (l1p : OA) (l1l l1c : Nat) (H : Heap) (R : Kv) : Prop :=
 alc H (.cells #[.slice none 0 0, .slice none 0 0, .int .i64 0, .bool false] 73) fun b2 H3 => Try.C 81 #[.slice l1p l1l l1c] H3 fun r4 H5 => ∃ r6 r7, r4 = .tuple #[.int .i64 r6, .bool r7] ∧ Try.C 82 #[.slice l1p l1l l1c] H5 fun r8 H9 => ∃ r10p r10l r10c r11, r8 = .tuple #[.slice r10p r10l r10c, .bool r11] ∧ #[Value.slice l1p l1l l1c, Value.slice r10p r10l r10c, Value.int .i64 r6, Value.bool r11].size = 4 ∧ stAt H9 ⟨b2, 0, none⟩ (Array.toList #[.slice l1p l1l l1c, .slice r10p r10l r10c, .int .i64 r6, .bool r11]) fun H12 => ∃ re13, re13.size = 4 ∧ rowIn H12 ⟨b2, 0, none⟩ re13 ∧ R (.agg re13) H12
def Try.p61 : Plan := (tl (tl (tl (tl leaf))))
theorem Try.s61 {l1p : OA} {l1l l1c : Nat} {H R} (h : Try.S61 l1p l1l l1c H R) : Try.C 61 #[.slice l1p l1l l1c] H R := vcs Try.tab_ok Try.mixed Try.func61 Try.cal61 Try.p61 h (by kernel_rfl)
def Try.S62 (r1 : OA) (c2 : AV) (H : Heap) (R : Kv) : Prop :=
 alc H (.cells c2 73) fun b3 H4 => ∀ X5 : Kl, (∀ (v6 n7 : Int) H8, (br (decide (n7 ≤ 17))
 (Try.C 32 #[.pointer r1, .int .i64 1] H8 fun r9 H10 => ∃ b11, r9 = .int .i64 b11 ∧ ∃ a12, r1 = some a12 ∧ ∃ E13, cell H10 (.add a12 4) = some (.int .i64 E13) ∧ br (E13 != 0)
 (R (.int .i64 0) H10)
 (∃ L14p L14l L14c, cell H10 (.add ⟨b3, 0, none⟩ 0) = some (.slice L14p L14l L14c) ∧ ∃ C15p C15l C15c, cell H10 (.add ⟨b3, 0, none⟩ 1) = some (.slice C15p C15l C15c) ∧ Try.C 83 #[.slice L14p L14l L14c, .slice C15p C15l C15c, .int .i64 n7, .int .i64 (wrap .i64 ((wrap .i64 ((2 : Int) * v6)) + b11))] H10 fun r16 H17 => ∃ s18, r16 = .int .i64 s18 ∧ br (decide (s18 ≥ 0))
 (R (.int .i64 s18) H17)
 (∃ L19p L19l L19c, cell H17 (.add ⟨b3, 0, none⟩ 0) = some (.slice L19p L19l L19c) ∧ ∃ C20p C20l C20c, cell H17 (.add ⟨b3, 0, none⟩ 1) = some (.slice C20p C20l C20c) ∧ Try.C 84 #[.slice L19p L19l L19c, .slice C20p C20l C20c, .int .i64 n7, .int .i64 (wrap .i64 ((wrap .i64 ((2 : Int) * v6)) + b11))] H17 fun r21 H22 => ∃ r23, r21 = .bool r23 ∧ br (!r23)
 (Try.C 37 #[.pointer r1, .int .i64 21] H22 fun r24 H25 => r24 = .tuple #[] ∧ R (.int .i64 0) H25)
 (X5 [.int .i64 (wrap .i64 ((wrap .i64 ((2 : Int) * v6)) + b11)), .int .i64 (wrap .i64 (n7 + 1))] H22))))
 (Try.C 37 #[.pointer r1, .int .i64 21] H8 fun r26 H27 => r26 = .tuple #[] ∧ R (.int .i64 0) H27)) → X5 [.int .i64 v6, .int .i64 n7] H8) → X5 [.int .i64 0, .int .i64 1] H4
def Try.p62 : Plan := (tl (tl (two (tl (one (loop [(5, 3), (6, 3)] [0, 3] (two (tl (tl leaf)) (two (one (tl (tg (tl (tl (tg (tl (tl leaf)))))))) leaf))))) (tl (tl leaf)))))
theorem Try.s62 {r1 : OA} {c2 : AV} {H R} (h : Try.S62 r1 c2 H R) : Try.C 62 #[.pointer r1, .agg c2] H R := vcs Try.tab_ok Try.mixed Try.func62 Try.cal62 Try.p62 h (by kernel_rfl)
def Try.S63 (r1 : OA) (s2 : Int) (d3 : AV) (H : Heap) (R : Kv) : Prop :=
 alc H (.cells d3 73) fun b4 H5 => br (decide (s2 > 285))
 (Try.C 37 #[.pointer r1, .int .i64 25] H5 fun r6 H7 => r6 = .tuple #[] ∧ R (.tuple #[]) H7)
 (Try.C 85 #[.int .i64 s2] H5 fun r8 H9 => ∃ r10 r11, r8 = .tuple #[.int .i64 r10, .int .i64 r11] ∧ Try.C 32 #[.pointer r1, .int .i64 r11] H9 fun r12 H13 => ∃ r14, r12 = .int .i64 r14 ∧ ∃ a15, r1 = some a15 ∧ ∃ E16, cell H13 (.add a15 4) = some (.int .i64 E16) ∧ br (E16 != 0)
 (R (.tuple #[]) H13)
 (∃ v17, v17.size = 4 ∧ rowIn H13 ⟨b4, 0, none⟩ v17 ∧ Try.C 62 #[.pointer r1, .agg v17] H13 fun r18 H19 => ∃ t20, r18 = .int .i64 t20 ∧ ∃ a21, r1 = some a21 ∧ ∃ E22, cell H19 (.add a21 4) = some (.int .i64 E22) ∧ br (E22 != 0)
 (R (.tuple #[]) H19)
 (br (decide (t20 > 29))
 (Try.C 37 #[.pointer r1, .int .i64 25] H19 fun r23 H24 => r23 = .tuple #[] ∧ R (.tuple #[]) H24)
 (Try.C 86 #[.int .i64 t20] H19 fun r25 H26 => ∃ r27 r28, r25 = .tuple #[.int .i64 r27, .int .i64 r28] ∧ Try.C 32 #[.pointer r1, .int .i64 r28] H26 fun r29 H30 => ∃ r31, r29 = .int .i64 r31 ∧ ∃ a32, r1 = some a32 ∧ ∃ E33, cell H30 (.add a32 4) = some (.int .i64 E33) ∧ br (E33 != 0)
 (R (.tuple #[]) H30)
 (∃ a34, r1 = some a34 ∧ ∃ Ou35p Ou35l Ou35c, cell H30 (.add a34 2) = some (.slice Ou35p Ou35l Ou35c) ∧ br (decide (((wrap .i64 (r27 + r31)) : Int) > (Ou35l : Int)))
 (Try.C 37 #[.pointer r1, .int .i64 22] H30 fun r36 H37 => r36 = .tuple #[] ∧ R (.tuple #[]) H37)
 (∃ a38, r1 = some a38 ∧ ∃ Ou39p Ou39l Ou39c, cell H30 (.add a38 2) = some (.slice Ou39p Ou39l Ou39c) ∧ ∃ a40, r1 = some a40 ∧ ∃ Mo41, cell H30 (.add a40 3) = some (.int .i64 Mo41) ∧ br (decide (((wrap .i64 ((Ou39l : Int) + (wrap .i64 (r10 + r14)))) : Int) > Mo41))
 (Try.C 37 #[.pointer r1, .int .i64 24] H30 fun r42 H43 => r42 = .tuple #[] ∧ R (.tuple #[]) H43)
 (∀ X44 : Kl, (∀ (k45 : Int) H46, (br (decide (k45 < (wrap .i64 (r10 + r14))))
 (∃ a47, r1 = some a47 ∧ ∃ Ou48p Ou48l Ou48c, cell H46 (.add a47 2) = some (.slice Ou48p Ou48l Ou48c) ∧ ∃ a49, r1 = some a49 ∧ ∃ Ou50p Ou50l Ou50c, cell H46 (.add a49 2) = some (.slice Ou50p Ou50l Ou50c) ∧ ∃ a51, r1 = some a51 ∧ ∃ Ou52p Ou52l Ou52c, cell H46 (.add a51 2) = some (.slice Ou52p Ou52l Ou52c) ∧ ∃ a53, Ou50p = some a53 ∧ 0 ≤ (wrap .i64 ((Ou52l : Int) - (wrap .i64 (r27 + r31)))) ∧ (wrap .i64 ((Ou52l : Int) - (wrap .i64 (r27 + r31)))) < (Ou50l : Int) ∧ ∃ v54, cell H46 (.add a53 (toNat (wrap .i64 ((Ou52l : Int) - (wrap .i64 (r27 + r31)))) * 1)) = some (.int .u8 v54) ∧ alc H46 (.cells #[.int .u8 v54] 5) fun b55 H56 => (Ext H46 H56 ∨ (∃ Ou61p Ou61l Ou61c, cell H56 (.add a47 2) = some (.slice Ou61p Ou61l Ou61c) ∧ Value.slice Ou61p Ou61l Ou61c = .slice Ou48p Ou48l Ou48c)) ∧ appQ 1 1 #[.int .u8 0] H56 Ou48p Ou48l Ou48c (some ⟨b55, 0, none⟩) 1 5 fun ap57p ap57l ap57c H58 => ∃ a59, r1 = some a59 ∧ stAt H58 (.add a59 2) [.slice ap57p ap57l ap57c] fun H60 => X44 [.int .i64 (wrap .i64 (k45 + 1))] H60)
 (R (.tuple #[]) H46)) → X44 [.int .i64 k45] H46) → X44 [.int .i64 0] H30)))))))
def Try.p63 : Plan := (tl (tg (tl (tl (two (tl (tl leaf)) (tl (two (tl (tl leaf)) (tg (tl (tl (two (tl (tl leaf)) (tg (tg (tl (one (loop [(11, 3)] [0, 6, 9] (two (tl (tl leaf)) (two (one leaf) leaf))))))))))))))))))
theorem Try.s63 {r1 : OA} {s2 : Int} {d3 : AV} {H R} (h : Try.S63 r1 s2 d3 H R) : Try.C 63 #[.pointer r1, .int .i64 s2, .agg d3] H R := vcs Try.tab_ok Try.mixed Try.func63 Try.cal63 Try.p63 h (by kernel_rfl)
def Try.S64 (c1 : AV) (si2 none_3 : Bool) (H : Heap) (R : Kv) : Prop :=
 alc H (.cells c1 73) fun b4 H5 => ∃ OK6, cell H5 (.add ⟨b4, 0, none⟩ 3) = some (.bool OK6) ∧ br (!OK6)
 (R (.bool false) H5)
 (∃ W7, cell H5 (.add ⟨b4, 0, none⟩ 2) = some (.int .i64 W7) ∧ br (W7 == 65536)
 (R (.bool true) H5)
 (br si2 (∃ W8, cell H5 (.add ⟨b4, 0, none⟩ 2) = some (.int .i64 W8) ∧ br (W8 == 32768) (∃ L9p L9l L9c, cell H5 (.add ⟨b4, 0, none⟩ 0) = some (.slice L9p L9l L9c) ∧ Try.C 87 #[.slice L9p L9l L9c] H5 fun r10 H11 => ∃ r12, r10 = .int .i64 r12 ∧ br (r12 == 1) (R (.bool true) H11) (br none_3 (∃ W13, cell H11 (.add ⟨b4, 0, none⟩ 2) = some (.int .i64 W13) ∧ R (.bool (W13 == 0)) H11) (R (.bool false) H11))) (br none_3 (∃ W14, cell H5 (.add ⟨b4, 0, none⟩ 2) = some (.int .i64 W14) ∧ R (.bool (W14 == 0)) H5) (R (.bool false) H5))) (br none_3 (∃ W15, cell H5 (.add ⟨b4, 0, none⟩ 2) = some (.int .i64 W15) ∧ R (.bool (W15 == 0)) H5) (R (.bool false) H5))))
def Try.p64 : Plan := (tl (tg (tg (tl leaf))))
theorem Try.s64 {c1 : AV} {si2 none_3 : Bool} {H R} (h : Try.S64 c1 si2 none_3 H R) : Try.C 64 #[.agg c1, .bool si2, .bool none_3] H R := vcs Try.tab_ok Try.mixed Try.func64 Try.cal64 Try.p64 h (by kernel_rfl)
def Try.S65 (r1 : OA) (c2 : AV) (li3p : OA) (li3l li3c : Nat) (to4 : Int) (H : Heap) (R : Kv) : Prop :=
 alc H (.cells c2 73) fun b5 H6 => ∃ v7, v7.size = 4 ∧ rowIn H6 ⟨b5, 0, none⟩ v7 ∧ Try.C 62 #[.pointer r1, .agg v7] H6 fun r8 H9 => ∃ s10, r8 = .int .i64 s10 ∧ ∃ a11, r1 = some a11 ∧ ∃ E12, cell H9 (.add a11 4) = some (.int .i64 E12) ∧ br (E12 != 0)
 (R (.slice li3p li3l li3c) H9)
 (∀ J13 : Kl, (∀ (v14 n15 : Int) H16, (∀ J17 : Kl, (∀ (v18 n19 : Int) H20, (∀ J21 : Kl, (∀ (v22 n23 : Int) H24, (∀ J25 : Kl, (∀ H26, (∀ X27 : Kl, (∀ (li28p : OA) (li28l li28c : Nat) (k29 : Int) H30, (br (decide (k29 < n23))
 (alc H30 (.cells #[.int .i64 v22] 3) fun b31 H32 => appQ 1 8 #[.int .i64 0] H32 li28p li28l li28c (some ⟨b31, 0, none⟩) 1 3 fun li33p li33l li33c H34 => X27 [.slice li33p li33l li33c, .int .i64 (wrap .i64 (k29 + 1))] H34)
 (R (.slice li28p li28l li28c) H30)) → X27 [.slice li28p li28l li28c, .int .i64 k29] H30) → X27 [.slice li3p li3l li3c, .int .i64 0] H26) → J25 [] H26) →
 ∃ a35, r1 = some a35 ∧ ∃ E36, cell H24 (.add a35 4) = some (.int .i64 E36) ∧ br (E36 == 0) (br (decide (((wrap .i64 ((li3l : Int) + n23)) : Int) > to4))
 (Try.C 37 #[.pointer r1, .int .i64 21] H24 fun r37 H38 => r37 = .tuple #[] ∧ J25 [] H38)
 (J25 [] H24)) (J25 [] H24)) → J21 [.int .i64 v22, .int .i64 n23] H24) →
 br (s10 == 18)
 (Try.C 32 #[.pointer r1, .int .i64 7] H20 fun r39 H40 => ∃ r41, r39 = .int .i64 r41 ∧ J21 [.int .i64 0, .int .i64 (wrap .i64 ((11 : Int) + r41))] H40)
 (J21 [.int .i64 v18, .int .i64 n19] H20)) → J17 [.int .i64 v18, .int .i64 n19] H20) →
 br (s10 == 17)
 (Try.C 32 #[.pointer r1, .int .i64 3] H16 fun r42 H43 => ∃ r44, r42 = .int .i64 r44 ∧ J17 [.int .i64 0, .int .i64 (wrap .i64 ((3 : Int) + r44))] H43)
 (J17 [.int .i64 v14, .int .i64 n15] H16)) → J13 [.int .i64 v14, .int .i64 n15] H16) →
 br (s10 == 16)
 (Try.C 32 #[.pointer r1, .int .i64 2] H9 fun r45 H46 => ∃ r47, r45 = .int .i64 r47 ∧ br (((li3l : Int) : Int) == 0)
 (Try.C 37 #[.pointer r1, .int .i64 21] H46 fun r48 H49 => r48 = .tuple #[] ∧ R (.slice li3p li3l li3c) H49)
 (∃ a50, li3p = some a50 ∧ 0 ≤ (wrap .i64 ((li3l : Int) - 1)) ∧ (wrap .i64 ((li3l : Int) - 1)) < (li3l : Int) ∧ ∃ v51, cell H46 (.add a50 (toNat (wrap .i64 ((li3l : Int) - 1)) * 1)) = some (.int .i64 v51) ∧ J13 [.int .i64 v51, .int .i64 (wrap .i64 ((3 : Int) + r47))] H46))
 (J13 [.int .i64 s10, .int .i64 1] H9))
def Try.p65 : Plan := (tl (tl (tg (tl (tl (two (join [(10, 3), (11, 3)] [0, 2, 3, 9] (tl (two (tl (two (tl (two (tl (tl leaf)) leaf)) leaf)) leaf))) (two (join [(10, 3), (11, 3)] [0, 2, 3, 9] g0) (two (join [(10, 3), (11, 3)] [0, 2, 3] g0) (two (join [] [2, 10, 11] (tl (tl leaf))) (two (tl (one (loop [(2, 46), (12, 3)] [10, 11] (two (tl (tl leaf)) (two (one leaf) leaf))))) (tl leaf)))))))))))
theorem Try.s65 {r1 : OA} {c2 : AV} {li3p : OA} {li3l li3c : Nat} {to4 : Int} {H R} (h : Try.S65 r1 c2 li3p li3l li3c to4 H R) : Try.C 65 #[.pointer r1, .agg c2, .slice li3p li3l li3c, .int .i64 to4] H R := vcs Try.tab_ok Try.mixed Try.func65 Try.cal65 Try.p65 h (by kernel_rfl)
def Try.S66 (su1 : Int) (b2p : OA) (b2l b2c : Nat) (H : Heap) (R : Kv) : Prop :=
 0 ≤ (16 : Int) ∧ ∀ X3 : Kl, (∀ (lo4 hi5 t6 : Int) H7, (br (decide (t6 < (b2l : Int)))
 (∃ a8, b2p = some a8 ∧ 0 ≤ t6 ∧ t6 < (b2l : Int) ∧ ∃ x9, cell H7 (.add a8 (toNat t6 * 1)) = some (.int .u8 x9) ∧ (65521 : Int) ≠ 0 ∧ (65521 : Int) ≠ 0 ∧ X3 [.int .i64 (Int.tmod (wrap .i64 (lo4 + (wrap .i64 x9))) 65521), .int .i64 (Int.tmod (wrap .i64 (hi5 + (Int.tmod (wrap .i64 (lo4 + (wrap .i64 x9))) 65521))) 65521), .int .i64 (wrap .i64 (t6 + 1))] H7)
 (0 ≤ (16 : Int) ∧ R (.int .i64 (orI .i64 (shlI .i64 hi5 16) lo4)) H7)) → X3 [.int .i64 lo4, .int .i64 hi5, .int .i64 t6] H7) → X3 [.int .i64 (andI .i64 su1 65535), .int .i64 (shrI .i64 su1 16), .int .i64 0] H
def Try.p66 : Plan := (tl (tl (two (tl (one (loop [(5, 3), (6, 3), (15, 3)] [13, 14] (tl (two (tl leaf) (two (one (tl (tl leaf))) leaf)))))) (tl leaf))))
theorem Try.s66 {su1 : Int} {b2p : OA} {b2l b2c : Nat} {H R} (h : Try.S66 su1 b2p b2l b2c H R) : Try.C 66 #[.int .i64 su1, .slice b2p b2l b2c] H R := vcs Try.tab_ok Try.mixed Try.func66 Try.cal66 Try.p66 h (by kernel_rfl)
def Try.S68 (b1p : OA) (b1l b1c : Nat) (H : Heap) (R : Kv) : Prop :=
 ∃ a2, b1p = some a2 ∧ 0 ≤ (0 : Int) ∧ (0 : Int) < (b1l : Int) ∧ ∃ v3, cell H (.add a2 (toNat (0 : Int) * 1)) = some (.int .u8 v3) ∧ 0 ≤ (8 : Int) ∧ ∃ a4, b1p = some a4 ∧ 0 ≤ (1 : Int) ∧ (1 : Int) < (b1l : Int) ∧ ∃ v5, cell H (.add a4 (toNat (1 : Int) * 1)) = some (.int .u8 v5) ∧ 0 ≤ (4 : Int) ∧ ∃ a6, b1p = some a6 ∧ 0 ≤ (2 : Int) ∧ (2 : Int) < (b1l : Int) ∧ ∃ v7, cell H (.add a6 (toNat (2 : Int) * 1)) = some (.int .u8 v7) ∧ R (.int .i64 (andI .i64 (xorI .i64 (xorI .i64 (shlI .i64 (wrap .i64 v3) 8) (shlI .i64 (wrap .i64 v5) 4)) (wrap .i64 v7)) 4095)) H
def Try.p68 : Plan := (tl (tl leaf))
theorem Try.s68 {b1p : OA} {b1l b1c : Nat} {H R} (h : Try.S68 b1p b1l b1c H R) : Try.C 68 #[.slice b1p b1l b1c] H R := vcs Try.tab_ok Try.mixed Try.func68 Try.cal68 Try.p68 h (by kernel_rfl)
def Try.S69 (at_1 : Int) (hi2 : Bool) (H : Heap) (R : Kv) : Prop :=
 br hi2
 ((8 : Int) ≠ 0 ∧ R (.int .i64 (wrap .i64 ((7 : Int) - (Int.tmod at_1 8)))) H)
 ((8 : Int) ≠ 0 ∧ R (.int .i64 (Int.tmod at_1 8)) H)
def Try.p69 : Plan := (tl (tg (tl leaf)))
theorem Try.s69 {at_1 : Int} {hi2 : Bool} {H R} (h : Try.S69 at_1 hi2 H R) : Try.C 69 #[.int .i64 at_1, .bool hi2] H R := vcs Try.tab_ok Try.mixed Try.func69 Try.cal69 Try.p69 h (by kernel_rfl)
def Try.S70 (s1 : Int) (H : Heap) (R : Kv) : Prop :=
 br (decide (((wrap .i64 (s1 - 257)) : Int) < 8))
 (R (.tuple #[.int .i64 (wrap .i64 ((3 : Int) + (wrap .i64 (s1 - 257)))), .int .i64 0]) H)
 (br (((wrap .i64 (s1 - 257)) : Int) == 28)
 (R (.tuple #[.int .i64 258, .int .i64 0]) H)
 ((4 : Int) ≠ 0 ∧ (4 : Int) ≠ 0 ∧ 0 ≤ (wrap .i64 ((wrap .i64 (Int.tdiv (wrap .i64 (s1 - 257)) 4)) - 1)) ∧ R (.tuple #[.int .i64 (wrap .i64 ((3 : Int) + (shlI .i64 (wrap .i64 ((4 : Int) + (Int.tmod (wrap .i64 (s1 - 257)) 4))) (wrap .i64 ((wrap .i64 (Int.tdiv (wrap .i64 (s1 - 257)) 4)) - 1))))), .int .i64 (wrap .i64 ((wrap .i64 (Int.tdiv (wrap .i64 (s1 - 257)) 4)) - 1))]) H))
def Try.p70 : Plan := (tl (two (tl (one (tl (two (tl leaf) g0)))) (tl (tl leaf))))
theorem Try.s70 {s1 : Int} {H R} (h : Try.S70 s1 H R) : Try.C 70 #[.int .i64 s1] H R := vcs Try.tab_ok Try.mixed Try.func70 Try.cal70 Try.p70 h (by kernel_rfl)
def Try.S71 (le1p : OA) (le1l le1c : Nat) (H : Heap) (R : Kv) : Prop :=
 br (decide (((le1l : Int) : Int) > 300))
 (R (.tuple #[.int .i64 0, .bool false]) H)
 (∀ X2 : Kl, (∀ (su3 t4 : Int) H5, (br (decide (t4 < (le1l : Int)))
 (∃ a6, le1p = some a6 ∧ 0 ≤ t4 ∧ t4 < (le1l : Int) ∧ ∃ n7, cell H5 (.add a6 (toNat t4 * 1)) = some (.int .i64 n7) ∧ ∀ J8 : Kl, (∀ H9, (br (decide (n7 > 0))
 (0 ≤ (wrap .i64 ((16 : Int) - n7)) ∧ X2 [.int .i64 (wrap .i64 (su3 + (shlI .i64 1 (wrap .i64 ((16 : Int) - n7))))), .int .i64 (wrap .i64 (t4 + 1))] H9)
 (X2 [.int .i64 su3, .int .i64 (wrap .i64 (t4 + 1))] H9)) → J8 [] H9) →
 br (decide (n7 < 0)) (R (.tuple #[.int .i64 0, .bool false]) H5) (br (decide (n7 > 16))
 (R (.tuple #[.int .i64 0, .bool false]) H5)
 (J8 [] H5)))
 (R (.tuple #[.int .i64 su3, .bool true]) H5)) → X2 [.int .i64 su3, .int .i64 t4] H5) → X2 [.int .i64 0, .int .i64 0] H)
def Try.p71 : Plan := (tl (tg (tl (two (tl (one (loop [(4, 3), (12, 3)] [10, 11] (tl (two (tl leaf) (two (one (tl (two (join [] [4, 6, 10, 11, 12] g0) (tl (tl leaf))))) leaf)))))) (tl leaf)))))
theorem Try.s71 {le1p : OA} {le1l le1c : Nat} {H R} (h : Try.S71 le1p le1l le1c H R) : Try.C 71 #[.slice le1p le1l le1c] H R := vcs Try.tab_ok Try.mixed Try.func71 Try.cal71 Try.p71 h (by kernel_rfl)
def Try.S72 (s1p : OA) (s1l s1c : Nat) (H : Heap) (R : Kv) : Prop :=
 br (Option.isNone s1p)
 (R (.slice none 0 0) H)
 (alc H (.cells #[] 3) fun b2 H3 => appQ 1 8 #[.int .i64 0] H3 (some ⟨b2, 0, none⟩) 0 0 s1p s1l 3 fun ap4p ap4l ap4c H5 => R (.slice ap4p ap4l ap4c) H5)
def Try.p72 : Plan := (tl (tg (tl leaf)))
theorem Try.s72 {s1p : OA} {s1l s1c : Nat} {H R} (h : Try.S72 s1p s1l s1c H R) : Try.C 72 #[.slice s1p s1l s1c] H R := vcs Try.tab_ok Try.mixed Try.func72 Try.cal72 Try.p72 h (by kernel_rfl)
def Try.S73 (s1p : OA) (s1l s1c : Nat) (n2 : Int) (H : Heap) (R : Kv) : Prop :=
 ∀ J3 : Kl, (∀ H4, (br (decide (((wrap .i64 (n2 - (wrap .i64 ((s1c : Int) - (s1l : Int))))) : Int) > 0))
 (0 ≤ (s1c : Int) ∧ (s1c : Int) ≤ (s1c : Int) ∧ appZ 1 8 #[.int .i64 0] H4 (if s1c = 0 then s1p else Option.map (fun x => Addr.add x (0 * 1)) s1p) ((toNat (s1c : Int)) - 0) (s1c - 0) (wrap .i64 (n2 - (wrap .i64 ((s1c : Int) - (s1l : Int))))) 3 fun ap5p ap5l ap5c H6 => 0 ≤ (s1l : Int) ∧ (s1l : Int) ≤ (ap5c : Int) ∧ R (.slice (if ap5c = 0 then ap5p else Option.map (fun x => Addr.add x (0 * 1)) ap5p) ((toNat (s1l : Int)) - 0) (ap5c - 0)) H6)
 (R (.slice s1p s1l s1c) H4)) → J3 [] H4) →
 br (decide (n2 < 0))
 (False)
 (J3 [] H)
def Try.p73 : Plan := (tl (two (join [] [0, 1] (tl (tl leaf))) (two (tl (tl (tl leaf))) (tl leaf))))
theorem Try.s73 {s1p : OA} {s1l s1c : Nat} {n2 : Int} {H R} (h : Try.S73 s1p s1l s1c n2 H R) : Try.C 73 #[.slice s1p s1l s1c, .int .i64 n2] H R := vcs Try.tab_ok Try.mixed Try.func73 Try.cal73 Try.p73 h (by kernel_rfl)
def Try.S74 (x1p : OA) (x1l x1c cm2g : Nat) (cm2x cm2y : AV) (H : Heap) (R : Kv) : Prop :=
 Try.C 88 #[.slice x1p x1l x1c, .int .i64 (x1l : Int), .func (.func cm2g) cm2x cm2y] H fun r3 H4 => r3 = .tuple #[] ∧ R (.tuple #[]) H4
def Try.p74 : Plan := leaf
theorem Try.s74 {x1p : OA} {x1l x1c cm2g : Nat} {cm2x cm2y : AV} {H R} (h : Try.S74 x1p x1l x1c cm2g cm2x cm2y H R) : Try.C 74 #[.slice x1p x1l x1c, .func (.func cm2g) cm2x cm2y] H R := vcs Try.tab_ok Try.mixed Try.func74 Try.cal74 Try.p74 h (by kernel_rfl)
def Try.S75 (a1 b2 : AV) (H : Heap) (R : Kv) : Prop :=
 alc H (.cells a1 128) fun b3 H4 => alc H4 (.cells b2 128) fun b5 H6 => ∃ co7, cell H6 (.add ⟨b3, 0, none⟩ 0) = some (.int .i64 co7) ∧ ∃ co8, cell H6 (.add ⟨b5, 0, none⟩ 0) = some (.int .i64 co8) ∧ R (.int .i64 (wrap .i64 (co7 - co8))) H6
def Try.p75 : Plan := (tl (tl leaf))
theorem Try.s75 {a1 b2 : AV} {H R} (h : Try.S75 a1 b2 H R) : Try.C 75 #[.agg a1, .agg b2] H R := vcs Try.tab_ok Try.mixed Try.func75 Try.cal75 Try.p75 h (by kernel_rfl)
def Try.S76 (a1p : OA) (a1l a1c : Nat) (b2p : OA) (b2l b2c : Nat) (H : Heap) (R : Kv) : Prop :=
 alc H (.cells #[.slice a1p a1l a1c, .slice b2p b2l b2c] 126) fun b3 H4 => Try.C 89 #[.slice (some ⟨b3, 0, none⟩) 2 2] H4 fun r5 H6 => ∃ ou7p ou7l ou7c, r5 = .slice ou7p ou7l ou7c ∧ Try.C 74 #[.slice ou7p ou7l ou7c, .func (.func 90) #[] #[]] H6 fun r8 H9 => r8 = .tuple #[] ∧ R (.slice ou7p ou7l ou7c) H9
def Try.p76 : Plan := (tl (tl (tl (tl leaf))))
theorem Try.s76 {a1p : OA} {a1l a1c : Nat} {b2p : OA} {b2l b2c : Nat} {H R} (h : Try.S76 a1p a1l a1c b2p b2l b2c H R) : Try.C 76 #[.slice a1p a1l a1c, .slice b2p b2l b2c] H R := vcs Try.tab_ok Try.mixed Try.func76 Try.cal76 Try.p76 h (by kernel_rfl)
def Try.S77 (ro1p : OA) (ro1l ro1c : Nat) (H : Heap) (R : Kv) : Prop :=
 ∀ X2 : Kl, (∀ (ou3p : OA) (ou3l ou3c : Nat) (i4 : Int) H5, (br (decide (((wrap .i64 (i4 + 1)) : Int) < (ro1l : Int)))
 (∃ a6, ro1p = some a6 ∧ 0 ≤ i4 ∧ i4 < (ro1l : Int) ∧ ∃ co7, cell H5 (.add (.add a6 (toNat i4 * 2)) 0) = some (.int .i64 co7) ∧ ∃ a8, ro1p = some a8 ∧ 0 ≤ (wrap .i64 (i4 + 1)) ∧ (wrap .i64 (i4 + 1)) < (ro1l : Int) ∧ ∃ co9, cell H5 (.add (.add a8 (toNat (wrap .i64 (i4 + 1)) * 2)) 0) = some (.int .i64 co9) ∧ ∃ a10, ro1p = some a10 ∧ 0 ≤ i4 ∧ i4 < (ro1l : Int) ∧ ∃ sy11p sy11l sy11c, cell H5 (.add (.add a10 (toNat i4 * 2)) 1) = some (.slice sy11p sy11l sy11c) ∧ ∃ a12, ro1p = some a12 ∧ 0 ≤ (wrap .i64 (i4 + 1)) ∧ (wrap .i64 (i4 + 1)) < (ro1l : Int) ∧ ∃ sy13p sy13l sy13c, cell H5 (.add (.add a12 (toNat (wrap .i64 (i4 + 1)) * 2)) 1) = some (.slice sy13p sy13l sy13c) ∧ alc H5 (.cells #[.slice sy11p sy11l sy11c, .slice sy13p sy13l sy13c] 46) fun b14 H15 => (Ext H5 H15 ∨ (∃ co25, cell H15 (.add (.add a8 (toNat (wrap .i64 (i4 + 1)) * 2)) 0) = some (.int .i64 co25) ∧ Value.int .i64 co25 = .int .i64 co9) ∧ (∃ co26, cell H15 (.add (.add a6 (toNat i4 * 2)) 0) = some (.int .i64 co26) ∧ Value.int .i64 co26 = .int .i64 co7)) ∧ Try.C 51 #[.slice (some ⟨b14, 0, none⟩) 2 2] H15 fun r16 H17 => ∃ r18p r18l r18c, r16 = .slice r18p r18l r18c ∧ (Ext H15 H17 ∨ (∃ co23, cell H17 (.add (.add a8 (toNat (wrap .i64 (i4 + 1)) * 2)) 0) = some (.int .i64 co23) ∧ Value.int .i64 co23 = .int .i64 co9) ∧ (∃ co24, cell H17 (.add (.add a6 (toNat i4 * 2)) 0) = some (.int .i64 co24) ∧ Value.int .i64 co24 = .int .i64 co7)) ∧ #[Value.int .i64 (wrap .i64 (co7 + co9)), Value.slice r18p r18l r18c].size = 2 ∧ 0 + 2 ≤ 2 ∧ alc H17 (.cells (List.toArray (setL [.int .i64 0, .slice none 0 0] 0 (Array.toList #[.int .i64 (wrap .i64 (co7 + co9)), .slice r18p r18l r18c]))) 128) fun b19 H20 => appQ 2 32 #[.int .i64 0, .slice none 0 0] H20 ou3p ou3l ou3c (some ⟨b19, 0, none⟩) 1 128 fun ou21p ou21l ou21c H22 => X2 [.slice ou21p ou21l ou21c, .int .i64 (wrap .i64 (i4 + 2))] H22)
 (R (.slice ou3p ou3l ou3c) H5)) → X2 [.slice ou3p ou3l ou3c, .int .i64 i4] H5) → X2 [.slice none 0 0, .int .i64 0] H
def Try.p77 : Plan := (tl (tl (two (tl (one (loop [(3, 126), (4, 3)] [0] (two (tl (tl leaf)) (two (one leaf) leaf))))) (tl leaf))))
theorem Try.s77 {ro1p : OA} {ro1l ro1c : Nat} {H R} (h : Try.S77 ro1p ro1l ro1c H R) : Try.C 77 #[.slice ro1p ro1l ro1c] H R := vcs Try.tab_ok Try.mixed Try.func77 Try.cal77 Try.p77 h (by kernel_rfl)
def Try.S78 (r1 : OA) (H : Heap) (R : Kv) : Prop :=
 ∃ a2, r1 = some a2 ∧ ∃ b3p b3l b3c, cell H (.add a2 0) = some (.slice b3p b3l b3c) ∧ ∃ a4, r1 = some a4 ∧ ∃ at_5, cell H (.add a4 1) = some (.int .i64 at_5) ∧ R (.int .i64 (wrap .i64 ((wrap .i64 ((8 : Int) * (b3l : Int))) - at_5))) H
def Try.p78 : Plan := (tl (tl leaf))
theorem Try.s78 {r1 : OA} {H R} (h : Try.S78 r1 H R) : Try.C 78 #[.pointer r1] H R := vcs Try.tab_ok Try.mixed Try.func78 Try.cal78 Try.p78 h (by kernel_rfl)
def Try.S79 (d1 : OA) (st2 bi3 : Int) (H : Heap) (R : Kv) : Prop :=
 ∀ J4 : Kl, (∀ H5, (∃ a6, d1 = some a6 ∧ ∃ no7p no7l no7c, cell H5 (.add a6 0) = some (.slice no7p no7l no7c) ∧ ∃ a8, no7p = some a8 ∧ 0 ≤ st2 ∧ st2 < (no7l : Int) ∧ 0 ≤ (andI .i64 bi3 1) ∧ (andI .i64 bi3 1) < ((2 : Nat) : Int) ∧ ∃ n9, cell H5 (.add (.add a8 (toNat st2 * 2)) (toNat (andI .i64 bi3 1) * 1)) = some (.int .i64 n9) ∧ br (decide (n9 > 0))
 (R (.tuple #[.int .i64 n9, .int .i64 (-1 : Int)]) H5)
 (br (decide (n9 < 0))
 (R (.tuple #[.int .i64 0, .int .i64 (wrap .i64 ((-1 : Int) - n9))]) H5)
 (R (.tuple #[.int .i64 (-1 : Int), .int .i64 (-1 : Int)]) H5))) → J4 [] H5) →
 br (decide (st2 < 0)) (R (.tuple #[.int .i64 (-1 : Int), .int .i64 (-1 : Int)]) H) (∃ a10, d1 = some a10 ∧ ∃ no11p no11l no11c, cell H (.add a10 0) = some (.slice no11p no11l no11c) ∧ br (decide (st2 ≥ (no11l : Int)))
 (R (.tuple #[.int .i64 (-1 : Int), .int .i64 (-1 : Int)]) H)
 (J4 [] H))
def Try.p79 : Plan := (tl (two (join [] [0, 1, 2] g0) (two (tl (one (tl (two (tl leaf) g0)))) (tl leaf))))
theorem Try.s79 {d1 : OA} {st2 bi3 : Int} {H R} (h : Try.S79 d1 st2 bi3 H R) : Try.C 79 #[.pointer d1, .int .i64 st2, .int .i64 bi3] H R := vcs Try.tab_ok Try.mixed Try.func79 Try.cal79 Try.p79 h (by kernel_rfl)
def Try.S80 (le1p : OA) (le1l le1c : Nat) (H : Heap) (R : Kv) : Prop :=
 ∀ X2 : Kl, (∀ (n3 t4 : Int) H5, (br (decide (t4 < (le1l : Int)))
 (∃ a6, le1p = some a6 ∧ 0 ≤ t4 ∧ t4 < (le1l : Int) ∧ ∃ l7, cell H5 (.add a6 (toNat t4 * 1)) = some (.int .i64 l7) ∧ br (decide (l7 > 0))
 (X2 [.int .i64 (wrap .i64 (n3 + 1)), .int .i64 (wrap .i64 (t4 + 1))] H5)
 (X2 [.int .i64 n3, .int .i64 (wrap .i64 (t4 + 1))] H5))
 (R (.bool (n3 == 1)) H5)) → X2 [.int .i64 n3, .int .i64 t4] H5) → X2 [.int .i64 0, .int .i64 0] H
def Try.p80 : Plan := (tl (tl (two (tl (one (loop [(3, 3), (8, 3)] [6, 7] (tl (two (tl leaf) (two (one (tl (tl (tl leaf)))) leaf)))))) (tl leaf))))
theorem Try.s80 {le1p : OA} {le1l le1c : Nat} {H R} (h : Try.S80 le1p le1l le1c H R) : Try.C 80 #[.slice le1p le1l le1c] H R := vcs Try.tab_ok Try.mixed Try.func80 Try.cal80 Try.p80 h (by kernel_rfl)
end Go.Proofs
