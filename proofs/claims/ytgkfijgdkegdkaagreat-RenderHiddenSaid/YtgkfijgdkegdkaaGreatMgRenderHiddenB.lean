/-
  OWN WORK. Several texts in one: ShP, ShL, TileW, TileStay, ShS, ShT, ShU, TrA, GTab, GFunA, GFunB, GFunC.
-/
import Derived.Test.YtgkfijgdkegdkaaGreatMgRenderHiddenA
import Derived.ProofKit
import Derived.OpenShut
import Derived.Test.YtgkfijgdkegdkaaGreatProg
import Derived.KernelRfl

set_option linter.unusedSimpArgs false
set_option linter.unusedVariables false
set_option maxRecDepth 100000
namespace Go.Sh
def br (t : Bool) (A B : Prop) : Prop := (t = true → A) ∧ (t = false → B)
def alc (H : Heap) (o : Obj) (K : Nat → Heap → Prop) : Prop := K H.size (H.push o)
abbrev OA := Option Addr
abbrev AV := Array Value
abbrev Kv := Value → Heap → Prop
abbrev Kl := List Value → Heap → Prop
namespace Plan
def tl (a : Plan) : Plan := two leaf a
def g0 : Plan := tl (two (tl leaf) leaf)
def tg (a : Plan) : Plan := two g0 a
end Plan
theorem vcs {P : Program} {T : Tab} (hT : TabOk P T) (hm : P.follows .mixedOrders = true) {g : FuncId} {fn : Func} (hg : P.funcs[g]? = some fn) (hc : callable P g) (p : Plan) {args : Array Value} {H : Heap}
    {R : Value → Heap → Prop} {A : Prop} (h : A) (e : A = vcFun P T fn p args.toList H R) : CallsH P g args H R := by
  have := vcFun_sound hT hm hg hc (p := p) (args := args.toList) (H := H) (R := R) (Eq.mp e h)
  simpa using this
end Go.Sh
namespace Go.Sh
theorem br_i {t : Bool} {A B : Prop} (h : t = true → A) (h' : t = false → B) : br t A B := ⟨h, h'⟩
theorem br_dec {p : Prop} [Decidable p] {A B : Prop} (h : p → A) (h' : ¬ p → B) : br (decide p) A B := ⟨fun e => h (of_decide_eq_true e), fun e => h' (of_decide_eq_false e)⟩
theorem br_eq {a b : Int} {A B : Prop} (h : a = b → A) (h' : a ≠ b → B) : br (a == b) A B := ⟨fun e => h (by simpa using e), fun e => h' (by simpa using e)⟩
theorem br_ne {a b : Int} {A B : Prop} (h : a ≠ b → A) (h' : a = b → B) : br (a != b) A B := ⟨fun e => h (by simpa using e), fun e => h' (by simpa using e)⟩
theorem br_not {t : Bool} {A B : Prop} (h : t = false → A) (h' : t = true → B) : br (!t) A B := ⟨fun e => h (by simpa using e), fun e => h' (by simpa using e)⟩
theorem br_true {A B : Prop} (h : A) : br true A B := ⟨fun _ => h, fun e => (by cases e)⟩
theorem br_false {A B : Prop} (h : B) : br false A B := ⟨fun e => (by cases e), fun _ => h⟩
theorem br_t {t : Bool} {A B : Prop} (ht : t = true) (h : A) : br t A B := by subst ht; exact br_true h
theorem br_f {t : Bool} {A B : Prop} (ht : t = false) (h : B) : br t A B := by subst ht; exact br_false h
theorem br_y {p : Prop} [Decidable p] {A B : Prop} (hp : p) (h : A) : br (decide p) A B := br_dec (fun _ => h) (fun n => absurd hp n)
theorem br_n {p : Prop} [Decidable p] {A B : Prop} (hp : ¬ p) (h : B) : br (decide p) A B := br_dec (fun y => absurd y hp) (fun _ => h)
theorem br_none {α : Type} {p : Option α} {A B : Prop} (h : p = none → A) (h' : ∀ a, p = some a → B) : br (Option.isNone p) A B := by
 cases p with
 | none => exact br_true (h rfl)
 | some a => exact br_false (h' a rfl)
theorem lt_of_get {H : Heap} {b : Nat} {o : Obj} (h : H[b]? = some o) : b < H.size := (Array.getElem?_eq_some_iff.1 h).1
theorem get_push_self (H : Heap) (o : Obj) : (H.push o)[H.size]? = some o := by simp
theorem get_push {H : Heap} {b : Nat} {o x : Obj} (h : H[b]? = some x) : (H.push o)[b]? = some x := Ext.push H o b x h
theorem get_set_ne {H : Heap} {b r : Nat} {o x : Obj} (hne : r ≠ b) (h : H[b]? = some x) : (H.setIfInBounds r o)[b]? = some x := by
 rw [Array.getElem?_setIfInBounds_ne hne]; exact h
theorem get_set_self {H : Heap} {r : Nat} {o x : Obj} (h : H[r]? = some x) : (H.setIfInBounds r o)[r]? = some o := by
 rw [Array.getElem?_setIfInBounds_self_of_lt (lt_of_get h)]
theorem cell_block {H : Heap} {b i : Nat} {c : Array Value} {t : TypeId} {f : Nat × Nat} (h : H[b]? = some (.cells c t f)) : cell H ⟨b, i, none⟩ = c[i]? := by
 simp [cell, h]
theorem cell_get {H : Heap} {b i : Nat} {c : Array Value} {t : TypeId} {f : Nat × Nat} {v : Value} (h : H[b]? = some (.cells c t f)) (hv : c[i]? = some v) : cell H ⟨b, i, none⟩ = some v := by
 rw [cell_block h]; exact hv
@[simp] theorem add_none (b i n : Nat) : Addr.add ⟨b, i, none⟩ n = ⟨b, i + n, none⟩ := by
 unfold Addr.add; split <;> simp_all
theorem rowIn_block {H : Heap} {b i : Nat} {c cs : Array Value} {t : TypeId} {f : Nat × Nat} (h : H[b]? = some (.cells c t f)) (hc : ∀ j v, cs[j]? = some v → c[i + j]? = some v) :
    rowIn H ⟨b, i, none⟩ cs := by
  intro j v hv
  rw [add_none, cell_block h]
  exact hc j v hv
theorem rowIn_whole {H : Heap} {b : Nat} {c : Array Value} {t : TypeId} {f : Nat × Nat} (h : H[b]? = some (.cells c t f)) : rowIn H ⟨b, 0, none⟩ c :=
 rowIn_block h fun j v hv => by rw [Nat.zero_add]; exact hv
theorem stAt_one {H : Heap} {b i : Nat} {c : Array Value} {t : TypeId} {v : Value} {f : Heap → Prop} (h : H[b]? = some (.cells c t (0, 0))) (hi : i < c.size) (ho : v.oneCell' = true)
    (hf : f (H.setIfInBounds b (.cells (c.setIfInBounds i v) t (0, 0)))) : stAt H ⟨b, i, none⟩ [v] f := by
  refine ⟨c, t, h, rfl, (by simp; omega), by simpa using ho, ?_⟩
  have : (setL c.toList i [v]).toArray = c.setIfInBounds i v := by
    rw [setL_one (by simpa using hi)]
    apply Array.toList_inj.1
    simp
  simp only [this]
  exact hf
theorem stAt_whole {H : Heap} {b : Nat} {c : Array Value} {t : TypeId} {vs : List Value} {f : Heap → Prop} (h : H[b]? = some (.cells c t (0, 0))) (hl : vs.length = c.size) (ho : ∀ v ∈ vs, v.oneCell' = true)
    (hf : f (H.setIfInBounds b (.cells vs.toArray t (0, 0)))) : stAt H ⟨b, 0, none⟩ vs f := by
  refine ⟨c, t, h, rfl, by simp; omega, ho, ?_⟩
  have : setL c.toList 0 vs = vs := by simp [setL, hl]
  simp only [this]
  exact hf
theorem wrap_id {n : Int} (h0 : -9223372036854775808 ≤ n) (h1 : n ≤ 9223372036854775807) : IntKind.wrap .i64 n = n := wrap_i64 h0 h1
theorem wrap_u8 {n : Int} (h0 : 0 ≤ n) (h1 : n < 256) : IntKind.wrap .u8 n = n := by
 simp only [IntKind.wrap, IntKind.signed, IntKind.bits]; simp; omega
end Go.Sh
namespace Go.Sh
open Go.RowKit
theorem grown_of {W w' : World} (hos : w'.os = W.os) (ho : Out W w') (hx : Ext W.heap w'.heap) : Grown W w' := by
 refine ⟨⟨hos, ho.output, fun i hi => ?_⟩, ho.froz, hx.size⟩
 obtain ⟨o, h⟩ : ∃ o, W.heap[i]? = some o := ⟨_, Array.getElem?_eq_getElem hi⟩
 rw [hx i o h, h]
 cases o with
 | cells c t fr => exact ⟨rfl, rfl, rfl, fun _ _ => rfl⟩
 | map es k => exact .inr ⟨rfl, rfl⟩
 | _ => rfl
end Go.Sh
namespace Go.Sh
open Go.RowKit Go.ChangeShapes Go.WideShapes Go.ChangeAt
section
variable {H : Type} {enc : TypeId × Value → H} {P : Program} {W W' : World}
theorem same_of (hx : Ext W.heap W'.heap) {p : MemPlace} (hp : p.block < W.heap.size) : W.sameAt W' p := by
 have h : W'.heap[p.block]? = W.heap[p.block]? := by
  obtain ⟨o, h⟩ : ∃ o, W.heap[p.block]? = some o := ⟨_, Array.getElem?_eq_getElem hp⟩
  rw [hx _ o h, h]
 cases p with
 | cell b o => exact World.cell?_of_block (w := W) h
 | map b => exact h
theorem trodAll_ext (hl : laidOutB P = true) (hx : Ext W.heap W'.heap) {sp : Nat → Bool} : ∀ {ts : List TypeId} {vs : List Value} {ds : List (DataW H)} {ps : List MemPlace}, (ts.all fun t => P.readableRec t && decide (t < P.types.size)) = true →
    DataW.TrodAll enc P W 0 (fun _ => true) true ts vs ds ps → (∀ x ∈ ps, x.block < W.heap.size) → (∀ x ∈ ps, sp x.block = true) → DataW.TrodAll enc P W' 0 sp true ts vs ds ps
  | [], vs, ds, ps, _, h, _, _ => by
    obtain ⟨rfl, rfl, rfl⟩ := trodAll_nil h
    exact trodAll_mk0
  | t :: ts, vs, ds, ps, hr, h, hlt, hs => by
    obtain ⟨v, vs1, d, ds1, a, b, rfl, rfl, rfl, h1, h2⟩ := trodAll_cons h
    simp only [List.all_cons, Bool.and_eq_true, decide_eq_true_eq] at hr
    exact trodAll_cons_mk (WideElems.Trod_stays hl hr.1.1 hr.1.2 h1 (fun x hx' => same_of hx (hlt x (List.mem_append_left _ hx'))) (fun x hx' => hs x (List.mem_append_left _ hx')))
      (trodAll_ext hl hx (by simpa using hr.2) h2 (fun x hx' => hlt x (List.mem_append_right _ hx')) (fun x hx' => hs x (List.mem_append_right _ hx')))
theorem wf_range {a : Int} (h : (Lit.int .i64 a).wf = true) : -9223372036854775808 ≤ a ∧ a ≤ 9223372036854775807 := by
 simpa [Lit.wf, IntKind.min, IntKind.max, IntKind.signed, IntKind.bits] using h
end
end Go.Sh
namespace Go.Sh
def ints (l : List Int) : List Value := l.map (Value.int .i64)
theorem ints_get {l : List Int} {i : Nat} {v : Int} (h : l[i]? = some v) : (ints l)[i]? = some (Value.int .i64 v) := by simp [ints, h]
theorem ints_len (l : List Int) : (ints l).length = l.length := by simp [ints]
theorem ints_append (a b : List Int) : ints (a ++ b) = ints a ++ ints b := by simp [ints]
theorem ints_set (l : List Int) (i : Nat) (v : Int) : (ints l).set i (.int .i64 v) = ints (l.set i v) := by simp [ints]
theorem ints_one (l : List Int) : ∀ v ∈ ints l, v.oneCell' = true := fun v hv => by
 obtain ⟨x, _, rfl⟩ := List.mem_map.1 hv; rfl
structure RS (H : Heap) (p : Option Addr) (l : Nat) (el : TypeId) (k : Nat) (fs : List Value) : Prop where
 len : fs.length = l * k
 one : ∀ v ∈ fs, v.oneCell' = true
 at_ : l = 0 ∨ ∃ blk cs, p = some ⟨blk, 0, none⟩ ∧ H[blk]? = some (.cells cs el) ∧ ∀ (i : Nat) v, fs[i]? = some v → cs[i]? = some v
structure FS (n0 : Nat) (H : Heap) (p : Option Addr) (l c : Nat) (el : TypeId) (k : Nat) (fs : List Value) : Prop where
 len : fs.length = l * k
 le : l ≤ c
 one : ∀ v ∈ fs, v.oneCell' = true
 at_ : (p = none ∧ c = 0) ∨ ∃ blk cs, p = some ⟨blk, 0, none⟩ ∧ n0 ≤ blk ∧ H[blk]? = some (.cells cs el) ∧ cs.size = c * k ∧ ∀ (i : Nat) v, fs[i]? = some v → cs[i]? = some v
theorem FS.rs {n0 : Nat} {H : Heap} {p : Option Addr} {l c : Nat} {el : TypeId} {k : Nat} {fs : List Value} (h : FS n0 H p l c el k fs) : RS H p l el k fs := by
 refine ⟨h.len, h.one, ?_⟩
 rcases h.at_ with ⟨_, h2⟩ | ⟨blk, cs, h1, _, h3, _, h5⟩
 ·left; have := h.le; omega
 ·exact .inr ⟨blk, cs, h1, h3, h5⟩
theorem RS.keep {H H' : Heap} {p : Option Addr} {l : Nat} {el : TypeId} {k : Nat} {fs : List Value} (h : RS H p l el k fs) (hk : ∀ b cs, p = some ⟨b, 0, none⟩ → H[b]? = some (.cells cs el) → H'[b]? = some (.cells cs el)) : RS H' p l el k fs := by
 refine ⟨h.len, h.one, ?_⟩
 rcases h.at_ with h1 | ⟨blk, cs, h1, h3, h5⟩
 ·exact .inl h1
 ·exact .inr ⟨blk, cs, h1, hk _ _ h1 h3, h5⟩
theorem RS.ext {H H' : Heap} {p : Option Addr} {l : Nat} {el : TypeId} {k : Nat} {fs : List Value} (h : RS H p l el k fs) (he : Ext H H') : RS H' p l el k fs := h.keep fun b cs _ hb => he _ _ hb
theorem FS.keep {n0 : Nat} {H H' : Heap} {p : Option Addr} {l c : Nat} {el : TypeId} {k : Nat} {fs : List Value} (h : FS n0 H p l c el k fs) (hk : ∀ b cs, p = some ⟨b, 0, none⟩ → H[b]? = some (.cells cs el) → H'[b]? = some (.cells cs el)) : FS n0 H' p l c el k fs := by
 refine ⟨h.len, h.le, h.one, ?_⟩
 rcases h.at_ with h1 | ⟨blk, cs, h1, h2, h3, h5⟩
 ·exact .inl h1
 ·exact .inr ⟨blk, cs, h1, h2, hk _ _ h1 h3, h5⟩
theorem FS.ext {n0 : Nat} {H H' : Heap} {p : Option Addr} {l c : Nat} {el : TypeId} {k : Nat} {fs : List Value} (h : FS n0 H p l c el k fs) (he : Ext H H') : FS n0 H' p l c el k fs := h.keep fun b cs _ hb => he _ _ hb
theorem FS.lower {n0 n1 : Nat} {H : Heap} {p : Option Addr} {l c : Nat} {el : TypeId} {k : Nat} {fs : List Value} (h : FS n0 H p l c el k fs) (hn : n1 ≤ n0) : FS n1 H p l c el k fs := by
 refine ⟨h.len, h.le, h.one, ?_⟩
 rcases h.at_ with h1 | ⟨blk, cs, h1, h2, h3, h5⟩
 ·exact .inl h1
 ·exact .inr ⟨blk, cs, h1, by omega, h3, h5⟩
theorem FS.nil (n0 : Nat) (H : Heap) (el : TypeId) (k : Nat) : FS n0 H none 0 0 el k [] := ⟨by simp, Nat.le_refl _, by simp, .inl ⟨rfl, rfl⟩⟩
theorem RS.nil (H : Heap) (p : Option Addr) (el : TypeId) (k : Nat) : RS H p 0 el k [] := ⟨by simp, by simp, .inl rfl⟩
theorem FS.whole {n0 : Nat} {H : Heap} {b l k : Nat} {el : TypeId} {cs : Array Value} (hb : n0 ≤ b) (h : H[b]? = some (.cells cs el)) (hs : cs.size = l * k) (ho : ∀ v ∈ cs.toList, v.oneCell' = true) : FS n0 H (some ⟨b, 0, none⟩) l l el k cs.toList :=
 ⟨by simpa using hs, Nat.le_refl _, ho, .inr ⟨b, cs, rfl, hb, h, hs, fun i v hv => by simpa using hv⟩⟩
theorem RS.cell {H : Heap} {p : Option Addr} {l : Nat} {el : TypeId} {k : Nat} {fs : List Value} (h : RS H p l el k fs) {i : Nat} {v : Value} (hv : fs[i]? = some v) : ∃ blk, p = some ⟨blk, 0, none⟩ ∧ Go.Sh.cell H ⟨blk, i, none⟩ = some v := by
 rcases h.at_ with h1 | ⟨blk, cs, h1, h3, h5⟩
 ·have := (List.getElem?_eq_some_iff.1 hv).1
  have := h.len
  rw [h1] at this
  omega
 ·exact ⟨blk, h1, cell_get h3 (h5 i v hv)⟩
theorem RS.row {H : Heap} {p : Option Addr} {l : Nat} {el : TypeId} {k : Nat} {fs : List Value} (h : RS H p l el k fs) {i : Nat} (hi : i < l) (hk : 0 < k) {xs : Array Value} (hx : ∀ (j : Nat) v, xs[j]? = some v → fs[i * k + j]? = some v) : ∃ blk, p = some ⟨blk, 0, none⟩ ∧ rowIn H ⟨blk, i * k, none⟩ xs := by
 rcases h.at_ with h1 | ⟨blk, cs, h1, h3, h5⟩
 ·omega
 ·exact ⟨blk, h1, rowIn_block h3 fun j v hv => h5 _ _ (hx j v hv)⟩
structure IS (H : Heap) (p : Option Addr) (l : Nat) (fs : List Value) : Prop where
 len : fs.length = l
 get : ∀ (i : Nat) v, fs[i]? = some v → ∃ a, p = some a ∧ Go.Sh.cell H (a.add i) = some v
theorem IS.ext {H H' : Heap} {p : Option Addr} {l : Nat} {fs : List Value} (h : IS H p l fs) (he : Ext H H') : IS H' p l fs := ⟨h.len, fun i v hv => let ⟨a, h1, h2⟩ := h.get i v hv; ⟨a, h1, he.cell h2⟩⟩
theorem IS.cell {H : Heap} {p : Option Addr} {l : Nat} {fs : List Value} (h : IS H p l fs) {i : Nat} {v : Value} (hv : fs[i]? = some v) : ∃ a, p = some a ∧ Go.Sh.cell H (a.add i) = some v := h.get i v hv
theorem RS.is {H : Heap} {p : Option Addr} {l : Nat} {el : TypeId} {fs : List Value} (h : RS H p l el 1 fs) : IS H p l fs :=
 ⟨by have := h.len; omega, fun i v hv => let ⟨blk, h1, h2⟩ := h.cell hv; ⟨_, h1, by simpa using h2⟩⟩
theorem RS.rowOf {H : Heap} {p : Option Addr} {l : Nat} {el : TypeId} {k : Nat} {fs : List Value} (h : RS H p l el k fs) : rowOf H p (l * k) fs.toArray := by
 rcases h.at_ with h1 | ⟨blk, cs, h1, h3, h5⟩
 ·have := h.len
  rw [h1, Nat.zero_mul] at this
  have : fs = [] := List.length_eq_zero_iff.1 this
  subst this
  subst h1
  cases p with
  | none => rfl
  | some a => exact ⟨by simp, fun j v hv => by simp at hv⟩
 ·subst h1
  refine ⟨by simp [h.len], rowIn_block h3 fun j v hv => ?_⟩
  rw [Nat.zero_add]
  exact h5 j v (by simpa using hv)
theorem setL_get {c vs : List Value} {i : Nat} (h : i + vs.length ≤ c.length) (j : Nat) : (setL c i vs)[j]? = if i ≤ j ∧ j < i + vs.length then vs[j - i]? else c[j]? := by
 unfold setL
 by_cases h1 : j < i
 ·rw [if_neg (by omega), List.append_assoc, List.getElem?_append_left (by simp; omega), List.getElem?_take_of_lt h1]
 ·by_cases h2 : j < i + vs.length
  ·rw [if_pos ⟨by omega, h2⟩, List.append_assoc, List.getElem?_append_right (by simp; omega), List.getElem?_append_left (by simp; omega)]
   congr 1
   simp; omega
  ·rw [if_neg (by omega), List.getElem?_append_right (by simp; omega), List.getElem?_drop]
   congr 1
   simp; omega
theorem setL_len {c vs : List Value} {i : Nat} (h : i + vs.length ≤ c.length) : (setL c i vs).length = c.length := by unfold setL; simp; omega
theorem stAt_some {H : Heap} {b i : Nat} {c : Array Value} {t : TypeId} {vs : List Value} {f : Heap → Prop} (h : H[b]? = some (.cells c t (0, 0))) (hl : i + vs.length ≤ c.size) (ho : ∀ v ∈ vs, v.oneCell' = true)
    (hf : ∀ c' : Array Value, c'.size = c.size → (∀ j : Nat, c'[j]? = if i ≤ j ∧ j < i + vs.length then vs[j - i]? else c[j]?) → f (H.setIfInBounds b (.cells c' t (0, 0)))) : stAt H ⟨b, i, none⟩ vs f := by
  have hl' : i + vs.length ≤ c.toList.length := by simpa using hl
  refine ⟨c, t, h, rfl, hl, ho, ?_⟩
  refine hf (setL c.toList i vs).toArray (by simp [setL_len hl']) fun j => ?_
  rw [List.getElem?_toArray, setL_get hl' j, Array.getElem?_toList (xs := c)]
theorem FS.app' {n0 : Nat} {H : Heap} {p q : Option Addr} {l c n : Nat} {el : TypeId} {k bytes : Nat} {zero : Array Value} {fs gs : List Value} (h : FS n0 H p l c el k fs) (hrow : Go.Sh.rowOf H q (n * k) gs.toArray) (hgl : gs.length = n * k) (hgo : ∀ v ∈ gs, v.oneCell' = true) (hk : 0 < k) (hn : n0 ≤ H.size) (hz : zero.size = k)
    (hb : (l + n) * bytes ≤ 70368744177664) (hm : l + n ≤ 1000000000000) {K : Option Addr → Nat → Nat → Heap → Prop}
    (hK : ∀ p' c' H', FS n0 H' p' (l + n) c' el k (fs ++ gs) → (∀ (b : Nat) (o : Obj), H[b]? = some o → p ≠ some ⟨b, 0, none⟩ → H'[b]? = some o) → H.size ≤ H'.size → K p' (l + n) c' H') : appQ k bytes zero H p l c q n el K := by
  have hfl := h.len
  have hlen : (fs ++ gs).length = (l + n) * k := by rw [List.length_append, hfl, hgl, Nat.add_mul]
  have hone : ∀ v ∈ fs ++ gs, v.oneCell' = true := fun v hv => (List.mem_append.1 hv).elim (h.one v) (hgo v)
  refine ⟨hb, by omega, gs.toArray, hrow, fun hle => ?_, fun hlt => ?_⟩
  · rcases h.at_ with ⟨rfl, hc0⟩ | ⟨blk, cs, rfl, h2, h3, h4, h5⟩
    · refine hK none c H ⟨hlen, hle, hone, .inl ⟨rfl, hc0⟩⟩ (fun b o hb _ => hb) (Nat.le_refl _)
    · simp only [add_none, Nat.zero_add]
      have hcap : (l + n) * k ≤ c * k := Nat.mul_le_mul_right k hle
      rw [Nat.add_mul] at hcap
      refine stAt_some h3 (by show l * k + gs.length ≤ cs.size; omega) (by simpa using hgo) fun c' hc' hg => ?_
      refine hK _ _ _ ⟨hlen, hle, hone, .inr ⟨blk, c', rfl, h2, get_set_self h3, by omega, fun i v hv => ?_⟩⟩ (fun b o hb hne => get_set_ne (fun hh => hne (by rw [hh])) hb) (by simp)
      rw [hg]
      by_cases hi : i < fs.length
      · rw [if_neg (by omega)]
        rw [List.getElem?_append_left hi] at hv
        exact h5 i v hv
      · rw [List.getElem?_append_right (by omega)] at hv
        have hlt := (List.getElem?_eq_some_iff.1 hv).1
        rw [if_pos ⟨by omega, by show i < l * k + gs.length; omega⟩]
        rw [← hfl]
        simpa using hv
  · have hrow : ∃ ys, Go.Sh.rowOf H p (l * k) ys ∧ ys.toList = fs := ⟨fs.toArray, h.rs.rowOf, by simp⟩
    obtain ⟨ys, hy, hvs⟩ := hrow
    refine ⟨ys, hy, fun c' hc' => ?_⟩
    rw [zeroCells_eq _ _ (by omega)]
    have hcap : (l + n) * k ≤ c' * k := Nat.mul_le_mul_right k hc'
    have hys : ys.size = l * k := by rw [← Array.length_toList, hvs, hfl]
    refine hK _ _ _ ⟨hlen, hc', hone, .inr ⟨H.size, _, rfl, hn, get_push_self _ _, ?_, fun i v hv => ?_⟩⟩ (fun b o hb _ => get_push hb) (by simp)
    · simp only [Array.size_append, hys, List.size_toArray, reps_length, Array.length_toList, hz, hgl]
      rw [Nat.sub_mul]
      rw [Nat.add_mul] at hcap ⊢
      omega
    · have hi := (List.getElem?_eq_some_iff.1 hv).1
      rw [Array.getElem?_append_left (by simp [hys, hgl]; rw [hlen, Nat.add_mul] at hi; omega)]
      have : (ys ++ gs.toArray).toList = fs ++ gs := by simp [hvs]
      rw [← Array.getElem?_toList, this]
      exact hv
theorem FS.app {n0 : Nat} {H : Heap} {p q : Option Addr} {l c n : Nat} {el : TypeId} {k bytes : Nat} {zero : Array Value} {fs gs : List Value} (h : FS n0 H p l c el k fs) (hs : RS H q n el k gs) (hk : 0 < k) (hn : n0 ≤ H.size) (hz : zero.size = k)
    (hb : (l + n) * bytes ≤ 70368744177664) (hm : l + n ≤ 1000000000000) {K : Option Addr → Nat → Nat → Heap → Prop}
    (hK : ∀ p' c' H', FS n0 H' p' (l + n) c' el k (fs ++ gs) → (∀ (b : Nat) (o : Obj), H[b]? = some o → p ≠ some ⟨b, 0, none⟩ → H'[b]? = some o) → H.size ≤ H'.size → K p' (l + n) c' H') : appQ k bytes zero H p l c q n el K :=
  h.app' hs.rowOf hs.len hs.one hk hn hz hb hm hK
theorem FS.set {n0 : Nat} {H : Heap} {b l c : Nat} {el : TypeId} {k : Nat} {fs : List Value} {i : Nat} {v : Value} {f : Heap → Prop} (h : FS n0 H (some ⟨b, 0, none⟩) l c el k fs) (hi : i < fs.length) (ho : v.oneCell' = true)
    (hf : ∀ H', FS n0 H' (some ⟨b, 0, none⟩) l c el k (fs.set i v) → (∀ (b' : Nat) (o : Obj), H[b']? = some o → b' ≠ b → H'[b']? = some o) → H'.size = H.size → f H') : stAt H ⟨b, i, none⟩ [v] f := by
  have hlen := h.len
  rcases h.at_ with ⟨h1, _⟩ | ⟨blk, cs, h1, h2, h3, h4, h5⟩
  · cases h1
  · cases h1
    have hics : i < cs.size := by
      have := h5 i fs[i] (List.getElem?_eq_getElem hi)
      exact (Array.getElem?_eq_some_iff.1 this).1
    refine stAt_one h3 hics ho ?_
    refine hf _ ⟨by simpa using hlen, h.le, fun u hu => ?_, .inr ⟨b, cs.setIfInBounds i v, rfl, h2, get_set_self h3, by simpa using h4, fun j u hu => ?_⟩⟩ (fun b' o hb' hne => get_set_ne (Ne.symm hne) hb') (by simp)
    · rcases List.mem_or_eq_of_mem_set hu with hu | rfl
      · exact h.one u hu
      · exact ho
    · rw [List.getElem?_set] at hu
      rw [Array.getElem?_setIfInBounds]
      by_cases hij : i = j
      · subst hij
        rw [if_pos rfl, if_pos hi] at hu
        rw [if_pos rfl, if_pos hics]
        exact hu
      · rw [if_neg hij] at hu
        rw [if_neg hij]
        exact h5 j u hu
end Go.Sh
namespace Go.Sh
structure Rs where
 at_ : Heap → List Nat → Prop
 loc : ∀ {H H' : Heap} {fp : List Nat}, at_ H fp → (∀ b ∈ fp, ∀ o, H[b]? = some o → H'[b]? = some o) → at_ H' fp
 has : ∀ {H : Heap} {fp : List Nat}, at_ H fp → ∀ b ∈ fp, b < H.size
def Rs.cell (b : Nat) (cs : Array Value) (ty : TypeId) : Rs where
 at_ H fp := fp = [b] ∧ H[b]? = some (.cells cs ty)
 loc h hk := ⟨h.1, hk _ (by rw [h.1]; exact List.mem_singleton.2 rfl) _ h.2⟩
 has h b hb := by rw [h.1, List.mem_singleton] at hb; subst hb; exact lt_of_get h.2
def Rs.sl (p : Option Addr) (l c : Nat) (el : TypeId) (k : Nat) (fs : List Value) : Rs where
 at_ H fp := FS 0 H p l c el k fs ∧ ((p = none ∧ fp = []) ∨ ∃ blk, p = some ⟨blk, 0, none⟩ ∧ fp = [blk])
 loc h hk := by
  refine ⟨h.1.keep fun b cs hp hb => hk b ?_ _ hb, h.2⟩
  rcases h.2 with ⟨h1, _⟩ | ⟨blk, h1, h2⟩
  ·rw [h1] at hp; cases hp
  ·rw [h1] at hp; cases hp; rw [h2]; exact List.mem_singleton.2 rfl
 has h b hb := by
  rcases h.2 with ⟨_, h2⟩ | ⟨blk, h1, h2⟩
  ·rw [h2] at hb; cases hb
  ·rw [h2, List.mem_singleton] at hb
   subst hb
   rcases h.1.at_ with ⟨h3, _⟩ | ⟨blk', cs, h3, _, h4, _⟩
   ·rw [h1] at h3; cases h3
   ·rw [h1] at h3; cases h3; exact lt_of_get h4
def Rs.star (r s : Rs) : Rs where
 at_ H fp := ∃ a b, fp = a ++ b ∧ r.at_ H a ∧ s.at_ H b
 loc := fun ⟨a, b, e, h1, h2⟩ hk => ⟨a, b, e, r.loc h1 fun x hx => hk x (by rw [e]; exact List.mem_append_left _ hx), s.loc h2 fun x hx => hk x (by rw [e]; exact List.mem_append_right _ hx)⟩
 has := fun ⟨a, b, e, h1, h2⟩ x hx => by
  rw [e] at hx
  rcases List.mem_append.1 hx with hx | hx
  ·exact r.has h1 x hx
  ·exact s.has h2 x hx
def Rs.ex {α : Type} (f : α → Rs) : Rs where
 at_ H fp := ∃ a, (f a).at_ H fp
 loc := fun ⟨a, h⟩ hk => ⟨a, (f a).loc h hk⟩
 has := fun ⟨a, h⟩ => (f a).has h
def Rs.pu (q : Prop) (r : Rs) : Rs where
 at_ H fp := q ∧ r.at_ H fp
 loc := fun ⟨a, h⟩ hk => ⟨a, r.loc h hk⟩
 has := fun ⟨a, h⟩ => r.has h
def Rs.emp : Rs where
 at_ H fp := fp = []
 loc h _ := h
 has h b hb := by rw [h] at hb; cases hb
def Lie (H : Heap) : List Rs → List (List Nat) → Prop
 | [], [] => True
 | r :: σ, fp :: fps => r.at_ H fp ∧ Lie H σ fps
 | _, _ => False
theorem Lie.get {H : Heap} : ∀ {σ : List Rs} {fps : List (List Nat)}, Lie H σ fps → ∀ {i : Nat} {r : Rs}, σ[i]? = some r → ∃ fp, fps[i]? = some fp ∧ r.at_ H fp
 | [], [], _, i, r, h => by simp at h
 | r :: σ, fp :: fps, hl, 0, s, h => by simp at h; subst h; exact ⟨fp, rfl, hl.1⟩
 | r :: σ, fp :: fps, hl, i + 1, s, h => by
  simp only [List.getElem?_cons_succ] at h ⊢
  exact Lie.get hl.2 h
theorem Lie.has {H : Heap} : ∀ {σ : List Rs} {fps : List (List Nat)}, Lie H σ fps → ∀ b ∈ fps.flatten, b < H.size
 | [], [], _, b, hb => by simp at hb
 | r :: σ, fp :: fps, hl, b, hb => by
  simp only [List.flatten_cons, List.mem_append] at hb
  rcases hb with hb | hb
  ·exact r.has hl.1 b hb
  ·exact Lie.has hl.2 b hb
theorem Lie.loc {H H' : Heap} : ∀ {σ : List Rs} {fps : List (List Nat)}, Lie H σ fps → (∀ b ∈ fps.flatten, ∀ o, H[b]? = some o → H'[b]? = some o) → Lie H' σ fps
 | [], [], _, _ => trivial
 | r :: σ, fp :: fps, hl, hk => by
  simp only [List.flatten_cons, List.mem_append] at hk
  exact ⟨r.loc hl.1 fun b hb => hk b (.inl hb), Lie.loc hl.2 fun b hb => hk b (.inr hb)⟩
theorem Lie.set {H H' : Heap} : ∀ {σ : List Rs} {fps : List (List Nat)} {i : Nat} {fp fp' : List Nat} {r' : Rs}, Lie H σ fps → fps.flatten.Nodup → fps[i]? = some fp → r'.at_ H' fp' → fp'.Nodup → (∀ b ∈ fp', b ∈ fp ∨ H.size ≤ b) →
    (∀ b o, H[b]? = some o → b ∉ fp → H'[b]? = some o) → Lie H' (σ.set i r') (fps.set i fp') ∧ (fps.set i fp').flatten.Nodup
  | [], [], i, fp, fp', r', hl, hn, hi, h, hn', hf, hk => by simp at hi
  | r :: σ, g :: fps, 0, fp, fp', r', hl, hn, hi, h, hn', hf, hk => by
    simp at hi; subst hi
    simp only [List.flatten_cons, List.nodup_append] at hn
    refine ⟨⟨h, hl.2.loc fun b hb o ho => hk b o ho fun hg => hn.2.2 b hg b hb rfl⟩, ?_⟩
    simp only [List.set_cons_zero, List.flatten_cons, List.nodup_append]
    refine ⟨hn', hn.2.1, fun a ha b hb hab => ?_⟩
    subst hab
    rcases hf a ha with h1 | h1
    · exact hn.2.2 a h1 a hb rfl
    · have := Lie.has hl.2 a hb; omega
  | r :: σ, g :: fps, i + 1, fp, fp', r', hl, hn, hi, h, hn', hf, hk => by
    simp only [List.getElem?_cons_succ] at hi
    simp only [List.flatten_cons, List.nodup_append] at hn
    obtain ⟨h1, h2⟩ := Lie.set hl.2 hn.2.1 hi h hn' hf hk
    have hmem : ∀ b ∈ fp, b ∈ fps.flatten := fun b hb => List.mem_flatten.2 ⟨fp, List.mem_of_getElem? hi, hb⟩
    refine ⟨⟨r.loc hl.1 fun b hb o ho => hk b o ho fun hg => hn.2.2 b hb b (hmem b hg) rfl, h1⟩, ?_⟩
    simp only [List.set_cons_succ, List.flatten_cons, List.nodup_append]
    refine ⟨hn.1, h2, fun a ha b hb hab => ?_⟩
    subst hab
    obtain ⟨f, hf1, hf2⟩ := List.mem_flatten.1 hb
    rcases List.mem_or_eq_of_mem_set hf1 with hf1 | rfl
    · exact hn.2.2 a ha a (List.mem_flatten.2 ⟨f, hf1, hf2⟩) rfl
    · rcases hf a hf2 with h3 | h3
      · exact hn.2.2 a ha a (hmem a h3) rfl
      · have := r.has hl.1 a ha; omega
structure St (H0 H : Heap) (σ : List Rs) : Prop where
 ext : Ext H0 H
 own : ∃ fps, Lie H σ fps ∧ fps.flatten.Nodup ∧ ∀ b ∈ fps.flatten, H0.size ≤ b
theorem St.nil (H : Heap) : St H H [] := ⟨Ext.refl H, [], trivial, by simp, by simp⟩
theorem St.of_ext {H0 H : Heap} (h : Ext H0 H) : St H0 H [] := ⟨h, [], trivial, by simp, by simp⟩
variable {H0 H H' : Heap} {σ τ : List Rs}
theorem nodup_mem : ∀ {fps : List (List Nat)}, fps.flatten.Nodup → ∀ fp ∈ fps, fp.Nodup
 | [], _, fp, h => by cases h
 | g :: r, hn, fp, h => by
  rw [List.flatten_cons, List.nodup_append] at hn
  rcases List.mem_cons.1 h with rfl | h
  ·exact hn.1
  ·exact nodup_mem hn.2.1 fp h
theorem St.upd (hs : St H0 H σ) {i : Nat} {r r' : Rs} (hi : σ[i]? = some r)
    (h : ∀ fp, r.at_ H fp → fp.Nodup → (∀ b ∈ fp, H0.size ≤ b) → ∃ fp', r'.at_ H' fp' ∧ fp'.Nodup ∧ (∀ b ∈ fp', b ∈ fp ∨ H.size ≤ b) ∧ ∀ b o, H[b]? = some o → b ∉ fp → H'[b]? = some o) : St H0 H' (σ.set i r') := by
  obtain ⟨he, fps, hl, hn, hb⟩ := hs
  obtain ⟨fp, hfp, hat⟩ := hl.get hi
  have hmem : ∀ b ∈ fp, b ∈ fps.flatten := fun b hb => List.mem_flatten.2 ⟨fp, List.mem_of_getElem? hfp, hb⟩
  have hfn : fp.Nodup := nodup_mem hn _ (List.mem_of_getElem? hfp)
  obtain ⟨fp', h1, h2, h3, h4⟩ := h fp hat hfn fun b hb' => hb b (hmem b hb')
  obtain ⟨h5, h6⟩ := hl.set hn hfp h1 h2 h3 h4
  refine ⟨fun b o ho => h4 b o (he b o ho) fun hf => ?_, _, h5, h6, fun b hb' => ?_⟩
  · have := hb b (hmem b hf); have := lt_of_get ho; omega
  · obtain ⟨f, hf1, hf2⟩ := List.mem_flatten.1 hb'
    rcases List.mem_or_eq_of_mem_set hf1 with hf1 | rfl
    · exact hb b (List.mem_flatten.2 ⟨f, hf1, hf2⟩)
    · rcases h3 b hf2 with h7 | h7
      · exact hb b (hmem b h7)
      · have := he.size; omega
theorem St.as (hs : St H0 H σ) (i : Nat) {r r' : Rs} (hi : σ[i]? = some r) (h : ∀ fp, r.at_ H fp → r'.at_ H fp) : St H0 H (σ.set i r') :=
 hs.upd hi fun fp h1 h2 _ => ⟨fp, h fp h1, h2, fun b hb => .inl hb, fun b o ho _ => ho⟩
theorem St.step (hs : St H0 H σ) (he : Ext H H') : St H0 H' σ := by
 obtain ⟨h1, fps, hl, hn, hb⟩ := hs
 exact ⟨h1.trans he, fps, hl.loc fun b _ o ho => he b o ho, hn, hb⟩
theorem Lie.append {H : Heap} : ∀ {σ τ : List Rs} {f g : List (List Nat)}, Lie H σ f → Lie H τ g → Lie H (σ ++ τ) (f ++ g)
 | [], _, [], _, _, h => h
 | _ :: _, _, _ :: _, _, h, h' => ⟨h.1, Lie.append h.2 h'⟩
theorem Lie.split {H : Heap} : ∀ {σ τ : List Rs} {f : List (List Nat)}, Lie H (σ ++ τ) f → ∃ a b, f = a ++ b ∧ Lie H σ a ∧ Lie H τ b
 | [], _, f, h => ⟨[], f, rfl, trivial, h⟩
 | r :: σ, τ, [], h => h.elim
 | r :: σ, τ, g :: f, h => let ⟨a, b, e, h1, h2⟩ := Lie.split h.2; ⟨g :: a, b, by rw [e]; rfl, ⟨h.1, h1⟩, h2⟩
theorem St.call (hs : St H0 H σ) (ht : St H H' τ) : St H0 H' (τ ++ σ) := by
 obtain ⟨h1, fps, hl, hn, hb⟩ := hs
 obtain ⟨h2, gps, hl2, hn2, hb2⟩ := ht
 refine ⟨h1.trans h2, gps ++ fps, hl2.append (hl.loc fun b _ o ho => h2 b o ho), ?_, fun b h => ?_⟩
 ·rw [List.flatten_append, List.nodup_append]
  refine ⟨hn2, hn, fun a ha b hb' hab => ?_⟩
  subst hab
  have := hb2 a ha; have := hl.has a hb'; omega
 ·rw [List.flatten_append, List.mem_append] at h
  rcases h with h | h
  ·have := hb2 b h; have := h1.size; omega
  ·exact hb b h
theorem St.perm (hs : St H0 H σ) (hp : σ.Perm τ) : St H0 H τ := by
 obtain ⟨he, fps, hl, hn, hb⟩ := hs
 have : ∀ {σ τ : List Rs}, σ.Perm τ → ∀ fps, Lie H σ fps → ∃ gps, Lie H τ gps ∧ fps.Perm gps := by
  intro σ τ hp
  induction hp with
  | nil => intro fps h; exact ⟨fps, h, List.Perm.refl _⟩
  | cons x _ ih =>
   intro fps h
   match fps, h with
   | f :: fps, h => obtain ⟨g, h1, h2⟩ := ih fps h.2; exact ⟨f :: g, ⟨h.1, h1⟩, h2.cons f⟩
  | swap x y l =>
   intro fps h
   match fps, h with
   | f :: g :: fps, h => exact ⟨g :: f :: fps, ⟨h.2.1, h.1, h.2.2⟩, List.Perm.swap _ _ _⟩
  | trans _ _ ih1 ih2 =>
   intro fps h
   obtain ⟨g, h1, h2⟩ := ih1 fps h
   obtain ⟨k, h3, h4⟩ := ih2 g h1
   exact ⟨k, h3, h2.trans h4⟩
 obtain ⟨gps, h1, h2⟩ := this hp fps hl
 exact ⟨he, gps, h1, (h2.flatten.nodup_iff).1 hn, fun b h => hb b ((h2.flatten.mem_iff).2 h)⟩
theorem St.app (hs : St H0 H (σ ++ τ)) : St H0 H σ ∧ St H0 H τ := by
 obtain ⟨he, fps, hl, hn, hb⟩ := hs
 obtain ⟨a, b, rfl, h1, h2⟩ := hl.split
 rw [List.flatten_append, List.nodup_append] at hn
 rw [List.flatten_append] at hb
 exact ⟨⟨he, a, h1, hn.1, fun x hx => hb x (List.mem_append_left _ hx)⟩, ⟨he, b, h2, hn.2.1, fun x hx => hb x (List.mem_append_right _ hx)⟩⟩
theorem St.tail {r : Rs} (hs : St H0 H (r :: σ)) : St H0 H σ := (St.app (σ := [r]) hs).2
theorem St.drop (hs : St H0 H σ) (n : Nat) : St H0 H (σ.drop n) := by
 rw [← List.take_append_drop n σ] at hs
 exact hs.app.2
theorem St.take (hs : St H0 H σ) (n : Nat) : St H0 H (σ.take n) := by
 rw [← List.take_append_drop n σ] at hs
 exact hs.app.1
theorem St.swap {r s : Rs} (hs : St H0 H (r :: s :: σ)) : St H0 H (s :: r :: σ) := hs.perm (List.Perm.swap _ _ _)
theorem St.front (hs : St H0 H σ) (i : Nat) {r : Rs} (hi : σ[i]? = some r) : St H0 H (r :: σ.eraseIdx i) := by
 refine hs.perm ?_
 have : ∀ (l : List Rs) (i : Nat), l[i]? = some r → l.Perm (r :: l.eraseIdx i) := by
  intro l
  induction l with
  | nil => intro i h; simp at h
  | cons x l ih =>
   intro i h
   cases i with
   | zero => simp at h; subst h; exact List.Perm.refl _
   | succ i => exact ((ih i (by simpa using h)).cons x).trans (List.Perm.swap _ _ _)
 exact this σ i hi
theorem St.back {r r' : Rs} {i : Nat} (hi : σ[i]? = some r) (hs : St H0 H (r' :: σ.eraseIdx i)) : St H0 H (σ.set i r') := by
 refine hs.perm ?_
 have : ∀ (l : List Rs) (i : Nat), l[i]? = some r → (r' :: l.eraseIdx i).Perm (l.set i r') := by
  intro l
  induction l with
  | nil => intro i h; simp at h
  | cons x l ih =>
   intro i h
   cases i with
   | zero => exact List.Perm.refl _
   | succ i => exact (List.Perm.swap _ _ _).trans ((ih i (by simpa using h)).cons x)
 exact this σ i hi
theorem St.del (hs : St H0 H σ) (i : Nat) : St H0 H (σ.eraseIdx i) := by
 rcases Nat.lt_or_ge i σ.length with h | h
 ·exact (hs.front i (List.getElem?_eq_getElem h)).tail
 ·rw [List.eraseIdx_of_length_le h]; exact hs
theorem St.cat {r s : Rs} (hs : St H0 H (r :: s :: σ)) : St H0 H (.star r s :: σ) := by
 obtain ⟨he, fps, hl, hn, hb⟩ := hs
 match fps, hl with
 | f :: g :: fps, hl => exact ⟨he, (f ++ g) :: fps, ⟨⟨f, g, rfl, hl.1, hl.2.1⟩, hl.2.2⟩, by simpa using hn, fun b h => hb b (by simpa using h)⟩
theorem St.cut {r s : Rs} (hs : St H0 H (.star r s :: σ)) : St H0 H (r :: s :: σ) := by
 obtain ⟨he, fps, hl, hn, hb⟩ := hs
 match fps, hl with
 | _ :: fps, ⟨⟨f, g, rfl, h1, h2⟩, h3⟩ => exact ⟨he, f :: g :: fps, ⟨h1, h2, h3⟩, by simpa using hn, fun b h => hb b (by simpa using h)⟩
theorem St.unex {α : Type} {f : α → Rs} (hs : St H0 H (.ex f :: σ)) : ∃ a, St H0 H (f a :: σ) := by
 obtain ⟨he, fps, hl, hn, hb⟩ := hs
 match fps, hl with
 | g :: fps, ⟨⟨a, h1⟩, h3⟩ => exact ⟨a, he, g :: fps, ⟨h1, h3⟩, hn, hb⟩
theorem St.inex {α : Type} {f : α → Rs} (a : α) (hs : St H0 H (f a :: σ)) : St H0 H (.ex f :: σ) := by
 obtain ⟨he, fps, hl, hn, hb⟩ := hs
 match fps, hl with
 | g :: fps, ⟨h1, h3⟩ => exact ⟨he, g :: fps, ⟨⟨a, h1⟩, h3⟩, hn, hb⟩
theorem St.fact {q : Prop} {r : Rs} (hs : St H0 H (.pu q r :: σ)) : q ∧ St H0 H (r :: σ) := by
 obtain ⟨he, fps, hl, hn, hb⟩ := hs
 match fps, hl with
 | g :: fps, ⟨⟨a, h1⟩, h3⟩ => exact ⟨a, he, g :: fps, ⟨h1, h3⟩, hn, hb⟩
theorem St.with {q : Prop} {r : Rs} (hq : q) (hs : St H0 H (r :: σ)) : St H0 H (.pu q r :: σ) := by
 obtain ⟨he, fps, hl, hn, hb⟩ := hs
 match fps, hl with
 | g :: fps, ⟨h1, h3⟩ => exact ⟨he, g :: fps, ⟨⟨hq, h1⟩, h3⟩, hn, hb⟩
theorem St.new (hs : St H0 H σ) {r : Rs} {fp : List Nat} (he : Ext H H') (h : r.at_ H' fp) (hn : fp.Nodup) (hb : ∀ b ∈ fp, H.size ≤ b) : St H0 H' (r :: σ) :=
 St.call (τ := [r]) hs ⟨he, [fp], ⟨h, trivial⟩, by simpa using hn, by simpa using hb⟩
theorem St.block (hs : St H0 H σ) (i : Nat) {b : Nat} {cs : Array Value} {ty : TypeId} (hi : σ[i]? = some (.cell b cs ty)) : H[b]? = some (.cells cs ty) := by
 obtain ⟨_, fps, hl, _⟩ := hs
 obtain ⟨fp, _, h⟩ := hl.get hi
 exact h.2
theorem St.get (hs : St H0 H σ) (i : Nat) {b j : Nat} {cs : Array Value} {ty : TypeId} {v : Value} (hi : σ[i]? = some (.cell b cs ty)) (hj : cs[j]? = some v) : Sh.cell H ⟨b, j, none⟩ = some v :=
 cell_get (hs.block i hi) hj
theorem St.alc (hs : St H0 H σ) {cs : Array Value} {ty : TypeId} {K : Nat → Heap → Prop} (hK : ∀ b H', St H0 H' (.cell b cs ty :: σ) → K b H') : Sh.alc H (.cells cs ty) K :=
 hK _ _ (hs.new (Ext.push _ _) (fp := [H.size]) ⟨rfl, get_push_self _ _⟩ (by simp) (by simp))
theorem St.alcE (hs : St H0 H σ) {cs : Array Value} {ty : TypeId} {K : Nat → Heap → Prop} (hK : ∀ b H', Ext H H' → St H0 H' (.cell b cs ty :: σ) → K b H') : Sh.alc H (.cells cs ty) K :=
 hK _ _ (Ext.push _ _) (hs.new (Ext.push _ _) (fp := [H.size]) ⟨rfl, get_push_self _ _⟩ (by simp) (by simp))
theorem St.put (hs : St H0 H σ) (i : Nat) {b j : Nat} {cs : Array Value} {ty : TypeId} {v : Value} {f : Heap → Prop} (hi : σ[i]? = some (.cell b cs ty)) (hj : j < cs.size) (ho : v.oneCell' = true)
    (hK : ∀ H', St H0 H' (σ.set i (.cell b (cs.setIfInBounds j v) ty)) → f H') : stAt H ⟨b, j, none⟩ [v] f :=
  stAt_one (hs.block i hi) hj ho (hK _ (hs.upd hi fun fp h1 _ _ => ⟨[b], ⟨rfl, get_set_self h1.2⟩, by simp, fun x hx => .inl (h1.1 ▸ hx), fun x o ho hx => get_set_ne (fun he => hx (by rw [h1.1, he]; exact List.mem_singleton.2 rfl)) ho⟩))
theorem St.putAll (hs : St H0 H σ) (i : Nat) {b : Nat} {cs : Array Value} {ty : TypeId} {vs : List Value} {f : Heap → Prop} (hi : σ[i]? = some (.cell b cs ty)) (hl : vs.length = cs.size) (ho : ∀ v ∈ vs, v.oneCell' = true)
    (hK : ∀ H', St H0 H' (σ.set i (.cell b vs.toArray ty)) → f H') : stAt H ⟨b, 0, none⟩ vs f :=
  stAt_whole (hs.block i hi) hl ho (hK _ (hs.upd hi fun fp h1 _ _ => ⟨[b], ⟨rfl, get_set_self h1.2⟩, by simp, fun x hx => .inl (h1.1 ▸ hx), fun x o ho hx => get_set_ne (fun he => hx (by rw [h1.1, he]; exact List.mem_singleton.2 rfl)) ho⟩))
theorem St.putRow (hs : St H0 H σ) (i : Nat) {b j : Nat} {cs : Array Value} {ty : TypeId} {vs : List Value} {f : Heap → Prop} (hi : σ[i]? = some (.cell b cs ty)) (hl : j + vs.length ≤ cs.size) (ho : ∀ v ∈ vs, v.oneCell' = true)
    (hK : ∀ H', St H0 H' (σ.set i (.cell b (setL cs.toList j vs).toArray ty)) → f H') : stAt H ⟨b, j, none⟩ vs f :=
  ⟨cs, ty, hs.block i hi, rfl, hl, ho, hK _ (hs.upd hi fun fp h1 _ _ => ⟨[b], ⟨rfl, get_set_self h1.2⟩, by simp, fun x hx => .inl (h1.1 ▸ hx), fun x o ho hx => get_set_ne (fun he => hx (by rw [h1.1]; exact List.mem_singleton.2 he.symm)) ho⟩)⟩
theorem St.fs (hs : St H0 H σ) (i : Nat) {p : Option Addr} {l c k : Nat} {el : TypeId} {fs : List Value} (hi : σ[i]? = some (.sl p l c el k fs)) : FS 0 H p l c el k fs := by
 obtain ⟨_, fps, hl, _⟩ := hs
 obtain ⟨fp, _, h⟩ := hl.get hi
 exact h.1
theorem St.rs (hs : St H0 H σ) (i : Nat) {p : Option Addr} {l c k : Nat} {el : TypeId} {fs : List Value} (hi : σ[i]? = some (.sl p l c el k fs)) : RS H p l el k fs := (hs.fs i hi).rs
theorem St.is (hs : St H0 H σ) (i : Nat) {p : Option Addr} {l c : Nat} {el : TypeId} {fs : List Value} (hi : σ[i]? = some (.sl p l c el 1 fs)) : IS H p l fs := (hs.rs i hi).is
theorem FS.resrc {n0 : Nat} {H : Heap} {p : Option Addr} {l c k : Nat} {el : TypeId} {fs : List Value} (h : FS n0 H p l c el k fs) : ∃ fp, (Rs.sl p l c el k fs).at_ H fp ∧ fp.Nodup ∧ (∀ b ∈ fp, n0 ≤ b) ∧ ∀ b ∈ fp, p = some ⟨b, 0, none⟩ := by
 rcases h.at_ with ⟨h1, h2⟩ | ⟨blk, cs, h1, h2, h3, h4, h5⟩
 ·exact ⟨[], ⟨h.lower (Nat.zero_le _), .inl ⟨h1, rfl⟩⟩, by simp, by simp, by simp⟩
 ·exact ⟨[blk], ⟨h.lower (Nat.zero_le _), .inr ⟨blk, h1, rfl⟩⟩, by simp, by simpa using h2, by simpa using h1⟩
theorem St.newSl (hs : St H0 H σ) {p : Option Addr} {l c k : Nat} {el : TypeId} {fs : List Value} (he : Ext H H') (h : FS H.size H' p l c el k fs) : St H0 H' (.sl p l c el k fs :: σ) := by
 obtain ⟨fp, h1, h2, h3, _⟩ := h.resrc
 exact hs.new he h1 h2 h3
theorem St.nilSl (hs : St H0 H σ) (el : TypeId) (k : Nat) : St H0 H (.sl none 0 0 el k [] :: σ) := hs.newSl (Ext.refl _) (FS.nil _ _ _ _)
theorem St.toSl (hs : St H0 H σ) (i : Nat) {b l k : Nat} {cs : Array Value} {ty : TypeId} {fs : List Value} (hi : σ[i]? = some (.cell b cs ty)) (hl : cs.size = l * k) (hf : cs.toList = fs) (ho : ∀ v ∈ fs, v.oneCell' = true) :
    St H0 H (σ.set i (.sl (some ⟨b, 0, none⟩) l l ty k fs)) :=
  hs.as i hi fun fp h => ⟨⟨by rw [← hf]; simpa using hl, Nat.le_refl _, ho, .inr ⟨b, cs, rfl, Nat.zero_le _, h.2, hl, fun j v hv => by rw [← hf] at hv; simpa using hv⟩⟩, .inr ⟨b, rfl, h.1⟩⟩
theorem FS.app2 {n0 : Nat} {H : Heap} {p q : Option Addr} {l c n : Nat} {el : TypeId} {k bytes : Nat} {zero : Array Value} {fs gs : List Value} (h : FS n0 H p l c el k fs) (hrow : Go.Sh.rowOf H q (n * k) gs.toArray) (hgl : gs.length = n * k) (hgo : ∀ v ∈ gs, v.oneCell' = true) (hk : 0 < k) (hn : n0 ≤ H.size) (hz : zero.size = k)
    (hb : (l + n) * bytes ≤ 70368744177664) (hm : l + n ≤ 1000000000000) {K : Option Addr → Nat → Nat → Heap → Prop}
    (hK : ∀ p' c' H', FS n0 H' p' (l + n) c' el k (fs ++ gs) → (∀ (b : Nat) (o : Obj), H[b]? = some o → p ≠ some ⟨b, 0, none⟩ → H'[b]? = some o) → (p' = p ∨ p' = some ⟨H.size, 0, none⟩) → K p' (l + n) c' H') : appQ k bytes zero H p l c q n el K := by
  by_cases hle : l + n ≤ c
  · obtain ⟨g1, g2, xs, g3, g4, _⟩ := h.app' (K := fun p' l' c' H' => p' = p → K p' l' c' H') hrow hgl hgo hk hn hz hb hm fun p' c' H' h1 h2 h3 hp => hK p' c' H' h1 h2 (.inl hp)
    refine ⟨g1, g2, xs, g3, fun hle => ?_, fun hlt => by omega⟩
    have := g4 hle
    cases p with
    | none => exact this rfl
    | some a =>
      obtain ⟨cs, T, a1, a2, a3, a4, a5⟩ := this
      exact ⟨cs, T, a1, a2, a3, a4, a5 rfl⟩
  · obtain ⟨g1, g2, xs, g3, _, g4⟩ := h.app' (K := fun p' l' c' H' => p' = some ⟨H.size, 0, none⟩ → K p' l' c' H') hrow hgl hgo hk hn hz hb hm fun p' c' H' h1 h2 h3 hp => hK p' c' H' h1 h2 (.inr hp)
    refine ⟨g1, g2, xs, g3, fun hle' => by omega, fun hlt => ?_⟩
    obtain ⟨ys, b1, b2⟩ := g4 hlt
    exact ⟨ys, b1, fun c' hc' => b2 c' hc' rfl⟩
theorem Rs.sl_at {H : Heap} {p : Option Addr} {l c k : Nat} {el : TypeId} {fs : List Value} {fp : List Nat} (h : (Rs.sl p l c el k fs).at_ H fp) {b : Nat} (hp : p = some ⟨b, 0, none⟩) : fp = [b] := by
 rcases h.2 with ⟨h1, _⟩ | ⟨blk, h1, h2⟩
 ·rw [hp] at h1; cases h1
 ·rw [hp] at h1; cases h1; exact h2
theorem St.slSet (hs : St H0 H σ) {i : Nat} {p p' : Option Addr} {l c l' c' k : Nat} {el : TypeId} {fs fs' : List Value} (hi : σ[i]? = some (.sl p l c el k fs)) (h : FS 0 H' p' l' c' el k fs')
    (hk : ∀ (b : Nat) (o : Obj), H[b]? = some o → p ≠ some ⟨b, 0, none⟩ → H'[b]? = some o) (hp : p' = p ∨ p' = some ⟨H.size, 0, none⟩) : St H0 H' (σ.set i (.sl p' l' c' el k fs')) := by
  refine hs.upd hi fun fp h1 h2 h3 => ?_
  obtain ⟨fp', g1, g2, _, g4⟩ := h.resrc
  refine ⟨fp', g1, g2, fun b hb => ?_, fun b o ho hb => hk b o ho fun he => hb (by rw [Rs.sl_at h1 he]; exact List.mem_singleton.2 rfl)⟩
  have := g4 b hb
  rcases hp with rfl | hp
  · left; rw [Rs.sl_at h1 this]; exact List.mem_singleton.2 rfl
  · rw [this] at hp; cases hp; exact .inr (Nat.le_refl _)
theorem St.appS (hs : St H0 H σ) (i : Nat) {p q : Option Addr} {l c n k bytes : Nat} {el : TypeId} {zero : Array Value} {fs gs : List Value} (hi : σ[i]? = some (.sl p l c el k fs)) (hrow : Go.Sh.rowOf H q (n * k) gs.toArray) (hgl : gs.length = n * k)
    (hgo : ∀ v ∈ gs, v.oneCell' = true) (hk : 0 < k) (hz : zero.size = k) (hb : (l + n) * bytes ≤ 70368744177664) (hm : l + n ≤ 1000000000000) {K : Option Addr → Nat → Nat → Heap → Prop}
    (hK : ∀ p' c' H', St H0 H' (σ.set i (.sl p' (l + n) c' el k (fs ++ gs))) → K p' (l + n) c' H') : appQ k bytes zero H p l c q n el K :=
  (hs.fs i hi).app2 hrow hgl hgo hk (Nat.zero_le _) hz hb hm fun p' c' H' h1 h2 h3 => hK p' c' H' (hs.slSet hi h1 h2 h3)
theorem St.appC (hs : St H0 H σ) (i m : Nat) {p : Option Addr} {b l c n k bytes : Nat} {el ty : TypeId} {zero cs : Array Value} {fs : List Value} (hi : σ[i]? = some (.sl p l c el k fs)) (hm' : σ[m]? = some (.cell b cs ty)) (hgl : cs.size = n * k)
    (hgo : ∀ v ∈ cs.toList, v.oneCell' = true) (hk : 0 < k) (hz : zero.size = k) (hb : (l + n) * bytes ≤ 70368744177664) (hm : l + n ≤ 1000000000000) {K : Option Addr → Nat → Nat → Heap → Prop}
    (hK : ∀ p' c' H', St H0 H' (σ.set i (.sl p' (l + n) c' el k (fs ++ cs.toList))) → K p' (l + n) c' H') : appQ k bytes zero H p l c (some ⟨b, 0, none⟩) n el K :=
  hs.appS i hi (gs := cs.toList) (show Go.Sh.rowOf H (Option.some ⟨b, 0, none⟩) (n * k) cs.toList.toArray from ⟨by simpa using hgl, by simpa using rowIn_whole (hs.block m hm')⟩) (by simpa using hgl) hgo hk hz hb hm hK
theorem IS.rowOf {H : Heap} {p : Option Addr} {l : Nat} {fs : List Value} (h : IS H p l fs) : Go.Sh.rowOf H p (l * 1) fs.toArray := by
 cases p with
 | none =>
  have : fs = [] := List.eq_nil_iff_forall_not_mem.2 fun v hv => by
   obtain ⟨i, hi⟩ := List.getElem?_of_mem hv
   obtain ⟨a, h1, _⟩ := h.get i v hi
   cases h1
  subst this; rfl
 | some a =>
  refine ⟨by simp [h.len], fun j v hv => ?_⟩
  obtain ⟨a', h1, h2⟩ := h.get j v (by simpa using hv)
  cases h1; exact h2
theorem St.appI (hs : St H0 H σ) (i : Nat) {p q : Option Addr} {l c n bytes : Nat} {el : TypeId} {zero : Array Value} {fs gs : List Value} (hi : σ[i]? = some (.sl p l c el 1 fs)) (hr : IS H q n gs) (ho : ∀ v ∈ gs, v.oneCell' = true) (hz : zero.size = 1)
    (hb : (l + n) * bytes ≤ 70368744177664) (hm : l + n ≤ 1000000000000) {K : Option Addr → Nat → Nat → Heap → Prop}
    (hK : ∀ p' c' H', St H0 H' (σ.set i (.sl p' (l + n) c' el 1 (fs ++ gs))) → K p' (l + n) c' H') : appQ 1 bytes zero H p l c q n el K :=
  hs.appS i hi hr.rowOf (by simp [hr.len]) ho (by decide) hz hb hm hK
theorem St.slPut (hs : St H0 H σ) (i : Nat) {b l c k j : Nat} {el : TypeId} {fs : List Value} {v : Value} {f : Heap → Prop} (hi : σ[i]? = some (.sl (some ⟨b, 0, none⟩) l c el k fs)) (hj : j < fs.length) (ho : v.oneCell' = true)
    (hK : ∀ H', St H0 H' (σ.set i (.sl (some ⟨b, 0, none⟩) l c el k (fs.set j v))) → f H') : stAt H ⟨b, j, none⟩ [v] f :=
  (hs.fs i hi).set hj ho fun H' h1 h2 h3 => hK H' (hs.slSet hi h1 (fun b' o ho hne => h2 b' o ho fun he => hne (by rw [he])) (.inl rfl))
theorem St.slSome (hs : St H0 H σ) (i : Nat) {p : Option Addr} {l c k j : Nat} {el : TypeId} {fs : List Value} (hi : σ[i]? = some (.sl p l c el k fs)) (hj : j < fs.length) : ∃ b, p = some ⟨b, 0, none⟩ := by
 obtain ⟨b, h, _⟩ := (hs.rs i hi).cell (List.getElem?_eq_getElem hj)
 exact ⟨b, h⟩
def kints (k : IntKind) (l : List Int) : List Value := l.map (Value.int k)
theorem kints_get {k : IntKind} {l : List Int} {i : Nat} {v : Int} (h : l[i]? = some v) : (kints k l)[i]? = some (Value.int k v) := by simp [kints, h]
theorem kints_len (k : IntKind) (l : List Int) : (kints k l).length = l.length := by simp [kints]
theorem kints_append (k : IntKind) (a b : List Int) : kints k (a ++ b) = kints k a ++ kints k b := by simp [kints]
theorem kints_set (k : IntKind) (l : List Int) (i : Nat) (v : Int) : (kints k l).set i (.int k v) = kints k (l.set i v) := by simp [kints]
theorem kints_one (k : IntKind) (l : List Int) : ∀ v ∈ kints k l, v.oneCell' = true := fun v hv => by
 obtain ⟨x, _, rfl⟩ := List.mem_map.1 hv; rfl
theorem IS.rd {H : Heap} {p : Option Addr} {l : Nat} {k : IntKind} {ls : List Int} (h : IS H p l (kints k ls)) {i x : Int} (h0 : 0 ≤ i) (h1 : i < l) (hx : ls[i.toNat]? = some x) {K : Int → Prop} (hK : K x) :
    ∃ a : Addr, p = some a ∧ 0 ≤ i ∧ i < ((l : Nat) : Int) ∧ ∃ v : Int, Sh.cell H (Addr.add a (Int.toNat i * 1)) = some (.int k v) ∧ K v := by
  obtain ⟨a, hp, hc⟩ := h.get _ _ (kints_get hx)
  exact ⟨a, hp, h0, h1, x, by simpa using hc, hK⟩
theorem IS.length {H : Heap} {p : Option Addr} {l : Nat} {k : IntKind} {ls : List Int} (h : IS H p l (kints k ls)) : ls.length = l := by have := h.len; rwa [kints_len] at this
theorem add_add (a : Addr) (i j : Nat) : (a.add i).add j = a.add (i + j) := by
 obtain ⟨b, o, s⟩ := a
 unfold Addr.add
 cases s <;> simp <;> split <;> split <;> simp_all <;> omega
theorem IS.part {H : Heap} {a : Addr} {l : Nat} {fs : List Value} (h : IS H (some a) l fs) {i n : Nat} (hi : i + n ≤ l) : IS H (some (a.add i)) n ((fs.drop i).take n) := by
 refine ⟨by have := h.len; simp; omega, fun j v hv => ?_⟩
 rw [List.getElem?_take] at hv
 split at hv
 ·rw [List.getElem?_drop] at hv
  obtain ⟨a', h1, h2⟩ := h.get _ _ hv
  cases h1
  refine ⟨_, rfl, ?_⟩
  rw [show (a.add i).add j = a.add (i + j) from add_add a i j]
  exact h2
 ·cases hv
theorem upto {n : Nat} {Q : Nat → Prop} (h : ∀ i, i ≤ n → (i < n → Q (i + 1)) → Q i) : ∀ i, i ≤ n → Q i := by
 have : ∀ m i, n - i = m → i ≤ n → Q i := by
  intro m
  induction m with
  | zero => intro i hm hi; exact h i hi fun hlt => by omega
  | succ m ih => intro i hm hi; exact h i hi fun hlt => ih (i + 1) (by omega) (by omega)
 exact fun i hi => this (n - i) i rfl hi
end Go.Sh
namespace Go.Sh
variable {H0 H : Heap} {σ : List Rs}
theorem intsA_size (l : List Int) : (ints l).toArray.size = l.length := by simp [ints]
theorem St.rdA (hs : St H0 H σ) (i : Nat) {b j : Nat} {l : List Int} {ty : TypeId} {x : Int} (hi : σ[i]? = some (.cell b (ints l).toArray ty)) (hx : l[j]? = some x) : Sh.cell H ⟨b, j, none⟩ = some (.int .i64 x) :=
 hs.get i hi (by rw [List.getElem?_toArray]; exact ints_get hx)
theorem St.putA (hs : St H0 H σ) (i : Nat) {b j : Nat} {l : List Int} {ty : TypeId} {x : Int} {f : Heap → Prop} (hi : σ[i]? = some (.cell b (ints l).toArray ty)) (hj : j < l.length)
    (hK : ∀ H', St H0 H' (σ.set i (.cell b (ints (l.set j x)).toArray ty)) → f H') : stAt H ⟨b, j, none⟩ [.int .i64 x] f :=
  hs.put i hi (by rw [intsA_size]; exact hj) rfl fun H' hs' => hK H' (by
    have e : (ints l).toArray.setIfInBounds j (Value.int .i64 x) = (ints (l.set j x)).toArray := by rw [← ints_set]; simp
    rw [← e]; exact hs')
theorem St.putAllA (hs : St H0 H σ) (i : Nat) {b : Nat} {cs : Array Value} {l : List Int} {ty : TypeId} {f : Heap → Prop} (hi : σ[i]? = some (.cell b cs ty)) (hl : l.length = cs.size)
    (hK : ∀ H', St H0 H' (σ.set i (.cell b (ints l).toArray ty)) → f H') : stAt H ⟨b, 0, none⟩ (Array.toList (ints l).toArray) f :=
  hs.putAll i hi (by simpa [ints] using hl) (fun v hv => ints_one l v (by simpa using hv)) fun H' hs' => hK H' (by simpa using hs')
theorem reps_rep (v : Value) : ∀ n, reps n [v] = List.replicate n v
 | 0 => rfl
 | n + 1 => by rw [reps, reps_rep v n, List.replicate_succ]; rfl
theorem repsA (n : Nat) : (reps n (Array.toList #[Value.int .i64 0])).toArray = (ints (List.replicate n 0)).toArray := by
 show (reps n [Value.int .i64 0]).toArray = _
 rw [reps_rep]; simp [ints]
theorem St.isA (hs : St H0 H σ) (i : Nat) {b n : Nat} {l : List Int} {ty : TypeId} (hi : σ[i]? = some (.cell b (ints l).toArray ty)) (hn : l.length = n) : IS H (some ⟨b, 0, none⟩) n (ints l) :=
 ⟨by rw [ints_len]; exact hn, fun j v hv => ⟨_, rfl, by rw [add_none, Nat.zero_add]; exact hs.get i hi (by rw [List.getElem?_toArray]; exact hv)⟩⟩
theorem getD_some {α : Type} (a : List α) (d : α) {i : Nat} (h : i < a.length) : a[i]? = some (a.getD i d) := by rw [List.getD_eq_getElem?_getD, List.getElem?_eq_getElem h]; rfl
def fillA (L : List Int) (s : Nat) : List Int := L.take s ++ List.replicate (L.length - s) 0
theorem fillA_len {L : List Int} {s : Nat} (h : s ≤ L.length) : (fillA L s).length = L.length := by unfold fillA; simp; omega
theorem fillA_zero (L : List Int) : fillA L 0 = List.replicate L.length 0 := by simp [fillA]
theorem fillA_all (L : List Int) : fillA L L.length = L := by simp [fillA]
theorem fillA_set {L : List Int} {s : Nat} (h : s < L.length) : (fillA L s).set s (L.getD s 0) = fillA L (s + 1) := by
 unfold fillA
 have ht : L.take (s + 1) = L.take s ++ [L.getD s 0] := by rw [List.take_add_one, getD_some L 0 h]; rfl
 rw [ht, List.set_append_right _ _ (by rw [List.length_take]; omega), List.length_take, Nat.min_eq_left (by omega), Nat.sub_self, show L.length - s = (L.length - (s + 1)) + 1 from by omega, List.replicate_succ, List.set_cons_zero, List.append_assoc]
 rfl
theorem fillA_at {L : List Int} {s : Nat} (h : s < L.length) : (fillA L s)[s]? = some 0 := by
 unfold fillA
 rw [List.getElem?_append_right (by rw [List.length_take]; omega), List.length_take, Nat.min_eq_left (by omega), Nat.sub_self, show L.length - s = (L.length - (s + 1)) + 1 from by omega, List.replicate_succ]
 rfl
theorem fillA_set0 {L : List Int} {s : Nat} (h : s < L.length) : (fillA L s).set s 0 = fillA L s := by
 have h1 := fillA_at h
 obtain ⟨h2, h3⟩ := List.getElem?_eq_some_iff.1 h1
 rw [← h3, List.set_getElem_self]
theorem tab_getD {n : Nat} {f : Nat → Int} {i : Nat} (h : i < n) : ((List.range n).map f).getD i 0 = f i := by simp [List.getD_eq_getElem?_getD, h]
theorem tab_get {n : Nat} {f : Nat → Int} {i : Nat} (h : i < n) : ((List.range n).map f)[i]? = some (f i) := by simp [h]
theorem mul_bd {x y A B : Int} (hx : -A ≤ x ∧ x ≤ A) (hy : -B ≤ y ∧ y ≤ B) : -(A * B) ≤ x * y ∧ x * y ≤ A * B := by
 have h1 : x.natAbs ≤ A.toNat := by omega
 have h2 : y.natAbs ≤ B.toNat := by omega
 have h3 := Nat.mul_le_mul h1 h2
 rw [← Int.natAbs_mul] at h3
 have h4 : ((A.toNat * B.toNat : Nat) : Int) = A * B := by
  rw [Int.natCast_mul, Int.toNat_of_nonneg (by omega), Int.toNat_of_nonneg (by omega)]
 omega
end Go.Sh
namespace Go.Proofs
open Go.Sh
structure M6 where
 a : Int
 b : Int
 c : Int
 d : Int
 e : Int
 f : Int
 deriving DecidableEq
def M6.l (m : M6) : List Int := [m.a, m.b, m.c, m.d, m.e, m.f]
structure LayF where
 id : Int
 kind : Int
 hidden : Bool
 opacity : Int
 mode : Int
 w : Int
 h : Int
 p : List Int
 mask : List Int
 map : M6
 smooth : Bool
 table : Int
 params : List Int
 deriving DecidableEq
inductive Lay where
 | mk (f : LayF) (kids : List Lay)
def Lay.f : Lay → LayF
 | .mk f _ => f
def Lay.kids : Lay → List Lay
 | .mk _ k => k
structure Sl3 where
 p : Option Addr
 l : Nat
 c : Nat
def Sl3.v (s : Sl3) : Value := .slice s.p s.l s.c
def Sl3.nil : Sl3 := ⟨none, 0, 0⟩
inductive T where
 | mk (f : LayF) (P M A K : Sl3) (kids : List T)
def T.f : T → LayF
 | .mk f _ _ _ _ _ => f
def T.K : T → Sl3
 | .mk _ _ _ _ K _ => K
def T.P' : T → Sl3
 | .mk _ P _ _ _ _ => P
def T.M' : T → Sl3
 | .mk _ _ M _ _ _ => M
def T.A' : T → Sl3
 | .mk _ _ _ A _ _ => A
def T.kids : T → List T
 | .mk _ _ _ _ _ k => k
def cellsL (f : LayF) (P M A K : Value) : List Value :=
 [.int .i64 f.id, .int .i64 f.kind, .bool f.hidden, .int .i64 f.opacity, .int .i64 f.mode, .int .i64 f.w, .int .i64 f.h, P, M,
  .int .i64 f.map.a, .int .i64 f.map.b, .int .i64 f.map.c, .int .i64 f.map.d, .int .i64 f.map.e, .int .i64 f.map.f, .bool f.smooth, .int .i64 f.table, A, K]
def cellsT : T → List Value
 | .mk f P M A K _ => cellsL f P.v M.v A.v K.v
def cellsKs (ts : List T) : List Value := (ts.map cellsT).flatten
theorem cellsT_len (t : T) : (cellsT t).length = 19 := by cases t; rfl
theorem cellsKs_len (ts : List T) : (cellsKs ts).length = ts.length * 19 := by
 unfold cellsKs
 induction ts with
 | nil => rfl
 | cons t ts ih => rw [List.map_cons, List.flatten_cons, List.length_append, ih, cellsT_len, List.length_cons]; omega
theorem cellsT_one (t : T) : ∀ v ∈ cellsT t, v.oneCell' = true := by
 cases t with | mk f P M A K ks =>
 show ∀ v ∈ cellsL f P.v M.v A.v K.v, v.oneCell' = true
 unfold cellsL
 simp only [List.forall_mem_cons]
 exact ⟨rfl, rfl, rfl, rfl, rfl, rfl, rfl, rfl, rfl, rfl, rfl, rfl, rfl, rfl, rfl, rfl, rfl, rfl, rfl, fun _ h => by cases h⟩
theorem cellsL_one (f : LayF) (P M A K : Sl3) : ∀ v ∈ cellsL f P.v M.v A.v K.v, v.oneCell' = true := cellsT_one (.mk f P M A K [])
theorem cellsKs_app (a b : List T) : cellsKs (a ++ b) = cellsKs a ++ cellsKs b := by simp [cellsKs]
theorem cellsKs_one (t : T) : cellsKs [t] = cellsT t := by simp [cellsKs]
theorem cellsKs_cons (t : T) (ts : List T) : cellsKs (t :: ts) = cellsT t ++ cellsKs ts := by simp [cellsKs]
theorem cellsKs_get {ts : List T} {i : Nat} {t : T} (h : ts[i]? = some t) {j : Nat} {v : Value} (hv : (cellsT t)[j]? = some v) : (cellsKs ts)[i * 19 + j]? = some v := by
 have hj : j < 19 := by have := (List.getElem?_eq_some_iff.1 hv).1; rw [cellsT_len] at this; exact this
 induction ts generalizing i with
 | nil => simp at h
 | cons x ts ih =>
  rw [cellsKs_cons]
  cases i with
  | zero =>
   simp at h; subst h
   rw [Nat.zero_mul, Nat.zero_add, List.getElem?_append_left (by rw [cellsT_len]; exact hj)]; exact hv
  | succ i =>
   rw [List.getElem?_append_right (by rw [cellsT_len]; omega), cellsT_len, show (i + 1) * 19 + j - 19 = i * 19 + j from by omega]
   exact ih (by simpa using h)
mutual
def layT : T → Lay
 | .mk f _ _ _ _ ks => .mk f (layKs ks)
def layKs : List T → List Lay
 | [] => []
 | t :: ts => layT t :: layKs ts
end
theorem layKs_map (ts : List T) : layKs ts = ts.map layT := by
 induction ts with
 | nil => rfl
 | cons t ts ih => rw [layKs, ih]; rfl
theorem layKs_len (ts : List T) : (layKs ts).length = ts.length := by rw [layKs_map, List.length_map]
theorem layKs_app (a b : List T) : layKs (a ++ b) = layKs a ++ layKs b := by simp [layKs_map]
theorem layT_f (t : T) : (layT t).f = t.f := by cases t; rfl
theorem T.ind {Q : T → Prop} (h : ∀ f P M A K ks, (∀ t ∈ ks, Q t) → Q (.mk f P M A K ks)) : ∀ t, Q t :=
 fun t => T.rec (motive_1 := Q) (motive_2 := fun ts => ∀ t ∈ ts, Q t) (fun f P M A K ks ih => h f P M A K ks ih) (fun _ h => by cases h)
  (fun t ts h1 h2 u hu => by
   rcases List.mem_cons.1 hu with rfl | hu
   ·exact h1
   ·exact h2 u hu) t
theorem Lay.ind {Q : Lay → Prop} (h : ∀ f ks, (∀ t ∈ ks, Q t) → Q (.mk f ks)) : ∀ t, Q t :=
 fun t => Lay.rec (motive_1 := Q) (motive_2 := fun ts => ∀ t ∈ ts, Q t) (fun f ks ih => h f ks ih) (fun _ h => by cases h)
  (fun t ts h1 h2 u hu => by
   rcases List.mem_cons.1 hu with rfl | hu
   ·exact h1
   ·exact h2 u hu) t
def rowsK (H : Heap) (K : Sl3) (ks : List T) : Prop := K.l = ks.length ∧ ∀ (i : Nat) t, ks[i]? = some t → ∃ a, K.p = some a ∧ rowIn H (a.add (i * 19)) (cellsT t).toArray
mutual
def rdT (H : Heap) : T → Prop
 | .mk f P M A K ks => IS H P.p P.l (ints f.p) ∧ IS H M.p M.l (kints .u8 f.mask) ∧ IS H A.p A.l (ints f.params) ∧ rowsK H K ks ∧ rdKs H ks
def rdKs (H : Heap) : List T → Prop
 | [] => True
 | t :: ts => rdT H t ∧ rdKs H ts
end
def grp (H : Heap) (K : Sl3) (ks : List T) : Prop := rowsK H K ks ∧ rdKs H ks
theorem rdKs_iff {H : Heap} : ∀ {ts : List T}, rdKs H ts ↔ ∀ t ∈ ts, rdT H t
 | [] => ⟨fun _ _ h => (by cases h), fun _ => trivial⟩
 | t :: ts => by
  rw [rdKs, rdKs_iff]
  simp only [List.forall_mem_cons]
theorem rowsK.ext {H H' : Heap} {K : Sl3} {ks : List T} (h : rowsK H K ks) (he : Ext H H') : rowsK H' K ks :=
 ⟨h.1, fun i t ht => let ⟨a, h1, h2⟩ := h.2 i t ht; ⟨a, h1, rowAt_ext he h2⟩⟩
theorem rdT.ext {H H' : Heap} (he : Ext H H') : ∀ t, rdT H t → rdT H' t := by
 refine T.ind fun f P M A K ks ih h => ?_
 rw [rdT] at h ⊢
 exact ⟨h.1.ext he, h.2.1.ext he, h.2.2.1.ext he, h.2.2.2.1.ext he, rdKs_iff.2 fun t ht => ih t ht (rdKs_iff.1 h.2.2.2.2 t ht)⟩
theorem grp.ext {H H' : Heap} {K : Sl3} {ks : List T} (h : grp H K ks) (he : Ext H H') : grp H' K ks :=
 ⟨h.1.ext he, rdKs_iff.2 fun t ht => rdT.ext he t (rdKs_iff.1 h.2 t ht)⟩
theorem grp.get {H : Heap} {K : Sl3} {ks : List T} (h : grp H K ks) {i : Nat} {t : T} (ht : ks[i]? = some t) : ∃ a, K.p = some a ∧ rowIn H (a.add (i * 19)) (cellsT t).toArray ∧ rdT H t :=
 let ⟨a, h1, h2⟩ := h.1.2 i t ht
 ⟨a, h1, h2, rdKs_iff.1 h.2 t (List.mem_of_getElem? ht)⟩
theorem grp.nil (H : Heap) : grp H .nil [] := ⟨⟨rfl, fun i t h => by simp at h⟩, trivial⟩
theorem rdT.grp {H : Heap} {t : T} (h : rdT H t) : grp H t.K t.kids := by
 cases t with | mk f P M A K ks =>
 rw [rdT] at h
 exact ⟨h.2.2.2.1, h.2.2.2.2⟩
mutual
def resT : T → List Rs
 | .mk f P M A K ks => .sl P.p P.l P.c 3 1 (ints f.p) :: .sl M.p M.l M.c 5 1 (kints .u8 f.mask) :: .sl A.p A.l A.c 3 1 (ints f.params) :: .sl K.p K.l K.c 58 19 (cellsKs ks) :: resKs ks
def resKs : List T → List Rs
 | [] => []
 | t :: ts => resT t ++ resKs ts
end
def resG (K : Sl3) (ks : List T) : List Rs := .sl K.p K.l K.c 58 19 (cellsKs ks) :: resKs ks
theorem resKs_app (a b : List T) : resKs (a ++ b) = resKs a ++ resKs b := by
 induction a with
 | nil => rfl
 | cons t a ih => rw [List.cons_append, resKs, ih, resKs, List.append_assoc]
theorem resKs_one (t : T) : resKs [t] = resT t := by rw [resKs, resKs, List.append_nil]
theorem resKs_cons (t : T) (ts : List T) : resKs (t :: ts) = resT t ++ resKs ts := by rw [resKs]
theorem resT_mk (f : LayF) (P M A K : Sl3) (ks : List T) : resT (.mk f P M A K ks) = .sl P.p P.l P.c 3 1 (ints f.p) :: .sl M.p M.l M.c 5 1 (kints .u8 f.mask) :: .sl A.p A.l A.c 3 1 (ints f.params) :: resG K ks := by rw [resT]; rfl
end Go.Proofs
namespace Go.Sh
open Go.Proofs
variable {H0 H H' : Heap} {σ τ : List Rs}
theorem RS.rowsK {H : Heap} {K : Sl3} {ks : List T} {el : TypeId} (h : RS H K.p K.l el 19 (cellsKs ks)) : Go.Proofs.rowsK H K ks := by
 have hl : K.l = ks.length := by have := h.len; rw [cellsKs_len] at this; omega
 refine ⟨hl, fun i t ht => ?_⟩
 have hi : i < ks.length := (List.getElem?_eq_some_iff.1 ht).1
 obtain ⟨blk, h1, h2⟩ := h.row (i := i) (by omega) (by decide) (xs := (cellsT t).toArray) fun j v hv => cellsKs_get ht (by simpa using hv)
 exact ⟨_, h1, by rw [add_none, Nat.zero_add]; exact h2⟩
theorem St.rdKs_of : ∀ {ks : List T}, (∀ t ∈ ks, ∀ {σ : List Rs}, St H0 H (resT t ++ σ) → Go.Proofs.rdT H t) → St H0 H (resKs ks ++ σ) → Go.Proofs.rdKs H ks
 | [], _, _ => trivial
 | t :: ts, h, hs => by
  rw [resKs, List.append_assoc] at hs
  exact ⟨h t List.mem_cons_self hs, St.rdKs_of (fun t ht => h t (List.mem_cons_of_mem _ ht)) hs.app.2⟩
theorem St.rdT : ∀ (t : T) {σ : List Rs}, St H0 H (resT t ++ σ) → Go.Proofs.rdT H t := by
 refine T.ind fun f P M A K ks ih σ hs => ?_
 rw [resT] at hs
 rw [Go.Proofs.rdT]
 refine ⟨hs.is 0 rfl, hs.is 1 rfl, hs.is 2 rfl, RS.rowsK (hs.rs 3 rfl), St.rdKs_of (fun t ht _ hs => ih t ht hs) (σ := σ) ?_⟩
 exact hs.drop 4
theorem St.grp {K : Sl3} {ks : List T} (hs : St H0 H (resG K ks ++ σ)) : Go.Proofs.grp H K ks :=
 ⟨RS.rowsK (hs.rs 0 rfl), St.rdKs_of (fun t ht _ hs => St.rdT t hs) (σ := σ) hs.tail⟩
theorem St.callR (hs : St H0 H σ) (ht : St H H' τ) : St H0 H' (σ ++ τ) := (hs.call ht).perm List.perm_append_comm
end Go.Sh
namespace Go.Proofs
open Go.Sh
def Tryz.i0 : TI := ⟨.tuple [], 1, 0, Value.tuple #[]⟩
theorem Tryz.tok0 : TIok Tryz.prog 0 Tryz.i0 := ⟨by kernel_rfl, by kernel_rfl⟩
def Tryz.i3 : TI := ⟨.int .i64, 1, 8, Value.int .i64 0⟩
theorem Tryz.tok3 : TIok Tryz.prog 3 Tryz.i3 := ⟨by kernel_rfl, by kernel_rfl⟩
def Tryz.i4 : TI := ⟨.bool, 1, 1, Value.bool false⟩
theorem Tryz.tok4 : TIok Tryz.prog 4 Tryz.i4 := ⟨by kernel_rfl, by kernel_rfl⟩
def Tryz.i5 : TI := ⟨.int .u8, 1, 1, Value.int .u8 0⟩
theorem Tryz.tok5 : TIok Tryz.prog 5 Tryz.i5 := ⟨by kernel_rfl, by kernel_rfl⟩
def Tryz.i9 : TI := ⟨.str, 1, 16, Value.string ByteArray.empty⟩
theorem Tryz.tok9 : TIok Tryz.prog 9 Tryz.i9 := ⟨by kernel_rfl, by kernel_rfl⟩
def Tryz.i22 : TI := ⟨.sl 52, 1, 24, Value.slice none 0 0⟩
theorem Tryz.tok22 : TIok Tryz.prog 22 Tryz.i22 := ⟨by kernel_rfl, by kernel_rfl⟩
def Tryz.i24 : TI := ⟨.sl 58, 1, 24, Value.slice none 0 0⟩
theorem Tryz.tok24 : TIok Tryz.prog 24 Tryz.i24 := ⟨by kernel_rfl, by kernel_rfl⟩
def Tryz.i26 : TI := ⟨.struct [(0, 3), (1, 3), (2, 3), (3, 24)], 4, 48, Value.agg #[Value.int .i64 0, Value.int .i64 0, Value.int .i64 0, Value.slice none 0 0]⟩
theorem Tryz.tok26 : TIok Tryz.prog 26 Tryz.i26 := ⟨by kernel_rfl, by kernel_rfl⟩
def Tryz.i27 : TI := ⟨.sl 101, 1, 24, Value.slice none 0 0⟩
theorem Tryz.tok27 : TIok Tryz.prog 27 Tryz.i27 := ⟨by kernel_rfl, by kernel_rfl⟩
def Tryz.i29 : TI := ⟨.struct [(0, 3), (1, 3), (2, 3), (3, 27)], 4, 48, Value.agg #[Value.int .i64 0, Value.int .i64 0, Value.int .i64 0, Value.slice none 0 0]⟩
theorem Tryz.tok29 : TIok Tryz.prog 29 Tryz.i29 := ⟨by kernel_rfl, by kernel_rfl⟩
def Tryz.i30 : TI := ⟨.tuple [26, 29, 4], 1, 0, Value.tuple #[Value.agg #[Value.int .i64 0, Value.int .i64 0, Value.int .i64 0, Value.slice none 0 0], Value.agg #[Value.int .i64 0, Value.int .i64 0, Value.int .i64 0, Value.slice none 0 0], Value.bool false]⟩
theorem Tryz.tok30 : TIok Tryz.prog 30 Tryz.i30 := ⟨by kernel_rfl, by kernel_rfl⟩
def Tryz.i32 : TI := ⟨.sl 3, 1, 24, Value.slice none 0 0⟩
theorem Tryz.tok32 : TIok Tryz.prog 32 Tryz.i32 := ⟨by kernel_rfl, by kernel_rfl⟩
def Tryz.i34 : TI := ⟨.struct [(0, 3), (1, 3), (2, 32)], 3, 40, Value.agg #[Value.int .i64 0, Value.int .i64 0, Value.slice none 0 0]⟩
theorem Tryz.tok34 : TIok Tryz.prog 34 Tryz.i34 := ⟨by kernel_rfl, by kernel_rfl⟩
def Tryz.i36 : TI := ⟨.tuple [32, 3], 1, 0, Value.tuple #[Value.slice none 0 0, Value.int .i64 0]⟩
theorem Tryz.tok36 : TIok Tryz.prog 36 Tryz.i36 := ⟨by kernel_rfl, by kernel_rfl⟩
def Tryz.i38 : TI := ⟨.fn, 1, 8, Value.nilFunc⟩
theorem Tryz.tok38 : TIok Tryz.prog 38 Tryz.i38 := ⟨by kernel_rfl, by kernel_rfl⟩
def Tryz.i42 : TI := ⟨.int .i64, 1, 8, Value.int .i64 0⟩
theorem Tryz.tok42 : TIok Tryz.prog 42 Tryz.i42 := ⟨by kernel_rfl, by kernel_rfl⟩
def Tryz.i43 : TI := ⟨.tuple [32, 42], 1, 0, Value.tuple #[Value.slice none 0 0, Value.int .i64 0]⟩
theorem Tryz.tok43 : TIok Tryz.prog 43 Tryz.i43 := ⟨by kernel_rfl, by kernel_rfl⟩
def Tryz.i46 : TI := ⟨.tuple [26, 42], 1, 0, Value.tuple #[Value.agg #[Value.int .i64 0, Value.int .i64 0, Value.int .i64 0, Value.slice none 0 0], Value.int .i64 0]⟩
theorem Tryz.tok46 : TIok Tryz.prog 46 Tryz.i46 := ⟨by kernel_rfl, by kernel_rfl⟩
def Tryz.i48 : TI := ⟨.sl 105, 1, 24, Value.slice none 0 0⟩
theorem Tryz.tok48 : TIok Tryz.prog 48 Tryz.i48 := ⟨by kernel_rfl, by kernel_rfl⟩
def Tryz.i50 : TI := ⟨.arr 6 3, 6, 48, Value.agg #[Value.int .i64 0, Value.int .i64 0, Value.int .i64 0, Value.int .i64 0, Value.int .i64 0, Value.int .i64 0]⟩
theorem Tryz.tok50 : TIok Tryz.prog 50 Tryz.i50 := ⟨by kernel_rfl, by kernel_rfl⟩
def Tryz.i52 : TI := ⟨.struct [(0, 3), (1, 3), (2, 3), (3, 3), (4, 3), (5, 3), (6, 3), (7, 3), (8, 3), (9, 3), (10, 32), (11, 48), (12, 50), (18, 32)], 19, 200, Value.agg #[Value.int .i64 0, Value.int .i64 0, Value.int .i64 0, Value.int .i64 0, Value.int .i64 0, Value.int .i64 0, Value.int .i64 0, Value.int .i64 0, Value.int .i64 0, Value.int .i64 0, Value.slice none 0 0, Value.slice none 0 0, Value.int .i64 0, Value.int .i64 0, Value.int .i64 0, Value.int .i64 0, Value.int .i64 0, Value.int .i64 0, Value.slice none 0 0]⟩
theorem Tryz.tok52 : TIok Tryz.prog 52 Tryz.i52 := ⟨by kernel_rfl, by kernel_rfl⟩
def Tryz.i56 : TI := ⟨.sl 5, 1, 24, Value.slice none 0 0⟩
theorem Tryz.tok56 : TIok Tryz.prog 56 Tryz.i56 := ⟨by kernel_rfl, by kernel_rfl⟩
def Tryz.i58 : TI := ⟨.struct [(0, 3), (1, 3), (2, 4), (3, 3), (4, 3), (5, 3), (6, 3), (7, 32), (8, 56), (9, 50), (15, 4), (16, 3), (17, 32), (18, 24)], 19, 216, Value.agg #[Value.int .i64 0, Value.int .i64 0, Value.bool false, Value.int .i64 0, Value.int .i64 0, Value.int .i64 0, Value.int .i64 0, Value.slice none 0 0, Value.slice none 0 0, Value.int .i64 0, Value.int .i64 0, Value.int .i64 0, Value.int .i64 0, Value.int .i64 0, Value.int .i64 0, Value.bool false, Value.int .i64 0, Value.slice none 0 0, Value.slice none 0 0]⟩
theorem Tryz.tok58 : TIok Tryz.prog 58 Tryz.i58 := ⟨by kernel_rfl, by kernel_rfl⟩
def Tryz.i60 : TI := ⟨.tuple [58, 4], 1, 0, Value.tuple #[Value.agg #[Value.int .i64 0, Value.int .i64 0, Value.bool false, Value.int .i64 0, Value.int .i64 0, Value.int .i64 0, Value.int .i64 0, Value.slice none 0 0, Value.slice none 0 0, Value.int .i64 0, Value.int .i64 0, Value.int .i64 0, Value.int .i64 0, Value.int .i64 0, Value.int .i64 0, Value.bool false, Value.int .i64 0, Value.slice none 0 0, Value.slice none 0 0], Value.bool false]⟩
theorem Tryz.tok60 : TIok Tryz.prog 60 Tryz.i60 := ⟨by kernel_rfl, by kernel_rfl⟩
def Tryz.i63 : TI := ⟨.tuple [3, 3, 4], 1, 0, Value.tuple #[Value.int .i64 0, Value.int .i64 0, Value.bool false]⟩
theorem Tryz.tok63 : TIok Tryz.prog 63 Tryz.i63 := ⟨by kernel_rfl, by kernel_rfl⟩
def Tryz.i67 : TI := ⟨.tuple [29, 3], 1, 0, Value.tuple #[Value.agg #[Value.int .i64 0, Value.int .i64 0, Value.int .i64 0, Value.slice none 0 0], Value.int .i64 0]⟩
theorem Tryz.tok67 : TIok Tryz.prog 67 Tryz.i67 := ⟨by kernel_rfl, by kernel_rfl⟩
def Tryz.i70 : TI := ⟨.sl 106, 1, 24, Value.slice none 0 0⟩
theorem Tryz.tok70 : TIok Tryz.prog 70 Tryz.i70 := ⟨by kernel_rfl, by kernel_rfl⟩
def Tryz.i71 : TI := ⟨.arr 6 3, 6, 48, Value.agg #[Value.int .i64 0, Value.int .i64 0, Value.int .i64 0, Value.int .i64 0, Value.int .i64 0, Value.int .i64 0]⟩
theorem Tryz.tok71 : TIok Tryz.prog 71 Tryz.i71 := ⟨by kernel_rfl, by kernel_rfl⟩
def Tryz.i73 : TI := ⟨.struct [(0, 3), (1, 3), (2, 3), (3, 3), (4, 3), (5, 3), (6, 3), (7, 3), (8, 3), (9, 3), (10, 32), (11, 70), (12, 71), (18, 32)], 19, 200, Value.agg #[Value.int .i64 0, Value.int .i64 0, Value.int .i64 0, Value.int .i64 0, Value.int .i64 0, Value.int .i64 0, Value.int .i64 0, Value.int .i64 0, Value.int .i64 0, Value.int .i64 0, Value.slice none 0 0, Value.slice none 0 0, Value.int .i64 0, Value.int .i64 0, Value.int .i64 0, Value.int .i64 0, Value.int .i64 0, Value.int .i64 0, Value.slice none 0 0]⟩
theorem Tryz.tok73 : TIok Tryz.prog 73 Tryz.i73 := ⟨by kernel_rfl, by kernel_rfl⟩
def Tryz.i79 : TI := ⟨.struct [(0, 26), (4, 3), (5, 3), (6, 3), (7, 3)], 8, 80, Value.agg #[Value.int .i64 0, Value.int .i64 0, Value.int .i64 0, Value.slice none 0 0, Value.int .i64 0, Value.int .i64 0, Value.int .i64 0, Value.int .i64 0]⟩
theorem Tryz.tok79 : TIok Tryz.prog 79 Tryz.i79 := ⟨by kernel_rfl, by kernel_rfl⟩
def Tryz.i82 : TI := ⟨.ptr 58, 1, 8, Value.pointer none⟩
theorem Tryz.tok82 : TIok Tryz.prog 82 Tryz.i82 := ⟨by kernel_rfl, by kernel_rfl⟩
def Tryz.i84 : TI := ⟨.ptr 26, 1, 8, Value.pointer none⟩
theorem Tryz.tok84 : TIok Tryz.prog 84 Tryz.i84 := ⟨by kernel_rfl, by kernel_rfl⟩
def Tryz.i86 : TI := ⟨.struct [(0, 82), (1, 84), (2, 52)], 21, 216, Value.agg #[Value.pointer none, Value.pointer none, Value.int .i64 0, Value.int .i64 0, Value.int .i64 0, Value.int .i64 0, Value.int .i64 0, Value.int .i64 0, Value.int .i64 0, Value.int .i64 0, Value.int .i64 0, Value.int .i64 0, Value.slice none 0 0, Value.slice none 0 0, Value.int .i64 0, Value.int .i64 0, Value.int .i64 0, Value.int .i64 0, Value.int .i64 0, Value.int .i64 0, Value.slice none 0 0]⟩
theorem Tryz.tok86 : TIok Tryz.prog 86 Tryz.i86 := ⟨by kernel_rfl, by kernel_rfl⟩
def Tryz.i87 : TI := ⟨.fn, 1, 8, Value.nilFunc⟩
theorem Tryz.tok87 : TIok Tryz.prog 87 Tryz.i87 := ⟨by kernel_rfl, by kernel_rfl⟩
def Tryz.i89 : TI := ⟨.sl 87, 1, 24, Value.slice none 0 0⟩
theorem Tryz.tok89 : TIok Tryz.prog 89 Tryz.i89 := ⟨by kernel_rfl, by kernel_rfl⟩
def Tryz.i91 : TI := ⟨.tuple [82, 82, 3], 1, 0, Value.tuple #[Value.pointer none, Value.pointer none, Value.int .i64 0]⟩
theorem Tryz.tok91 : TIok Tryz.prog 91 Tryz.i91 := ⟨by kernel_rfl, by kernel_rfl⟩
def Tryz.i94 : TI := ⟨.arr 4 3, 4, 32, Value.agg #[Value.int .i64 0, Value.int .i64 0, Value.int .i64 0, Value.int .i64 0]⟩
theorem Tryz.tok94 : TIok Tryz.prog 94 Tryz.i94 := ⟨by kernel_rfl, by kernel_rfl⟩
def Tryz.i98 : TI := ⟨.tuple [27, 27], 1, 0, Value.tuple #[Value.slice none 0 0, Value.slice none 0 0]⟩
theorem Tryz.tok98 : TIok Tryz.prog 98 Tryz.i98 := ⟨by kernel_rfl, by kernel_rfl⟩
def Tryz.i101 : TI := ⟨.struct [(0, 3), (1, 3), (2, 3), (3, 4), (4, 3), (5, 3), (6, 3), (7, 3), (8, 32), (9, 56), (10, 71), (16, 4), (17, 3), (18, 32)], 19, 200, Value.agg #[Value.int .i64 0, Value.int .i64 0, Value.int .i64 0, Value.bool false, Value.int .i64 0, Value.int .i64 0, Value.int .i64 0, Value.int .i64 0, Value.slice none 0 0, Value.slice none 0 0, Value.int .i64 0, Value.int .i64 0, Value.int .i64 0, Value.int .i64 0, Value.int .i64 0, Value.int .i64 0, Value.bool false, Value.int .i64 0, Value.slice none 0 0]⟩
theorem Tryz.tok101 : TIok Tryz.prog 101 Tryz.i101 := ⟨by kernel_rfl, by kernel_rfl⟩
def Tryz.i102 : TI := ⟨.tuple [101, 3], 1, 0, Value.tuple #[Value.agg #[Value.int .i64 0, Value.int .i64 0, Value.int .i64 0, Value.bool false, Value.int .i64 0, Value.int .i64 0, Value.int .i64 0, Value.int .i64 0, Value.slice none 0 0, Value.slice none 0 0, Value.int .i64 0, Value.int .i64 0, Value.int .i64 0, Value.int .i64 0, Value.int .i64 0, Value.int .i64 0, Value.bool false, Value.int .i64 0, Value.slice none 0 0], Value.int .i64 0]⟩
theorem Tryz.tok102 : TIok Tryz.prog 102 Tryz.i102 := ⟨by kernel_rfl, by kernel_rfl⟩
def Tryz.i105 : TI := ⟨.struct [(0, 3), (1, 3)], 2, 16, Value.agg #[Value.int .i64 0, Value.int .i64 0]⟩
theorem Tryz.tok105 : TIok Tryz.prog 105 Tryz.i105 := ⟨by kernel_rfl, by kernel_rfl⟩
def Tryz.i106 : TI := ⟨.struct [(0, 3), (1, 3)], 2, 16, Value.agg #[Value.int .i64 0, Value.int .i64 0]⟩
theorem Tryz.tok106 : TIok Tryz.prog 106 Tryz.i106 := ⟨by kernel_rfl, by kernel_rfl⟩
def Tryz.i119 : TI := ⟨.fn, 1, 8, Value.nilFunc⟩
theorem Tryz.tok119 : TIok Tryz.prog 119 Tryz.i119 := ⟨by kernel_rfl, by kernel_rfl⟩
def Tryz.i121 : TI := ⟨.tuple [82, 42], 1, 0, Value.tuple #[Value.pointer none, Value.int .i64 0]⟩
theorem Tryz.tok121 : TIok Tryz.prog 121 Tryz.i121 := ⟨by kernel_rfl, by kernel_rfl⟩
def Tryz.i126 : TI := ⟨.tuple [56, 42], 1, 0, Value.tuple #[Value.slice none 0 0, Value.int .i64 0]⟩
theorem Tryz.tok126 : TIok Tryz.prog 126 Tryz.i126 := ⟨by kernel_rfl, by kernel_rfl⟩
def Tryz.i128 : TI := ⟨.tuple [50, 42], 1, 0, Value.tuple #[Value.agg #[Value.int .i64 0, Value.int .i64 0, Value.int .i64 0, Value.int .i64 0, Value.int .i64 0, Value.int .i64 0], Value.int .i64 0]⟩
theorem Tryz.tok128 : TIok Tryz.prog 128 Tryz.i128 := ⟨by kernel_rfl, by kernel_rfl⟩
def Tryz.i130 : TI := ⟨.tuple [32, 4], 1, 0, Value.tuple #[Value.slice none 0 0, Value.bool false]⟩
theorem Tryz.tok130 : TIok Tryz.prog 130 Tryz.i130 := ⟨by kernel_rfl, by kernel_rfl⟩
def Tryz.i135 : TI := ⟨.tuple [71, 3], 1, 0, Value.tuple #[Value.agg #[Value.int .i64 0, Value.int .i64 0, Value.int .i64 0, Value.int .i64 0, Value.int .i64 0, Value.int .i64 0], Value.int .i64 0]⟩
theorem Tryz.tok135 : TIok Tryz.prog 135 Tryz.i135 := ⟨by kernel_rfl, by kernel_rfl⟩
def Tryz.i137 : TI := ⟨.struct [(0, 3), (1, 3), (2, 32)], 3, 40, Value.agg #[Value.int .i64 0, Value.int .i64 0, Value.slice none 0 0]⟩
theorem Tryz.tok137 : TIok Tryz.prog 137 Tryz.i137 := ⟨by kernel_rfl, by kernel_rfl⟩
def Tryz.i151 : TI := ⟨.sl 48, 1, 24, Value.slice none 0 0⟩
theorem Tryz.tok151 : TIok Tryz.prog 151 Tryz.i151 := ⟨by kernel_rfl, by kernel_rfl⟩
def Tryz.i152 : TI := ⟨.cpl .f64, 1, 16, Value.complex .f64 0 0⟩
theorem Tryz.tok152 : TIok Tryz.prog 152 Tryz.i152 := ⟨by kernel_rfl, by kernel_rfl⟩
def Tryz.i153 : TI := ⟨.flt .f64, 1, 8, Value.float .f64 0⟩
theorem Tryz.tok153 : TIok Tryz.prog 153 Tryz.i153 := ⟨by kernel_rfl, by kernel_rfl⟩
def Tryz.i157 : TI := ⟨.arr 4 94, 16, 128, Value.agg #[Value.int .i64 0, Value.int .i64 0, Value.int .i64 0, Value.int .i64 0, Value.int .i64 0, Value.int .i64 0, Value.int .i64 0, Value.int .i64 0, Value.int .i64 0, Value.int .i64 0, Value.int .i64 0, Value.int .i64 0, Value.int .i64 0, Value.int .i64 0, Value.int .i64 0, Value.int .i64 0]⟩
theorem Tryz.tok157 : TIok Tryz.prog 157 Tryz.i157 := ⟨by kernel_rfl, by kernel_rfl⟩
def Tryz.tab : Tab := [(0, Tryz.i0), (3, Tryz.i3), (4, Tryz.i4), (5, Tryz.i5), (9, Tryz.i9), (22, Tryz.i22), (24, Tryz.i24), (26, Tryz.i26), (27, Tryz.i27), (29, Tryz.i29), (30, Tryz.i30), (32, Tryz.i32), (34, Tryz.i34), (36, Tryz.i36), (38, Tryz.i38), (42, Tryz.i42), (43, Tryz.i43), (46, Tryz.i46), (48, Tryz.i48), (50, Tryz.i50), (52, Tryz.i52), (56, Tryz.i56), (58, Tryz.i58), (60, Tryz.i60), (63, Tryz.i63), (67, Tryz.i67), (70, Tryz.i70), (71, Tryz.i71), (73, Tryz.i73), (79, Tryz.i79), (82, Tryz.i82), (84, Tryz.i84), (86, Tryz.i86), (87, Tryz.i87), (89, Tryz.i89), (91, Tryz.i91), (94, Tryz.i94), (98, Tryz.i98), (101, Tryz.i101), (102, Tryz.i102), (105, Tryz.i105), (106, Tryz.i106), (119, Tryz.i119), (121, Tryz.i121), (126, Tryz.i126), (128, Tryz.i128), (130, Tryz.i130), (135, Tryz.i135), (137, Tryz.i137), (151, Tryz.i151), (152, Tryz.i152), (153, Tryz.i153), (157, Tryz.i157)]
theorem Tryz.tab_ok : TabOk Tryz.prog Tryz.tab := by
 unfold TabOk Tryz.tab
 simp only [List.forall_mem_cons]
 exact ⟨Tryz.tok0, Tryz.tok3, Tryz.tok4, Tryz.tok5, Tryz.tok9, Tryz.tok22, Tryz.tok24, Tryz.tok26, Tryz.tok27, Tryz.tok29, Tryz.tok30, Tryz.tok32, Tryz.tok34, Tryz.tok36, Tryz.tok38, Tryz.tok42, Tryz.tok43, Tryz.tok46, Tryz.tok48, Tryz.tok50, Tryz.tok52, Tryz.tok56, Tryz.tok58, Tryz.tok60, Tryz.tok63, Tryz.tok67, Tryz.tok70, Tryz.tok71, Tryz.tok73, Tryz.tok79, Tryz.tok82, Tryz.tok84, Tryz.tok86, Tryz.tok87, Tryz.tok89, Tryz.tok91, Tryz.tok94, Tryz.tok98, Tryz.tok101, Tryz.tok102, Tryz.tok105, Tryz.tok106, Tryz.tok119, Tryz.tok121, Tryz.tok126, Tryz.tok128, Tryz.tok130, Tryz.tok135, Tryz.tok137, Tryz.tok151, Tryz.tok152, Tryz.tok153, Tryz.tok157, fun _ h => by cases h⟩
abbrev Tryz.C := CallsH Tryz.prog
theorem Tryz.mixed : Tryz.prog.follows .mixedOrders = true := by kernel_rfl
theorem Tryz.cal3 : callable Tryz.prog 3 := ⟨Tryz.f3, Tryz.func3, by kernel_rfl, by kernel_rfl⟩
theorem Tryz.cal4 : callable Tryz.prog 4 := ⟨Tryz.f4, Tryz.func4, by kernel_rfl, by kernel_rfl⟩
theorem Tryz.cal7 : callable Tryz.prog 7 := ⟨Tryz.f7, Tryz.func7, by kernel_rfl, by kernel_rfl⟩
theorem Tryz.cal9 : callable Tryz.prog 9 := ⟨Tryz.f9, Tryz.func9, by kernel_rfl, by kernel_rfl⟩
theorem Tryz.cal10 : callable Tryz.prog 10 := ⟨Tryz.f10, Tryz.func10, by kernel_rfl, by kernel_rfl⟩
theorem Tryz.cal11 : callable Tryz.prog 11 := ⟨Tryz.f11, Tryz.func11, by kernel_rfl, by kernel_rfl⟩
theorem Tryz.cal13 : callable Tryz.prog 13 := ⟨Tryz.f13, Tryz.func13, by kernel_rfl, by kernel_rfl⟩
theorem Tryz.cal14 : callable Tryz.prog 14 := ⟨Tryz.f14, Tryz.func14, by kernel_rfl, by kernel_rfl⟩
theorem Tryz.cal15 : callable Tryz.prog 15 := ⟨Tryz.f15, Tryz.func15, by kernel_rfl, by kernel_rfl⟩
theorem Tryz.cal16 : callable Tryz.prog 16 := ⟨Tryz.f16, Tryz.func16, by kernel_rfl, by kernel_rfl⟩
theorem Tryz.cal17 : callable Tryz.prog 17 := ⟨Tryz.f17, Tryz.func17, by kernel_rfl, by kernel_rfl⟩
theorem Tryz.cal19 : callable Tryz.prog 19 := ⟨Tryz.f19, Tryz.func19, by kernel_rfl, by kernel_rfl⟩
theorem Tryz.cal21 : callable Tryz.prog 21 := ⟨Tryz.f21, Tryz.func21, by kernel_rfl, by kernel_rfl⟩
theorem Tryz.cal22 : callable Tryz.prog 22 := ⟨Tryz.f22, Tryz.func22, by kernel_rfl, by kernel_rfl⟩
theorem Tryz.cal23 : callable Tryz.prog 23 := ⟨Tryz.f23, Tryz.func23, by kernel_rfl, by kernel_rfl⟩
theorem Tryz.cal24 : callable Tryz.prog 24 := ⟨Tryz.f24, Tryz.func24, by kernel_rfl, by kernel_rfl⟩
theorem Tryz.cal25 : callable Tryz.prog 25 := ⟨Tryz.f25, Tryz.func25, by kernel_rfl, by kernel_rfl⟩
theorem Tryz.cal26 : callable Tryz.prog 26 := ⟨Tryz.f26, Tryz.func26, by kernel_rfl, by kernel_rfl⟩
theorem Tryz.cal28 : callable Tryz.prog 28 := ⟨Tryz.f28, Tryz.func28, by kernel_rfl, by kernel_rfl⟩
theorem Tryz.cal29 : callable Tryz.prog 29 := ⟨Tryz.f29, Tryz.func29, by kernel_rfl, by kernel_rfl⟩
theorem Tryz.cal30 : callable Tryz.prog 30 := ⟨Tryz.f30, Tryz.func30, by kernel_rfl, by kernel_rfl⟩
theorem Tryz.cal31 : callable Tryz.prog 31 := ⟨Tryz.f31, Tryz.func31, by kernel_rfl, by kernel_rfl⟩
theorem Tryz.cal32 : callable Tryz.prog 32 := ⟨Tryz.f32, Tryz.func32, by kernel_rfl, by kernel_rfl⟩
theorem Tryz.cal33 : callable Tryz.prog 33 := ⟨Tryz.f33, Tryz.func33, by kernel_rfl, by kernel_rfl⟩
theorem Tryz.cal34 : callable Tryz.prog 34 := ⟨Tryz.f34, Tryz.func34, by kernel_rfl, by kernel_rfl⟩
theorem Tryz.cal35 : callable Tryz.prog 35 := ⟨Tryz.f35, Tryz.func35, by kernel_rfl, by kernel_rfl⟩
theorem Tryz.cal36 : callable Tryz.prog 36 := ⟨Tryz.f36, Tryz.func36, by kernel_rfl, by kernel_rfl⟩
theorem Tryz.cal37 : callable Tryz.prog 37 := ⟨Tryz.f37, Tryz.func37, by kernel_rfl, by kernel_rfl⟩
theorem Tryz.cal38 : callable Tryz.prog 38 := ⟨Tryz.f38, Tryz.func38, by kernel_rfl, by kernel_rfl⟩
theorem Tryz.cal39 : callable Tryz.prog 39 := ⟨Tryz.f39, Tryz.func39, by kernel_rfl, by kernel_rfl⟩
theorem Tryz.cal40 : callable Tryz.prog 40 := ⟨Tryz.f40, Tryz.func40, by kernel_rfl, by kernel_rfl⟩
theorem Tryz.cal41 : callable Tryz.prog 41 := ⟨Tryz.f41, Tryz.func41, by kernel_rfl, by kernel_rfl⟩
theorem Tryz.cal42 : callable Tryz.prog 42 := ⟨Tryz.f42, Tryz.func42, by kernel_rfl, by kernel_rfl⟩
theorem Tryz.cal43 : callable Tryz.prog 43 := ⟨Tryz.f43, Tryz.func43, by kernel_rfl, by kernel_rfl⟩
theorem Tryz.cal44 : callable Tryz.prog 44 := ⟨Tryz.f44, Tryz.func44, by kernel_rfl, by kernel_rfl⟩
theorem Tryz.cal45 : callable Tryz.prog 45 := ⟨Tryz.f45, Tryz.func45, by kernel_rfl, by kernel_rfl⟩
theorem Tryz.cal46 : callable Tryz.prog 46 := ⟨Tryz.f46, Tryz.func46, by kernel_rfl, by kernel_rfl⟩
theorem Tryz.cal47 : callable Tryz.prog 47 := ⟨Tryz.f47, Tryz.func47, by kernel_rfl, by kernel_rfl⟩
theorem Tryz.cal48 : callable Tryz.prog 48 := ⟨Tryz.f48, Tryz.func48, by kernel_rfl, by kernel_rfl⟩
theorem Tryz.cal49 : callable Tryz.prog 49 := ⟨Tryz.f49, Tryz.func49, by kernel_rfl, by kernel_rfl⟩
theorem Tryz.cal50 : callable Tryz.prog 50 := ⟨Tryz.f50, Tryz.func50, by kernel_rfl, by kernel_rfl⟩
theorem Tryz.cal51 : callable Tryz.prog 51 := ⟨Tryz.f51, Tryz.func51, by kernel_rfl, by kernel_rfl⟩
theorem Tryz.cal52 : callable Tryz.prog 52 := ⟨Tryz.f52, Tryz.func52, by kernel_rfl, by kernel_rfl⟩
theorem Tryz.cal60 : callable Tryz.prog 60 := ⟨Tryz.f60, Tryz.func60, by kernel_rfl, by kernel_rfl⟩
theorem Tryz.cal61 : callable Tryz.prog 61 := ⟨Tryz.f61, Tryz.func61, by kernel_rfl, by kernel_rfl⟩
theorem Tryz.cal62 : callable Tryz.prog 62 := ⟨Tryz.f62, Tryz.func62, by kernel_rfl, by kernel_rfl⟩
theorem Tryz.cal63 : callable Tryz.prog 63 := ⟨Tryz.f63, Tryz.func63, by kernel_rfl, by kernel_rfl⟩
theorem Tryz.cal64 : callable Tryz.prog 64 := ⟨Tryz.f64, Tryz.func64, by kernel_rfl, by kernel_rfl⟩
theorem Tryz.cal65 : callable Tryz.prog 65 := ⟨Tryz.f65, Tryz.func65, by kernel_rfl, by kernel_rfl⟩
theorem Tryz.cal66 : callable Tryz.prog 66 := ⟨Tryz.f66, Tryz.func66, by kernel_rfl, by kernel_rfl⟩
theorem Tryz.cal67 : callable Tryz.prog 67 := ⟨Tryz.f67, Tryz.func67, by kernel_rfl, by kernel_rfl⟩
theorem Tryz.cal68 : callable Tryz.prog 68 := ⟨Tryz.f68, Tryz.func68, by kernel_rfl, by kernel_rfl⟩
theorem Tryz.cal69 : callable Tryz.prog 69 := ⟨Tryz.f69, Tryz.func69, by kernel_rfl, by kernel_rfl⟩
theorem Tryz.cal70 : callable Tryz.prog 70 := ⟨Tryz.f70, Tryz.func70, by kernel_rfl, by kernel_rfl⟩
theorem Tryz.cal71 : callable Tryz.prog 71 := ⟨Tryz.f71, Tryz.func71, by kernel_rfl, by kernel_rfl⟩
theorem Tryz.cal72 : callable Tryz.prog 72 := ⟨Tryz.f72, Tryz.func72, by kernel_rfl, by kernel_rfl⟩
theorem Tryz.cal73 : callable Tryz.prog 73 := ⟨Tryz.f73, Tryz.func73, by kernel_rfl, by kernel_rfl⟩
theorem Tryz.cal74 : callable Tryz.prog 74 := ⟨Tryz.f74, Tryz.func74, by kernel_rfl, by kernel_rfl⟩
theorem Tryz.cal75 : callable Tryz.prog 75 := ⟨Tryz.f75, Tryz.func75, by kernel_rfl, by kernel_rfl⟩
theorem Tryz.cal76 : callable Tryz.prog 76 := ⟨Tryz.f76, Tryz.func76, by kernel_rfl, by kernel_rfl⟩
theorem Tryz.cal77 : callable Tryz.prog 77 := ⟨Tryz.f77, Tryz.func77, by kernel_rfl, by kernel_rfl⟩
theorem Tryz.cal78 : callable Tryz.prog 78 := ⟨Tryz.f78, Tryz.func78, by kernel_rfl, by kernel_rfl⟩
theorem Tryz.cal79 : callable Tryz.prog 79 := ⟨Tryz.f79, Tryz.func79, by kernel_rfl, by kernel_rfl⟩
theorem Tryz.cal80 : callable Tryz.prog 80 := ⟨Tryz.f80, Tryz.func80, by kernel_rfl, by kernel_rfl⟩
theorem Tryz.cal81 : callable Tryz.prog 81 := ⟨Tryz.f81, Tryz.func81, by kernel_rfl, by kernel_rfl⟩
theorem Tryz.cal82 : callable Tryz.prog 82 := ⟨Tryz.f82, Tryz.func82, by kernel_rfl, by kernel_rfl⟩
theorem Tryz.cal83 : callable Tryz.prog 83 := ⟨Tryz.f83, Tryz.func83, by kernel_rfl, by kernel_rfl⟩
theorem Tryz.cal84 : callable Tryz.prog 84 := ⟨Tryz.f84, Tryz.func84, by kernel_rfl, by kernel_rfl⟩
theorem Tryz.cal85 : callable Tryz.prog 85 := ⟨Tryz.f85, Tryz.func85, by kernel_rfl, by kernel_rfl⟩
theorem Tryz.cal86 : callable Tryz.prog 86 := ⟨Tryz.f86, Tryz.func86, by kernel_rfl, by kernel_rfl⟩
theorem Tryz.cal87 : callable Tryz.prog 87 := ⟨Tryz.f87, Tryz.func87, by kernel_rfl, by kernel_rfl⟩
theorem Tryz.cal88 : callable Tryz.prog 88 := ⟨Tryz.f88, Tryz.func88, by kernel_rfl, by kernel_rfl⟩
theorem Tryz.cal89 : callable Tryz.prog 89 := ⟨Tryz.f89, Tryz.func89, by kernel_rfl, by kernel_rfl⟩
theorem Tryz.cal90 : callable Tryz.prog 90 := ⟨Tryz.f90, Tryz.func90, by kernel_rfl, by kernel_rfl⟩
theorem Tryz.cal91 : callable Tryz.prog 91 := ⟨Tryz.f91, Tryz.func91, by kernel_rfl, by kernel_rfl⟩
theorem Tryz.cal94 : callable Tryz.prog 94 := ⟨Tryz.f94, Tryz.func94, by kernel_rfl, by kernel_rfl⟩
theorem Tryz.cal99 : callable Tryz.prog 99 := ⟨Tryz.f99, Tryz.func99, by kernel_rfl, by kernel_rfl⟩
theorem Tryz.cal100 : callable Tryz.prog 100 := ⟨Tryz.f100, Tryz.func100, by kernel_rfl, by kernel_rfl⟩
theorem Tryz.cal101 : callable Tryz.prog 101 := ⟨Tryz.f101, Tryz.func101, by kernel_rfl, by kernel_rfl⟩
theorem Tryz.cal102 : callable Tryz.prog 102 := ⟨Tryz.f102, Tryz.func102, by kernel_rfl, by kernel_rfl⟩
theorem Tryz.cal103 : callable Tryz.prog 103 := ⟨Tryz.f103, Tryz.func103, by kernel_rfl, by kernel_rfl⟩
theorem Tryz.cal104 : callable Tryz.prog 104 := ⟨Tryz.f104, Tryz.func104, by kernel_rfl, by kernel_rfl⟩
theorem Tryz.cal105 : callable Tryz.prog 105 := ⟨Tryz.f105, Tryz.func105, by kernel_rfl, by kernel_rfl⟩
theorem Tryz.cal106 : callable Tryz.prog 106 := ⟨Tryz.f106, Tryz.func106, by kernel_rfl, by kernel_rfl⟩
theorem Tryz.cal107 : callable Tryz.prog 107 := ⟨Tryz.f107, Tryz.func107, by kernel_rfl, by kernel_rfl⟩
theorem Tryz.cal108 : callable Tryz.prog 108 := ⟨Tryz.f108, Tryz.func108, by kernel_rfl, by kernel_rfl⟩
theorem Tryz.cal109 : callable Tryz.prog 109 := ⟨Tryz.f109, Tryz.func109, by kernel_rfl, by kernel_rfl⟩
theorem Tryz.cal110 : callable Tryz.prog 110 := ⟨Tryz.f110, Tryz.func110, by kernel_rfl, by kernel_rfl⟩
theorem Tryz.cal111 : callable Tryz.prog 111 := ⟨Tryz.f111, Tryz.func111, by kernel_rfl, by kernel_rfl⟩
theorem Tryz.cal112 : callable Tryz.prog 112 := ⟨Tryz.f112, Tryz.func112, by kernel_rfl, by kernel_rfl⟩
theorem Tryz.cal113 : callable Tryz.prog 113 := ⟨Tryz.f113, Tryz.func113, by kernel_rfl, by kernel_rfl⟩
theorem Tryz.cal114 : callable Tryz.prog 114 := ⟨Tryz.f114, Tryz.func114, by kernel_rfl, by kernel_rfl⟩
theorem Tryz.cal115 : callable Tryz.prog 115 := ⟨Tryz.f115, Tryz.func115, by kernel_rfl, by kernel_rfl⟩
theorem Tryz.cal116 : callable Tryz.prog 116 := ⟨Tryz.f116, Tryz.func116, by kernel_rfl, by kernel_rfl⟩
theorem Tryz.cal117 : callable Tryz.prog 117 := ⟨Tryz.f117, Tryz.func117, by kernel_rfl, by kernel_rfl⟩
theorem Tryz.cal118 : callable Tryz.prog 118 := ⟨Tryz.f118, Tryz.func118, by kernel_rfl, by kernel_rfl⟩
theorem Tryz.cal119 : callable Tryz.prog 119 := ⟨Tryz.f119, Tryz.func119, by kernel_rfl, by kernel_rfl⟩
theorem Tryz.cal120 : callable Tryz.prog 120 := ⟨Tryz.f120, Tryz.func120, by kernel_rfl, by kernel_rfl⟩
theorem Tryz.cal121 : callable Tryz.prog 121 := ⟨Tryz.f121, Tryz.func121, by kernel_rfl, by kernel_rfl⟩
theorem Tryz.cal123 : callable Tryz.prog 123 := ⟨Tryz.f123, Tryz.func123, by kernel_rfl, by kernel_rfl⟩
theorem Tryz.cal124 : callable Tryz.prog 124 := ⟨Tryz.f124, Tryz.func124, by kernel_rfl, by kernel_rfl⟩
theorem Tryz.cal125 : callable Tryz.prog 125 := ⟨Tryz.f125, Tryz.func125, by kernel_rfl, by kernel_rfl⟩
theorem Tryz.cal126 : callable Tryz.prog 126 := ⟨Tryz.f126, Tryz.func126, by kernel_rfl, by kernel_rfl⟩
theorem Tryz.cal129 : callable Tryz.prog 129 := ⟨Tryz.f129, Tryz.func129, by kernel_rfl, by kernel_rfl⟩
theorem Tryz.cal130 : callable Tryz.prog 130 := ⟨Tryz.f130, Tryz.func130, by kernel_rfl, by kernel_rfl⟩
theorem Tryz.cal131 : callable Tryz.prog 131 := ⟨Tryz.f131, Tryz.func131, by kernel_rfl, by kernel_rfl⟩
theorem Tryz.cal132 : callable Tryz.prog 132 := ⟨Tryz.f132, Tryz.func132, by kernel_rfl, by kernel_rfl⟩
theorem Tryz.cal133 : callable Tryz.prog 133 := ⟨Tryz.f133, Tryz.func133, by kernel_rfl, by kernel_rfl⟩
theorem Tryz.cal134 : callable Tryz.prog 134 := ⟨Tryz.f134, Tryz.func134, by kernel_rfl, by kernel_rfl⟩
end Go.Proofs
namespace Go.Proofs
open Go.Sh Go.Sh.Plan
open Go.IntKind (wrap)
open Int (toNat)
def Tryz.S3 (w1 h2 : Int) (ed3p : OA) (ed3l ed3c : Nat) (H : Heap) (R : Kv) : Prop :=
 Tryz.C 9 #[] H fun r4 H5 => ∃ r6, r4 = .bool r6 ∧ br (!r6)
 (R (.bool false) H5)
 (Tryz.C 10 #[.int .i64 w1, .int .i64 h2, .slice ed3p ed3l ed3c] H5 fun r7 H8 => ∃ r9 r10 r11, r7 = .tuple #[.agg r9, .agg r10, .bool r11] ∧ alc H8 (.cells #[.int .i64 0, .int .i64 0, .int .i64 0, .slice none 0 0] 26) fun b12 H13 => alc H13 (.cells #[.int .i64 0, .int .i64 0, .int .i64 0, .slice none 0 0] 29) fun b14 H15 => r9.size = 4 ∧ stAt H15 ⟨b12, 0, none⟩ r9.toList fun H16 => r10.size = 4 ∧ stAt H16 ⟨b14, 0, none⟩ r10.toList fun H17 => br (!r11)
 (R (.bool true) H17)
 (∃ v18, v18.size = 4 ∧ rowIn H17 ⟨b12, 0, none⟩ v18 ∧ Tryz.C 11 #[.agg v18] H17 fun r19 H20 => ∃ r21, r19 = .agg r21 ∧ alc H20 (.cells #[.int .i64 0, .int .i64 0, .slice none 0 0] 34) fun b22 H23 => r21.size = 3 ∧ stAt H23 ⟨b22, 0, none⟩ r21.toList fun H24 => ∃ v25, v25.size = 4 ∧ rowIn H24 ⟨b14, 0, none⟩ v25 ∧ Tryz.C 12 #[.agg v25, .int .i64 0, .int .i64 0, .int .i64 w1, .int .i64 h2] H24 fun r26 H27 => ∃ r28p r28l r28c r29, r26 = .tuple #[.slice r28p r28l r28c, .int .i64 r29] ∧ ∃ P30p P30l P30c, cell H27 (.add ⟨b22, 0, none⟩ 2) = some (.slice P30p P30l P30c) ∧ ∀ X31 : Kl, (∀ (t32 : Int) H33, (br (decide (t32 < (P30l : Int)))
 (∃ a34, P30p = some a34 ∧ 0 ≤ t32 ∧ t32 < (P30l : Int) ∧ ∃ v35, cell H33 (.add a34 (toNat t32 * 1)) = some (.int .i64 v35) ∧ Tryz.C 13 #[.int .i64 v35] H33 fun r36 H37 => ∃ r38, r36 = .bool r38 ∧ br (!r38)
 (R (.bool false) H37)
 (X31 [.int .i64 (wrap .i64 (t32 + 1))] H37))
 (∃ W39, cell H33 (.add ⟨b22, 0, none⟩ 0) = some (.int .i64 W39) ∧ br (W39 == w1) (∃ H40, cell H33 (.add ⟨b22, 0, none⟩ 1) = some (.int .i64 H40) ∧ br (H40 == h2) (∃ P41p P41l P41c, cell H33 (.add ⟨b22, 0, none⟩ 2) = some (.slice P41p P41l P41c) ∧ Tryz.C 14 #[.slice P41p P41l P41c, .slice r28p r28l r28c] H33 fun r42 H43 => ∃ r44, r42 = .bool r44 ∧ br r44 (∃ v45, v45.size = 4 ∧ rowIn H43 ⟨b12, 0, none⟩ v45 ∧ ∃ v46, v46.size = 4 ∧ rowIn H43 ⟨b14, 0, none⟩ v46 ∧ Tryz.C 15 #[.agg v45, .agg v46] H43 fun r47 H48 => ∃ r49, r47 = .bool r49 ∧ R (.bool r49) H48) (R (.bool false) H43)) (R (.bool false) H33)) (R (.bool false) H33))) → X31 [.int .i64 t32] H33) → X31 [.int .i64 0] H27))
def Tryz.p3 : Plan := (tl (tg (tl (tg (tl (tl (two (tl (one (loop [(39, 3)] [0, 1, 7, 8, 10, 11, 37, 38] (tl (two (tl leaf) (two (one (tl g0)) leaf)))))) (tl leaf))))))))
theorem Tryz.s3 {w1 h2 : Int} {ed3p : OA} {ed3l ed3c : Nat} {H R} (h : Tryz.S3 w1 h2 ed3p ed3l ed3c H R) : Tryz.C 3 #[.int .i64 w1, .int .i64 h2, .slice ed3p ed3l ed3c] H R := vcs Tryz.tab_ok Tryz.mixed Tryz.func3 Tryz.cal3 Tryz.p3 h (by kernel_rfl)
def Tryz.S4 (ed1p : OA) (ed1l ed1c : Nat) (x2 y3 w4 h5 : Int) (H : Heap) (R : Kv) : Prop :=
 Tryz.C 9 #[] H fun r6 H7 => ∃ r8, r6 = .bool r8 ∧ br (!r8)
 (R (.bool false) H7)
 (Tryz.C 10 #[.int .i64 9, .int .i64 7, .slice ed1p ed1l ed1c] H7 fun r9 H10 => ∃ r11 r12 r13, r9 = .tuple #[.agg r11, .agg r12, .bool r13] ∧ alc H10 (.cells #[.int .i64 0, .int .i64 0, .int .i64 0, .slice none 0 0] 26) fun b14 H15 => alc H15 (.cells #[.int .i64 0, .int .i64 0, .int .i64 0, .slice none 0 0] 29) fun b16 H17 => r11.size = 4 ∧ stAt H17 ⟨b14, 0, none⟩ r11.toList fun H18 => r12.size = 4 ∧ stAt H18 ⟨b16, 0, none⟩ r12.toList fun H19 => br (!r13)
 (R (.bool true) H19)
 (∃ v20, v20.size = 4 ∧ rowIn H19 ⟨b14, 0, none⟩ v20 ∧ Tryz.C 16 #[.agg v20, .int .i64 x2, .int .i64 y3, .int .i64 w4, .int .i64 h5] H19 fun r21 H22 => ∃ r23p r23l r23c r24, r21 = .tuple #[.slice r23p r23l r23c, .int .i64 r24] ∧ ∃ v25, v25.size = 4 ∧ rowIn H22 ⟨b16, 0, none⟩ v25 ∧ Tryz.C 12 #[.agg v25, .int .i64 x2, .int .i64 y3, .int .i64 w4, .int .i64 h5] H22 fun r26 H27 => ∃ r28p r28l r28c r29, r26 = .tuple #[.slice r28p r28l r28c, .int .i64 r29] ∧ ∀ J30 : Kl, (∀ H31, (br (r24 != 0)
 (R (.bool true) H31)
 (∃ v32, v32.size = 4 ∧ rowIn H31 ⟨b14, 0, none⟩ v32 ∧ Tryz.C 11 #[.agg v32] H31 fun r33 H34 => ∃ r35, r33 = .agg r35 ∧ alc H34 (.cells #[.int .i64 0, .int .i64 0, .slice none 0 0] 34) fun b36 H37 => r35.size = 3 ∧ stAt H37 ⟨b36, 0, none⟩ r35.toList fun H38 => ∀ X39 : Kl, (∀ (i40 : Int) H41, (br (decide (i40 < (r23l : Int)))
 (∃ a42, r23p = some a42 ∧ 0 ≤ i40 ∧ i40 < (r23l : Int) ∧ ∃ v43, cell H41 (.add a42 (toNat i40 * 1)) = some (.int .i64 v43) ∧ ∃ P44p P44l P44c, cell H41 (.add ⟨b36, 0, none⟩ 2) = some (.slice P44p P44l P44c) ∧ w4 ≠ 0 ∧ w4 ≠ 0 ∧ ∃ a45, P44p = some a45 ∧ 0 ≤ (wrap .i64 ((wrap .i64 ((wrap .i64 ((wrap .i64 (y3 + (wrap .i64 (Int.tdiv i40 w4)))) * 9)) + x2)) + (Int.tmod i40 w4))) ∧ (wrap .i64 ((wrap .i64 ((wrap .i64 ((wrap .i64 (y3 + (wrap .i64 (Int.tdiv i40 w4)))) * 9)) + x2)) + (Int.tmod i40 w4))) < (P44l : Int) ∧ ∃ v46, cell H41 (.add a45 (toNat (wrap .i64 ((wrap .i64 ((wrap .i64 ((wrap .i64 (y3 + (wrap .i64 (Int.tdiv i40 w4)))) * 9)) + x2)) + (Int.tmod i40 w4))) * 1)) = some (.int .i64 v46) ∧ br (v46 != v43)
 (R (.bool false) H41)
 (X39 [.int .i64 (wrap .i64 (i40 + 1))] H41))
 (R (.bool true) H41)) → X39 [.int .i64 i40] H41) → X39 [.int .i64 0] H38)) → J30 [] H31) →
 br (r24 != r29) (R (.bool false) H27) (Tryz.C 14 #[.slice r23p r23l r23c, .slice r28p r28l r28c] H27 fun r47 H48 => ∃ r49, r47 = .bool r49 ∧ br (!r49)
 (R (.bool false) H48)
 (J30 [] H48))))
def Tryz.p4 : Plan := (tl (tg (tl (tg (tl (tl (two (join [] [1, 2, 3, 11, 14, 15] g0) (tg (tl (two (tl (one (loop [(64, 3)] [1, 2, 3, 18, 62, 63] (tl (two (tl leaf) (two (one (tl g0)) leaf)))))) (tl leaf)))))))))))
theorem Tryz.s4 {ed1p : OA} {ed1l ed1c : Nat} {x2 y3 w4 h5 : Int} {H R} (h : Tryz.S4 ed1p ed1l ed1c x2 y3 w4 h5 H R) : Tryz.C 4 #[.slice ed1p ed1l ed1c, .int .i64 x2, .int .i64 y3, .int .i64 w4, .int .i64 h5] H R := vcs Tryz.tab_ok Tryz.mixed Tryz.func4 Tryz.cal4 Tryz.p4 h (by kernel_rfl)
def Tryz.p5 : Plan := (tl (tg (tl (two (join [] [1, 5] g0) (tl (tg (tl (two (tl (one (loop [(9, 32), (37, 3)] [5, 35, 36] (tl (two (tl leaf) (two (one (tl leaf)) leaf)))))) (tl (tl leaf))))))))))
end Go.Proofs
namespace Go.Proofs
open Go.Sh Go.Sh.Plan
open Go.IntKind (wrap)
open Int (toNat)
def Tryz.S7 (ed1p : OA) (ed1l ed1c : Nat) (id2 : Int) (H : Heap) (R : Kv) : Prop :=
 Tryz.C 9 #[] H fun r3 H4 => ∃ r5, r3 = .bool r5 ∧ br (!r5)
 (R (.bool false) H4)
 (Tryz.C 10 #[.int .i64 8, .int .i64 8, .slice ed1p ed1l ed1c] H4 fun r6 H7 => ∃ r8 r9 r10, r6 = .tuple #[.agg r8, .agg r9, .bool r10] ∧ alc H7 (.cells #[.int .i64 0, .int .i64 0, .int .i64 0, .slice none 0 0] 26) fun b11 H12 => alc H12 (.cells #[.int .i64 0, .int .i64 0, .int .i64 0, .slice none 0 0] 29) fun b13 H14 => r8.size = 4 ∧ stAt H14 ⟨b11, 0, none⟩ r8.toList fun H15 => r9.size = 4 ∧ stAt H15 ⟨b13, 0, none⟩ r9.toList fun H16 => br (!r10)
 (R (.bool true) H16)
 (∃ v17, v17.size = 4 ∧ rowIn H16 ⟨b11, 0, none⟩ v17 ∧ Tryz.C 17 #[.agg v17, .agg #[.int .i64 6, .int .i64 id2, .int .i64 0, .int .i64 0, .int .i64 1, .int .i64 0, .int .i64 0, .int .i64 0, .int .i64 0, .int .i64 0, .slice none 0 0, .slice none 0 0, .int .i64 0, .int .i64 0, .int .i64 0, .int .i64 0, .int .i64 0, .int .i64 0, .slice none 0 0]] H16 fun r18 H19 => ∃ r20 r21, r18 = .tuple #[.agg r20, .int .i64 r21] ∧ alc H19 (.cells #[.int .i64 0, .int .i64 0, .int .i64 0, .slice none 0 0] 26) fun b22 H23 => r20.size = 4 ∧ stAt H23 ⟨b22, 0, none⟩ r20.toList fun H24 => ∃ v25, v25.size = 4 ∧ rowIn H24 ⟨b11, 0, none⟩ v25 ∧ Tryz.C 19 #[.agg v25, .int .i64 id2] H24 fun r26 H27 => ∃ r28 r29, r26 = .tuple #[.agg r28, .bool r29] ∧ alc H27 (.cells #[.int .i64 0, .int .i64 0, .bool false, .int .i64 0, .int .i64 0, .int .i64 0, .int .i64 0, .slice none 0 0, .slice none 0 0, .int .i64 0, .int .i64 0, .int .i64 0, .int .i64 0, .int .i64 0, .int .i64 0, .bool false, .int .i64 0, .slice none 0 0, .slice none 0 0] 58) fun b30 H31 => r28.size = 19 ∧ stAt H31 ⟨b30, 0, none⟩ r28.toList fun H32 => br (r21 != 0)
 (R (.bool (!r29)) H32)
 (∃ v33, v33.size = 4 ∧ rowIn H32 ⟨b11, 0, none⟩ v33 ∧ ∃ Mo34, cell H32 (.add ⟨b30, 0, none⟩ 4) = some (.int .i64 Mo34) ∧ Tryz.C 17 #[.agg v33, .agg #[.int .i64 5, .int .i64 id2, .int .i64 0, .int .i64 0, .int .i64 0, .int .i64 Mo34, .int .i64 0, .int .i64 0, .int .i64 0, .int .i64 0, .slice none 0 0, .slice none 0 0, .int .i64 0, .int .i64 0, .int .i64 0, .int .i64 0, .int .i64 0, .int .i64 0, .slice none 0 0]] H32 fun r35 H36 => ∃ r37 r38, r35 = .tuple #[.agg r37, .int .i64 r38] ∧ alc H36 (.cells #[.int .i64 0, .int .i64 0, .int .i64 0, .slice none 0 0] 26) fun b39 H40 => r37.size = 4 ∧ stAt H40 ⟨b39, 0, none⟩ r37.toList fun H41 => ∃ v42, v42.size = 4 ∧ rowIn H41 ⟨b11, 0, none⟩ v42 ∧ Tryz.C 17 #[.agg v42, .agg #[.int .i64 2, .int .i64 id2, .int .i64 0, .int .i64 0, .int .i64 0, .int .i64 0, .int .i64 0, .int .i64 0, .int .i64 0, .int .i64 0, .slice none 0 0, .slice none 0 0, .int .i64 0, .int .i64 0, .int .i64 0, .int .i64 0, .int .i64 0, .int .i64 0, .slice none 0 0]] H41 fun r43 H44 => ∃ r45 r46, r43 = .tuple #[.agg r45, .int .i64 r46] ∧ alc H44 (.cells #[.int .i64 0, .int .i64 0, .int .i64 0, .slice none 0 0] 26) fun b47 H48 => r45.size = 4 ∧ stAt H48 ⟨b47, 0, none⟩ r45.toList fun H49 => ∀ J50 : Kl, (∀ (x51 y52 z53 : Addr) H54, (br (r38 == 0) (br (r46 == 0) (∃ P55p P55l P55c, cell H54 (Addr.add x51 2) = some (.slice P55p P55l P55c) ∧ ∃ P56p P56l P56c, cell H54 (.add y52 2) = some (.slice P56p P56l P56c) ∧ Tryz.C 14 #[.slice P55p P55l P55c, .slice P56p P56l P56c] H54 fun r57 H58 => ∃ r59, r57 = .bool r59 ∧ br r59 (∃ P60p P60l P60c, cell H58 (Addr.add x51 2) = some (.slice P60p P60l P60c) ∧ ∃ P61p P61l P61c, cell H58 (.add z53 2) = some (.slice P61p P61l P61c) ∧ Tryz.C 14 #[.slice P60p P60l P60c, .slice P61p P61l P61c] H58 fun r62 H63 => ∃ r64, r62 = .bool r64 ∧ R (.bool r64) H63) (R (.bool false) H58)) (R (.bool false) H54)) (R (.bool false) H54)) → J50 [.pointer (some x51), .pointer (some y52), .pointer (some z53)] H54) →
 ∃ v65, v65.size = 4 ∧ rowIn H49 ⟨b22, 0, none⟩ v65 ∧ ∃ v66, v66.size = 4 ∧ rowIn H49 ⟨b39, 0, none⟩ v66 ∧ ∃ v67, v67.size = 4 ∧ rowIn H49 ⟨b47, 0, none⟩ v67 ∧ (Tryz.C 11 #[.agg v65] H49 fun r68 H69 => ∃ r70, r68 = .agg r70 ∧ (Ext H49 H69 ∨ (∃ v735, v735.size = 4 ∧ rowIn H69 ⟨b47, 0, none⟩ v735 ∧ Value.agg v735 = .agg v67) ∧ (∃ v736, v736.size = 4 ∧ rowIn H69 ⟨b39, 0, none⟩ v736 ∧ Value.agg v736 = .agg v66)) ∧ (Tryz.C 11 #[.agg v66] H69 fun r71 H72 => ∃ r73, r71 = .agg r73 ∧ (Ext H69 H72 ∨ (∃ v305, v305.size = 4 ∧ rowIn H72 ⟨b47, 0, none⟩ v305 ∧ Value.agg v305 = .agg v67)) ∧ (Tryz.C 11 #[.agg v67] H72 fun r74 H75 => ∃ r76, r74 = .agg r76 ∧ (alc H75 (.cells #[.int .i64 0, .int .i64 0, .slice none 0 0] 34) fun b77 H78 => (alc H78 (.cells #[.int .i64 0, .int .i64 0, .slice none 0 0] 34) fun b79 H80 => alc H80 (.cells #[.int .i64 0, .int .i64 0, .slice none 0 0] 34) fun b81 H82 => r70.size = 3 ∧ stAt H82 ⟨b77, 0, none⟩ r70.toList fun H83 => r73.size = 3 ∧ stAt H83 ⟨b79, 0, none⟩ r73.toList fun H84 => r76.size = 3 ∧ stAt H84 ⟨b81, 0, none⟩ r76.toList fun H85 => J50 [.pointer (some ⟨b77, 0, none⟩), .pointer (some ⟨b79, 0, none⟩), .pointer (some ⟨b81, 0, none⟩)] H85) ∧ (alc H78 (.cells #[.int .i64 0, .int .i64 0, .slice none 0 0] 34) fun b86 H87 => alc H87 (.cells #[.int .i64 0, .int .i64 0, .slice none 0 0] 34) fun b88 H89 => r70.size = 3 ∧ stAt H89 ⟨b77, 0, none⟩ r70.toList fun H90 => r73.size = 3 ∧ stAt H90 ⟨b88, 0, none⟩ r73.toList fun H91 => r76.size = 3 ∧ stAt H91 ⟨b86, 0, none⟩ r76.toList fun H92 => J50 [.pointer (some ⟨b77, 0, none⟩), .pointer (some ⟨b88, 0, none⟩), .pointer (some ⟨b86, 0, none⟩)] H92)) ∧ (alc H75 (.cells #[.int .i64 0, .int .i64 0, .slice none 0 0] 34) fun b93 H94 => (alc H94 (.cells #[.int .i64 0, .int .i64 0, .slice none 0 0] 34) fun b95 H96 => alc H96 (.cells #[.int .i64 0, .int .i64 0, .slice none 0 0] 34) fun b97 H98 => r70.size = 3 ∧ stAt H98 ⟨b95, 0, none⟩ r70.toList fun H99 => r73.size = 3 ∧ stAt H99 ⟨b93, 0, none⟩ r73.toList fun H100 => r76.size = 3 ∧ stAt H100 ⟨b97, 0, none⟩ r76.toList fun H101 => J50 [.pointer (some ⟨b95, 0, none⟩), .pointer (some ⟨b93, 0, none⟩), .pointer (some ⟨b97, 0, none⟩)] H101) ∧ (alc H94 (.cells #[.int .i64 0, .int .i64 0, .slice none 0 0] 34) fun b102 H103 => alc H103 (.cells #[.int .i64 0, .int .i64 0, .slice none 0 0] 34) fun b104 H105 => r70.size = 3 ∧ stAt H105 ⟨b104, 0, none⟩ r70.toList fun H106 => r73.size = 3 ∧ stAt H106 ⟨b93, 0, none⟩ r73.toList fun H107 => r76.size = 3 ∧ stAt H107 ⟨b102, 0, none⟩ r76.toList fun H108 => J50 [.pointer (some ⟨b104, 0, none⟩), .pointer (some ⟨b93, 0, none⟩), .pointer (some ⟨b102, 0, none⟩)] H108)) ∧ (alc H75 (.cells #[.int .i64 0, .int .i64 0, .slice none 0 0] 34) fun b109 H110 => (alc H110 (.cells #[.int .i64 0, .int .i64 0, .slice none 0 0] 34) fun b111 H112 => alc H112 (.cells #[.int .i64 0, .int .i64 0, .slice none 0 0] 34) fun b113 H114 => r70.size = 3 ∧ stAt H114 ⟨b111, 0, none⟩ r70.toList fun H115 => r73.size = 3 ∧ stAt H115 ⟨b113, 0, none⟩ r73.toList fun H116 => r76.size = 3 ∧ stAt H116 ⟨b109, 0, none⟩ r76.toList fun H117 => J50 [.pointer (some ⟨b111, 0, none⟩), .pointer (some ⟨b113, 0, none⟩), .pointer (some ⟨b109, 0, none⟩)] H117) ∧ (alc H110 (.cells #[.int .i64 0, .int .i64 0, .slice none 0 0] 34) fun b118 H119 => alc H119 (.cells #[.int .i64 0, .int .i64 0, .slice none 0 0] 34) fun b120 H121 => r70.size = 3 ∧ stAt H121 ⟨b120, 0, none⟩ r70.toList fun H122 => r73.size = 3 ∧ stAt H122 ⟨b118, 0, none⟩ r73.toList fun H123 => r76.size = 3 ∧ stAt H123 ⟨b109, 0, none⟩ r76.toList fun H124 => J50 [.pointer (some ⟨b120, 0, none⟩), .pointer (some ⟨b118, 0, none⟩), .pointer (some ⟨b109, 0, none⟩)] H124))) ∧ (alc H72 (.cells #[.int .i64 0, .int .i64 0, .slice none 0 0] 34) fun b125 H126 => (Ext H72 H126 ∨ (∃ v184, v184.size = 4 ∧ rowIn H126 ⟨b47, 0, none⟩ v184 ∧ Value.agg v184 = .agg v67)) ∧ (Tryz.C 11 #[.agg v67] H126 fun r127 H128 => ∃ r129, r127 = .agg r129 ∧ (alc H128 (.cells #[.int .i64 0, .int .i64 0, .slice none 0 0] 34) fun b130 H131 => alc H131 (.cells #[.int .i64 0, .int .i64 0, .slice none 0 0] 34) fun b132 H133 => r70.size = 3 ∧ stAt H133 ⟨b125, 0, none⟩ r70.toList fun H134 => r73.size = 3 ∧ stAt H134 ⟨b130, 0, none⟩ r73.toList fun H135 => r129.size = 3 ∧ stAt H135 ⟨b132, 0, none⟩ r129.toList fun H136 => J50 [.pointer (some ⟨b125, 0, none⟩), .pointer (some ⟨b130, 0, none⟩), .pointer (some ⟨b132, 0, none⟩)] H136) ∧ (alc H128 (.cells #[.int .i64 0, .int .i64 0, .slice none 0 0] 34) fun b137 H138 => alc H138 (.cells #[.int .i64 0, .int .i64 0, .slice none 0 0] 34) fun b139 H140 => r70.size = 3 ∧ stAt H140 ⟨b125, 0, none⟩ r70.toList fun H141 => r73.size = 3 ∧ stAt H141 ⟨b139, 0, none⟩ r73.toList fun H142 => r129.size = 3 ∧ stAt H142 ⟨b137, 0, none⟩ r129.toList fun H143 => J50 [.pointer (some ⟨b125, 0, none⟩), .pointer (some ⟨b139, 0, none⟩), .pointer (some ⟨b137, 0, none⟩)] H143)) ∧ (alc H126 (.cells #[.int .i64 0, .int .i64 0, .slice none 0 0] 34) fun b144 H145 => (Ext H126 H145 ∨ (∃ v163, v163.size = 4 ∧ rowIn H145 ⟨b47, 0, none⟩ v163 ∧ Value.agg v163 = .agg v67)) ∧ (Tryz.C 11 #[.agg v67] H145 fun r146 H147 => ∃ r148, r146 = .agg r148 ∧ alc H147 (.cells #[.int .i64 0, .int .i64 0, .slice none 0 0] 34) fun b149 H150 => r70.size = 3 ∧ stAt H150 ⟨b125, 0, none⟩ r70.toList fun H151 => r73.size = 3 ∧ stAt H151 ⟨b144, 0, none⟩ r73.toList fun H152 => r148.size = 3 ∧ stAt H152 ⟨b149, 0, none⟩ r148.toList fun H153 => J50 [.pointer (some ⟨b125, 0, none⟩), .pointer (some ⟨b144, 0, none⟩), .pointer (some ⟨b149, 0, none⟩)] H153) ∧ (alc H145 (.cells #[.int .i64 0, .int .i64 0, .slice none 0 0] 34) fun b154 H155 => (Ext H145 H155 ∨ (∃ v162, v162.size = 4 ∧ rowIn H155 ⟨b47, 0, none⟩ v162 ∧ Value.agg v162 = .agg v67)) ∧ Tryz.C 11 #[.agg v67] H155 fun r156 H157 => ∃ r158, r156 = .agg r158 ∧ r70.size = 3 ∧ stAt H157 ⟨b125, 0, none⟩ r70.toList fun H159 => r73.size = 3 ∧ stAt H159 ⟨b144, 0, none⟩ r73.toList fun H160 => r158.size = 3 ∧ stAt H160 ⟨b154, 0, none⟩ r158.toList fun H161 => J50 [.pointer (some ⟨b125, 0, none⟩), .pointer (some ⟨b144, 0, none⟩), .pointer (some ⟨b154, 0, none⟩)] H161)) ∧ (alc H126 (.cells #[.int .i64 0, .int .i64 0, .slice none 0 0] 34) fun b164 H165 => (Ext H126 H165 ∨ (∃ v183, v183.size = 4 ∧ rowIn H165 ⟨b47, 0, none⟩ v183 ∧ Value.agg v183 = .agg v67)) ∧ (Tryz.C 11 #[.agg v67] H165 fun r166 H167 => ∃ r168, r166 = .agg r168 ∧ alc H167 (.cells #[.int .i64 0, .int .i64 0, .slice none 0 0] 34) fun b169 H170 => r70.size = 3 ∧ stAt H170 ⟨b125, 0, none⟩ r70.toList fun H171 => r73.size = 3 ∧ stAt H171 ⟨b169, 0, none⟩ r73.toList fun H172 => r168.size = 3 ∧ stAt H172 ⟨b164, 0, none⟩ r168.toList fun H173 => J50 [.pointer (some ⟨b125, 0, none⟩), .pointer (some ⟨b169, 0, none⟩), .pointer (some ⟨b164, 0, none⟩)] H173) ∧ (alc H165 (.cells #[.int .i64 0, .int .i64 0, .slice none 0 0] 34) fun b174 H175 => (Ext H165 H175 ∨ (∃ v182, v182.size = 4 ∧ rowIn H175 ⟨b47, 0, none⟩ v182 ∧ Value.agg v182 = .agg v67)) ∧ Tryz.C 11 #[.agg v67] H175 fun r176 H177 => ∃ r178, r176 = .agg r178 ∧ r70.size = 3 ∧ stAt H177 ⟨b125, 0, none⟩ r70.toList fun H179 => r73.size = 3 ∧ stAt H179 ⟨b174, 0, none⟩ r73.toList fun H180 => r178.size = 3 ∧ stAt H180 ⟨b164, 0, none⟩ r178.toList fun H181 => J50 [.pointer (some ⟨b125, 0, none⟩), .pointer (some ⟨b174, 0, none⟩), .pointer (some ⟨b164, 0, none⟩)] H181))) ∧ (alc H72 (.cells #[.int .i64 0, .int .i64 0, .slice none 0 0] 34) fun b185 H186 => (Ext H72 H186 ∨ (∃ v244, v244.size = 4 ∧ rowIn H186 ⟨b47, 0, none⟩ v244 ∧ Value.agg v244 = .agg v67)) ∧ (Tryz.C 11 #[.agg v67] H186 fun r187 H188 => ∃ r189, r187 = .agg r189 ∧ (alc H188 (.cells #[.int .i64 0, .int .i64 0, .slice none 0 0] 34) fun b190 H191 => alc H191 (.cells #[.int .i64 0, .int .i64 0, .slice none 0 0] 34) fun b192 H193 => r70.size = 3 ∧ stAt H193 ⟨b190, 0, none⟩ r70.toList fun H194 => r73.size = 3 ∧ stAt H194 ⟨b185, 0, none⟩ r73.toList fun H195 => r189.size = 3 ∧ stAt H195 ⟨b192, 0, none⟩ r189.toList fun H196 => J50 [.pointer (some ⟨b190, 0, none⟩), .pointer (some ⟨b185, 0, none⟩), .pointer (some ⟨b192, 0, none⟩)] H196) ∧ (alc H188 (.cells #[.int .i64 0, .int .i64 0, .slice none 0 0] 34) fun b197 H198 => alc H198 (.cells #[.int .i64 0, .int .i64 0, .slice none 0 0] 34) fun b199 H200 => r70.size = 3 ∧ stAt H200 ⟨b199, 0, none⟩ r70.toList fun H201 => r73.size = 3 ∧ stAt H201 ⟨b185, 0, none⟩ r73.toList fun H202 => r189.size = 3 ∧ stAt H202 ⟨b197, 0, none⟩ r189.toList fun H203 => J50 [.pointer (some ⟨b199, 0, none⟩), .pointer (some ⟨b185, 0, none⟩), .pointer (some ⟨b197, 0, none⟩)] H203)) ∧ (alc H186 (.cells #[.int .i64 0, .int .i64 0, .slice none 0 0] 34) fun b204 H205 => (Ext H186 H205 ∨ (∃ v223, v223.size = 4 ∧ rowIn H205 ⟨b47, 0, none⟩ v223 ∧ Value.agg v223 = .agg v67)) ∧ (Tryz.C 11 #[.agg v67] H205 fun r206 H207 => ∃ r208, r206 = .agg r208 ∧ alc H207 (.cells #[.int .i64 0, .int .i64 0, .slice none 0 0] 34) fun b209 H210 => r70.size = 3 ∧ stAt H210 ⟨b204, 0, none⟩ r70.toList fun H211 => r73.size = 3 ∧ stAt H211 ⟨b185, 0, none⟩ r73.toList fun H212 => r208.size = 3 ∧ stAt H212 ⟨b209, 0, none⟩ r208.toList fun H213 => J50 [.pointer (some ⟨b204, 0, none⟩), .pointer (some ⟨b185, 0, none⟩), .pointer (some ⟨b209, 0, none⟩)] H213) ∧ (alc H205 (.cells #[.int .i64 0, .int .i64 0, .slice none 0 0] 34) fun b214 H215 => (Ext H205 H215 ∨ (∃ v222, v222.size = 4 ∧ rowIn H215 ⟨b47, 0, none⟩ v222 ∧ Value.agg v222 = .agg v67)) ∧ Tryz.C 11 #[.agg v67] H215 fun r216 H217 => ∃ r218, r216 = .agg r218 ∧ r70.size = 3 ∧ stAt H217 ⟨b204, 0, none⟩ r70.toList fun H219 => r73.size = 3 ∧ stAt H219 ⟨b185, 0, none⟩ r73.toList fun H220 => r218.size = 3 ∧ stAt H220 ⟨b214, 0, none⟩ r218.toList fun H221 => J50 [.pointer (some ⟨b204, 0, none⟩), .pointer (some ⟨b185, 0, none⟩), .pointer (some ⟨b214, 0, none⟩)] H221)) ∧ (alc H186 (.cells #[.int .i64 0, .int .i64 0, .slice none 0 0] 34) fun b224 H225 => (Ext H186 H225 ∨ (∃ v243, v243.size = 4 ∧ rowIn H225 ⟨b47, 0, none⟩ v243 ∧ Value.agg v243 = .agg v67)) ∧ (Tryz.C 11 #[.agg v67] H225 fun r226 H227 => ∃ r228, r226 = .agg r228 ∧ alc H227 (.cells #[.int .i64 0, .int .i64 0, .slice none 0 0] 34) fun b229 H230 => r70.size = 3 ∧ stAt H230 ⟨b229, 0, none⟩ r70.toList fun H231 => r73.size = 3 ∧ stAt H231 ⟨b185, 0, none⟩ r73.toList fun H232 => r228.size = 3 ∧ stAt H232 ⟨b224, 0, none⟩ r228.toList fun H233 => J50 [.pointer (some ⟨b229, 0, none⟩), .pointer (some ⟨b185, 0, none⟩), .pointer (some ⟨b224, 0, none⟩)] H233) ∧ (alc H225 (.cells #[.int .i64 0, .int .i64 0, .slice none 0 0] 34) fun b234 H235 => (Ext H225 H235 ∨ (∃ v242, v242.size = 4 ∧ rowIn H235 ⟨b47, 0, none⟩ v242 ∧ Value.agg v242 = .agg v67)) ∧ Tryz.C 11 #[.agg v67] H235 fun r236 H237 => ∃ r238, r236 = .agg r238 ∧ r70.size = 3 ∧ stAt H237 ⟨b234, 0, none⟩ r70.toList fun H239 => r73.size = 3 ∧ stAt H239 ⟨b185, 0, none⟩ r73.toList fun H240 => r238.size = 3 ∧ stAt H240 ⟨b224, 0, none⟩ r238.toList fun H241 => J50 [.pointer (some ⟨b234, 0, none⟩), .pointer (some ⟨b185, 0, none⟩), .pointer (some ⟨b224, 0, none⟩)] H241))) ∧ (alc H72 (.cells #[.int .i64 0, .int .i64 0, .slice none 0 0] 34) fun b245 H246 => (Ext H72 H246 ∨ (∃ v304, v304.size = 4 ∧ rowIn H246 ⟨b47, 0, none⟩ v304 ∧ Value.agg v304 = .agg v67)) ∧ (Tryz.C 11 #[.agg v67] H246 fun r247 H248 => ∃ r249, r247 = .agg r249 ∧ (alc H248 (.cells #[.int .i64 0, .int .i64 0, .slice none 0 0] 34) fun b250 H251 => alc H251 (.cells #[.int .i64 0, .int .i64 0, .slice none 0 0] 34) fun b252 H253 => r70.size = 3 ∧ stAt H253 ⟨b250, 0, none⟩ r70.toList fun H254 => r73.size = 3 ∧ stAt H254 ⟨b252, 0, none⟩ r73.toList fun H255 => r249.size = 3 ∧ stAt H255 ⟨b245, 0, none⟩ r249.toList fun H256 => J50 [.pointer (some ⟨b250, 0, none⟩), .pointer (some ⟨b252, 0, none⟩), .pointer (some ⟨b245, 0, none⟩)] H256) ∧ (alc H248 (.cells #[.int .i64 0, .int .i64 0, .slice none 0 0] 34) fun b257 H258 => alc H258 (.cells #[.int .i64 0, .int .i64 0, .slice none 0 0] 34) fun b259 H260 => r70.size = 3 ∧ stAt H260 ⟨b259, 0, none⟩ r70.toList fun H261 => r73.size = 3 ∧ stAt H261 ⟨b257, 0, none⟩ r73.toList fun H262 => r249.size = 3 ∧ stAt H262 ⟨b245, 0, none⟩ r249.toList fun H263 => J50 [.pointer (some ⟨b259, 0, none⟩), .pointer (some ⟨b257, 0, none⟩), .pointer (some ⟨b245, 0, none⟩)] H263)) ∧ (alc H246 (.cells #[.int .i64 0, .int .i64 0, .slice none 0 0] 34) fun b264 H265 => (Ext H246 H265 ∨ (∃ v283, v283.size = 4 ∧ rowIn H265 ⟨b47, 0, none⟩ v283 ∧ Value.agg v283 = .agg v67)) ∧ (Tryz.C 11 #[.agg v67] H265 fun r266 H267 => ∃ r268, r266 = .agg r268 ∧ alc H267 (.cells #[.int .i64 0, .int .i64 0, .slice none 0 0] 34) fun b269 H270 => r70.size = 3 ∧ stAt H270 ⟨b264, 0, none⟩ r70.toList fun H271 => r73.size = 3 ∧ stAt H271 ⟨b269, 0, none⟩ r73.toList fun H272 => r268.size = 3 ∧ stAt H272 ⟨b245, 0, none⟩ r268.toList fun H273 => J50 [.pointer (some ⟨b264, 0, none⟩), .pointer (some ⟨b269, 0, none⟩), .pointer (some ⟨b245, 0, none⟩)] H273) ∧ (alc H265 (.cells #[.int .i64 0, .int .i64 0, .slice none 0 0] 34) fun b274 H275 => (Ext H265 H275 ∨ (∃ v282, v282.size = 4 ∧ rowIn H275 ⟨b47, 0, none⟩ v282 ∧ Value.agg v282 = .agg v67)) ∧ Tryz.C 11 #[.agg v67] H275 fun r276 H277 => ∃ r278, r276 = .agg r278 ∧ r70.size = 3 ∧ stAt H277 ⟨b264, 0, none⟩ r70.toList fun H279 => r73.size = 3 ∧ stAt H279 ⟨b274, 0, none⟩ r73.toList fun H280 => r278.size = 3 ∧ stAt H280 ⟨b245, 0, none⟩ r278.toList fun H281 => J50 [.pointer (some ⟨b264, 0, none⟩), .pointer (some ⟨b274, 0, none⟩), .pointer (some ⟨b245, 0, none⟩)] H281)) ∧ (alc H246 (.cells #[.int .i64 0, .int .i64 0, .slice none 0 0] 34) fun b284 H285 => (Ext H246 H285 ∨ (∃ v303, v303.size = 4 ∧ rowIn H285 ⟨b47, 0, none⟩ v303 ∧ Value.agg v303 = .agg v67)) ∧ (Tryz.C 11 #[.agg v67] H285 fun r286 H287 => ∃ r288, r286 = .agg r288 ∧ alc H287 (.cells #[.int .i64 0, .int .i64 0, .slice none 0 0] 34) fun b289 H290 => r70.size = 3 ∧ stAt H290 ⟨b289, 0, none⟩ r70.toList fun H291 => r73.size = 3 ∧ stAt H291 ⟨b284, 0, none⟩ r73.toList fun H292 => r288.size = 3 ∧ stAt H292 ⟨b245, 0, none⟩ r288.toList fun H293 => J50 [.pointer (some ⟨b289, 0, none⟩), .pointer (some ⟨b284, 0, none⟩), .pointer (some ⟨b245, 0, none⟩)] H293) ∧ (alc H285 (.cells #[.int .i64 0, .int .i64 0, .slice none 0 0] 34) fun b294 H295 => (Ext H285 H295 ∨ (∃ v302, v302.size = 4 ∧ rowIn H295 ⟨b47, 0, none⟩ v302 ∧ Value.agg v302 = .agg v67)) ∧ Tryz.C 11 #[.agg v67] H295 fun r296 H297 => ∃ r298, r296 = .agg r298 ∧ r70.size = 3 ∧ stAt H297 ⟨b294, 0, none⟩ r70.toList fun H299 => r73.size = 3 ∧ stAt H299 ⟨b284, 0, none⟩ r73.toList fun H300 => r298.size = 3 ∧ stAt H300 ⟨b245, 0, none⟩ r298.toList fun H301 => J50 [.pointer (some ⟨b294, 0, none⟩), .pointer (some ⟨b284, 0, none⟩), .pointer (some ⟨b245, 0, none⟩)] H301)))) ∧ (alc H69 (.cells #[.int .i64 0, .int .i64 0, .slice none 0 0] 34) fun b306 H307 => (Ext H69 H307 ∨ (∃ v447, v447.size = 4 ∧ rowIn H307 ⟨b47, 0, none⟩ v447 ∧ Value.agg v447 = .agg v67) ∧ (∃ v448, v448.size = 4 ∧ rowIn H307 ⟨b39, 0, none⟩ v448 ∧ Value.agg v448 = .agg v66)) ∧ (Tryz.C 11 #[.agg v66] H307 fun r308 H309 => ∃ r310, r308 = .agg r310 ∧ (Ext H307 H309 ∨ (∃ v368, v368.size = 4 ∧ rowIn H309 ⟨b47, 0, none⟩ v368 ∧ Value.agg v368 = .agg v67)) ∧ (Tryz.C 11 #[.agg v67] H309 fun r311 H312 => ∃ r313, r311 = .agg r313 ∧ (alc H312 (.cells #[.int .i64 0, .int .i64 0, .slice none 0 0] 34) fun b314 H315 => alc H315 (.cells #[.int .i64 0, .int .i64 0, .slice none 0 0] 34) fun b316 H317 => r70.size = 3 ∧ stAt H317 ⟨b306, 0, none⟩ r70.toList fun H318 => r310.size = 3 ∧ stAt H318 ⟨b314, 0, none⟩ r310.toList fun H319 => r313.size = 3 ∧ stAt H319 ⟨b316, 0, none⟩ r313.toList fun H320 => J50 [.pointer (some ⟨b306, 0, none⟩), .pointer (some ⟨b314, 0, none⟩), .pointer (some ⟨b316, 0, none⟩)] H320) ∧ (alc H312 (.cells #[.int .i64 0, .int .i64 0, .slice none 0 0] 34) fun b321 H322 => alc H322 (.cells #[.int .i64 0, .int .i64 0, .slice none 0 0] 34) fun b323 H324 => r70.size = 3 ∧ stAt H324 ⟨b306, 0, none⟩ r70.toList fun H325 => r310.size = 3 ∧ stAt H325 ⟨b323, 0, none⟩ r310.toList fun H326 => r313.size = 3 ∧ stAt H326 ⟨b321, 0, none⟩ r313.toList fun H327 => J50 [.pointer (some ⟨b306, 0, none⟩), .pointer (some ⟨b323, 0, none⟩), .pointer (some ⟨b321, 0, none⟩)] H327)) ∧ (alc H309 (.cells #[.int .i64 0, .int .i64 0, .slice none 0 0] 34) fun b328 H329 => (Ext H309 H329 ∨ (∃ v347, v347.size = 4 ∧ rowIn H329 ⟨b47, 0, none⟩ v347 ∧ Value.agg v347 = .agg v67)) ∧ (Tryz.C 11 #[.agg v67] H329 fun r330 H331 => ∃ r332, r330 = .agg r332 ∧ alc H331 (.cells #[.int .i64 0, .int .i64 0, .slice none 0 0] 34) fun b333 H334 => r70.size = 3 ∧ stAt H334 ⟨b306, 0, none⟩ r70.toList fun H335 => r310.size = 3 ∧ stAt H335 ⟨b328, 0, none⟩ r310.toList fun H336 => r332.size = 3 ∧ stAt H336 ⟨b333, 0, none⟩ r332.toList fun H337 => J50 [.pointer (some ⟨b306, 0, none⟩), .pointer (some ⟨b328, 0, none⟩), .pointer (some ⟨b333, 0, none⟩)] H337) ∧ (alc H329 (.cells #[.int .i64 0, .int .i64 0, .slice none 0 0] 34) fun b338 H339 => (Ext H329 H339 ∨ (∃ v346, v346.size = 4 ∧ rowIn H339 ⟨b47, 0, none⟩ v346 ∧ Value.agg v346 = .agg v67)) ∧ Tryz.C 11 #[.agg v67] H339 fun r340 H341 => ∃ r342, r340 = .agg r342 ∧ r70.size = 3 ∧ stAt H341 ⟨b306, 0, none⟩ r70.toList fun H343 => r310.size = 3 ∧ stAt H343 ⟨b328, 0, none⟩ r310.toList fun H344 => r342.size = 3 ∧ stAt H344 ⟨b338, 0, none⟩ r342.toList fun H345 => J50 [.pointer (some ⟨b306, 0, none⟩), .pointer (some ⟨b328, 0, none⟩), .pointer (some ⟨b338, 0, none⟩)] H345)) ∧ (alc H309 (.cells #[.int .i64 0, .int .i64 0, .slice none 0 0] 34) fun b348 H349 => (Ext H309 H349 ∨ (∃ v367, v367.size = 4 ∧ rowIn H349 ⟨b47, 0, none⟩ v367 ∧ Value.agg v367 = .agg v67)) ∧ (Tryz.C 11 #[.agg v67] H349 fun r350 H351 => ∃ r352, r350 = .agg r352 ∧ alc H351 (.cells #[.int .i64 0, .int .i64 0, .slice none 0 0] 34) fun b353 H354 => r70.size = 3 ∧ stAt H354 ⟨b306, 0, none⟩ r70.toList fun H355 => r310.size = 3 ∧ stAt H355 ⟨b353, 0, none⟩ r310.toList fun H356 => r352.size = 3 ∧ stAt H356 ⟨b348, 0, none⟩ r352.toList fun H357 => J50 [.pointer (some ⟨b306, 0, none⟩), .pointer (some ⟨b353, 0, none⟩), .pointer (some ⟨b348, 0, none⟩)] H357) ∧ (alc H349 (.cells #[.int .i64 0, .int .i64 0, .slice none 0 0] 34) fun b358 H359 => (Ext H349 H359 ∨ (∃ v366, v366.size = 4 ∧ rowIn H359 ⟨b47, 0, none⟩ v366 ∧ Value.agg v366 = .agg v67)) ∧ Tryz.C 11 #[.agg v67] H359 fun r360 H361 => ∃ r362, r360 = .agg r362 ∧ r70.size = 3 ∧ stAt H361 ⟨b306, 0, none⟩ r70.toList fun H363 => r310.size = 3 ∧ stAt H363 ⟨b358, 0, none⟩ r310.toList fun H364 => r362.size = 3 ∧ stAt H364 ⟨b348, 0, none⟩ r362.toList fun H365 => J50 [.pointer (some ⟨b306, 0, none⟩), .pointer (some ⟨b358, 0, none⟩), .pointer (some ⟨b348, 0, none⟩)] H365))) ∧ (alc H307 (.cells #[.int .i64 0, .int .i64 0, .slice none 0 0] 34) fun b369 H370 => (Ext H307 H370 ∨ (∃ v406, v406.size = 4 ∧ rowIn H370 ⟨b47, 0, none⟩ v406 ∧ Value.agg v406 = .agg v67) ∧ (∃ v407, v407.size = 4 ∧ rowIn H370 ⟨b39, 0, none⟩ v407 ∧ Value.agg v407 = .agg v66)) ∧ (Tryz.C 11 #[.agg v66] H370 fun r371 H372 => ∃ r373, r371 = .agg r373 ∧ (Ext H370 H372 ∨ (∃ v391, v391.size = 4 ∧ rowIn H372 ⟨b47, 0, none⟩ v391 ∧ Value.agg v391 = .agg v67)) ∧ (Tryz.C 11 #[.agg v67] H372 fun r374 H375 => ∃ r376, r374 = .agg r376 ∧ alc H375 (.cells #[.int .i64 0, .int .i64 0, .slice none 0 0] 34) fun b377 H378 => r70.size = 3 ∧ stAt H378 ⟨b306, 0, none⟩ r70.toList fun H379 => r373.size = 3 ∧ stAt H379 ⟨b369, 0, none⟩ r373.toList fun H380 => r376.size = 3 ∧ stAt H380 ⟨b377, 0, none⟩ r376.toList fun H381 => J50 [.pointer (some ⟨b306, 0, none⟩), .pointer (some ⟨b369, 0, none⟩), .pointer (some ⟨b377, 0, none⟩)] H381) ∧ (alc H372 (.cells #[.int .i64 0, .int .i64 0, .slice none 0 0] 34) fun b382 H383 => (Ext H372 H383 ∨ (∃ v390, v390.size = 4 ∧ rowIn H383 ⟨b47, 0, none⟩ v390 ∧ Value.agg v390 = .agg v67)) ∧ Tryz.C 11 #[.agg v67] H383 fun r384 H385 => ∃ r386, r384 = .agg r386 ∧ r70.size = 3 ∧ stAt H385 ⟨b306, 0, none⟩ r70.toList fun H387 => r373.size = 3 ∧ stAt H387 ⟨b369, 0, none⟩ r373.toList fun H388 => r386.size = 3 ∧ stAt H388 ⟨b382, 0, none⟩ r386.toList fun H389 => J50 [.pointer (some ⟨b306, 0, none⟩), .pointer (some ⟨b369, 0, none⟩), .pointer (some ⟨b382, 0, none⟩)] H389)) ∧ (alc H370 (.cells #[.int .i64 0, .int .i64 0, .slice none 0 0] 34) fun b392 H393 => (Ext H370 H393 ∨ (∃ v404, v404.size = 4 ∧ rowIn H393 ⟨b47, 0, none⟩ v404 ∧ Value.agg v404 = .agg v67) ∧ (∃ v405, v405.size = 4 ∧ rowIn H393 ⟨b39, 0, none⟩ v405 ∧ Value.agg v405 = .agg v66)) ∧ Tryz.C 11 #[.agg v66] H393 fun r394 H395 => ∃ r396, r394 = .agg r396 ∧ (Ext H393 H395 ∨ (∃ v403, v403.size = 4 ∧ rowIn H395 ⟨b47, 0, none⟩ v403 ∧ Value.agg v403 = .agg v67)) ∧ Tryz.C 11 #[.agg v67] H395 fun r397 H398 => ∃ r399, r397 = .agg r399 ∧ r70.size = 3 ∧ stAt H398 ⟨b306, 0, none⟩ r70.toList fun H400 => r396.size = 3 ∧ stAt H400 ⟨b369, 0, none⟩ r396.toList fun H401 => r399.size = 3 ∧ stAt H401 ⟨b392, 0, none⟩ r399.toList fun H402 => J50 [.pointer (some ⟨b306, 0, none⟩), .pointer (some ⟨b369, 0, none⟩), .pointer (some ⟨b392, 0, none⟩)] H402)) ∧ (alc H307 (.cells #[.int .i64 0, .int .i64 0, .slice none 0 0] 34) fun b408 H409 => (Ext H307 H409 ∨ (∃ v445, v445.size = 4 ∧ rowIn H409 ⟨b47, 0, none⟩ v445 ∧ Value.agg v445 = .agg v67) ∧ (∃ v446, v446.size = 4 ∧ rowIn H409 ⟨b39, 0, none⟩ v446 ∧ Value.agg v446 = .agg v66)) ∧ (Tryz.C 11 #[.agg v66] H409 fun r410 H411 => ∃ r412, r410 = .agg r412 ∧ (Ext H409 H411 ∨ (∃ v430, v430.size = 4 ∧ rowIn H411 ⟨b47, 0, none⟩ v430 ∧ Value.agg v430 = .agg v67)) ∧ (Tryz.C 11 #[.agg v67] H411 fun r413 H414 => ∃ r415, r413 = .agg r415 ∧ alc H414 (.cells #[.int .i64 0, .int .i64 0, .slice none 0 0] 34) fun b416 H417 => r70.size = 3 ∧ stAt H417 ⟨b306, 0, none⟩ r70.toList fun H418 => r412.size = 3 ∧ stAt H418 ⟨b416, 0, none⟩ r412.toList fun H419 => r415.size = 3 ∧ stAt H419 ⟨b408, 0, none⟩ r415.toList fun H420 => J50 [.pointer (some ⟨b306, 0, none⟩), .pointer (some ⟨b416, 0, none⟩), .pointer (some ⟨b408, 0, none⟩)] H420) ∧ (alc H411 (.cells #[.int .i64 0, .int .i64 0, .slice none 0 0] 34) fun b421 H422 => (Ext H411 H422 ∨ (∃ v429, v429.size = 4 ∧ rowIn H422 ⟨b47, 0, none⟩ v429 ∧ Value.agg v429 = .agg v67)) ∧ Tryz.C 11 #[.agg v67] H422 fun r423 H424 => ∃ r425, r423 = .agg r425 ∧ r70.size = 3 ∧ stAt H424 ⟨b306, 0, none⟩ r70.toList fun H426 => r412.size = 3 ∧ stAt H426 ⟨b421, 0, none⟩ r412.toList fun H427 => r425.size = 3 ∧ stAt H427 ⟨b408, 0, none⟩ r425.toList fun H428 => J50 [.pointer (some ⟨b306, 0, none⟩), .pointer (some ⟨b421, 0, none⟩), .pointer (some ⟨b408, 0, none⟩)] H428)) ∧ (alc H409 (.cells #[.int .i64 0, .int .i64 0, .slice none 0 0] 34) fun b431 H432 => (Ext H409 H432 ∨ (∃ v443, v443.size = 4 ∧ rowIn H432 ⟨b47, 0, none⟩ v443 ∧ Value.agg v443 = .agg v67) ∧ (∃ v444, v444.size = 4 ∧ rowIn H432 ⟨b39, 0, none⟩ v444 ∧ Value.agg v444 = .agg v66)) ∧ Tryz.C 11 #[.agg v66] H432 fun r433 H434 => ∃ r435, r433 = .agg r435 ∧ (Ext H432 H434 ∨ (∃ v442, v442.size = 4 ∧ rowIn H434 ⟨b47, 0, none⟩ v442 ∧ Value.agg v442 = .agg v67)) ∧ Tryz.C 11 #[.agg v67] H434 fun r436 H437 => ∃ r438, r436 = .agg r438 ∧ r70.size = 3 ∧ stAt H437 ⟨b306, 0, none⟩ r70.toList fun H439 => r435.size = 3 ∧ stAt H439 ⟨b431, 0, none⟩ r435.toList fun H440 => r438.size = 3 ∧ stAt H440 ⟨b408, 0, none⟩ r438.toList fun H441 => J50 [.pointer (some ⟨b306, 0, none⟩), .pointer (some ⟨b431, 0, none⟩), .pointer (some ⟨b408, 0, none⟩)] H441))) ∧ (alc H69 (.cells #[.int .i64 0, .int .i64 0, .slice none 0 0] 34) fun b449 H450 => (Ext H69 H450 ∨ (∃ v590, v590.size = 4 ∧ rowIn H450 ⟨b47, 0, none⟩ v590 ∧ Value.agg v590 = .agg v67) ∧ (∃ v591, v591.size = 4 ∧ rowIn H450 ⟨b39, 0, none⟩ v591 ∧ Value.agg v591 = .agg v66)) ∧ (Tryz.C 11 #[.agg v66] H450 fun r451 H452 => ∃ r453, r451 = .agg r453 ∧ (Ext H450 H452 ∨ (∃ v511, v511.size = 4 ∧ rowIn H452 ⟨b47, 0, none⟩ v511 ∧ Value.agg v511 = .agg v67)) ∧ (Tryz.C 11 #[.agg v67] H452 fun r454 H455 => ∃ r456, r454 = .agg r456 ∧ (alc H455 (.cells #[.int .i64 0, .int .i64 0, .slice none 0 0] 34) fun b457 H458 => alc H458 (.cells #[.int .i64 0, .int .i64 0, .slice none 0 0] 34) fun b459 H460 => r70.size = 3 ∧ stAt H460 ⟨b457, 0, none⟩ r70.toList fun H461 => r453.size = 3 ∧ stAt H461 ⟨b449, 0, none⟩ r453.toList fun H462 => r456.size = 3 ∧ stAt H462 ⟨b459, 0, none⟩ r456.toList fun H463 => J50 [.pointer (some ⟨b457, 0, none⟩), .pointer (some ⟨b449, 0, none⟩), .pointer (some ⟨b459, 0, none⟩)] H463) ∧ (alc H455 (.cells #[.int .i64 0, .int .i64 0, .slice none 0 0] 34) fun b464 H465 => alc H465 (.cells #[.int .i64 0, .int .i64 0, .slice none 0 0] 34) fun b466 H467 => r70.size = 3 ∧ stAt H467 ⟨b466, 0, none⟩ r70.toList fun H468 => r453.size = 3 ∧ stAt H468 ⟨b449, 0, none⟩ r453.toList fun H469 => r456.size = 3 ∧ stAt H469 ⟨b464, 0, none⟩ r456.toList fun H470 => J50 [.pointer (some ⟨b466, 0, none⟩), .pointer (some ⟨b449, 0, none⟩), .pointer (some ⟨b464, 0, none⟩)] H470)) ∧ (alc H452 (.cells #[.int .i64 0, .int .i64 0, .slice none 0 0] 34) fun b471 H472 => (Ext H452 H472 ∨ (∃ v490, v490.size = 4 ∧ rowIn H472 ⟨b47, 0, none⟩ v490 ∧ Value.agg v490 = .agg v67)) ∧ (Tryz.C 11 #[.agg v67] H472 fun r473 H474 => ∃ r475, r473 = .agg r475 ∧ alc H474 (.cells #[.int .i64 0, .int .i64 0, .slice none 0 0] 34) fun b476 H477 => r70.size = 3 ∧ stAt H477 ⟨b471, 0, none⟩ r70.toList fun H478 => r453.size = 3 ∧ stAt H478 ⟨b449, 0, none⟩ r453.toList fun H479 => r475.size = 3 ∧ stAt H479 ⟨b476, 0, none⟩ r475.toList fun H480 => J50 [.pointer (some ⟨b471, 0, none⟩), .pointer (some ⟨b449, 0, none⟩), .pointer (some ⟨b476, 0, none⟩)] H480) ∧ (alc H472 (.cells #[.int .i64 0, .int .i64 0, .slice none 0 0] 34) fun b481 H482 => (Ext H472 H482 ∨ (∃ v489, v489.size = 4 ∧ rowIn H482 ⟨b47, 0, none⟩ v489 ∧ Value.agg v489 = .agg v67)) ∧ Tryz.C 11 #[.agg v67] H482 fun r483 H484 => ∃ r485, r483 = .agg r485 ∧ r70.size = 3 ∧ stAt H484 ⟨b471, 0, none⟩ r70.toList fun H486 => r453.size = 3 ∧ stAt H486 ⟨b449, 0, none⟩ r453.toList fun H487 => r485.size = 3 ∧ stAt H487 ⟨b481, 0, none⟩ r485.toList fun H488 => J50 [.pointer (some ⟨b471, 0, none⟩), .pointer (some ⟨b449, 0, none⟩), .pointer (some ⟨b481, 0, none⟩)] H488)) ∧ (alc H452 (.cells #[.int .i64 0, .int .i64 0, .slice none 0 0] 34) fun b491 H492 => (Ext H452 H492 ∨ (∃ v510, v510.size = 4 ∧ rowIn H492 ⟨b47, 0, none⟩ v510 ∧ Value.agg v510 = .agg v67)) ∧ (Tryz.C 11 #[.agg v67] H492 fun r493 H494 => ∃ r495, r493 = .agg r495 ∧ alc H494 (.cells #[.int .i64 0, .int .i64 0, .slice none 0 0] 34) fun b496 H497 => r70.size = 3 ∧ stAt H497 ⟨b496, 0, none⟩ r70.toList fun H498 => r453.size = 3 ∧ stAt H498 ⟨b449, 0, none⟩ r453.toList fun H499 => r495.size = 3 ∧ stAt H499 ⟨b491, 0, none⟩ r495.toList fun H500 => J50 [.pointer (some ⟨b496, 0, none⟩), .pointer (some ⟨b449, 0, none⟩), .pointer (some ⟨b491, 0, none⟩)] H500) ∧ (alc H492 (.cells #[.int .i64 0, .int .i64 0, .slice none 0 0] 34) fun b501 H502 => (Ext H492 H502 ∨ (∃ v509, v509.size = 4 ∧ rowIn H502 ⟨b47, 0, none⟩ v509 ∧ Value.agg v509 = .agg v67)) ∧ Tryz.C 11 #[.agg v67] H502 fun r503 H504 => ∃ r505, r503 = .agg r505 ∧ r70.size = 3 ∧ stAt H504 ⟨b501, 0, none⟩ r70.toList fun H506 => r453.size = 3 ∧ stAt H506 ⟨b449, 0, none⟩ r453.toList fun H507 => r505.size = 3 ∧ stAt H507 ⟨b491, 0, none⟩ r505.toList fun H508 => J50 [.pointer (some ⟨b501, 0, none⟩), .pointer (some ⟨b449, 0, none⟩), .pointer (some ⟨b491, 0, none⟩)] H508))) ∧ (alc H450 (.cells #[.int .i64 0, .int .i64 0, .slice none 0 0] 34) fun b512 H513 => (Ext H450 H513 ∨ (∃ v549, v549.size = 4 ∧ rowIn H513 ⟨b47, 0, none⟩ v549 ∧ Value.agg v549 = .agg v67) ∧ (∃ v550, v550.size = 4 ∧ rowIn H513 ⟨b39, 0, none⟩ v550 ∧ Value.agg v550 = .agg v66)) ∧ (Tryz.C 11 #[.agg v66] H513 fun r514 H515 => ∃ r516, r514 = .agg r516 ∧ (Ext H513 H515 ∨ (∃ v534, v534.size = 4 ∧ rowIn H515 ⟨b47, 0, none⟩ v534 ∧ Value.agg v534 = .agg v67)) ∧ (Tryz.C 11 #[.agg v67] H515 fun r517 H518 => ∃ r519, r517 = .agg r519 ∧ alc H518 (.cells #[.int .i64 0, .int .i64 0, .slice none 0 0] 34) fun b520 H521 => r70.size = 3 ∧ stAt H521 ⟨b512, 0, none⟩ r70.toList fun H522 => r516.size = 3 ∧ stAt H522 ⟨b449, 0, none⟩ r516.toList fun H523 => r519.size = 3 ∧ stAt H523 ⟨b520, 0, none⟩ r519.toList fun H524 => J50 [.pointer (some ⟨b512, 0, none⟩), .pointer (some ⟨b449, 0, none⟩), .pointer (some ⟨b520, 0, none⟩)] H524) ∧ (alc H515 (.cells #[.int .i64 0, .int .i64 0, .slice none 0 0] 34) fun b525 H526 => (Ext H515 H526 ∨ (∃ v533, v533.size = 4 ∧ rowIn H526 ⟨b47, 0, none⟩ v533 ∧ Value.agg v533 = .agg v67)) ∧ Tryz.C 11 #[.agg v67] H526 fun r527 H528 => ∃ r529, r527 = .agg r529 ∧ r70.size = 3 ∧ stAt H528 ⟨b512, 0, none⟩ r70.toList fun H530 => r516.size = 3 ∧ stAt H530 ⟨b449, 0, none⟩ r516.toList fun H531 => r529.size = 3 ∧ stAt H531 ⟨b525, 0, none⟩ r529.toList fun H532 => J50 [.pointer (some ⟨b512, 0, none⟩), .pointer (some ⟨b449, 0, none⟩), .pointer (some ⟨b525, 0, none⟩)] H532)) ∧ (alc H513 (.cells #[.int .i64 0, .int .i64 0, .slice none 0 0] 34) fun b535 H536 => (Ext H513 H536 ∨ (∃ v547, v547.size = 4 ∧ rowIn H536 ⟨b47, 0, none⟩ v547 ∧ Value.agg v547 = .agg v67) ∧ (∃ v548, v548.size = 4 ∧ rowIn H536 ⟨b39, 0, none⟩ v548 ∧ Value.agg v548 = .agg v66)) ∧ Tryz.C 11 #[.agg v66] H536 fun r537 H538 => ∃ r539, r537 = .agg r539 ∧ (Ext H536 H538 ∨ (∃ v546, v546.size = 4 ∧ rowIn H538 ⟨b47, 0, none⟩ v546 ∧ Value.agg v546 = .agg v67)) ∧ Tryz.C 11 #[.agg v67] H538 fun r540 H541 => ∃ r542, r540 = .agg r542 ∧ r70.size = 3 ∧ stAt H541 ⟨b512, 0, none⟩ r70.toList fun H543 => r539.size = 3 ∧ stAt H543 ⟨b449, 0, none⟩ r539.toList fun H544 => r542.size = 3 ∧ stAt H544 ⟨b535, 0, none⟩ r542.toList fun H545 => J50 [.pointer (some ⟨b512, 0, none⟩), .pointer (some ⟨b449, 0, none⟩), .pointer (some ⟨b535, 0, none⟩)] H545)) ∧ (alc H450 (.cells #[.int .i64 0, .int .i64 0, .slice none 0 0] 34) fun b551 H552 => (Ext H450 H552 ∨ (∃ v588, v588.size = 4 ∧ rowIn H552 ⟨b47, 0, none⟩ v588 ∧ Value.agg v588 = .agg v67) ∧ (∃ v589, v589.size = 4 ∧ rowIn H552 ⟨b39, 0, none⟩ v589 ∧ Value.agg v589 = .agg v66)) ∧ (Tryz.C 11 #[.agg v66] H552 fun r553 H554 => ∃ r555, r553 = .agg r555 ∧ (Ext H552 H554 ∨ (∃ v573, v573.size = 4 ∧ rowIn H554 ⟨b47, 0, none⟩ v573 ∧ Value.agg v573 = .agg v67)) ∧ (Tryz.C 11 #[.agg v67] H554 fun r556 H557 => ∃ r558, r556 = .agg r558 ∧ alc H557 (.cells #[.int .i64 0, .int .i64 0, .slice none 0 0] 34) fun b559 H560 => r70.size = 3 ∧ stAt H560 ⟨b559, 0, none⟩ r70.toList fun H561 => r555.size = 3 ∧ stAt H561 ⟨b449, 0, none⟩ r555.toList fun H562 => r558.size = 3 ∧ stAt H562 ⟨b551, 0, none⟩ r558.toList fun H563 => J50 [.pointer (some ⟨b559, 0, none⟩), .pointer (some ⟨b449, 0, none⟩), .pointer (some ⟨b551, 0, none⟩)] H563) ∧ (alc H554 (.cells #[.int .i64 0, .int .i64 0, .slice none 0 0] 34) fun b564 H565 => (Ext H554 H565 ∨ (∃ v572, v572.size = 4 ∧ rowIn H565 ⟨b47, 0, none⟩ v572 ∧ Value.agg v572 = .agg v67)) ∧ Tryz.C 11 #[.agg v67] H565 fun r566 H567 => ∃ r568, r566 = .agg r568 ∧ r70.size = 3 ∧ stAt H567 ⟨b564, 0, none⟩ r70.toList fun H569 => r555.size = 3 ∧ stAt H569 ⟨b449, 0, none⟩ r555.toList fun H570 => r568.size = 3 ∧ stAt H570 ⟨b551, 0, none⟩ r568.toList fun H571 => J50 [.pointer (some ⟨b564, 0, none⟩), .pointer (some ⟨b449, 0, none⟩), .pointer (some ⟨b551, 0, none⟩)] H571)) ∧ (alc H552 (.cells #[.int .i64 0, .int .i64 0, .slice none 0 0] 34) fun b574 H575 => (Ext H552 H575 ∨ (∃ v586, v586.size = 4 ∧ rowIn H575 ⟨b47, 0, none⟩ v586 ∧ Value.agg v586 = .agg v67) ∧ (∃ v587, v587.size = 4 ∧ rowIn H575 ⟨b39, 0, none⟩ v587 ∧ Value.agg v587 = .agg v66)) ∧ Tryz.C 11 #[.agg v66] H575 fun r576 H577 => ∃ r578, r576 = .agg r578 ∧ (Ext H575 H577 ∨ (∃ v585, v585.size = 4 ∧ rowIn H577 ⟨b47, 0, none⟩ v585 ∧ Value.agg v585 = .agg v67)) ∧ Tryz.C 11 #[.agg v67] H577 fun r579 H580 => ∃ r581, r579 = .agg r581 ∧ r70.size = 3 ∧ stAt H580 ⟨b574, 0, none⟩ r70.toList fun H582 => r578.size = 3 ∧ stAt H582 ⟨b449, 0, none⟩ r578.toList fun H583 => r581.size = 3 ∧ stAt H583 ⟨b551, 0, none⟩ r581.toList fun H584 => J50 [.pointer (some ⟨b574, 0, none⟩), .pointer (some ⟨b449, 0, none⟩), .pointer (some ⟨b551, 0, none⟩)] H584))) ∧ (alc H69 (.cells #[.int .i64 0, .int .i64 0, .slice none 0 0] 34) fun b592 H593 => (Ext H69 H593 ∨ (∃ v733, v733.size = 4 ∧ rowIn H593 ⟨b47, 0, none⟩ v733 ∧ Value.agg v733 = .agg v67) ∧ (∃ v734, v734.size = 4 ∧ rowIn H593 ⟨b39, 0, none⟩ v734 ∧ Value.agg v734 = .agg v66)) ∧ (Tryz.C 11 #[.agg v66] H593 fun r594 H595 => ∃ r596, r594 = .agg r596 ∧ (Ext H593 H595 ∨ (∃ v654, v654.size = 4 ∧ rowIn H595 ⟨b47, 0, none⟩ v654 ∧ Value.agg v654 = .agg v67)) ∧ (Tryz.C 11 #[.agg v67] H595 fun r597 H598 => ∃ r599, r597 = .agg r599 ∧ (alc H598 (.cells #[.int .i64 0, .int .i64 0, .slice none 0 0] 34) fun b600 H601 => alc H601 (.cells #[.int .i64 0, .int .i64 0, .slice none 0 0] 34) fun b602 H603 => r70.size = 3 ∧ stAt H603 ⟨b600, 0, none⟩ r70.toList fun H604 => r596.size = 3 ∧ stAt H604 ⟨b602, 0, none⟩ r596.toList fun H605 => r599.size = 3 ∧ stAt H605 ⟨b592, 0, none⟩ r599.toList fun H606 => J50 [.pointer (some ⟨b600, 0, none⟩), .pointer (some ⟨b602, 0, none⟩), .pointer (some ⟨b592, 0, none⟩)] H606) ∧ (alc H598 (.cells #[.int .i64 0, .int .i64 0, .slice none 0 0] 34) fun b607 H608 => alc H608 (.cells #[.int .i64 0, .int .i64 0, .slice none 0 0] 34) fun b609 H610 => r70.size = 3 ∧ stAt H610 ⟨b609, 0, none⟩ r70.toList fun H611 => r596.size = 3 ∧ stAt H611 ⟨b607, 0, none⟩ r596.toList fun H612 => r599.size = 3 ∧ stAt H612 ⟨b592, 0, none⟩ r599.toList fun H613 => J50 [.pointer (some ⟨b609, 0, none⟩), .pointer (some ⟨b607, 0, none⟩), .pointer (some ⟨b592, 0, none⟩)] H613)) ∧ (alc H595 (.cells #[.int .i64 0, .int .i64 0, .slice none 0 0] 34) fun b614 H615 => (Ext H595 H615 ∨ (∃ v633, v633.size = 4 ∧ rowIn H615 ⟨b47, 0, none⟩ v633 ∧ Value.agg v633 = .agg v67)) ∧ (Tryz.C 11 #[.agg v67] H615 fun r616 H617 => ∃ r618, r616 = .agg r618 ∧ alc H617 (.cells #[.int .i64 0, .int .i64 0, .slice none 0 0] 34) fun b619 H620 => r70.size = 3 ∧ stAt H620 ⟨b614, 0, none⟩ r70.toList fun H621 => r596.size = 3 ∧ stAt H621 ⟨b619, 0, none⟩ r596.toList fun H622 => r618.size = 3 ∧ stAt H622 ⟨b592, 0, none⟩ r618.toList fun H623 => J50 [.pointer (some ⟨b614, 0, none⟩), .pointer (some ⟨b619, 0, none⟩), .pointer (some ⟨b592, 0, none⟩)] H623) ∧ (alc H615 (.cells #[.int .i64 0, .int .i64 0, .slice none 0 0] 34) fun b624 H625 => (Ext H615 H625 ∨ (∃ v632, v632.size = 4 ∧ rowIn H625 ⟨b47, 0, none⟩ v632 ∧ Value.agg v632 = .agg v67)) ∧ Tryz.C 11 #[.agg v67] H625 fun r626 H627 => ∃ r628, r626 = .agg r628 ∧ r70.size = 3 ∧ stAt H627 ⟨b614, 0, none⟩ r70.toList fun H629 => r596.size = 3 ∧ stAt H629 ⟨b624, 0, none⟩ r596.toList fun H630 => r628.size = 3 ∧ stAt H630 ⟨b592, 0, none⟩ r628.toList fun H631 => J50 [.pointer (some ⟨b614, 0, none⟩), .pointer (some ⟨b624, 0, none⟩), .pointer (some ⟨b592, 0, none⟩)] H631)) ∧ (alc H595 (.cells #[.int .i64 0, .int .i64 0, .slice none 0 0] 34) fun b634 H635 => (Ext H595 H635 ∨ (∃ v653, v653.size = 4 ∧ rowIn H635 ⟨b47, 0, none⟩ v653 ∧ Value.agg v653 = .agg v67)) ∧ (Tryz.C 11 #[.agg v67] H635 fun r636 H637 => ∃ r638, r636 = .agg r638 ∧ alc H637 (.cells #[.int .i64 0, .int .i64 0, .slice none 0 0] 34) fun b639 H640 => r70.size = 3 ∧ stAt H640 ⟨b639, 0, none⟩ r70.toList fun H641 => r596.size = 3 ∧ stAt H641 ⟨b634, 0, none⟩ r596.toList fun H642 => r638.size = 3 ∧ stAt H642 ⟨b592, 0, none⟩ r638.toList fun H643 => J50 [.pointer (some ⟨b639, 0, none⟩), .pointer (some ⟨b634, 0, none⟩), .pointer (some ⟨b592, 0, none⟩)] H643) ∧ (alc H635 (.cells #[.int .i64 0, .int .i64 0, .slice none 0 0] 34) fun b644 H645 => (Ext H635 H645 ∨ (∃ v652, v652.size = 4 ∧ rowIn H645 ⟨b47, 0, none⟩ v652 ∧ Value.agg v652 = .agg v67)) ∧ Tryz.C 11 #[.agg v67] H645 fun r646 H647 => ∃ r648, r646 = .agg r648 ∧ r70.size = 3 ∧ stAt H647 ⟨b644, 0, none⟩ r70.toList fun H649 => r596.size = 3 ∧ stAt H649 ⟨b634, 0, none⟩ r596.toList fun H650 => r648.size = 3 ∧ stAt H650 ⟨b592, 0, none⟩ r648.toList fun H651 => J50 [.pointer (some ⟨b644, 0, none⟩), .pointer (some ⟨b634, 0, none⟩), .pointer (some ⟨b592, 0, none⟩)] H651))) ∧ (alc H593 (.cells #[.int .i64 0, .int .i64 0, .slice none 0 0] 34) fun b655 H656 => (Ext H593 H656 ∨ (∃ v692, v692.size = 4 ∧ rowIn H656 ⟨b47, 0, none⟩ v692 ∧ Value.agg v692 = .agg v67) ∧ (∃ v693, v693.size = 4 ∧ rowIn H656 ⟨b39, 0, none⟩ v693 ∧ Value.agg v693 = .agg v66)) ∧ (Tryz.C 11 #[.agg v66] H656 fun r657 H658 => ∃ r659, r657 = .agg r659 ∧ (Ext H656 H658 ∨ (∃ v677, v677.size = 4 ∧ rowIn H658 ⟨b47, 0, none⟩ v677 ∧ Value.agg v677 = .agg v67)) ∧ (Tryz.C 11 #[.agg v67] H658 fun r660 H661 => ∃ r662, r660 = .agg r662 ∧ alc H661 (.cells #[.int .i64 0, .int .i64 0, .slice none 0 0] 34) fun b663 H664 => r70.size = 3 ∧ stAt H664 ⟨b655, 0, none⟩ r70.toList fun H665 => r659.size = 3 ∧ stAt H665 ⟨b663, 0, none⟩ r659.toList fun H666 => r662.size = 3 ∧ stAt H666 ⟨b592, 0, none⟩ r662.toList fun H667 => J50 [.pointer (some ⟨b655, 0, none⟩), .pointer (some ⟨b663, 0, none⟩), .pointer (some ⟨b592, 0, none⟩)] H667) ∧ (alc H658 (.cells #[.int .i64 0, .int .i64 0, .slice none 0 0] 34) fun b668 H669 => (Ext H658 H669 ∨ (∃ v676, v676.size = 4 ∧ rowIn H669 ⟨b47, 0, none⟩ v676 ∧ Value.agg v676 = .agg v67)) ∧ Tryz.C 11 #[.agg v67] H669 fun r670 H671 => ∃ r672, r670 = .agg r672 ∧ r70.size = 3 ∧ stAt H671 ⟨b655, 0, none⟩ r70.toList fun H673 => r659.size = 3 ∧ stAt H673 ⟨b668, 0, none⟩ r659.toList fun H674 => r672.size = 3 ∧ stAt H674 ⟨b592, 0, none⟩ r672.toList fun H675 => J50 [.pointer (some ⟨b655, 0, none⟩), .pointer (some ⟨b668, 0, none⟩), .pointer (some ⟨b592, 0, none⟩)] H675)) ∧ (alc H656 (.cells #[.int .i64 0, .int .i64 0, .slice none 0 0] 34) fun b678 H679 => (Ext H656 H679 ∨ (∃ v690, v690.size = 4 ∧ rowIn H679 ⟨b47, 0, none⟩ v690 ∧ Value.agg v690 = .agg v67) ∧ (∃ v691, v691.size = 4 ∧ rowIn H679 ⟨b39, 0, none⟩ v691 ∧ Value.agg v691 = .agg v66)) ∧ Tryz.C 11 #[.agg v66] H679 fun r680 H681 => ∃ r682, r680 = .agg r682 ∧ (Ext H679 H681 ∨ (∃ v689, v689.size = 4 ∧ rowIn H681 ⟨b47, 0, none⟩ v689 ∧ Value.agg v689 = .agg v67)) ∧ Tryz.C 11 #[.agg v67] H681 fun r683 H684 => ∃ r685, r683 = .agg r685 ∧ r70.size = 3 ∧ stAt H684 ⟨b655, 0, none⟩ r70.toList fun H686 => r682.size = 3 ∧ stAt H686 ⟨b678, 0, none⟩ r682.toList fun H687 => r685.size = 3 ∧ stAt H687 ⟨b592, 0, none⟩ r685.toList fun H688 => J50 [.pointer (some ⟨b655, 0, none⟩), .pointer (some ⟨b678, 0, none⟩), .pointer (some ⟨b592, 0, none⟩)] H688)) ∧ (alc H593 (.cells #[.int .i64 0, .int .i64 0, .slice none 0 0] 34) fun b694 H695 => (Ext H593 H695 ∨ (∃ v731, v731.size = 4 ∧ rowIn H695 ⟨b47, 0, none⟩ v731 ∧ Value.agg v731 = .agg v67) ∧ (∃ v732, v732.size = 4 ∧ rowIn H695 ⟨b39, 0, none⟩ v732 ∧ Value.agg v732 = .agg v66)) ∧ (Tryz.C 11 #[.agg v66] H695 fun r696 H697 => ∃ r698, r696 = .agg r698 ∧ (Ext H695 H697 ∨ (∃ v716, v716.size = 4 ∧ rowIn H697 ⟨b47, 0, none⟩ v716 ∧ Value.agg v716 = .agg v67)) ∧ (Tryz.C 11 #[.agg v67] H697 fun r699 H700 => ∃ r701, r699 = .agg r701 ∧ alc H700 (.cells #[.int .i64 0, .int .i64 0, .slice none 0 0] 34) fun b702 H703 => r70.size = 3 ∧ stAt H703 ⟨b702, 0, none⟩ r70.toList fun H704 => r698.size = 3 ∧ stAt H704 ⟨b694, 0, none⟩ r698.toList fun H705 => r701.size = 3 ∧ stAt H705 ⟨b592, 0, none⟩ r701.toList fun H706 => J50 [.pointer (some ⟨b702, 0, none⟩), .pointer (some ⟨b694, 0, none⟩), .pointer (some ⟨b592, 0, none⟩)] H706) ∧ (alc H697 (.cells #[.int .i64 0, .int .i64 0, .slice none 0 0] 34) fun b707 H708 => (Ext H697 H708 ∨ (∃ v715, v715.size = 4 ∧ rowIn H708 ⟨b47, 0, none⟩ v715 ∧ Value.agg v715 = .agg v67)) ∧ Tryz.C 11 #[.agg v67] H708 fun r709 H710 => ∃ r711, r709 = .agg r711 ∧ r70.size = 3 ∧ stAt H710 ⟨b707, 0, none⟩ r70.toList fun H712 => r698.size = 3 ∧ stAt H712 ⟨b694, 0, none⟩ r698.toList fun H713 => r711.size = 3 ∧ stAt H713 ⟨b592, 0, none⟩ r711.toList fun H714 => J50 [.pointer (some ⟨b707, 0, none⟩), .pointer (some ⟨b694, 0, none⟩), .pointer (some ⟨b592, 0, none⟩)] H714)) ∧ (alc H695 (.cells #[.int .i64 0, .int .i64 0, .slice none 0 0] 34) fun b717 H718 => (Ext H695 H718 ∨ (∃ v729, v729.size = 4 ∧ rowIn H718 ⟨b47, 0, none⟩ v729 ∧ Value.agg v729 = .agg v67) ∧ (∃ v730, v730.size = 4 ∧ rowIn H718 ⟨b39, 0, none⟩ v730 ∧ Value.agg v730 = .agg v66)) ∧ Tryz.C 11 #[.agg v66] H718 fun r719 H720 => ∃ r721, r719 = .agg r721 ∧ (Ext H718 H720 ∨ (∃ v728, v728.size = 4 ∧ rowIn H720 ⟨b47, 0, none⟩ v728 ∧ Value.agg v728 = .agg v67)) ∧ Tryz.C 11 #[.agg v67] H720 fun r722 H723 => ∃ r724, r722 = .agg r724 ∧ r70.size = 3 ∧ stAt H723 ⟨b717, 0, none⟩ r70.toList fun H725 => r721.size = 3 ∧ stAt H725 ⟨b694, 0, none⟩ r721.toList fun H726 => r724.size = 3 ∧ stAt H726 ⟨b592, 0, none⟩ r724.toList fun H727 => J50 [.pointer (some ⟨b717, 0, none⟩), .pointer (some ⟨b694, 0, none⟩), .pointer (some ⟨b592, 0, none⟩)] H727)))) ∧ (alc H49 (.cells #[.int .i64 0, .int .i64 0, .slice none 0 0] 34) fun b737 H738 => (Ext H49 H738 ∨ (∃ v1013, v1013.size = 4 ∧ rowIn H738 ⟨b47, 0, none⟩ v1013 ∧ Value.agg v1013 = .agg v67) ∧ (∃ v1014, v1014.size = 4 ∧ rowIn H738 ⟨b39, 0, none⟩ v1014 ∧ Value.agg v1014 = .agg v66) ∧ (∃ v1015, v1015.size = 4 ∧ rowIn H738 ⟨b22, 0, none⟩ v1015 ∧ Value.agg v1015 = .agg v65)) ∧ (Tryz.C 11 #[.agg v65] H738 fun r739 H740 => ∃ r741, r739 = .agg r741 ∧ (Ext H738 H740 ∨ (∃ v881, v881.size = 4 ∧ rowIn H740 ⟨b47, 0, none⟩ v881 ∧ Value.agg v881 = .agg v67) ∧ (∃ v882, v882.size = 4 ∧ rowIn H740 ⟨b39, 0, none⟩ v882 ∧ Value.agg v882 = .agg v66)) ∧ (Tryz.C 11 #[.agg v66] H740 fun r742 H743 => ∃ r744, r742 = .agg r744 ∧ (Ext H740 H743 ∨ (∃ v802, v802.size = 4 ∧ rowIn H743 ⟨b47, 0, none⟩ v802 ∧ Value.agg v802 = .agg v67)) ∧ (Tryz.C 11 #[.agg v67] H743 fun r745 H746 => ∃ r747, r745 = .agg r747 ∧ (alc H746 (.cells #[.int .i64 0, .int .i64 0, .slice none 0 0] 34) fun b748 H749 => alc H749 (.cells #[.int .i64 0, .int .i64 0, .slice none 0 0] 34) fun b750 H751 => r741.size = 3 ∧ stAt H751 ⟨b737, 0, none⟩ r741.toList fun H752 => r744.size = 3 ∧ stAt H752 ⟨b748, 0, none⟩ r744.toList fun H753 => r747.size = 3 ∧ stAt H753 ⟨b750, 0, none⟩ r747.toList fun H754 => J50 [.pointer (some ⟨b737, 0, none⟩), .pointer (some ⟨b748, 0, none⟩), .pointer (some ⟨b750, 0, none⟩)] H754) ∧ (alc H746 (.cells #[.int .i64 0, .int .i64 0, .slice none 0 0] 34) fun b755 H756 => alc H756 (.cells #[.int .i64 0, .int .i64 0, .slice none 0 0] 34) fun b757 H758 => r741.size = 3 ∧ stAt H758 ⟨b737, 0, none⟩ r741.toList fun H759 => r744.size = 3 ∧ stAt H759 ⟨b757, 0, none⟩ r744.toList fun H760 => r747.size = 3 ∧ stAt H760 ⟨b755, 0, none⟩ r747.toList fun H761 => J50 [.pointer (some ⟨b737, 0, none⟩), .pointer (some ⟨b757, 0, none⟩), .pointer (some ⟨b755, 0, none⟩)] H761)) ∧ (alc H743 (.cells #[.int .i64 0, .int .i64 0, .slice none 0 0] 34) fun b762 H763 => (Ext H743 H763 ∨ (∃ v781, v781.size = 4 ∧ rowIn H763 ⟨b47, 0, none⟩ v781 ∧ Value.agg v781 = .agg v67)) ∧ (Tryz.C 11 #[.agg v67] H763 fun r764 H765 => ∃ r766, r764 = .agg r766 ∧ alc H765 (.cells #[.int .i64 0, .int .i64 0, .slice none 0 0] 34) fun b767 H768 => r741.size = 3 ∧ stAt H768 ⟨b737, 0, none⟩ r741.toList fun H769 => r744.size = 3 ∧ stAt H769 ⟨b762, 0, none⟩ r744.toList fun H770 => r766.size = 3 ∧ stAt H770 ⟨b767, 0, none⟩ r766.toList fun H771 => J50 [.pointer (some ⟨b737, 0, none⟩), .pointer (some ⟨b762, 0, none⟩), .pointer (some ⟨b767, 0, none⟩)] H771) ∧ (alc H763 (.cells #[.int .i64 0, .int .i64 0, .slice none 0 0] 34) fun b772 H773 => (Ext H763 H773 ∨ (∃ v780, v780.size = 4 ∧ rowIn H773 ⟨b47, 0, none⟩ v780 ∧ Value.agg v780 = .agg v67)) ∧ Tryz.C 11 #[.agg v67] H773 fun r774 H775 => ∃ r776, r774 = .agg r776 ∧ r741.size = 3 ∧ stAt H775 ⟨b737, 0, none⟩ r741.toList fun H777 => r744.size = 3 ∧ stAt H777 ⟨b762, 0, none⟩ r744.toList fun H778 => r776.size = 3 ∧ stAt H778 ⟨b772, 0, none⟩ r776.toList fun H779 => J50 [.pointer (some ⟨b737, 0, none⟩), .pointer (some ⟨b762, 0, none⟩), .pointer (some ⟨b772, 0, none⟩)] H779)) ∧ (alc H743 (.cells #[.int .i64 0, .int .i64 0, .slice none 0 0] 34) fun b782 H783 => (Ext H743 H783 ∨ (∃ v801, v801.size = 4 ∧ rowIn H783 ⟨b47, 0, none⟩ v801 ∧ Value.agg v801 = .agg v67)) ∧ (Tryz.C 11 #[.agg v67] H783 fun r784 H785 => ∃ r786, r784 = .agg r786 ∧ alc H785 (.cells #[.int .i64 0, .int .i64 0, .slice none 0 0] 34) fun b787 H788 => r741.size = 3 ∧ stAt H788 ⟨b737, 0, none⟩ r741.toList fun H789 => r744.size = 3 ∧ stAt H789 ⟨b787, 0, none⟩ r744.toList fun H790 => r786.size = 3 ∧ stAt H790 ⟨b782, 0, none⟩ r786.toList fun H791 => J50 [.pointer (some ⟨b737, 0, none⟩), .pointer (some ⟨b787, 0, none⟩), .pointer (some ⟨b782, 0, none⟩)] H791) ∧ (alc H783 (.cells #[.int .i64 0, .int .i64 0, .slice none 0 0] 34) fun b792 H793 => (Ext H783 H793 ∨ (∃ v800, v800.size = 4 ∧ rowIn H793 ⟨b47, 0, none⟩ v800 ∧ Value.agg v800 = .agg v67)) ∧ Tryz.C 11 #[.agg v67] H793 fun r794 H795 => ∃ r796, r794 = .agg r796 ∧ r741.size = 3 ∧ stAt H795 ⟨b737, 0, none⟩ r741.toList fun H797 => r744.size = 3 ∧ stAt H797 ⟨b792, 0, none⟩ r744.toList fun H798 => r796.size = 3 ∧ stAt H798 ⟨b782, 0, none⟩ r796.toList fun H799 => J50 [.pointer (some ⟨b737, 0, none⟩), .pointer (some ⟨b792, 0, none⟩), .pointer (some ⟨b782, 0, none⟩)] H799))) ∧ (alc H740 (.cells #[.int .i64 0, .int .i64 0, .slice none 0 0] 34) fun b803 H804 => (Ext H740 H804 ∨ (∃ v840, v840.size = 4 ∧ rowIn H804 ⟨b47, 0, none⟩ v840 ∧ Value.agg v840 = .agg v67) ∧ (∃ v841, v841.size = 4 ∧ rowIn H804 ⟨b39, 0, none⟩ v841 ∧ Value.agg v841 = .agg v66)) ∧ (Tryz.C 11 #[.agg v66] H804 fun r805 H806 => ∃ r807, r805 = .agg r807 ∧ (Ext H804 H806 ∨ (∃ v825, v825.size = 4 ∧ rowIn H806 ⟨b47, 0, none⟩ v825 ∧ Value.agg v825 = .agg v67)) ∧ (Tryz.C 11 #[.agg v67] H806 fun r808 H809 => ∃ r810, r808 = .agg r810 ∧ alc H809 (.cells #[.int .i64 0, .int .i64 0, .slice none 0 0] 34) fun b811 H812 => r741.size = 3 ∧ stAt H812 ⟨b737, 0, none⟩ r741.toList fun H813 => r807.size = 3 ∧ stAt H813 ⟨b803, 0, none⟩ r807.toList fun H814 => r810.size = 3 ∧ stAt H814 ⟨b811, 0, none⟩ r810.toList fun H815 => J50 [.pointer (some ⟨b737, 0, none⟩), .pointer (some ⟨b803, 0, none⟩), .pointer (some ⟨b811, 0, none⟩)] H815) ∧ (alc H806 (.cells #[.int .i64 0, .int .i64 0, .slice none 0 0] 34) fun b816 H817 => (Ext H806 H817 ∨ (∃ v824, v824.size = 4 ∧ rowIn H817 ⟨b47, 0, none⟩ v824 ∧ Value.agg v824 = .agg v67)) ∧ Tryz.C 11 #[.agg v67] H817 fun r818 H819 => ∃ r820, r818 = .agg r820 ∧ r741.size = 3 ∧ stAt H819 ⟨b737, 0, none⟩ r741.toList fun H821 => r807.size = 3 ∧ stAt H821 ⟨b803, 0, none⟩ r807.toList fun H822 => r820.size = 3 ∧ stAt H822 ⟨b816, 0, none⟩ r820.toList fun H823 => J50 [.pointer (some ⟨b737, 0, none⟩), .pointer (some ⟨b803, 0, none⟩), .pointer (some ⟨b816, 0, none⟩)] H823)) ∧ (alc H804 (.cells #[.int .i64 0, .int .i64 0, .slice none 0 0] 34) fun b826 H827 => (Ext H804 H827 ∨ (∃ v838, v838.size = 4 ∧ rowIn H827 ⟨b47, 0, none⟩ v838 ∧ Value.agg v838 = .agg v67) ∧ (∃ v839, v839.size = 4 ∧ rowIn H827 ⟨b39, 0, none⟩ v839 ∧ Value.agg v839 = .agg v66)) ∧ Tryz.C 11 #[.agg v66] H827 fun r828 H829 => ∃ r830, r828 = .agg r830 ∧ (Ext H827 H829 ∨ (∃ v837, v837.size = 4 ∧ rowIn H829 ⟨b47, 0, none⟩ v837 ∧ Value.agg v837 = .agg v67)) ∧ Tryz.C 11 #[.agg v67] H829 fun r831 H832 => ∃ r833, r831 = .agg r833 ∧ r741.size = 3 ∧ stAt H832 ⟨b737, 0, none⟩ r741.toList fun H834 => r830.size = 3 ∧ stAt H834 ⟨b803, 0, none⟩ r830.toList fun H835 => r833.size = 3 ∧ stAt H835 ⟨b826, 0, none⟩ r833.toList fun H836 => J50 [.pointer (some ⟨b737, 0, none⟩), .pointer (some ⟨b803, 0, none⟩), .pointer (some ⟨b826, 0, none⟩)] H836)) ∧ (alc H740 (.cells #[.int .i64 0, .int .i64 0, .slice none 0 0] 34) fun b842 H843 => (Ext H740 H843 ∨ (∃ v879, v879.size = 4 ∧ rowIn H843 ⟨b47, 0, none⟩ v879 ∧ Value.agg v879 = .agg v67) ∧ (∃ v880, v880.size = 4 ∧ rowIn H843 ⟨b39, 0, none⟩ v880 ∧ Value.agg v880 = .agg v66)) ∧ (Tryz.C 11 #[.agg v66] H843 fun r844 H845 => ∃ r846, r844 = .agg r846 ∧ (Ext H843 H845 ∨ (∃ v864, v864.size = 4 ∧ rowIn H845 ⟨b47, 0, none⟩ v864 ∧ Value.agg v864 = .agg v67)) ∧ (Tryz.C 11 #[.agg v67] H845 fun r847 H848 => ∃ r849, r847 = .agg r849 ∧ alc H848 (.cells #[.int .i64 0, .int .i64 0, .slice none 0 0] 34) fun b850 H851 => r741.size = 3 ∧ stAt H851 ⟨b737, 0, none⟩ r741.toList fun H852 => r846.size = 3 ∧ stAt H852 ⟨b850, 0, none⟩ r846.toList fun H853 => r849.size = 3 ∧ stAt H853 ⟨b842, 0, none⟩ r849.toList fun H854 => J50 [.pointer (some ⟨b737, 0, none⟩), .pointer (some ⟨b850, 0, none⟩), .pointer (some ⟨b842, 0, none⟩)] H854) ∧ (alc H845 (.cells #[.int .i64 0, .int .i64 0, .slice none 0 0] 34) fun b855 H856 => (Ext H845 H856 ∨ (∃ v863, v863.size = 4 ∧ rowIn H856 ⟨b47, 0, none⟩ v863 ∧ Value.agg v863 = .agg v67)) ∧ Tryz.C 11 #[.agg v67] H856 fun r857 H858 => ∃ r859, r857 = .agg r859 ∧ r741.size = 3 ∧ stAt H858 ⟨b737, 0, none⟩ r741.toList fun H860 => r846.size = 3 ∧ stAt H860 ⟨b855, 0, none⟩ r846.toList fun H861 => r859.size = 3 ∧ stAt H861 ⟨b842, 0, none⟩ r859.toList fun H862 => J50 [.pointer (some ⟨b737, 0, none⟩), .pointer (some ⟨b855, 0, none⟩), .pointer (some ⟨b842, 0, none⟩)] H862)) ∧ (alc H843 (.cells #[.int .i64 0, .int .i64 0, .slice none 0 0] 34) fun b865 H866 => (Ext H843 H866 ∨ (∃ v877, v877.size = 4 ∧ rowIn H866 ⟨b47, 0, none⟩ v877 ∧ Value.agg v877 = .agg v67) ∧ (∃ v878, v878.size = 4 ∧ rowIn H866 ⟨b39, 0, none⟩ v878 ∧ Value.agg v878 = .agg v66)) ∧ Tryz.C 11 #[.agg v66] H866 fun r867 H868 => ∃ r869, r867 = .agg r869 ∧ (Ext H866 H868 ∨ (∃ v876, v876.size = 4 ∧ rowIn H868 ⟨b47, 0, none⟩ v876 ∧ Value.agg v876 = .agg v67)) ∧ Tryz.C 11 #[.agg v67] H868 fun r870 H871 => ∃ r872, r870 = .agg r872 ∧ r741.size = 3 ∧ stAt H871 ⟨b737, 0, none⟩ r741.toList fun H873 => r869.size = 3 ∧ stAt H873 ⟨b865, 0, none⟩ r869.toList fun H874 => r872.size = 3 ∧ stAt H874 ⟨b842, 0, none⟩ r872.toList fun H875 => J50 [.pointer (some ⟨b737, 0, none⟩), .pointer (some ⟨b865, 0, none⟩), .pointer (some ⟨b842, 0, none⟩)] H875))) ∧ (alc H738 (.cells #[.int .i64 0, .int .i64 0, .slice none 0 0] 34) fun b883 H884 => (Ext H738 H884 ∨ (∃ v945, v945.size = 4 ∧ rowIn H884 ⟨b47, 0, none⟩ v945 ∧ Value.agg v945 = .agg v67) ∧ (∃ v946, v946.size = 4 ∧ rowIn H884 ⟨b39, 0, none⟩ v946 ∧ Value.agg v946 = .agg v66) ∧ (∃ v947, v947.size = 4 ∧ rowIn H884 ⟨b22, 0, none⟩ v947 ∧ Value.agg v947 = .agg v65)) ∧ (Tryz.C 11 #[.agg v65] H884 fun r885 H886 => ∃ r887, r885 = .agg r887 ∧ (Ext H884 H886 ∨ (∃ v923, v923.size = 4 ∧ rowIn H886 ⟨b47, 0, none⟩ v923 ∧ Value.agg v923 = .agg v67) ∧ (∃ v924, v924.size = 4 ∧ rowIn H886 ⟨b39, 0, none⟩ v924 ∧ Value.agg v924 = .agg v66)) ∧ (Tryz.C 11 #[.agg v66] H886 fun r888 H889 => ∃ r890, r888 = .agg r890 ∧ (Ext H886 H889 ∨ (∃ v908, v908.size = 4 ∧ rowIn H889 ⟨b47, 0, none⟩ v908 ∧ Value.agg v908 = .agg v67)) ∧ (Tryz.C 11 #[.agg v67] H889 fun r891 H892 => ∃ r893, r891 = .agg r893 ∧ alc H892 (.cells #[.int .i64 0, .int .i64 0, .slice none 0 0] 34) fun b894 H895 => r887.size = 3 ∧ stAt H895 ⟨b737, 0, none⟩ r887.toList fun H896 => r890.size = 3 ∧ stAt H896 ⟨b883, 0, none⟩ r890.toList fun H897 => r893.size = 3 ∧ stAt H897 ⟨b894, 0, none⟩ r893.toList fun H898 => J50 [.pointer (some ⟨b737, 0, none⟩), .pointer (some ⟨b883, 0, none⟩), .pointer (some ⟨b894, 0, none⟩)] H898) ∧ (alc H889 (.cells #[.int .i64 0, .int .i64 0, .slice none 0 0] 34) fun b899 H900 => (Ext H889 H900 ∨ (∃ v907, v907.size = 4 ∧ rowIn H900 ⟨b47, 0, none⟩ v907 ∧ Value.agg v907 = .agg v67)) ∧ Tryz.C 11 #[.agg v67] H900 fun r901 H902 => ∃ r903, r901 = .agg r903 ∧ r887.size = 3 ∧ stAt H902 ⟨b737, 0, none⟩ r887.toList fun H904 => r890.size = 3 ∧ stAt H904 ⟨b883, 0, none⟩ r890.toList fun H905 => r903.size = 3 ∧ stAt H905 ⟨b899, 0, none⟩ r903.toList fun H906 => J50 [.pointer (some ⟨b737, 0, none⟩), .pointer (some ⟨b883, 0, none⟩), .pointer (some ⟨b899, 0, none⟩)] H906)) ∧ (alc H886 (.cells #[.int .i64 0, .int .i64 0, .slice none 0 0] 34) fun b909 H910 => (Ext H886 H910 ∨ (∃ v921, v921.size = 4 ∧ rowIn H910 ⟨b47, 0, none⟩ v921 ∧ Value.agg v921 = .agg v67) ∧ (∃ v922, v922.size = 4 ∧ rowIn H910 ⟨b39, 0, none⟩ v922 ∧ Value.agg v922 = .agg v66)) ∧ Tryz.C 11 #[.agg v66] H910 fun r911 H912 => ∃ r913, r911 = .agg r913 ∧ (Ext H910 H912 ∨ (∃ v920, v920.size = 4 ∧ rowIn H912 ⟨b47, 0, none⟩ v920 ∧ Value.agg v920 = .agg v67)) ∧ Tryz.C 11 #[.agg v67] H912 fun r914 H915 => ∃ r916, r914 = .agg r916 ∧ r887.size = 3 ∧ stAt H915 ⟨b737, 0, none⟩ r887.toList fun H917 => r913.size = 3 ∧ stAt H917 ⟨b883, 0, none⟩ r913.toList fun H918 => r916.size = 3 ∧ stAt H918 ⟨b909, 0, none⟩ r916.toList fun H919 => J50 [.pointer (some ⟨b737, 0, none⟩), .pointer (some ⟨b883, 0, none⟩), .pointer (some ⟨b909, 0, none⟩)] H919)) ∧ (alc H884 (.cells #[.int .i64 0, .int .i64 0, .slice none 0 0] 34) fun b925 H926 => (Ext H884 H926 ∨ (∃ v942, v942.size = 4 ∧ rowIn H926 ⟨b47, 0, none⟩ v942 ∧ Value.agg v942 = .agg v67) ∧ (∃ v943, v943.size = 4 ∧ rowIn H926 ⟨b39, 0, none⟩ v943 ∧ Value.agg v943 = .agg v66) ∧ (∃ v944, v944.size = 4 ∧ rowIn H926 ⟨b22, 0, none⟩ v944 ∧ Value.agg v944 = .agg v65)) ∧ Tryz.C 11 #[.agg v65] H926 fun r927 H928 => ∃ r929, r927 = .agg r929 ∧ (Ext H926 H928 ∨ (∃ v940, v940.size = 4 ∧ rowIn H928 ⟨b47, 0, none⟩ v940 ∧ Value.agg v940 = .agg v67) ∧ (∃ v941, v941.size = 4 ∧ rowIn H928 ⟨b39, 0, none⟩ v941 ∧ Value.agg v941 = .agg v66)) ∧ Tryz.C 11 #[.agg v66] H928 fun r930 H931 => ∃ r932, r930 = .agg r932 ∧ (Ext H928 H931 ∨ (∃ v939, v939.size = 4 ∧ rowIn H931 ⟨b47, 0, none⟩ v939 ∧ Value.agg v939 = .agg v67)) ∧ Tryz.C 11 #[.agg v67] H931 fun r933 H934 => ∃ r935, r933 = .agg r935 ∧ r929.size = 3 ∧ stAt H934 ⟨b737, 0, none⟩ r929.toList fun H936 => r932.size = 3 ∧ stAt H936 ⟨b883, 0, none⟩ r932.toList fun H937 => r935.size = 3 ∧ stAt H937 ⟨b925, 0, none⟩ r935.toList fun H938 => J50 [.pointer (some ⟨b737, 0, none⟩), .pointer (some ⟨b883, 0, none⟩), .pointer (some ⟨b925, 0, none⟩)] H938)) ∧ (alc H738 (.cells #[.int .i64 0, .int .i64 0, .slice none 0 0] 34) fun b948 H949 => (Ext H738 H949 ∨ (∃ v1010, v1010.size = 4 ∧ rowIn H949 ⟨b47, 0, none⟩ v1010 ∧ Value.agg v1010 = .agg v67) ∧ (∃ v1011, v1011.size = 4 ∧ rowIn H949 ⟨b39, 0, none⟩ v1011 ∧ Value.agg v1011 = .agg v66) ∧ (∃ v1012, v1012.size = 4 ∧ rowIn H949 ⟨b22, 0, none⟩ v1012 ∧ Value.agg v1012 = .agg v65)) ∧ (Tryz.C 11 #[.agg v65] H949 fun r950 H951 => ∃ r952, r950 = .agg r952 ∧ (Ext H949 H951 ∨ (∃ v988, v988.size = 4 ∧ rowIn H951 ⟨b47, 0, none⟩ v988 ∧ Value.agg v988 = .agg v67) ∧ (∃ v989, v989.size = 4 ∧ rowIn H951 ⟨b39, 0, none⟩ v989 ∧ Value.agg v989 = .agg v66)) ∧ (Tryz.C 11 #[.agg v66] H951 fun r953 H954 => ∃ r955, r953 = .agg r955 ∧ (Ext H951 H954 ∨ (∃ v973, v973.size = 4 ∧ rowIn H954 ⟨b47, 0, none⟩ v973 ∧ Value.agg v973 = .agg v67)) ∧ (Tryz.C 11 #[.agg v67] H954 fun r956 H957 => ∃ r958, r956 = .agg r958 ∧ alc H957 (.cells #[.int .i64 0, .int .i64 0, .slice none 0 0] 34) fun b959 H960 => r952.size = 3 ∧ stAt H960 ⟨b737, 0, none⟩ r952.toList fun H961 => r955.size = 3 ∧ stAt H961 ⟨b959, 0, none⟩ r955.toList fun H962 => r958.size = 3 ∧ stAt H962 ⟨b948, 0, none⟩ r958.toList fun H963 => J50 [.pointer (some ⟨b737, 0, none⟩), .pointer (some ⟨b959, 0, none⟩), .pointer (some ⟨b948, 0, none⟩)] H963) ∧ (alc H954 (.cells #[.int .i64 0, .int .i64 0, .slice none 0 0] 34) fun b964 H965 => (Ext H954 H965 ∨ (∃ v972, v972.size = 4 ∧ rowIn H965 ⟨b47, 0, none⟩ v972 ∧ Value.agg v972 = .agg v67)) ∧ Tryz.C 11 #[.agg v67] H965 fun r966 H967 => ∃ r968, r966 = .agg r968 ∧ r952.size = 3 ∧ stAt H967 ⟨b737, 0, none⟩ r952.toList fun H969 => r955.size = 3 ∧ stAt H969 ⟨b964, 0, none⟩ r955.toList fun H970 => r968.size = 3 ∧ stAt H970 ⟨b948, 0, none⟩ r968.toList fun H971 => J50 [.pointer (some ⟨b737, 0, none⟩), .pointer (some ⟨b964, 0, none⟩), .pointer (some ⟨b948, 0, none⟩)] H971)) ∧ (alc H951 (.cells #[.int .i64 0, .int .i64 0, .slice none 0 0] 34) fun b974 H975 => (Ext H951 H975 ∨ (∃ v986, v986.size = 4 ∧ rowIn H975 ⟨b47, 0, none⟩ v986 ∧ Value.agg v986 = .agg v67) ∧ (∃ v987, v987.size = 4 ∧ rowIn H975 ⟨b39, 0, none⟩ v987 ∧ Value.agg v987 = .agg v66)) ∧ Tryz.C 11 #[.agg v66] H975 fun r976 H977 => ∃ r978, r976 = .agg r978 ∧ (Ext H975 H977 ∨ (∃ v985, v985.size = 4 ∧ rowIn H977 ⟨b47, 0, none⟩ v985 ∧ Value.agg v985 = .agg v67)) ∧ Tryz.C 11 #[.agg v67] H977 fun r979 H980 => ∃ r981, r979 = .agg r981 ∧ r952.size = 3 ∧ stAt H980 ⟨b737, 0, none⟩ r952.toList fun H982 => r978.size = 3 ∧ stAt H982 ⟨b974, 0, none⟩ r978.toList fun H983 => r981.size = 3 ∧ stAt H983 ⟨b948, 0, none⟩ r981.toList fun H984 => J50 [.pointer (some ⟨b737, 0, none⟩), .pointer (some ⟨b974, 0, none⟩), .pointer (some ⟨b948, 0, none⟩)] H984)) ∧ (alc H949 (.cells #[.int .i64 0, .int .i64 0, .slice none 0 0] 34) fun b990 H991 => (Ext H949 H991 ∨ (∃ v1007, v1007.size = 4 ∧ rowIn H991 ⟨b47, 0, none⟩ v1007 ∧ Value.agg v1007 = .agg v67) ∧ (∃ v1008, v1008.size = 4 ∧ rowIn H991 ⟨b39, 0, none⟩ v1008 ∧ Value.agg v1008 = .agg v66) ∧ (∃ v1009, v1009.size = 4 ∧ rowIn H991 ⟨b22, 0, none⟩ v1009 ∧ Value.agg v1009 = .agg v65)) ∧ Tryz.C 11 #[.agg v65] H991 fun r992 H993 => ∃ r994, r992 = .agg r994 ∧ (Ext H991 H993 ∨ (∃ v1005, v1005.size = 4 ∧ rowIn H993 ⟨b47, 0, none⟩ v1005 ∧ Value.agg v1005 = .agg v67) ∧ (∃ v1006, v1006.size = 4 ∧ rowIn H993 ⟨b39, 0, none⟩ v1006 ∧ Value.agg v1006 = .agg v66)) ∧ Tryz.C 11 #[.agg v66] H993 fun r995 H996 => ∃ r997, r995 = .agg r997 ∧ (Ext H993 H996 ∨ (∃ v1004, v1004.size = 4 ∧ rowIn H996 ⟨b47, 0, none⟩ v1004 ∧ Value.agg v1004 = .agg v67)) ∧ Tryz.C 11 #[.agg v67] H996 fun r998 H999 => ∃ r1000, r998 = .agg r1000 ∧ r994.size = 3 ∧ stAt H999 ⟨b737, 0, none⟩ r994.toList fun H1001 => r997.size = 3 ∧ stAt H1001 ⟨b990, 0, none⟩ r997.toList fun H1002 => r1000.size = 3 ∧ stAt H1002 ⟨b948, 0, none⟩ r1000.toList fun H1003 => J50 [.pointer (some ⟨b737, 0, none⟩), .pointer (some ⟨b990, 0, none⟩), .pointer (some ⟨b948, 0, none⟩)] H1003))) ∧ (alc H49 (.cells #[.int .i64 0, .int .i64 0, .slice none 0 0] 34) fun b1016 H1017 => (Ext H49 H1017 ∨ (∃ v1292, v1292.size = 4 ∧ rowIn H1017 ⟨b47, 0, none⟩ v1292 ∧ Value.agg v1292 = .agg v67) ∧ (∃ v1293, v1293.size = 4 ∧ rowIn H1017 ⟨b39, 0, none⟩ v1293 ∧ Value.agg v1293 = .agg v66) ∧ (∃ v1294, v1294.size = 4 ∧ rowIn H1017 ⟨b22, 0, none⟩ v1294 ∧ Value.agg v1294 = .agg v65)) ∧ (Tryz.C 11 #[.agg v65] H1017 fun r1018 H1019 => ∃ r1020, r1018 = .agg r1020 ∧ (Ext H1017 H1019 ∨ (∃ v1160, v1160.size = 4 ∧ rowIn H1019 ⟨b47, 0, none⟩ v1160 ∧ Value.agg v1160 = .agg v67) ∧ (∃ v1161, v1161.size = 4 ∧ rowIn H1019 ⟨b39, 0, none⟩ v1161 ∧ Value.agg v1161 = .agg v66)) ∧ (Tryz.C 11 #[.agg v66] H1019 fun r1021 H1022 => ∃ r1023, r1021 = .agg r1023 ∧ (Ext H1019 H1022 ∨ (∃ v1081, v1081.size = 4 ∧ rowIn H1022 ⟨b47, 0, none⟩ v1081 ∧ Value.agg v1081 = .agg v67)) ∧ (Tryz.C 11 #[.agg v67] H1022 fun r1024 H1025 => ∃ r1026, r1024 = .agg r1026 ∧ (alc H1025 (.cells #[.int .i64 0, .int .i64 0, .slice none 0 0] 34) fun b1027 H1028 => alc H1028 (.cells #[.int .i64 0, .int .i64 0, .slice none 0 0] 34) fun b1029 H1030 => r1020.size = 3 ∧ stAt H1030 ⟨b1027, 0, none⟩ r1020.toList fun H1031 => r1023.size = 3 ∧ stAt H1031 ⟨b1016, 0, none⟩ r1023.toList fun H1032 => r1026.size = 3 ∧ stAt H1032 ⟨b1029, 0, none⟩ r1026.toList fun H1033 => J50 [.pointer (some ⟨b1027, 0, none⟩), .pointer (some ⟨b1016, 0, none⟩), .pointer (some ⟨b1029, 0, none⟩)] H1033) ∧ (alc H1025 (.cells #[.int .i64 0, .int .i64 0, .slice none 0 0] 34) fun b1034 H1035 => alc H1035 (.cells #[.int .i64 0, .int .i64 0, .slice none 0 0] 34) fun b1036 H1037 => r1020.size = 3 ∧ stAt H1037 ⟨b1036, 0, none⟩ r1020.toList fun H1038 => r1023.size = 3 ∧ stAt H1038 ⟨b1016, 0, none⟩ r1023.toList fun H1039 => r1026.size = 3 ∧ stAt H1039 ⟨b1034, 0, none⟩ r1026.toList fun H1040 => J50 [.pointer (some ⟨b1036, 0, none⟩), .pointer (some ⟨b1016, 0, none⟩), .pointer (some ⟨b1034, 0, none⟩)] H1040)) ∧ (alc H1022 (.cells #[.int .i64 0, .int .i64 0, .slice none 0 0] 34) fun b1041 H1042 => (Ext H1022 H1042 ∨ (∃ v1060, v1060.size = 4 ∧ rowIn H1042 ⟨b47, 0, none⟩ v1060 ∧ Value.agg v1060 = .agg v67)) ∧ (Tryz.C 11 #[.agg v67] H1042 fun r1043 H1044 => ∃ r1045, r1043 = .agg r1045 ∧ alc H1044 (.cells #[.int .i64 0, .int .i64 0, .slice none 0 0] 34) fun b1046 H1047 => r1020.size = 3 ∧ stAt H1047 ⟨b1041, 0, none⟩ r1020.toList fun H1048 => r1023.size = 3 ∧ stAt H1048 ⟨b1016, 0, none⟩ r1023.toList fun H1049 => r1045.size = 3 ∧ stAt H1049 ⟨b1046, 0, none⟩ r1045.toList fun H1050 => J50 [.pointer (some ⟨b1041, 0, none⟩), .pointer (some ⟨b1016, 0, none⟩), .pointer (some ⟨b1046, 0, none⟩)] H1050) ∧ (alc H1042 (.cells #[.int .i64 0, .int .i64 0, .slice none 0 0] 34) fun b1051 H1052 => (Ext H1042 H1052 ∨ (∃ v1059, v1059.size = 4 ∧ rowIn H1052 ⟨b47, 0, none⟩ v1059 ∧ Value.agg v1059 = .agg v67)) ∧ Tryz.C 11 #[.agg v67] H1052 fun r1053 H1054 => ∃ r1055, r1053 = .agg r1055 ∧ r1020.size = 3 ∧ stAt H1054 ⟨b1041, 0, none⟩ r1020.toList fun H1056 => r1023.size = 3 ∧ stAt H1056 ⟨b1016, 0, none⟩ r1023.toList fun H1057 => r1055.size = 3 ∧ stAt H1057 ⟨b1051, 0, none⟩ r1055.toList fun H1058 => J50 [.pointer (some ⟨b1041, 0, none⟩), .pointer (some ⟨b1016, 0, none⟩), .pointer (some ⟨b1051, 0, none⟩)] H1058)) ∧ (alc H1022 (.cells #[.int .i64 0, .int .i64 0, .slice none 0 0] 34) fun b1061 H1062 => (Ext H1022 H1062 ∨ (∃ v1080, v1080.size = 4 ∧ rowIn H1062 ⟨b47, 0, none⟩ v1080 ∧ Value.agg v1080 = .agg v67)) ∧ (Tryz.C 11 #[.agg v67] H1062 fun r1063 H1064 => ∃ r1065, r1063 = .agg r1065 ∧ alc H1064 (.cells #[.int .i64 0, .int .i64 0, .slice none 0 0] 34) fun b1066 H1067 => r1020.size = 3 ∧ stAt H1067 ⟨b1066, 0, none⟩ r1020.toList fun H1068 => r1023.size = 3 ∧ stAt H1068 ⟨b1016, 0, none⟩ r1023.toList fun H1069 => r1065.size = 3 ∧ stAt H1069 ⟨b1061, 0, none⟩ r1065.toList fun H1070 => J50 [.pointer (some ⟨b1066, 0, none⟩), .pointer (some ⟨b1016, 0, none⟩), .pointer (some ⟨b1061, 0, none⟩)] H1070) ∧ (alc H1062 (.cells #[.int .i64 0, .int .i64 0, .slice none 0 0] 34) fun b1071 H1072 => (Ext H1062 H1072 ∨ (∃ v1079, v1079.size = 4 ∧ rowIn H1072 ⟨b47, 0, none⟩ v1079 ∧ Value.agg v1079 = .agg v67)) ∧ Tryz.C 11 #[.agg v67] H1072 fun r1073 H1074 => ∃ r1075, r1073 = .agg r1075 ∧ r1020.size = 3 ∧ stAt H1074 ⟨b1071, 0, none⟩ r1020.toList fun H1076 => r1023.size = 3 ∧ stAt H1076 ⟨b1016, 0, none⟩ r1023.toList fun H1077 => r1075.size = 3 ∧ stAt H1077 ⟨b1061, 0, none⟩ r1075.toList fun H1078 => J50 [.pointer (some ⟨b1071, 0, none⟩), .pointer (some ⟨b1016, 0, none⟩), .pointer (some ⟨b1061, 0, none⟩)] H1078))) ∧ (alc H1019 (.cells #[.int .i64 0, .int .i64 0, .slice none 0 0] 34) fun b1082 H1083 => (Ext H1019 H1083 ∨ (∃ v1119, v1119.size = 4 ∧ rowIn H1083 ⟨b47, 0, none⟩ v1119 ∧ Value.agg v1119 = .agg v67) ∧ (∃ v1120, v1120.size = 4 ∧ rowIn H1083 ⟨b39, 0, none⟩ v1120 ∧ Value.agg v1120 = .agg v66)) ∧ (Tryz.C 11 #[.agg v66] H1083 fun r1084 H1085 => ∃ r1086, r1084 = .agg r1086 ∧ (Ext H1083 H1085 ∨ (∃ v1104, v1104.size = 4 ∧ rowIn H1085 ⟨b47, 0, none⟩ v1104 ∧ Value.agg v1104 = .agg v67)) ∧ (Tryz.C 11 #[.agg v67] H1085 fun r1087 H1088 => ∃ r1089, r1087 = .agg r1089 ∧ alc H1088 (.cells #[.int .i64 0, .int .i64 0, .slice none 0 0] 34) fun b1090 H1091 => r1020.size = 3 ∧ stAt H1091 ⟨b1082, 0, none⟩ r1020.toList fun H1092 => r1086.size = 3 ∧ stAt H1092 ⟨b1016, 0, none⟩ r1086.toList fun H1093 => r1089.size = 3 ∧ stAt H1093 ⟨b1090, 0, none⟩ r1089.toList fun H1094 => J50 [.pointer (some ⟨b1082, 0, none⟩), .pointer (some ⟨b1016, 0, none⟩), .pointer (some ⟨b1090, 0, none⟩)] H1094) ∧ (alc H1085 (.cells #[.int .i64 0, .int .i64 0, .slice none 0 0] 34) fun b1095 H1096 => (Ext H1085 H1096 ∨ (∃ v1103, v1103.size = 4 ∧ rowIn H1096 ⟨b47, 0, none⟩ v1103 ∧ Value.agg v1103 = .agg v67)) ∧ Tryz.C 11 #[.agg v67] H1096 fun r1097 H1098 => ∃ r1099, r1097 = .agg r1099 ∧ r1020.size = 3 ∧ stAt H1098 ⟨b1082, 0, none⟩ r1020.toList fun H1100 => r1086.size = 3 ∧ stAt H1100 ⟨b1016, 0, none⟩ r1086.toList fun H1101 => r1099.size = 3 ∧ stAt H1101 ⟨b1095, 0, none⟩ r1099.toList fun H1102 => J50 [.pointer (some ⟨b1082, 0, none⟩), .pointer (some ⟨b1016, 0, none⟩), .pointer (some ⟨b1095, 0, none⟩)] H1102)) ∧ (alc H1083 (.cells #[.int .i64 0, .int .i64 0, .slice none 0 0] 34) fun b1105 H1106 => (Ext H1083 H1106 ∨ (∃ v1117, v1117.size = 4 ∧ rowIn H1106 ⟨b47, 0, none⟩ v1117 ∧ Value.agg v1117 = .agg v67) ∧ (∃ v1118, v1118.size = 4 ∧ rowIn H1106 ⟨b39, 0, none⟩ v1118 ∧ Value.agg v1118 = .agg v66)) ∧ Tryz.C 11 #[.agg v66] H1106 fun r1107 H1108 => ∃ r1109, r1107 = .agg r1109 ∧ (Ext H1106 H1108 ∨ (∃ v1116, v1116.size = 4 ∧ rowIn H1108 ⟨b47, 0, none⟩ v1116 ∧ Value.agg v1116 = .agg v67)) ∧ Tryz.C 11 #[.agg v67] H1108 fun r1110 H1111 => ∃ r1112, r1110 = .agg r1112 ∧ r1020.size = 3 ∧ stAt H1111 ⟨b1082, 0, none⟩ r1020.toList fun H1113 => r1109.size = 3 ∧ stAt H1113 ⟨b1016, 0, none⟩ r1109.toList fun H1114 => r1112.size = 3 ∧ stAt H1114 ⟨b1105, 0, none⟩ r1112.toList fun H1115 => J50 [.pointer (some ⟨b1082, 0, none⟩), .pointer (some ⟨b1016, 0, none⟩), .pointer (some ⟨b1105, 0, none⟩)] H1115)) ∧ (alc H1019 (.cells #[.int .i64 0, .int .i64 0, .slice none 0 0] 34) fun b1121 H1122 => (Ext H1019 H1122 ∨ (∃ v1158, v1158.size = 4 ∧ rowIn H1122 ⟨b47, 0, none⟩ v1158 ∧ Value.agg v1158 = .agg v67) ∧ (∃ v1159, v1159.size = 4 ∧ rowIn H1122 ⟨b39, 0, none⟩ v1159 ∧ Value.agg v1159 = .agg v66)) ∧ (Tryz.C 11 #[.agg v66] H1122 fun r1123 H1124 => ∃ r1125, r1123 = .agg r1125 ∧ (Ext H1122 H1124 ∨ (∃ v1143, v1143.size = 4 ∧ rowIn H1124 ⟨b47, 0, none⟩ v1143 ∧ Value.agg v1143 = .agg v67)) ∧ (Tryz.C 11 #[.agg v67] H1124 fun r1126 H1127 => ∃ r1128, r1126 = .agg r1128 ∧ alc H1127 (.cells #[.int .i64 0, .int .i64 0, .slice none 0 0] 34) fun b1129 H1130 => r1020.size = 3 ∧ stAt H1130 ⟨b1129, 0, none⟩ r1020.toList fun H1131 => r1125.size = 3 ∧ stAt H1131 ⟨b1016, 0, none⟩ r1125.toList fun H1132 => r1128.size = 3 ∧ stAt H1132 ⟨b1121, 0, none⟩ r1128.toList fun H1133 => J50 [.pointer (some ⟨b1129, 0, none⟩), .pointer (some ⟨b1016, 0, none⟩), .pointer (some ⟨b1121, 0, none⟩)] H1133) ∧ (alc H1124 (.cells #[.int .i64 0, .int .i64 0, .slice none 0 0] 34) fun b1134 H1135 => (Ext H1124 H1135 ∨ (∃ v1142, v1142.size = 4 ∧ rowIn H1135 ⟨b47, 0, none⟩ v1142 ∧ Value.agg v1142 = .agg v67)) ∧ Tryz.C 11 #[.agg v67] H1135 fun r1136 H1137 => ∃ r1138, r1136 = .agg r1138 ∧ r1020.size = 3 ∧ stAt H1137 ⟨b1134, 0, none⟩ r1020.toList fun H1139 => r1125.size = 3 ∧ stAt H1139 ⟨b1016, 0, none⟩ r1125.toList fun H1140 => r1138.size = 3 ∧ stAt H1140 ⟨b1121, 0, none⟩ r1138.toList fun H1141 => J50 [.pointer (some ⟨b1134, 0, none⟩), .pointer (some ⟨b1016, 0, none⟩), .pointer (some ⟨b1121, 0, none⟩)] H1141)) ∧ (alc H1122 (.cells #[.int .i64 0, .int .i64 0, .slice none 0 0] 34) fun b1144 H1145 => (Ext H1122 H1145 ∨ (∃ v1156, v1156.size = 4 ∧ rowIn H1145 ⟨b47, 0, none⟩ v1156 ∧ Value.agg v1156 = .agg v67) ∧ (∃ v1157, v1157.size = 4 ∧ rowIn H1145 ⟨b39, 0, none⟩ v1157 ∧ Value.agg v1157 = .agg v66)) ∧ Tryz.C 11 #[.agg v66] H1145 fun r1146 H1147 => ∃ r1148, r1146 = .agg r1148 ∧ (Ext H1145 H1147 ∨ (∃ v1155, v1155.size = 4 ∧ rowIn H1147 ⟨b47, 0, none⟩ v1155 ∧ Value.agg v1155 = .agg v67)) ∧ Tryz.C 11 #[.agg v67] H1147 fun r1149 H1150 => ∃ r1151, r1149 = .agg r1151 ∧ r1020.size = 3 ∧ stAt H1150 ⟨b1144, 0, none⟩ r1020.toList fun H1152 => r1148.size = 3 ∧ stAt H1152 ⟨b1016, 0, none⟩ r1148.toList fun H1153 => r1151.size = 3 ∧ stAt H1153 ⟨b1121, 0, none⟩ r1151.toList fun H1154 => J50 [.pointer (some ⟨b1144, 0, none⟩), .pointer (some ⟨b1016, 0, none⟩), .pointer (some ⟨b1121, 0, none⟩)] H1154))) ∧ (alc H1017 (.cells #[.int .i64 0, .int .i64 0, .slice none 0 0] 34) fun b1162 H1163 => (Ext H1017 H1163 ∨ (∃ v1224, v1224.size = 4 ∧ rowIn H1163 ⟨b47, 0, none⟩ v1224 ∧ Value.agg v1224 = .agg v67) ∧ (∃ v1225, v1225.size = 4 ∧ rowIn H1163 ⟨b39, 0, none⟩ v1225 ∧ Value.agg v1225 = .agg v66) ∧ (∃ v1226, v1226.size = 4 ∧ rowIn H1163 ⟨b22, 0, none⟩ v1226 ∧ Value.agg v1226 = .agg v65)) ∧ (Tryz.C 11 #[.agg v65] H1163 fun r1164 H1165 => ∃ r1166, r1164 = .agg r1166 ∧ (Ext H1163 H1165 ∨ (∃ v1202, v1202.size = 4 ∧ rowIn H1165 ⟨b47, 0, none⟩ v1202 ∧ Value.agg v1202 = .agg v67) ∧ (∃ v1203, v1203.size = 4 ∧ rowIn H1165 ⟨b39, 0, none⟩ v1203 ∧ Value.agg v1203 = .agg v66)) ∧ (Tryz.C 11 #[.agg v66] H1165 fun r1167 H1168 => ∃ r1169, r1167 = .agg r1169 ∧ (Ext H1165 H1168 ∨ (∃ v1187, v1187.size = 4 ∧ rowIn H1168 ⟨b47, 0, none⟩ v1187 ∧ Value.agg v1187 = .agg v67)) ∧ (Tryz.C 11 #[.agg v67] H1168 fun r1170 H1171 => ∃ r1172, r1170 = .agg r1172 ∧ alc H1171 (.cells #[.int .i64 0, .int .i64 0, .slice none 0 0] 34) fun b1173 H1174 => r1166.size = 3 ∧ stAt H1174 ⟨b1162, 0, none⟩ r1166.toList fun H1175 => r1169.size = 3 ∧ stAt H1175 ⟨b1016, 0, none⟩ r1169.toList fun H1176 => r1172.size = 3 ∧ stAt H1176 ⟨b1173, 0, none⟩ r1172.toList fun H1177 => J50 [.pointer (some ⟨b1162, 0, none⟩), .pointer (some ⟨b1016, 0, none⟩), .pointer (some ⟨b1173, 0, none⟩)] H1177) ∧ (alc H1168 (.cells #[.int .i64 0, .int .i64 0, .slice none 0 0] 34) fun b1178 H1179 => (Ext H1168 H1179 ∨ (∃ v1186, v1186.size = 4 ∧ rowIn H1179 ⟨b47, 0, none⟩ v1186 ∧ Value.agg v1186 = .agg v67)) ∧ Tryz.C 11 #[.agg v67] H1179 fun r1180 H1181 => ∃ r1182, r1180 = .agg r1182 ∧ r1166.size = 3 ∧ stAt H1181 ⟨b1162, 0, none⟩ r1166.toList fun H1183 => r1169.size = 3 ∧ stAt H1183 ⟨b1016, 0, none⟩ r1169.toList fun H1184 => r1182.size = 3 ∧ stAt H1184 ⟨b1178, 0, none⟩ r1182.toList fun H1185 => J50 [.pointer (some ⟨b1162, 0, none⟩), .pointer (some ⟨b1016, 0, none⟩), .pointer (some ⟨b1178, 0, none⟩)] H1185)) ∧ (alc H1165 (.cells #[.int .i64 0, .int .i64 0, .slice none 0 0] 34) fun b1188 H1189 => (Ext H1165 H1189 ∨ (∃ v1200, v1200.size = 4 ∧ rowIn H1189 ⟨b47, 0, none⟩ v1200 ∧ Value.agg v1200 = .agg v67) ∧ (∃ v1201, v1201.size = 4 ∧ rowIn H1189 ⟨b39, 0, none⟩ v1201 ∧ Value.agg v1201 = .agg v66)) ∧ Tryz.C 11 #[.agg v66] H1189 fun r1190 H1191 => ∃ r1192, r1190 = .agg r1192 ∧ (Ext H1189 H1191 ∨ (∃ v1199, v1199.size = 4 ∧ rowIn H1191 ⟨b47, 0, none⟩ v1199 ∧ Value.agg v1199 = .agg v67)) ∧ Tryz.C 11 #[.agg v67] H1191 fun r1193 H1194 => ∃ r1195, r1193 = .agg r1195 ∧ r1166.size = 3 ∧ stAt H1194 ⟨b1162, 0, none⟩ r1166.toList fun H1196 => r1192.size = 3 ∧ stAt H1196 ⟨b1016, 0, none⟩ r1192.toList fun H1197 => r1195.size = 3 ∧ stAt H1197 ⟨b1188, 0, none⟩ r1195.toList fun H1198 => J50 [.pointer (some ⟨b1162, 0, none⟩), .pointer (some ⟨b1016, 0, none⟩), .pointer (some ⟨b1188, 0, none⟩)] H1198)) ∧ (alc H1163 (.cells #[.int .i64 0, .int .i64 0, .slice none 0 0] 34) fun b1204 H1205 => (Ext H1163 H1205 ∨ (∃ v1221, v1221.size = 4 ∧ rowIn H1205 ⟨b47, 0, none⟩ v1221 ∧ Value.agg v1221 = .agg v67) ∧ (∃ v1222, v1222.size = 4 ∧ rowIn H1205 ⟨b39, 0, none⟩ v1222 ∧ Value.agg v1222 = .agg v66) ∧ (∃ v1223, v1223.size = 4 ∧ rowIn H1205 ⟨b22, 0, none⟩ v1223 ∧ Value.agg v1223 = .agg v65)) ∧ Tryz.C 11 #[.agg v65] H1205 fun r1206 H1207 => ∃ r1208, r1206 = .agg r1208 ∧ (Ext H1205 H1207 ∨ (∃ v1219, v1219.size = 4 ∧ rowIn H1207 ⟨b47, 0, none⟩ v1219 ∧ Value.agg v1219 = .agg v67) ∧ (∃ v1220, v1220.size = 4 ∧ rowIn H1207 ⟨b39, 0, none⟩ v1220 ∧ Value.agg v1220 = .agg v66)) ∧ Tryz.C 11 #[.agg v66] H1207 fun r1209 H1210 => ∃ r1211, r1209 = .agg r1211 ∧ (Ext H1207 H1210 ∨ (∃ v1218, v1218.size = 4 ∧ rowIn H1210 ⟨b47, 0, none⟩ v1218 ∧ Value.agg v1218 = .agg v67)) ∧ Tryz.C 11 #[.agg v67] H1210 fun r1212 H1213 => ∃ r1214, r1212 = .agg r1214 ∧ r1208.size = 3 ∧ stAt H1213 ⟨b1162, 0, none⟩ r1208.toList fun H1215 => r1211.size = 3 ∧ stAt H1215 ⟨b1016, 0, none⟩ r1211.toList fun H1216 => r1214.size = 3 ∧ stAt H1216 ⟨b1204, 0, none⟩ r1214.toList fun H1217 => J50 [.pointer (some ⟨b1162, 0, none⟩), .pointer (some ⟨b1016, 0, none⟩), .pointer (some ⟨b1204, 0, none⟩)] H1217)) ∧ (alc H1017 (.cells #[.int .i64 0, .int .i64 0, .slice none 0 0] 34) fun b1227 H1228 => (Ext H1017 H1228 ∨ (∃ v1289, v1289.size = 4 ∧ rowIn H1228 ⟨b47, 0, none⟩ v1289 ∧ Value.agg v1289 = .agg v67) ∧ (∃ v1290, v1290.size = 4 ∧ rowIn H1228 ⟨b39, 0, none⟩ v1290 ∧ Value.agg v1290 = .agg v66) ∧ (∃ v1291, v1291.size = 4 ∧ rowIn H1228 ⟨b22, 0, none⟩ v1291 ∧ Value.agg v1291 = .agg v65)) ∧ (Tryz.C 11 #[.agg v65] H1228 fun r1229 H1230 => ∃ r1231, r1229 = .agg r1231 ∧ (Ext H1228 H1230 ∨ (∃ v1267, v1267.size = 4 ∧ rowIn H1230 ⟨b47, 0, none⟩ v1267 ∧ Value.agg v1267 = .agg v67) ∧ (∃ v1268, v1268.size = 4 ∧ rowIn H1230 ⟨b39, 0, none⟩ v1268 ∧ Value.agg v1268 = .agg v66)) ∧ (Tryz.C 11 #[.agg v66] H1230 fun r1232 H1233 => ∃ r1234, r1232 = .agg r1234 ∧ (Ext H1230 H1233 ∨ (∃ v1252, v1252.size = 4 ∧ rowIn H1233 ⟨b47, 0, none⟩ v1252 ∧ Value.agg v1252 = .agg v67)) ∧ (Tryz.C 11 #[.agg v67] H1233 fun r1235 H1236 => ∃ r1237, r1235 = .agg r1237 ∧ alc H1236 (.cells #[.int .i64 0, .int .i64 0, .slice none 0 0] 34) fun b1238 H1239 => r1231.size = 3 ∧ stAt H1239 ⟨b1238, 0, none⟩ r1231.toList fun H1240 => r1234.size = 3 ∧ stAt H1240 ⟨b1016, 0, none⟩ r1234.toList fun H1241 => r1237.size = 3 ∧ stAt H1241 ⟨b1227, 0, none⟩ r1237.toList fun H1242 => J50 [.pointer (some ⟨b1238, 0, none⟩), .pointer (some ⟨b1016, 0, none⟩), .pointer (some ⟨b1227, 0, none⟩)] H1242) ∧ (alc H1233 (.cells #[.int .i64 0, .int .i64 0, .slice none 0 0] 34) fun b1243 H1244 => (Ext H1233 H1244 ∨ (∃ v1251, v1251.size = 4 ∧ rowIn H1244 ⟨b47, 0, none⟩ v1251 ∧ Value.agg v1251 = .agg v67)) ∧ Tryz.C 11 #[.agg v67] H1244 fun r1245 H1246 => ∃ r1247, r1245 = .agg r1247 ∧ r1231.size = 3 ∧ stAt H1246 ⟨b1243, 0, none⟩ r1231.toList fun H1248 => r1234.size = 3 ∧ stAt H1248 ⟨b1016, 0, none⟩ r1234.toList fun H1249 => r1247.size = 3 ∧ stAt H1249 ⟨b1227, 0, none⟩ r1247.toList fun H1250 => J50 [.pointer (some ⟨b1243, 0, none⟩), .pointer (some ⟨b1016, 0, none⟩), .pointer (some ⟨b1227, 0, none⟩)] H1250)) ∧ (alc H1230 (.cells #[.int .i64 0, .int .i64 0, .slice none 0 0] 34) fun b1253 H1254 => (Ext H1230 H1254 ∨ (∃ v1265, v1265.size = 4 ∧ rowIn H1254 ⟨b47, 0, none⟩ v1265 ∧ Value.agg v1265 = .agg v67) ∧ (∃ v1266, v1266.size = 4 ∧ rowIn H1254 ⟨b39, 0, none⟩ v1266 ∧ Value.agg v1266 = .agg v66)) ∧ Tryz.C 11 #[.agg v66] H1254 fun r1255 H1256 => ∃ r1257, r1255 = .agg r1257 ∧ (Ext H1254 H1256 ∨ (∃ v1264, v1264.size = 4 ∧ rowIn H1256 ⟨b47, 0, none⟩ v1264 ∧ Value.agg v1264 = .agg v67)) ∧ Tryz.C 11 #[.agg v67] H1256 fun r1258 H1259 => ∃ r1260, r1258 = .agg r1260 ∧ r1231.size = 3 ∧ stAt H1259 ⟨b1253, 0, none⟩ r1231.toList fun H1261 => r1257.size = 3 ∧ stAt H1261 ⟨b1016, 0, none⟩ r1257.toList fun H1262 => r1260.size = 3 ∧ stAt H1262 ⟨b1227, 0, none⟩ r1260.toList fun H1263 => J50 [.pointer (some ⟨b1253, 0, none⟩), .pointer (some ⟨b1016, 0, none⟩), .pointer (some ⟨b1227, 0, none⟩)] H1263)) ∧ (alc H1228 (.cells #[.int .i64 0, .int .i64 0, .slice none 0 0] 34) fun b1269 H1270 => (Ext H1228 H1270 ∨ (∃ v1286, v1286.size = 4 ∧ rowIn H1270 ⟨b47, 0, none⟩ v1286 ∧ Value.agg v1286 = .agg v67) ∧ (∃ v1287, v1287.size = 4 ∧ rowIn H1270 ⟨b39, 0, none⟩ v1287 ∧ Value.agg v1287 = .agg v66) ∧ (∃ v1288, v1288.size = 4 ∧ rowIn H1270 ⟨b22, 0, none⟩ v1288 ∧ Value.agg v1288 = .agg v65)) ∧ Tryz.C 11 #[.agg v65] H1270 fun r1271 H1272 => ∃ r1273, r1271 = .agg r1273 ∧ (Ext H1270 H1272 ∨ (∃ v1284, v1284.size = 4 ∧ rowIn H1272 ⟨b47, 0, none⟩ v1284 ∧ Value.agg v1284 = .agg v67) ∧ (∃ v1285, v1285.size = 4 ∧ rowIn H1272 ⟨b39, 0, none⟩ v1285 ∧ Value.agg v1285 = .agg v66)) ∧ Tryz.C 11 #[.agg v66] H1272 fun r1274 H1275 => ∃ r1276, r1274 = .agg r1276 ∧ (Ext H1272 H1275 ∨ (∃ v1283, v1283.size = 4 ∧ rowIn H1275 ⟨b47, 0, none⟩ v1283 ∧ Value.agg v1283 = .agg v67)) ∧ Tryz.C 11 #[.agg v67] H1275 fun r1277 H1278 => ∃ r1279, r1277 = .agg r1279 ∧ r1273.size = 3 ∧ stAt H1278 ⟨b1269, 0, none⟩ r1273.toList fun H1280 => r1276.size = 3 ∧ stAt H1280 ⟨b1016, 0, none⟩ r1276.toList fun H1281 => r1279.size = 3 ∧ stAt H1281 ⟨b1227, 0, none⟩ r1279.toList fun H1282 => J50 [.pointer (some ⟨b1269, 0, none⟩), .pointer (some ⟨b1016, 0, none⟩), .pointer (some ⟨b1227, 0, none⟩)] H1282))) ∧ (alc H49 (.cells #[.int .i64 0, .int .i64 0, .slice none 0 0] 34) fun b1295 H1296 => (Ext H49 H1296 ∨ (∃ v1571, v1571.size = 4 ∧ rowIn H1296 ⟨b47, 0, none⟩ v1571 ∧ Value.agg v1571 = .agg v67) ∧ (∃ v1572, v1572.size = 4 ∧ rowIn H1296 ⟨b39, 0, none⟩ v1572 ∧ Value.agg v1572 = .agg v66) ∧ (∃ v1573, v1573.size = 4 ∧ rowIn H1296 ⟨b22, 0, none⟩ v1573 ∧ Value.agg v1573 = .agg v65)) ∧ (Tryz.C 11 #[.agg v65] H1296 fun r1297 H1298 => ∃ r1299, r1297 = .agg r1299 ∧ (Ext H1296 H1298 ∨ (∃ v1439, v1439.size = 4 ∧ rowIn H1298 ⟨b47, 0, none⟩ v1439 ∧ Value.agg v1439 = .agg v67) ∧ (∃ v1440, v1440.size = 4 ∧ rowIn H1298 ⟨b39, 0, none⟩ v1440 ∧ Value.agg v1440 = .agg v66)) ∧ (Tryz.C 11 #[.agg v66] H1298 fun r1300 H1301 => ∃ r1302, r1300 = .agg r1302 ∧ (Ext H1298 H1301 ∨ (∃ v1360, v1360.size = 4 ∧ rowIn H1301 ⟨b47, 0, none⟩ v1360 ∧ Value.agg v1360 = .agg v67)) ∧ (Tryz.C 11 #[.agg v67] H1301 fun r1303 H1304 => ∃ r1305, r1303 = .agg r1305 ∧ (alc H1304 (.cells #[.int .i64 0, .int .i64 0, .slice none 0 0] 34) fun b1306 H1307 => alc H1307 (.cells #[.int .i64 0, .int .i64 0, .slice none 0 0] 34) fun b1308 H1309 => r1299.size = 3 ∧ stAt H1309 ⟨b1306, 0, none⟩ r1299.toList fun H1310 => r1302.size = 3 ∧ stAt H1310 ⟨b1308, 0, none⟩ r1302.toList fun H1311 => r1305.size = 3 ∧ stAt H1311 ⟨b1295, 0, none⟩ r1305.toList fun H1312 => J50 [.pointer (some ⟨b1306, 0, none⟩), .pointer (some ⟨b1308, 0, none⟩), .pointer (some ⟨b1295, 0, none⟩)] H1312) ∧ (alc H1304 (.cells #[.int .i64 0, .int .i64 0, .slice none 0 0] 34) fun b1313 H1314 => alc H1314 (.cells #[.int .i64 0, .int .i64 0, .slice none 0 0] 34) fun b1315 H1316 => r1299.size = 3 ∧ stAt H1316 ⟨b1315, 0, none⟩ r1299.toList fun H1317 => r1302.size = 3 ∧ stAt H1317 ⟨b1313, 0, none⟩ r1302.toList fun H1318 => r1305.size = 3 ∧ stAt H1318 ⟨b1295, 0, none⟩ r1305.toList fun H1319 => J50 [.pointer (some ⟨b1315, 0, none⟩), .pointer (some ⟨b1313, 0, none⟩), .pointer (some ⟨b1295, 0, none⟩)] H1319)) ∧ (alc H1301 (.cells #[.int .i64 0, .int .i64 0, .slice none 0 0] 34) fun b1320 H1321 => (Ext H1301 H1321 ∨ (∃ v1339, v1339.size = 4 ∧ rowIn H1321 ⟨b47, 0, none⟩ v1339 ∧ Value.agg v1339 = .agg v67)) ∧ (Tryz.C 11 #[.agg v67] H1321 fun r1322 H1323 => ∃ r1324, r1322 = .agg r1324 ∧ alc H1323 (.cells #[.int .i64 0, .int .i64 0, .slice none 0 0] 34) fun b1325 H1326 => r1299.size = 3 ∧ stAt H1326 ⟨b1320, 0, none⟩ r1299.toList fun H1327 => r1302.size = 3 ∧ stAt H1327 ⟨b1325, 0, none⟩ r1302.toList fun H1328 => r1324.size = 3 ∧ stAt H1328 ⟨b1295, 0, none⟩ r1324.toList fun H1329 => J50 [.pointer (some ⟨b1320, 0, none⟩), .pointer (some ⟨b1325, 0, none⟩), .pointer (some ⟨b1295, 0, none⟩)] H1329) ∧ (alc H1321 (.cells #[.int .i64 0, .int .i64 0, .slice none 0 0] 34) fun b1330 H1331 => (Ext H1321 H1331 ∨ (∃ v1338, v1338.size = 4 ∧ rowIn H1331 ⟨b47, 0, none⟩ v1338 ∧ Value.agg v1338 = .agg v67)) ∧ Tryz.C 11 #[.agg v67] H1331 fun r1332 H1333 => ∃ r1334, r1332 = .agg r1334 ∧ r1299.size = 3 ∧ stAt H1333 ⟨b1320, 0, none⟩ r1299.toList fun H1335 => r1302.size = 3 ∧ stAt H1335 ⟨b1330, 0, none⟩ r1302.toList fun H1336 => r1334.size = 3 ∧ stAt H1336 ⟨b1295, 0, none⟩ r1334.toList fun H1337 => J50 [.pointer (some ⟨b1320, 0, none⟩), .pointer (some ⟨b1330, 0, none⟩), .pointer (some ⟨b1295, 0, none⟩)] H1337)) ∧ (alc H1301 (.cells #[.int .i64 0, .int .i64 0, .slice none 0 0] 34) fun b1340 H1341 => (Ext H1301 H1341 ∨ (∃ v1359, v1359.size = 4 ∧ rowIn H1341 ⟨b47, 0, none⟩ v1359 ∧ Value.agg v1359 = .agg v67)) ∧ (Tryz.C 11 #[.agg v67] H1341 fun r1342 H1343 => ∃ r1344, r1342 = .agg r1344 ∧ alc H1343 (.cells #[.int .i64 0, .int .i64 0, .slice none 0 0] 34) fun b1345 H1346 => r1299.size = 3 ∧ stAt H1346 ⟨b1345, 0, none⟩ r1299.toList fun H1347 => r1302.size = 3 ∧ stAt H1347 ⟨b1340, 0, none⟩ r1302.toList fun H1348 => r1344.size = 3 ∧ stAt H1348 ⟨b1295, 0, none⟩ r1344.toList fun H1349 => J50 [.pointer (some ⟨b1345, 0, none⟩), .pointer (some ⟨b1340, 0, none⟩), .pointer (some ⟨b1295, 0, none⟩)] H1349) ∧ (alc H1341 (.cells #[.int .i64 0, .int .i64 0, .slice none 0 0] 34) fun b1350 H1351 => (Ext H1341 H1351 ∨ (∃ v1358, v1358.size = 4 ∧ rowIn H1351 ⟨b47, 0, none⟩ v1358 ∧ Value.agg v1358 = .agg v67)) ∧ Tryz.C 11 #[.agg v67] H1351 fun r1352 H1353 => ∃ r1354, r1352 = .agg r1354 ∧ r1299.size = 3 ∧ stAt H1353 ⟨b1350, 0, none⟩ r1299.toList fun H1355 => r1302.size = 3 ∧ stAt H1355 ⟨b1340, 0, none⟩ r1302.toList fun H1356 => r1354.size = 3 ∧ stAt H1356 ⟨b1295, 0, none⟩ r1354.toList fun H1357 => J50 [.pointer (some ⟨b1350, 0, none⟩), .pointer (some ⟨b1340, 0, none⟩), .pointer (some ⟨b1295, 0, none⟩)] H1357))) ∧ (alc H1298 (.cells #[.int .i64 0, .int .i64 0, .slice none 0 0] 34) fun b1361 H1362 => (Ext H1298 H1362 ∨ (∃ v1398, v1398.size = 4 ∧ rowIn H1362 ⟨b47, 0, none⟩ v1398 ∧ Value.agg v1398 = .agg v67) ∧ (∃ v1399, v1399.size = 4 ∧ rowIn H1362 ⟨b39, 0, none⟩ v1399 ∧ Value.agg v1399 = .agg v66)) ∧ (Tryz.C 11 #[.agg v66] H1362 fun r1363 H1364 => ∃ r1365, r1363 = .agg r1365 ∧ (Ext H1362 H1364 ∨ (∃ v1383, v1383.size = 4 ∧ rowIn H1364 ⟨b47, 0, none⟩ v1383 ∧ Value.agg v1383 = .agg v67)) ∧ (Tryz.C 11 #[.agg v67] H1364 fun r1366 H1367 => ∃ r1368, r1366 = .agg r1368 ∧ alc H1367 (.cells #[.int .i64 0, .int .i64 0, .slice none 0 0] 34) fun b1369 H1370 => r1299.size = 3 ∧ stAt H1370 ⟨b1361, 0, none⟩ r1299.toList fun H1371 => r1365.size = 3 ∧ stAt H1371 ⟨b1369, 0, none⟩ r1365.toList fun H1372 => r1368.size = 3 ∧ stAt H1372 ⟨b1295, 0, none⟩ r1368.toList fun H1373 => J50 [.pointer (some ⟨b1361, 0, none⟩), .pointer (some ⟨b1369, 0, none⟩), .pointer (some ⟨b1295, 0, none⟩)] H1373) ∧ (alc H1364 (.cells #[.int .i64 0, .int .i64 0, .slice none 0 0] 34) fun b1374 H1375 => (Ext H1364 H1375 ∨ (∃ v1382, v1382.size = 4 ∧ rowIn H1375 ⟨b47, 0, none⟩ v1382 ∧ Value.agg v1382 = .agg v67)) ∧ Tryz.C 11 #[.agg v67] H1375 fun r1376 H1377 => ∃ r1378, r1376 = .agg r1378 ∧ r1299.size = 3 ∧ stAt H1377 ⟨b1361, 0, none⟩ r1299.toList fun H1379 => r1365.size = 3 ∧ stAt H1379 ⟨b1374, 0, none⟩ r1365.toList fun H1380 => r1378.size = 3 ∧ stAt H1380 ⟨b1295, 0, none⟩ r1378.toList fun H1381 => J50 [.pointer (some ⟨b1361, 0, none⟩), .pointer (some ⟨b1374, 0, none⟩), .pointer (some ⟨b1295, 0, none⟩)] H1381)) ∧ (alc H1362 (.cells #[.int .i64 0, .int .i64 0, .slice none 0 0] 34) fun b1384 H1385 => (Ext H1362 H1385 ∨ (∃ v1396, v1396.size = 4 ∧ rowIn H1385 ⟨b47, 0, none⟩ v1396 ∧ Value.agg v1396 = .agg v67) ∧ (∃ v1397, v1397.size = 4 ∧ rowIn H1385 ⟨b39, 0, none⟩ v1397 ∧ Value.agg v1397 = .agg v66)) ∧ Tryz.C 11 #[.agg v66] H1385 fun r1386 H1387 => ∃ r1388, r1386 = .agg r1388 ∧ (Ext H1385 H1387 ∨ (∃ v1395, v1395.size = 4 ∧ rowIn H1387 ⟨b47, 0, none⟩ v1395 ∧ Value.agg v1395 = .agg v67)) ∧ Tryz.C 11 #[.agg v67] H1387 fun r1389 H1390 => ∃ r1391, r1389 = .agg r1391 ∧ r1299.size = 3 ∧ stAt H1390 ⟨b1361, 0, none⟩ r1299.toList fun H1392 => r1388.size = 3 ∧ stAt H1392 ⟨b1384, 0, none⟩ r1388.toList fun H1393 => r1391.size = 3 ∧ stAt H1393 ⟨b1295, 0, none⟩ r1391.toList fun H1394 => J50 [.pointer (some ⟨b1361, 0, none⟩), .pointer (some ⟨b1384, 0, none⟩), .pointer (some ⟨b1295, 0, none⟩)] H1394)) ∧ (alc H1298 (.cells #[.int .i64 0, .int .i64 0, .slice none 0 0] 34) fun b1400 H1401 => (Ext H1298 H1401 ∨ (∃ v1437, v1437.size = 4 ∧ rowIn H1401 ⟨b47, 0, none⟩ v1437 ∧ Value.agg v1437 = .agg v67) ∧ (∃ v1438, v1438.size = 4 ∧ rowIn H1401 ⟨b39, 0, none⟩ v1438 ∧ Value.agg v1438 = .agg v66)) ∧ (Tryz.C 11 #[.agg v66] H1401 fun r1402 H1403 => ∃ r1404, r1402 = .agg r1404 ∧ (Ext H1401 H1403 ∨ (∃ v1422, v1422.size = 4 ∧ rowIn H1403 ⟨b47, 0, none⟩ v1422 ∧ Value.agg v1422 = .agg v67)) ∧ (Tryz.C 11 #[.agg v67] H1403 fun r1405 H1406 => ∃ r1407, r1405 = .agg r1407 ∧ alc H1406 (.cells #[.int .i64 0, .int .i64 0, .slice none 0 0] 34) fun b1408 H1409 => r1299.size = 3 ∧ stAt H1409 ⟨b1408, 0, none⟩ r1299.toList fun H1410 => r1404.size = 3 ∧ stAt H1410 ⟨b1400, 0, none⟩ r1404.toList fun H1411 => r1407.size = 3 ∧ stAt H1411 ⟨b1295, 0, none⟩ r1407.toList fun H1412 => J50 [.pointer (some ⟨b1408, 0, none⟩), .pointer (some ⟨b1400, 0, none⟩), .pointer (some ⟨b1295, 0, none⟩)] H1412) ∧ (alc H1403 (.cells #[.int .i64 0, .int .i64 0, .slice none 0 0] 34) fun b1413 H1414 => (Ext H1403 H1414 ∨ (∃ v1421, v1421.size = 4 ∧ rowIn H1414 ⟨b47, 0, none⟩ v1421 ∧ Value.agg v1421 = .agg v67)) ∧ Tryz.C 11 #[.agg v67] H1414 fun r1415 H1416 => ∃ r1417, r1415 = .agg r1417 ∧ r1299.size = 3 ∧ stAt H1416 ⟨b1413, 0, none⟩ r1299.toList fun H1418 => r1404.size = 3 ∧ stAt H1418 ⟨b1400, 0, none⟩ r1404.toList fun H1419 => r1417.size = 3 ∧ stAt H1419 ⟨b1295, 0, none⟩ r1417.toList fun H1420 => J50 [.pointer (some ⟨b1413, 0, none⟩), .pointer (some ⟨b1400, 0, none⟩), .pointer (some ⟨b1295, 0, none⟩)] H1420)) ∧ (alc H1401 (.cells #[.int .i64 0, .int .i64 0, .slice none 0 0] 34) fun b1423 H1424 => (Ext H1401 H1424 ∨ (∃ v1435, v1435.size = 4 ∧ rowIn H1424 ⟨b47, 0, none⟩ v1435 ∧ Value.agg v1435 = .agg v67) ∧ (∃ v1436, v1436.size = 4 ∧ rowIn H1424 ⟨b39, 0, none⟩ v1436 ∧ Value.agg v1436 = .agg v66)) ∧ Tryz.C 11 #[.agg v66] H1424 fun r1425 H1426 => ∃ r1427, r1425 = .agg r1427 ∧ (Ext H1424 H1426 ∨ (∃ v1434, v1434.size = 4 ∧ rowIn H1426 ⟨b47, 0, none⟩ v1434 ∧ Value.agg v1434 = .agg v67)) ∧ Tryz.C 11 #[.agg v67] H1426 fun r1428 H1429 => ∃ r1430, r1428 = .agg r1430 ∧ r1299.size = 3 ∧ stAt H1429 ⟨b1423, 0, none⟩ r1299.toList fun H1431 => r1427.size = 3 ∧ stAt H1431 ⟨b1400, 0, none⟩ r1427.toList fun H1432 => r1430.size = 3 ∧ stAt H1432 ⟨b1295, 0, none⟩ r1430.toList fun H1433 => J50 [.pointer (some ⟨b1423, 0, none⟩), .pointer (some ⟨b1400, 0, none⟩), .pointer (some ⟨b1295, 0, none⟩)] H1433))) ∧ (alc H1296 (.cells #[.int .i64 0, .int .i64 0, .slice none 0 0] 34) fun b1441 H1442 => (Ext H1296 H1442 ∨ (∃ v1503, v1503.size = 4 ∧ rowIn H1442 ⟨b47, 0, none⟩ v1503 ∧ Value.agg v1503 = .agg v67) ∧ (∃ v1504, v1504.size = 4 ∧ rowIn H1442 ⟨b39, 0, none⟩ v1504 ∧ Value.agg v1504 = .agg v66) ∧ (∃ v1505, v1505.size = 4 ∧ rowIn H1442 ⟨b22, 0, none⟩ v1505 ∧ Value.agg v1505 = .agg v65)) ∧ (Tryz.C 11 #[.agg v65] H1442 fun r1443 H1444 => ∃ r1445, r1443 = .agg r1445 ∧ (Ext H1442 H1444 ∨ (∃ v1481, v1481.size = 4 ∧ rowIn H1444 ⟨b47, 0, none⟩ v1481 ∧ Value.agg v1481 = .agg v67) ∧ (∃ v1482, v1482.size = 4 ∧ rowIn H1444 ⟨b39, 0, none⟩ v1482 ∧ Value.agg v1482 = .agg v66)) ∧ (Tryz.C 11 #[.agg v66] H1444 fun r1446 H1447 => ∃ r1448, r1446 = .agg r1448 ∧ (Ext H1444 H1447 ∨ (∃ v1466, v1466.size = 4 ∧ rowIn H1447 ⟨b47, 0, none⟩ v1466 ∧ Value.agg v1466 = .agg v67)) ∧ (Tryz.C 11 #[.agg v67] H1447 fun r1449 H1450 => ∃ r1451, r1449 = .agg r1451 ∧ alc H1450 (.cells #[.int .i64 0, .int .i64 0, .slice none 0 0] 34) fun b1452 H1453 => r1445.size = 3 ∧ stAt H1453 ⟨b1441, 0, none⟩ r1445.toList fun H1454 => r1448.size = 3 ∧ stAt H1454 ⟨b1452, 0, none⟩ r1448.toList fun H1455 => r1451.size = 3 ∧ stAt H1455 ⟨b1295, 0, none⟩ r1451.toList fun H1456 => J50 [.pointer (some ⟨b1441, 0, none⟩), .pointer (some ⟨b1452, 0, none⟩), .pointer (some ⟨b1295, 0, none⟩)] H1456) ∧ (alc H1447 (.cells #[.int .i64 0, .int .i64 0, .slice none 0 0] 34) fun b1457 H1458 => (Ext H1447 H1458 ∨ (∃ v1465, v1465.size = 4 ∧ rowIn H1458 ⟨b47, 0, none⟩ v1465 ∧ Value.agg v1465 = .agg v67)) ∧ Tryz.C 11 #[.agg v67] H1458 fun r1459 H1460 => ∃ r1461, r1459 = .agg r1461 ∧ r1445.size = 3 ∧ stAt H1460 ⟨b1441, 0, none⟩ r1445.toList fun H1462 => r1448.size = 3 ∧ stAt H1462 ⟨b1457, 0, none⟩ r1448.toList fun H1463 => r1461.size = 3 ∧ stAt H1463 ⟨b1295, 0, none⟩ r1461.toList fun H1464 => J50 [.pointer (some ⟨b1441, 0, none⟩), .pointer (some ⟨b1457, 0, none⟩), .pointer (some ⟨b1295, 0, none⟩)] H1464)) ∧ (alc H1444 (.cells #[.int .i64 0, .int .i64 0, .slice none 0 0] 34) fun b1467 H1468 => (Ext H1444 H1468 ∨ (∃ v1479, v1479.size = 4 ∧ rowIn H1468 ⟨b47, 0, none⟩ v1479 ∧ Value.agg v1479 = .agg v67) ∧ (∃ v1480, v1480.size = 4 ∧ rowIn H1468 ⟨b39, 0, none⟩ v1480 ∧ Value.agg v1480 = .agg v66)) ∧ Tryz.C 11 #[.agg v66] H1468 fun r1469 H1470 => ∃ r1471, r1469 = .agg r1471 ∧ (Ext H1468 H1470 ∨ (∃ v1478, v1478.size = 4 ∧ rowIn H1470 ⟨b47, 0, none⟩ v1478 ∧ Value.agg v1478 = .agg v67)) ∧ Tryz.C 11 #[.agg v67] H1470 fun r1472 H1473 => ∃ r1474, r1472 = .agg r1474 ∧ r1445.size = 3 ∧ stAt H1473 ⟨b1441, 0, none⟩ r1445.toList fun H1475 => r1471.size = 3 ∧ stAt H1475 ⟨b1467, 0, none⟩ r1471.toList fun H1476 => r1474.size = 3 ∧ stAt H1476 ⟨b1295, 0, none⟩ r1474.toList fun H1477 => J50 [.pointer (some ⟨b1441, 0, none⟩), .pointer (some ⟨b1467, 0, none⟩), .pointer (some ⟨b1295, 0, none⟩)] H1477)) ∧ (alc H1442 (.cells #[.int .i64 0, .int .i64 0, .slice none 0 0] 34) fun b1483 H1484 => (Ext H1442 H1484 ∨ (∃ v1500, v1500.size = 4 ∧ rowIn H1484 ⟨b47, 0, none⟩ v1500 ∧ Value.agg v1500 = .agg v67) ∧ (∃ v1501, v1501.size = 4 ∧ rowIn H1484 ⟨b39, 0, none⟩ v1501 ∧ Value.agg v1501 = .agg v66) ∧ (∃ v1502, v1502.size = 4 ∧ rowIn H1484 ⟨b22, 0, none⟩ v1502 ∧ Value.agg v1502 = .agg v65)) ∧ Tryz.C 11 #[.agg v65] H1484 fun r1485 H1486 => ∃ r1487, r1485 = .agg r1487 ∧ (Ext H1484 H1486 ∨ (∃ v1498, v1498.size = 4 ∧ rowIn H1486 ⟨b47, 0, none⟩ v1498 ∧ Value.agg v1498 = .agg v67) ∧ (∃ v1499, v1499.size = 4 ∧ rowIn H1486 ⟨b39, 0, none⟩ v1499 ∧ Value.agg v1499 = .agg v66)) ∧ Tryz.C 11 #[.agg v66] H1486 fun r1488 H1489 => ∃ r1490, r1488 = .agg r1490 ∧ (Ext H1486 H1489 ∨ (∃ v1497, v1497.size = 4 ∧ rowIn H1489 ⟨b47, 0, none⟩ v1497 ∧ Value.agg v1497 = .agg v67)) ∧ Tryz.C 11 #[.agg v67] H1489 fun r1491 H1492 => ∃ r1493, r1491 = .agg r1493 ∧ r1487.size = 3 ∧ stAt H1492 ⟨b1441, 0, none⟩ r1487.toList fun H1494 => r1490.size = 3 ∧ stAt H1494 ⟨b1483, 0, none⟩ r1490.toList fun H1495 => r1493.size = 3 ∧ stAt H1495 ⟨b1295, 0, none⟩ r1493.toList fun H1496 => J50 [.pointer (some ⟨b1441, 0, none⟩), .pointer (some ⟨b1483, 0, none⟩), .pointer (some ⟨b1295, 0, none⟩)] H1496)) ∧ (alc H1296 (.cells #[.int .i64 0, .int .i64 0, .slice none 0 0] 34) fun b1506 H1507 => (Ext H1296 H1507 ∨ (∃ v1568, v1568.size = 4 ∧ rowIn H1507 ⟨b47, 0, none⟩ v1568 ∧ Value.agg v1568 = .agg v67) ∧ (∃ v1569, v1569.size = 4 ∧ rowIn H1507 ⟨b39, 0, none⟩ v1569 ∧ Value.agg v1569 = .agg v66) ∧ (∃ v1570, v1570.size = 4 ∧ rowIn H1507 ⟨b22, 0, none⟩ v1570 ∧ Value.agg v1570 = .agg v65)) ∧ (Tryz.C 11 #[.agg v65] H1507 fun r1508 H1509 => ∃ r1510, r1508 = .agg r1510 ∧ (Ext H1507 H1509 ∨ (∃ v1546, v1546.size = 4 ∧ rowIn H1509 ⟨b47, 0, none⟩ v1546 ∧ Value.agg v1546 = .agg v67) ∧ (∃ v1547, v1547.size = 4 ∧ rowIn H1509 ⟨b39, 0, none⟩ v1547 ∧ Value.agg v1547 = .agg v66)) ∧ (Tryz.C 11 #[.agg v66] H1509 fun r1511 H1512 => ∃ r1513, r1511 = .agg r1513 ∧ (Ext H1509 H1512 ∨ (∃ v1531, v1531.size = 4 ∧ rowIn H1512 ⟨b47, 0, none⟩ v1531 ∧ Value.agg v1531 = .agg v67)) ∧ (Tryz.C 11 #[.agg v67] H1512 fun r1514 H1515 => ∃ r1516, r1514 = .agg r1516 ∧ alc H1515 (.cells #[.int .i64 0, .int .i64 0, .slice none 0 0] 34) fun b1517 H1518 => r1510.size = 3 ∧ stAt H1518 ⟨b1517, 0, none⟩ r1510.toList fun H1519 => r1513.size = 3 ∧ stAt H1519 ⟨b1506, 0, none⟩ r1513.toList fun H1520 => r1516.size = 3 ∧ stAt H1520 ⟨b1295, 0, none⟩ r1516.toList fun H1521 => J50 [.pointer (some ⟨b1517, 0, none⟩), .pointer (some ⟨b1506, 0, none⟩), .pointer (some ⟨b1295, 0, none⟩)] H1521) ∧ (alc H1512 (.cells #[.int .i64 0, .int .i64 0, .slice none 0 0] 34) fun b1522 H1523 => (Ext H1512 H1523 ∨ (∃ v1530, v1530.size = 4 ∧ rowIn H1523 ⟨b47, 0, none⟩ v1530 ∧ Value.agg v1530 = .agg v67)) ∧ Tryz.C 11 #[.agg v67] H1523 fun r1524 H1525 => ∃ r1526, r1524 = .agg r1526 ∧ r1510.size = 3 ∧ stAt H1525 ⟨b1522, 0, none⟩ r1510.toList fun H1527 => r1513.size = 3 ∧ stAt H1527 ⟨b1506, 0, none⟩ r1513.toList fun H1528 => r1526.size = 3 ∧ stAt H1528 ⟨b1295, 0, none⟩ r1526.toList fun H1529 => J50 [.pointer (some ⟨b1522, 0, none⟩), .pointer (some ⟨b1506, 0, none⟩), .pointer (some ⟨b1295, 0, none⟩)] H1529)) ∧ (alc H1509 (.cells #[.int .i64 0, .int .i64 0, .slice none 0 0] 34) fun b1532 H1533 => (Ext H1509 H1533 ∨ (∃ v1544, v1544.size = 4 ∧ rowIn H1533 ⟨b47, 0, none⟩ v1544 ∧ Value.agg v1544 = .agg v67) ∧ (∃ v1545, v1545.size = 4 ∧ rowIn H1533 ⟨b39, 0, none⟩ v1545 ∧ Value.agg v1545 = .agg v66)) ∧ Tryz.C 11 #[.agg v66] H1533 fun r1534 H1535 => ∃ r1536, r1534 = .agg r1536 ∧ (Ext H1533 H1535 ∨ (∃ v1543, v1543.size = 4 ∧ rowIn H1535 ⟨b47, 0, none⟩ v1543 ∧ Value.agg v1543 = .agg v67)) ∧ Tryz.C 11 #[.agg v67] H1535 fun r1537 H1538 => ∃ r1539, r1537 = .agg r1539 ∧ r1510.size = 3 ∧ stAt H1538 ⟨b1532, 0, none⟩ r1510.toList fun H1540 => r1536.size = 3 ∧ stAt H1540 ⟨b1506, 0, none⟩ r1536.toList fun H1541 => r1539.size = 3 ∧ stAt H1541 ⟨b1295, 0, none⟩ r1539.toList fun H1542 => J50 [.pointer (some ⟨b1532, 0, none⟩), .pointer (some ⟨b1506, 0, none⟩), .pointer (some ⟨b1295, 0, none⟩)] H1542)) ∧ (alc H1507 (.cells #[.int .i64 0, .int .i64 0, .slice none 0 0] 34) fun b1548 H1549 => (Ext H1507 H1549 ∨ (∃ v1565, v1565.size = 4 ∧ rowIn H1549 ⟨b47, 0, none⟩ v1565 ∧ Value.agg v1565 = .agg v67) ∧ (∃ v1566, v1566.size = 4 ∧ rowIn H1549 ⟨b39, 0, none⟩ v1566 ∧ Value.agg v1566 = .agg v66) ∧ (∃ v1567, v1567.size = 4 ∧ rowIn H1549 ⟨b22, 0, none⟩ v1567 ∧ Value.agg v1567 = .agg v65)) ∧ Tryz.C 11 #[.agg v65] H1549 fun r1550 H1551 => ∃ r1552, r1550 = .agg r1552 ∧ (Ext H1549 H1551 ∨ (∃ v1563, v1563.size = 4 ∧ rowIn H1551 ⟨b47, 0, none⟩ v1563 ∧ Value.agg v1563 = .agg v67) ∧ (∃ v1564, v1564.size = 4 ∧ rowIn H1551 ⟨b39, 0, none⟩ v1564 ∧ Value.agg v1564 = .agg v66)) ∧ Tryz.C 11 #[.agg v66] H1551 fun r1553 H1554 => ∃ r1555, r1553 = .agg r1555 ∧ (Ext H1551 H1554 ∨ (∃ v1562, v1562.size = 4 ∧ rowIn H1554 ⟨b47, 0, none⟩ v1562 ∧ Value.agg v1562 = .agg v67)) ∧ Tryz.C 11 #[.agg v67] H1554 fun r1556 H1557 => ∃ r1558, r1556 = .agg r1558 ∧ r1552.size = 3 ∧ stAt H1557 ⟨b1548, 0, none⟩ r1552.toList fun H1559 => r1555.size = 3 ∧ stAt H1559 ⟨b1506, 0, none⟩ r1555.toList fun H1560 => r1558.size = 3 ∧ stAt H1560 ⟨b1295, 0, none⟩ r1558.toList fun H1561 => J50 [.pointer (some ⟨b1548, 0, none⟩), .pointer (some ⟨b1506, 0, none⟩), .pointer (some ⟨b1295, 0, none⟩)] H1561))))))
def Tryz.p7 : Plan := (tl (tg (tl (tg (tl (tl (tg (tl (tl (two (join [(16, 999999), (17, 999999), (18, 999999)] [13, 15] leaf) (tl leaf)))))))))))
theorem Tryz.s7 {ed1p : OA} {ed1l ed1c : Nat} {id2 : Int} {H R} (h : Tryz.S7 ed1p ed1l ed1c id2 H R) : Tryz.C 7 #[.slice ed1p ed1l ed1c, .int .i64 id2] H R := vcs Tryz.tab_ok Tryz.mixed Tryz.func7 Tryz.cal7 Tryz.p7 h (by kernel_rfl)
end Go.Proofs
namespace Go.Proofs
open Go.Sh Go.Sh.Plan
open Go.IntKind (wrap)
open Int (toNat)
end Go.Proofs
