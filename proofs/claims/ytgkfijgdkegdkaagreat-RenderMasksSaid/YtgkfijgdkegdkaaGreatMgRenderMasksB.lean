/-
  OWN WORK. Several texts in one: ShP, ShL, TileW, TileStay, ShS, ShT, ShU, TrA, GTab, GFunA, GFunB, GFunC.
-/
import Derived.Test.YtgkfijgdkegdkaaGreatMgRenderMasksA
import Derived.ProofKit
import Derived.OpenShut
import Derived.Test.YtgkfijgdkegdkaaGreatProg
import Derived.KernelRfl

set_option linter.unusedSimpArgs false
set_option linter.unusedVariables false
set_option maxRecDepth 100000
namespace Go.Sh
def br (t : Bool) (A B : Prop) : Prop := (t = true → A) ∧ (t = false → B)
def alc (H : Heap) (o : Obj) (K : Nat → Heap → Prop) : Prop := K H.size (H.push o)
abbrev OA := Option Addr
abbrev AV := Array Value
abbrev Kv := Value → Heap → Prop
abbrev Kl := List Value → Heap → Prop
namespace Plan
def tl (a : Plan) : Plan := two leaf a
def g0 : Plan := tl (two (tl leaf) leaf)
def tg (a : Plan) : Plan := two g0 a
end Plan
theorem vcs {P : Program} {T : Tab} (hT : TabOk P T) (hm : P.follows .mixedOrders = true) {g : FuncId} {fn : Func} (hg : P.funcs[g]? = some fn) (hc : callable P g) (p : Plan) {args : Array Value} {H : Heap}
    {R : Value → Heap → Prop} {A : Prop} (h : A) (e : A = vcFun P T fn p args.toList H R) : CallsH P g args H R := by
  have := vcFun_sound hT hm hg hc (p := p) (args := args.toList) (H := H) (R := R) (Eq.mp e h)
  simpa using this
end Go.Sh
namespace Go.Sh
theorem br_i {t : Bool} {A B : Prop} (h : t = true → A) (h' : t = false → B) : br t A B := ⟨h, h'⟩
theorem br_dec {p : Prop} [Decidable p] {A B : Prop} (h : p → A) (h' : ¬ p → B) : br (decide p) A B := ⟨fun e => h (of_decide_eq_true e), fun e => h' (of_decide_eq_false e)⟩
theorem br_eq {a b : Int} {A B : Prop} (h : a = b → A) (h' : a ≠ b → B) : br (a == b) A B := ⟨fun e => h (by simpa using e), fun e => h' (by simpa using e)⟩
theorem br_ne {a b : Int} {A B : Prop} (h : a ≠ b → A) (h' : a = b → B) : br (a != b) A B := ⟨fun e => h (by simpa using e), fun e => h' (by simpa using e)⟩
theorem br_not {t : Bool} {A B : Prop} (h : t = false → A) (h' : t = true → B) : br (!t) A B := ⟨fun e => h (by simpa using e), fun e => h' (by simpa using e)⟩
theorem br_true {A B : Prop} (h : A) : br true A B := ⟨fun _ => h, fun e => (by cases e)⟩
theorem br_false {A B : Prop} (h : B) : br false A B := ⟨fun e => (by cases e), fun _ => h⟩
theorem br_t {t : Bool} {A B : Prop} (ht : t = true) (h : A) : br t A B := by subst ht; exact br_true h
theorem br_f {t : Bool} {A B : Prop} (ht : t = false) (h : B) : br t A B := by subst ht; exact br_false h
theorem br_y {p : Prop} [Decidable p] {A B : Prop} (hp : p) (h : A) : br (decide p) A B := br_dec (fun _ => h) (fun n => absurd hp n)
theorem br_n {p : Prop} [Decidable p] {A B : Prop} (hp : ¬ p) (h : B) : br (decide p) A B := br_dec (fun y => absurd y hp) (fun _ => h)
theorem br_none {α : Type} {p : Option α} {A B : Prop} (h : p = none → A) (h' : ∀ a, p = some a → B) : br (Option.isNone p) A B := by
 cases p with
 | none => exact br_true (h rfl)
 | some a => exact br_false (h' a rfl)
theorem lt_of_get {H : Heap} {b : Nat} {o : Obj} (h : H[b]? = some o) : b < H.size := (Array.getElem?_eq_some_iff.1 h).1
theorem get_push_self (H : Heap) (o : Obj) : (H.push o)[H.size]? = some o := by simp
theorem get_push {H : Heap} {b : Nat} {o x : Obj} (h : H[b]? = some x) : (H.push o)[b]? = some x := Ext.push H o b x h
theorem get_set_ne {H : Heap} {b r : Nat} {o x : Obj} (hne : r ≠ b) (h : H[b]? = some x) : (H.setIfInBounds r o)[b]? = some x := by
 rw [Array.getElem?_setIfInBounds_ne hne]; exact h
theorem get_set_self {H : Heap} {r : Nat} {o x : Obj} (h : H[r]? = some x) : (H.setIfInBounds r o)[r]? = some o := by
 rw [Array.getElem?_setIfInBounds_self_of_lt (lt_of_get h)]
theorem cell_block {H : Heap} {b i : Nat} {c : Array Value} {t : TypeId} {f : Nat × Nat} (h : H[b]? = some (.cells c t f)) : cell H ⟨b, i, none⟩ = c[i]? := by
 simp [cell, h]
theorem cell_get {H : Heap} {b i : Nat} {c : Array Value} {t : TypeId} {f : Nat × Nat} {v : Value} (h : H[b]? = some (.cells c t f)) (hv : c[i]? = some v) : cell H ⟨b, i, none⟩ = some v := by
 rw [cell_block h]; exact hv
@[simp] theorem add_none (b i n : Nat) : Addr.add ⟨b, i, none⟩ n = ⟨b, i + n, none⟩ := by
 unfold Addr.add; split <;> simp_all
theorem rowIn_block {H : Heap} {b i : Nat} {c cs : Array Value} {t : TypeId} {f : Nat × Nat} (h : H[b]? = some (.cells c t f)) (hc : ∀ j v, cs[j]? = some v → c[i + j]? = some v) :
    rowIn H ⟨b, i, none⟩ cs := by
  intro j v hv
  rw [add_none, cell_block h]
  exact hc j v hv
theorem rowIn_whole {H : Heap} {b : Nat} {c : Array Value} {t : TypeId} {f : Nat × Nat} (h : H[b]? = some (.cells c t f)) : rowIn H ⟨b, 0, none⟩ c :=
 rowIn_block h fun j v hv => by rw [Nat.zero_add]; exact hv
theorem stAt_one {H : Heap} {b i : Nat} {c : Array Value} {t : TypeId} {v : Value} {f : Heap → Prop} (h : H[b]? = some (.cells c t (0, 0))) (hi : i < c.size) (ho : v.oneCell' = true)
    (hf : f (H.setIfInBounds b (.cells (c.setIfInBounds i v) t (0, 0)))) : stAt H ⟨b, i, none⟩ [v] f := by
  refine ⟨c, t, h, rfl, (by simp; omega), by simpa using ho, ?_⟩
  have : (setL c.toList i [v]).toArray = c.setIfInBounds i v := by
    rw [setL_one (by simpa using hi)]
    apply Array.toList_inj.1
    simp
  simp only [this]
  exact hf
theorem stAt_whole {H : Heap} {b : Nat} {c : Array Value} {t : TypeId} {vs : List Value} {f : Heap → Prop} (h : H[b]? = some (.cells c t (0, 0))) (hl : vs.length = c.size) (ho : ∀ v ∈ vs, v.oneCell' = true)
    (hf : f (H.setIfInBounds b (.cells vs.toArray t (0, 0)))) : stAt H ⟨b, 0, none⟩ vs f := by
  refine ⟨c, t, h, rfl, by simp; omega, ho, ?_⟩
  have : setL c.toList 0 vs = vs := by simp [setL, hl]
  simp only [this]
  exact hf
theorem wrap_id {n : Int} (h0 : -9223372036854775808 ≤ n) (h1 : n ≤ 9223372036854775807) : IntKind.wrap .i64 n = n := wrap_i64 h0 h1
theorem wrap_u8 {n : Int} (h0 : 0 ≤ n) (h1 : n < 256) : IntKind.wrap .u8 n = n := by
 simp only [IntKind.wrap, IntKind.signed, IntKind.bits]; simp; omega
end Go.Sh
namespace Go.Sh
open Go.RowKit
theorem grown_of {W w' : World} (hos : w'.os = W.os) (ho : Out W w') (hx : Ext W.heap w'.heap) : Grown W w' := by
 refine ⟨⟨hos, ho.output, fun i hi => ?_⟩, ho.froz, hx.size⟩
 obtain ⟨o, h⟩ : ∃ o, W.heap[i]? = some o := ⟨_, Array.getElem?_eq_getElem hi⟩
 rw [hx i o h, h]
 cases o with
 | cells c t fr => exact ⟨rfl, rfl, rfl, fun _ _ => rfl⟩
 | map es k => exact .inr ⟨rfl, rfl⟩
 | _ => rfl
end Go.Sh
namespace Go.Sh
open Go.RowKit Go.ChangeShapes Go.WideShapes Go.ChangeAt
section
variable {H : Type} {enc : TypeId × Value → H} {P : Program} {W W' : World}
theorem same_of (hx : Ext W.heap W'.heap) {p : MemPlace} (hp : p.block < W.heap.size) : W.sameAt W' p := by
 have h : W'.heap[p.block]? = W.heap[p.block]? := by
  obtain ⟨o, h⟩ : ∃ o, W.heap[p.block]? = some o := ⟨_, Array.getElem?_eq_getElem hp⟩
  rw [hx _ o h, h]
 cases p with
 | cell b o => exact World.cell?_of_block (w := W) h
 | map b => exact h
theorem trodAll_ext (hl : laidOutB P = true) (hx : Ext W.heap W'.heap) {sp : Nat → Bool} : ∀ {ts : List TypeId} {vs : List Value} {ds : List (DataW H)} {ps : List MemPlace}, (ts.all fun t => P.readableRec t && decide (t < P.types.size)) = true →
    DataW.TrodAll enc P W 0 (fun _ => true) true ts vs ds ps → (∀ x ∈ ps, x.block < W.heap.size) → (∀ x ∈ ps, sp x.block = true) → DataW.TrodAll enc P W' 0 sp true ts vs ds ps
  | [], vs, ds, ps, _, h, _, _ => by
    obtain ⟨rfl, rfl, rfl⟩ := trodAll_nil h
    exact trodAll_mk0
  | t :: ts, vs, ds, ps, hr, h, hlt, hs => by
    obtain ⟨v, vs1, d, ds1, a, b, rfl, rfl, rfl, h1, h2⟩ := trodAll_cons h
    simp only [List.all_cons, Bool.and_eq_true, decide_eq_true_eq] at hr
    exact trodAll_cons_mk (WideElems.Trod_stays hl hr.1.1 hr.1.2 h1 (fun x hx' => same_of hx (hlt x (List.mem_append_left _ hx'))) (fun x hx' => hs x (List.mem_append_left _ hx')))
      (trodAll_ext hl hx (by simpa using hr.2) h2 (fun x hx' => hlt x (List.mem_append_right _ hx')) (fun x hx' => hs x (List.mem_append_right _ hx')))
theorem wf_range {a : Int} (h : (Lit.int .i64 a).wf = true) : -9223372036854775808 ≤ a ∧ a ≤ 9223372036854775807 := by
 simpa [Lit.wf, IntKind.min, IntKind.max, IntKind.signed, IntKind.bits] using h
end
end Go.Sh
namespace Go.Sh
def ints (l : List Int) : List Value := l.map (Value.int .i64)
theorem ints_get {l : List Int} {i : Nat} {v : Int} (h : l[i]? = some v) : (ints l)[i]? = some (Value.int .i64 v) := by simp [ints, h]
theorem ints_len (l : List Int) : (ints l).length = l.length := by simp [ints]
theorem ints_append (a b : List Int) : ints (a ++ b) = ints a ++ ints b := by simp [ints]
theorem ints_set (l : List Int) (i : Nat) (v : Int) : (ints l).set i (.int .i64 v) = ints (l.set i v) := by simp [ints]
theorem ints_one (l : List Int) : ∀ v ∈ ints l, v.oneCell' = true := fun v hv => by
 obtain ⟨x, _, rfl⟩ := List.mem_map.1 hv; rfl
structure RS (H : Heap) (p : Option Addr) (l : Nat) (el : TypeId) (k : Nat) (fs : List Value) : Prop where
 len : fs.length = l * k
 one : ∀ v ∈ fs, v.oneCell' = true
 at_ : l = 0 ∨ ∃ blk cs, p = some ⟨blk, 0, none⟩ ∧ H[blk]? = some (.cells cs el) ∧ ∀ (i : Nat) v, fs[i]? = some v → cs[i]? = some v
structure FS (n0 : Nat) (H : Heap) (p : Option Addr) (l c : Nat) (el : TypeId) (k : Nat) (fs : List Value) : Prop where
 len : fs.length = l * k
 le : l ≤ c
 one : ∀ v ∈ fs, v.oneCell' = true
 at_ : (p = none ∧ c = 0) ∨ ∃ blk cs, p = some ⟨blk, 0, none⟩ ∧ n0 ≤ blk ∧ H[blk]? = some (.cells cs el) ∧ cs.size = c * k ∧ ∀ (i : Nat) v, fs[i]? = some v → cs[i]? = some v
theorem FS.rs {n0 : Nat} {H : Heap} {p : Option Addr} {l c : Nat} {el : TypeId} {k : Nat} {fs : List Value} (h : FS n0 H p l c el k fs) : RS H p l el k fs := by
 refine ⟨h.len, h.one, ?_⟩
 rcases h.at_ with ⟨_, h2⟩ | ⟨blk, cs, h1, _, h3, _, h5⟩
 ·left; have := h.le; omega
 ·exact .inr ⟨blk, cs, h1, h3, h5⟩
theorem RS.keep {H H' : Heap} {p : Option Addr} {l : Nat} {el : TypeId} {k : Nat} {fs : List Value} (h : RS H p l el k fs) (hk : ∀ b cs, p = some ⟨b, 0, none⟩ → H[b]? = some (.cells cs el) → H'[b]? = some (.cells cs el)) : RS H' p l el k fs := by
 refine ⟨h.len, h.one, ?_⟩
 rcases h.at_ with h1 | ⟨blk, cs, h1, h3, h5⟩
 ·exact .inl h1
 ·exact .inr ⟨blk, cs, h1, hk _ _ h1 h3, h5⟩
theorem RS.ext {H H' : Heap} {p : Option Addr} {l : Nat} {el : TypeId} {k : Nat} {fs : List Value} (h : RS H p l el k fs) (he : Ext H H') : RS H' p l el k fs := h.keep fun b cs _ hb => he _ _ hb
theorem FS.keep {n0 : Nat} {H H' : Heap} {p : Option Addr} {l c : Nat} {el : TypeId} {k : Nat} {fs : List Value} (h : FS n0 H p l c el k fs) (hk : ∀ b cs, p = some ⟨b, 0, none⟩ → H[b]? = some (.cells cs el) → H'[b]? = some (.cells cs el)) : FS n0 H' p l c el k fs := by
 refine ⟨h.len, h.le, h.one, ?_⟩
 rcases h.at_ with h1 | ⟨blk, cs, h1, h2, h3, h5⟩
 ·exact .inl h1
 ·exact .inr ⟨blk, cs, h1, h2, hk _ _ h1 h3, h5⟩
theorem FS.ext {n0 : Nat} {H H' : Heap} {p : Option Addr} {l c : Nat} {el : TypeId} {k : Nat} {fs : List Value} (h : FS n0 H p l c el k fs) (he : Ext H H') : FS n0 H' p l c el k fs := h.keep fun b cs _ hb => he _ _ hb
theorem FS.lower {n0 n1 : Nat} {H : Heap} {p : Option Addr} {l c : Nat} {el : TypeId} {k : Nat} {fs : List Value} (h : FS n0 H p l c el k fs) (hn : n1 ≤ n0) : FS n1 H p l c el k fs := by
 refine ⟨h.len, h.le, h.one, ?_⟩
 rcases h.at_ with h1 | ⟨blk, cs, h1, h2, h3, h5⟩
 ·exact .inl h1
 ·exact .inr ⟨blk, cs, h1, by omega, h3, h5⟩
theorem FS.nil (n0 : Nat) (H : Heap) (el : TypeId) (k : Nat) : FS n0 H none 0 0 el k [] := ⟨by simp, Nat.le_refl _, by simp, .inl ⟨rfl, rfl⟩⟩
theorem RS.nil (H : Heap) (p : Option Addr) (el : TypeId) (k : Nat) : RS H p 0 el k [] := ⟨by simp, by simp, .inl rfl⟩
theorem FS.whole {n0 : Nat} {H : Heap} {b l k : Nat} {el : TypeId} {cs : Array Value} (hb : n0 ≤ b) (h : H[b]? = some (.cells cs el)) (hs : cs.size = l * k) (ho : ∀ v ∈ cs.toList, v.oneCell' = true) : FS n0 H (some ⟨b, 0, none⟩) l l el k cs.toList :=
 ⟨by simpa using hs, Nat.le_refl _, ho, .inr ⟨b, cs, rfl, hb, h, hs, fun i v hv => by simpa using hv⟩⟩
theorem RS.cell {H : Heap} {p : Option Addr} {l : Nat} {el : TypeId} {k : Nat} {fs : List Value} (h : RS H p l el k fs) {i : Nat} {v : Value} (hv : fs[i]? = some v) : ∃ blk, p = some ⟨blk, 0, none⟩ ∧ Go.Sh.cell H ⟨blk, i, none⟩ = some v := by
 rcases h.at_ with h1 | ⟨blk, cs, h1, h3, h5⟩
 ·have := (List.getElem?_eq_some_iff.1 hv).1
  have := h.len
  rw [h1] at this
  omega
 ·exact ⟨blk, h1, cell_get h3 (h5 i v hv)⟩
theorem RS.row {H : Heap} {p : Option Addr} {l : Nat} {el : TypeId} {k : Nat} {fs : List Value} (h : RS H p l el k fs) {i : Nat} (hi : i < l) (hk : 0 < k) {xs : Array Value} (hx : ∀ (j : Nat) v, xs[j]? = some v → fs[i * k + j]? = some v) : ∃ blk, p = some ⟨blk, 0, none⟩ ∧ rowIn H ⟨blk, i * k, none⟩ xs := by
 rcases h.at_ with h1 | ⟨blk, cs, h1, h3, h5⟩
 ·omega
 ·exact ⟨blk, h1, rowIn_block h3 fun j v hv => h5 _ _ (hx j v hv)⟩
structure IS (H : Heap) (p : Option Addr) (l : Nat) (fs : List Value) : Prop where
 len : fs.length = l
 get : ∀ (i : Nat) v, fs[i]? = some v → ∃ a, p = some a ∧ Go.Sh.cell H (a.add i) = some v
theorem IS.ext {H H' : Heap} {p : Option Addr} {l : Nat} {fs : List Value} (h : IS H p l fs) (he : Ext H H') : IS H' p l fs := ⟨h.len, fun i v hv => let ⟨a, h1, h2⟩ := h.get i v hv; ⟨a, h1, he.cell h2⟩⟩
theorem IS.cell {H : Heap} {p : Option Addr} {l : Nat} {fs : List Value} (h : IS H p l fs) {i : Nat} {v : Value} (hv : fs[i]? = some v) : ∃ a, p = some a ∧ Go.Sh.cell H (a.add i) = some v := h.get i v hv
theorem RS.is {H : Heap} {p : Option Addr} {l : Nat} {el : TypeId} {fs : List Value} (h : RS H p l el 1 fs) : IS H p l fs :=
 ⟨by have := h.len; omega, fun i v hv => let ⟨blk, h1, h2⟩ := h.cell hv; ⟨_, h1, by simpa using h2⟩⟩
theorem RS.rowOf {H : Heap} {p : Option Addr} {l : Nat} {el : TypeId} {k : Nat} {fs : List Value} (h : RS H p l el k fs) : rowOf H p (l * k) fs.toArray := by
 rcases h.at_ with h1 | ⟨blk, cs, h1, h3, h5⟩
 ·have := h.len
  rw [h1, Nat.zero_mul] at this
  have : fs = [] := List.length_eq_zero_iff.1 this
  subst this
  subst h1
  cases p with
  | none => rfl
  | some a => exact ⟨by simp, fun j v hv => by simp at hv⟩
 ·subst h1
  refine ⟨by simp [h.len], rowIn_block h3 fun j v hv => ?_⟩
  rw [Nat.zero_add]
  exact h5 j v (by simpa using hv)
theorem setL_get {c vs : List Value} {i : Nat} (h : i + vs.length ≤ c.length) (j : Nat) : (setL c i vs)[j]? = if i ≤ j ∧ j < i + vs.length then vs[j - i]? else c[j]? := by
 unfold setL
 by_cases h1 : j < i
 ·rw [if_neg (by omega), List.append_assoc, List.getElem?_append_left (by simp; omega), List.getElem?_take_of_lt h1]
 ·by_cases h2 : j < i + vs.length
  ·rw [if_pos ⟨by omega, h2⟩, List.append_assoc, List.getElem?_append_right (by simp; omega), List.getElem?_append_left (by simp; omega)]
   congr 1
   simp; omega
  ·rw [if_neg (by omega), List.getElem?_append_right (by simp; omega), List.getElem?_drop]
   congr 1
   simp; omega
theorem setL_len {c vs : List Value} {i : Nat} (h : i + vs.length ≤ c.length) : (setL c i vs).length = c.length := by unfold setL; simp; omega
theorem stAt_some {H : Heap} {b i : Nat} {c : Array Value} {t : TypeId} {vs : List Value} {f : Heap → Prop} (h : H[b]? = some (.cells c t (0, 0))) (hl : i + vs.length ≤ c.size) (ho : ∀ v ∈ vs, v.oneCell' = true)
    (hf : ∀ c' : Array Value, c'.size = c.size → (∀ j : Nat, c'[j]? = if i ≤ j ∧ j < i + vs.length then vs[j - i]? else c[j]?) → f (H.setIfInBounds b (.cells c' t (0, 0)))) : stAt H ⟨b, i, none⟩ vs f := by
  have hl' : i + vs.length ≤ c.toList.length := by simpa using hl
  refine ⟨c, t, h, rfl, hl, ho, ?_⟩
  refine hf (setL c.toList i vs).toArray (by simp [setL_len hl']) fun j => ?_
  rw [List.getElem?_toArray, setL_get hl' j, Array.getElem?_toList (xs := c)]
theorem FS.app' {n0 : Nat} {H : Heap} {p q : Option Addr} {l c n : Nat} {el : TypeId} {k bytes : Nat} {zero : Array Value} {fs gs : List Value} (h : FS n0 H p l c el k fs) (hrow : Go.Sh.rowOf H q (n * k) gs.toArray) (hgl : gs.length = n * k) (hgo : ∀ v ∈ gs, v.oneCell' = true) (hk : 0 < k) (hn : n0 ≤ H.size) (hz : zero.size = k)
    (hb : (l + n) * bytes ≤ 70368744177664) (hm : l + n ≤ 1000000000000) {K : Option Addr → Nat → Nat → Heap → Prop}
    (hK : ∀ p' c' H', FS n0 H' p' (l + n) c' el k (fs ++ gs) → (∀ (b : Nat) (o : Obj), H[b]? = some o → p ≠ some ⟨b, 0, none⟩ → H'[b]? = some o) → H.size ≤ H'.size → K p' (l + n) c' H') : appQ k bytes zero H p l c q n el K := by
  have hfl := h.len
  have hlen : (fs ++ gs).length = (l + n) * k := by rw [List.length_append, hfl, hgl, Nat.add_mul]
  have hone : ∀ v ∈ fs ++ gs, v.oneCell' = true := fun v hv => (List.mem_append.1 hv).elim (h.one v) (hgo v)
  refine ⟨hb, by omega, gs.toArray, hrow, fun hle => ?_, fun hlt => ?_⟩
  · rcases h.at_ with ⟨rfl, hc0⟩ | ⟨blk, cs, rfl, h2, h3, h4, h5⟩
    · refine hK none c H ⟨hlen, hle, hone, .inl ⟨rfl, hc0⟩⟩ (fun b o hb _ => hb) (Nat.le_refl _)
    · simp only [add_none, Nat.zero_add]
      have hcap : (l + n) * k ≤ c * k := Nat.mul_le_mul_right k hle
      rw [Nat.add_mul] at hcap
      refine stAt_some h3 (by show l * k + gs.length ≤ cs.size; omega) (by simpa using hgo) fun c' hc' hg => ?_
      refine hK _ _ _ ⟨hlen, hle, hone, .inr ⟨blk, c', rfl, h2, get_set_self h3, by omega, fun i v hv => ?_⟩⟩ (fun b o hb hne => get_set_ne (fun hh => hne (by rw [hh])) hb) (by simp)
      rw [hg]
      by_cases hi : i < fs.length
      · rw [if_neg (by omega)]
        rw [List.getElem?_append_left hi] at hv
        exact h5 i v hv
      · rw [List.getElem?_append_right (by omega)] at hv
        have hlt := (List.getElem?_eq_some_iff.1 hv).1
        rw [if_pos ⟨by omega, by show i < l * k + gs.length; omega⟩]
        rw [← hfl]
        simpa using hv
  · have hrow : ∃ ys, Go.Sh.rowOf H p (l * k) ys ∧ ys.toList = fs := ⟨fs.toArray, h.rs.rowOf, by simp⟩
    obtain ⟨ys, hy, hvs⟩ := hrow
    refine ⟨ys, hy, fun c' hc' => ?_⟩
    rw [zeroCells_eq _ _ (by omega)]
    have hcap : (l + n) * k ≤ c' * k := Nat.mul_le_mul_right k hc'
    have hys : ys.size = l * k := by rw [← Array.length_toList, hvs, hfl]
    refine hK _ _ _ ⟨hlen, hc', hone, .inr ⟨H.size, _, rfl, hn, get_push_self _ _, ?_, fun i v hv => ?_⟩⟩ (fun b o hb _ => get_push hb) (by simp)
    · simp only [Array.size_append, hys, List.size_toArray, reps_length, Array.length_toList, hz, hgl]
      rw [Nat.sub_mul]
      rw [Nat.add_mul] at hcap ⊢
      omega
    · have hi := (List.getElem?_eq_some_iff.1 hv).1
      rw [Array.getElem?_append_left (by simp [hys, hgl]; rw [hlen, Nat.add_mul] at hi; omega)]
      have : (ys ++ gs.toArray).toList = fs ++ gs := by simp [hvs]
      rw [← Array.getElem?_toList, this]
      exact hv
theorem FS.app {n0 : Nat} {H : Heap} {p q : Option Addr} {l c n : Nat} {el : TypeId} {k bytes : Nat} {zero : Array Value} {fs gs : List Value} (h : FS n0 H p l c el k fs) (hs : RS H q n el k gs) (hk : 0 < k) (hn : n0 ≤ H.size) (hz : zero.size = k)
    (hb : (l + n) * bytes ≤ 70368744177664) (hm : l + n ≤ 1000000000000) {K : Option Addr → Nat → Nat → Heap → Prop}
    (hK : ∀ p' c' H', FS n0 H' p' (l + n) c' el k (fs ++ gs) → (∀ (b : Nat) (o : Obj), H[b]? = some o → p ≠ some ⟨b, 0, none⟩ → H'[b]? = some o) → H.size ≤ H'.size → K p' (l + n) c' H') : appQ k bytes zero H p l c q n el K :=
  h.app' hs.rowOf hs.len hs.one hk hn hz hb hm hK
theorem FS.set {n0 : Nat} {H : Heap} {b l c : Nat} {el : TypeId} {k : Nat} {fs : List Value} {i : Nat} {v : Value} {f : Heap → Prop} (h : FS n0 H (some ⟨b, 0, none⟩) l c el k fs) (hi : i < fs.length) (ho : v.oneCell' = true)
    (hf : ∀ H', FS n0 H' (some ⟨b, 0, none⟩) l c el k (fs.set i v) → (∀ (b' : Nat) (o : Obj), H[b']? = some o → b' ≠ b → H'[b']? = some o) → H'.size = H.size → f H') : stAt H ⟨b, i, none⟩ [v] f := by
  have hlen := h.len
  rcases h.at_ with ⟨h1, _⟩ | ⟨blk, cs, h1, h2, h3, h4, h5⟩
  · cases h1
  · cases h1
    have hics : i < cs.size := by
      have := h5 i fs[i] (List.getElem?_eq_getElem hi)
      exact (Array.getElem?_eq_some_iff.1 this).1
    refine stAt_one h3 hics ho ?_
    refine hf _ ⟨by simpa using hlen, h.le, fun u hu => ?_, .inr ⟨b, cs.setIfInBounds i v, rfl, h2, get_set_self h3, by simpa using h4, fun j u hu => ?_⟩⟩ (fun b' o hb' hne => get_set_ne (Ne.symm hne) hb') (by simp)
    · rcases List.mem_or_eq_of_mem_set hu with hu | rfl
      · exact h.one u hu
      · exact ho
    · rw [List.getElem?_set] at hu
      rw [Array.getElem?_setIfInBounds]
      by_cases hij : i = j
      · subst hij
        rw [if_pos rfl, if_pos hi] at hu
        rw [if_pos rfl, if_pos hics]
        exact hu
      · rw [if_neg hij] at hu
        rw [if_neg hij]
        exact h5 j u hu
end Go.Sh
namespace Go.Sh
structure Rs where
 at_ : Heap → List Nat → Prop
 loc : ∀ {H H' : Heap} {fp : List Nat}, at_ H fp → (∀ b ∈ fp, ∀ o, H[b]? = some o → H'[b]? = some o) → at_ H' fp
 has : ∀ {H : Heap} {fp : List Nat}, at_ H fp → ∀ b ∈ fp, b < H.size
def Rs.cell (b : Nat) (cs : Array Value) (ty : TypeId) : Rs where
 at_ H fp := fp = [b] ∧ H[b]? = some (.cells cs ty)
 loc h hk := ⟨h.1, hk _ (by rw [h.1]; exact List.mem_singleton.2 rfl) _ h.2⟩
 has h b hb := by rw [h.1, List.mem_singleton] at hb; subst hb; exact lt_of_get h.2
def Rs.sl (p : Option Addr) (l c : Nat) (el : TypeId) (k : Nat) (fs : List Value) : Rs where
 at_ H fp := FS 0 H p l c el k fs ∧ ((p = none ∧ fp = []) ∨ ∃ blk, p = some ⟨blk, 0, none⟩ ∧ fp = [blk])
 loc h hk := by
  refine ⟨h.1.keep fun b cs hp hb => hk b ?_ _ hb, h.2⟩
  rcases h.2 with ⟨h1, _⟩ | ⟨blk, h1, h2⟩
  ·rw [h1] at hp; cases hp
  ·rw [h1] at hp; cases hp; rw [h2]; exact List.mem_singleton.2 rfl
 has h b hb := by
  rcases h.2 with ⟨_, h2⟩ | ⟨blk, h1, h2⟩
  ·rw [h2] at hb; cases hb
  ·rw [h2, List.mem_singleton] at hb
   subst hb
   rcases h.1.at_ with ⟨h3, _⟩ | ⟨blk', cs, h3, _, h4, _⟩
   ·rw [h1] at h3; cases h3
   ·rw [h1] at h3; cases h3; exact lt_of_get h4
def Rs.star (r s : Rs) : Rs where
 at_ H fp := ∃ a b, fp = a ++ b ∧ r.at_ H a ∧ s.at_ H b
 loc := fun ⟨a, b, e, h1, h2⟩ hk => ⟨a, b, e, r.loc h1 fun x hx => hk x (by rw [e]; exact List.mem_append_left _ hx), s.loc h2 fun x hx => hk x (by rw [e]; exact List.mem_append_right _ hx)⟩
 has := fun ⟨a, b, e, h1, h2⟩ x hx => by
  rw [e] at hx
  rcases List.mem_append.1 hx with hx | hx
  ·exact r.has h1 x hx
  ·exact s.has h2 x hx
def Rs.ex {α : Type} (f : α → Rs) : Rs where
 at_ H fp := ∃ a, (f a).at_ H fp
 loc := fun ⟨a, h⟩ hk => ⟨a, (f a).loc h hk⟩
 has := fun ⟨a, h⟩ => (f a).has h
def Rs.pu (q : Prop) (r : Rs) : Rs where
 at_ H fp := q ∧ r.at_ H fp
 loc := fun ⟨a, h⟩ hk => ⟨a, r.loc h hk⟩
 has := fun ⟨a, h⟩ => r.has h
def Rs.emp : Rs where
 at_ H fp := fp = []
 loc h _ := h
 has h b hb := by rw [h] at hb; cases hb
def Lie (H : Heap) : List Rs → List (List Nat) → Prop
 | [], [] => True
 | r :: σ, fp :: fps => r.at_ H fp ∧ Lie H σ fps
 | _, _ => False
theorem Lie.get {H : Heap} : ∀ {σ : List Rs} {fps : List (List Nat)}, Lie H σ fps → ∀ {i : Nat} {r : Rs}, σ[i]? = some r → ∃ fp, fps[i]? = some fp ∧ r.at_ H fp
 | [], [], _, i, r, h => by simp at h
 | r :: σ, fp :: fps, hl, 0, s, h => by simp at h; subst h; exact ⟨fp, rfl, hl.1⟩
 | r :: σ, fp :: fps, hl, i + 1, s, h => by
  simp only [List.getElem?_cons_succ] at h ⊢
  exact Lie.get hl.2 h
theorem Lie.has {H : Heap} : ∀ {σ : List Rs} {fps : List (List Nat)}, Lie H σ fps → ∀ b ∈ fps.flatten, b < H.size
 | [], [], _, b, hb => by simp at hb
 | r :: σ, fp :: fps, hl, b, hb => by
  simp only [List.flatten_cons, List.mem_append] at hb
  rcases hb with hb | hb
  ·exact r.has hl.1 b hb
  ·exact Lie.has hl.2 b hb
theorem Lie.loc {H H' : Heap} : ∀ {σ : List Rs} {fps : List (List Nat)}, Lie H σ fps → (∀ b ∈ fps.flatten, ∀ o, H[b]? = some o → H'[b]? = some o) → Lie H' σ fps
 | [], [], _, _ => trivial
 | r :: σ, fp :: fps, hl, hk => by
  simp only [List.flatten_cons, List.mem_append] at hk
  exact ⟨r.loc hl.1 fun b hb => hk b (.inl hb), Lie.loc hl.2 fun b hb => hk b (.inr hb)⟩
theorem Lie.set {H H' : Heap} : ∀ {σ : List Rs} {fps : List (List Nat)} {i : Nat} {fp fp' : List Nat} {r' : Rs}, Lie H σ fps → fps.flatten.Nodup → fps[i]? = some fp → r'.at_ H' fp' → fp'.Nodup → (∀ b ∈ fp', b ∈ fp ∨ H.size ≤ b) →
    (∀ b o, H[b]? = some o → b ∉ fp → H'[b]? = some o) → Lie H' (σ.set i r') (fps.set i fp') ∧ (fps.set i fp').flatten.Nodup
  | [], [], i, fp, fp', r', hl, hn, hi, h, hn', hf, hk => by simp at hi
  | r :: σ, g :: fps, 0, fp, fp', r', hl, hn, hi, h, hn', hf, hk => by
    simp at hi; subst hi
    simp only [List.flatten_cons, List.nodup_append] at hn
    refine ⟨⟨h, hl.2.loc fun b hb o ho => hk b o ho fun hg => hn.2.2 b hg b hb rfl⟩, ?_⟩
    simp only [List.set_cons_zero, List.flatten_cons, List.nodup_append]
    refine ⟨hn', hn.2.1, fun a ha b hb hab => ?_⟩
    subst hab
    rcases hf a ha with h1 | h1
    · exact hn.2.2 a h1 a hb rfl
    · have := Lie.has hl.2 a hb; omega
  | r :: σ, g :: fps, i + 1, fp, fp', r', hl, hn, hi, h, hn', hf, hk => by
    simp only [List.getElem?_cons_succ] at hi
    simp only [List.flatten_cons, List.nodup_append] at hn
    obtain ⟨h1, h2⟩ := Lie.set hl.2 hn.2.1 hi h hn' hf hk
    have hmem : ∀ b ∈ fp, b ∈ fps.flatten := fun b hb => List.mem_flatten.2 ⟨fp, List.mem_of_getElem? hi, hb⟩
    refine ⟨⟨r.loc hl.1 fun b hb o ho => hk b o ho fun hg => hn.2.2 b hb b (hmem b hg) rfl, h1⟩, ?_⟩
    simp only [List.set_cons_succ, List.flatten_cons, List.nodup_append]
    refine ⟨hn.1, h2, fun a ha b hb hab => ?_⟩
    subst hab
    obtain ⟨f, hf1, hf2⟩ := List.mem_flatten.1 hb
    rcases List.mem_or_eq_of_mem_set hf1 with hf1 | rfl
    · exact hn.2.2 a ha a (List.mem_flatten.2 ⟨f, hf1, hf2⟩) rfl
    · rcases hf a hf2 with h3 | h3
      · exact hn.2.2 a ha a (hmem a h3) rfl
      · have := r.has hl.1 a ha; omega
structure St (H0 H : Heap) (σ : List Rs) : Prop where
 ext : Ext H0 H
 own : ∃ fps, Lie H σ fps ∧ fps.flatten.Nodup ∧ ∀ b ∈ fps.flatten, H0.size ≤ b
theorem St.nil (H : Heap) : St H H [] := ⟨Ext.refl H, [], trivial, by simp, by simp⟩
theorem St.of_ext {H0 H : Heap} (h : Ext H0 H) : St H0 H [] := ⟨h, [], trivial, by simp, by simp⟩
variable {H0 H H' : Heap} {σ τ : List Rs}
theorem nodup_mem : ∀ {fps : List (List Nat)}, fps.flatten.Nodup → ∀ fp ∈ fps, fp.Nodup
 | [], _, fp, h => by cases h
 | g :: r, hn, fp, h => by
  rw [List.flatten_cons, List.nodup_append] at hn
  rcases List.mem_cons.1 h with rfl | h
  ·exact hn.1
  ·exact nodup_mem hn.2.1 fp h
theorem St.upd (hs : St H0 H σ) {i : Nat} {r r' : Rs} (hi : σ[i]? = some r)
    (h : ∀ fp, r.at_ H fp → fp.Nodup → (∀ b ∈ fp, H0.size ≤ b) → ∃ fp', r'.at_ H' fp' ∧ fp'.Nodup ∧ (∀ b ∈ fp', b ∈ fp ∨ H.size ≤ b) ∧ ∀ b o, H[b]? = some o → b ∉ fp → H'[b]? = some o) : St H0 H' (σ.set i r') := by
  obtain ⟨he, fps, hl, hn, hb⟩ := hs
  obtain ⟨fp, hfp, hat⟩ := hl.get hi
  have hmem : ∀ b ∈ fp, b ∈ fps.flatten := fun b hb => List.mem_flatten.2 ⟨fp, List.mem_of_getElem? hfp, hb⟩
  have hfn : fp.Nodup := nodup_mem hn _ (List.mem_of_getElem? hfp)
  obtain ⟨fp', h1, h2, h3, h4⟩ := h fp hat hfn fun b hb' => hb b (hmem b hb')
  obtain ⟨h5, h6⟩ := hl.set hn hfp h1 h2 h3 h4
  refine ⟨fun b o ho => h4 b o (he b o ho) fun hf => ?_, _, h5, h6, fun b hb' => ?_⟩
  · have := hb b (hmem b hf); have := lt_of_get ho; omega
  · obtain ⟨f, hf1, hf2⟩ := List.mem_flatten.1 hb'
    rcases List.mem_or_eq_of_mem_set hf1 with hf1 | rfl
    · exact hb b (List.mem_flatten.2 ⟨f, hf1, hf2⟩)
    · rcases h3 b hf2 with h7 | h7
      · exact hb b (hmem b h7)
      · have := he.size; omega
theorem St.as (hs : St H0 H σ) (i : Nat) {r r' : Rs} (hi : σ[i]? = some r) (h : ∀ fp, r.at_ H fp → r'.at_ H fp) : St H0 H (σ.set i r') :=
 hs.upd hi fun fp h1 h2 _ => ⟨fp, h fp h1, h2, fun b hb => .inl hb, fun b o ho _ => ho⟩
theorem St.step (hs : St H0 H σ) (he : Ext H H') : St H0 H' σ := by
 obtain ⟨h1, fps, hl, hn, hb⟩ := hs
 exact ⟨h1.trans he, fps, hl.loc fun b _ o ho => he b o ho, hn, hb⟩
theorem Lie.append {H : Heap} : ∀ {σ τ : List Rs} {f g : List (List Nat)}, Lie H σ f → Lie H τ g → Lie H (σ ++ τ) (f ++ g)
 | [], _, [], _, _, h => h
 | _ :: _, _, _ :: _, _, h, h' => ⟨h.1, Lie.append h.2 h'⟩
theorem Lie.split {H : Heap} : ∀ {σ τ : List Rs} {f : List (List Nat)}, Lie H (σ ++ τ) f → ∃ a b, f = a ++ b ∧ Lie H σ a ∧ Lie H τ b
 | [], _, f, h => ⟨[], f, rfl, trivial, h⟩
 | r :: σ, τ, [], h => h.elim
 | r :: σ, τ, g :: f, h => let ⟨a, b, e, h1, h2⟩ := Lie.split h.2; ⟨g :: a, b, by rw [e]; rfl, ⟨h.1, h1⟩, h2⟩
theorem St.call (hs : St H0 H σ) (ht : St H H' τ) : St H0 H' (τ ++ σ) := by
 obtain ⟨h1, fps, hl, hn, hb⟩ := hs
 obtain ⟨h2, gps, hl2, hn2, hb2⟩ := ht
 refine ⟨h1.trans h2, gps ++ fps, hl2.append (hl.loc fun b _ o ho => h2 b o ho), ?_, fun b h => ?_⟩
 ·rw [List.flatten_append, List.nodup_append]
  refine ⟨hn2, hn, fun a ha b hb' hab => ?_⟩
  subst hab
  have := hb2 a ha; have := hl.has a hb'; omega
 ·rw [List.flatten_append, List.mem_append] at h
  rcases h with h | h
  ·have := hb2 b h; have := h1.size; omega
  ·exact hb b h
theorem St.perm (hs : St H0 H σ) (hp : σ.Perm τ) : St H0 H τ := by
 obtain ⟨he, fps, hl, hn, hb⟩ := hs
 have : ∀ {σ τ : List Rs}, σ.Perm τ → ∀ fps, Lie H σ fps → ∃ gps, Lie H τ gps ∧ fps.Perm gps := by
  intro σ τ hp
  induction hp with
  | nil => intro fps h; exact ⟨fps, h, List.Perm.refl _⟩
  | cons x _ ih =>
   intro fps h
   match fps, h with
   | f :: fps, h => obtain ⟨g, h1, h2⟩ := ih fps h.2; exact ⟨f :: g, ⟨h.1, h1⟩, h2.cons f⟩
  | swap x y l =>
   intro fps h
   match fps, h with
   | f :: g :: fps, h => exact ⟨g :: f :: fps, ⟨h.2.1, h.1, h.2.2⟩, List.Perm.swap _ _ _⟩
  | trans _ _ ih1 ih2 =>
   intro fps h
   obtain ⟨g, h1, h2⟩ := ih1 fps h
   obtain ⟨k, h3, h4⟩ := ih2 g h1
   exact ⟨k, h3, h2.trans h4⟩
 obtain ⟨gps, h1, h2⟩ := this hp fps hl
 exact ⟨he, gps, h1, (h2.flatten.nodup_iff).1 hn, fun b h => hb b ((h2.flatten.mem_iff).2 h)⟩
theorem St.app (hs : St H0 H (σ ++ τ)) : St H0 H σ ∧ St H0 H τ := by
 obtain ⟨he, fps, hl, hn, hb⟩ := hs
 obtain ⟨a, b, rfl, h1, h2⟩ := hl.split
 rw [List.flatten_append, List.nodup_append] at hn
 rw [List.flatten_append] at hb
 exact ⟨⟨he, a, h1, hn.1, fun x hx => hb x (List.mem_append_left _ hx)⟩, ⟨he, b, h2, hn.2.1, fun x hx => hb x (List.mem_append_right _ hx)⟩⟩
theorem St.tail {r : Rs} (hs : St H0 H (r :: σ)) : St H0 H σ := (St.app (σ := [r]) hs).2
theorem St.drop (hs : St H0 H σ) (n : Nat) : St H0 H (σ.drop n) := by
 rw [← List.take_append_drop n σ] at hs
 exact hs.app.2
theorem St.take (hs : St H0 H σ) (n : Nat) : St H0 H (σ.take n) := by
 rw [← List.take_append_drop n σ] at hs
 exact hs.app.1
theorem St.swap {r s : Rs} (hs : St H0 H (r :: s :: σ)) : St H0 H (s :: r :: σ) := hs.perm (List.Perm.swap _ _ _)
theorem St.front (hs : St H0 H σ) (i : Nat) {r : Rs} (hi : σ[i]? = some r) : St H0 H (r :: σ.eraseIdx i) := by
 refine hs.perm ?_
 have : ∀ (l : List Rs) (i : Nat), l[i]? = some r → l.Perm (r :: l.eraseIdx i) := by
  intro l
  induction l with
  | nil => intro i h; simp at h
  | cons x l ih =>
   intro i h
   cases i with
   | zero => simp at h; subst h; exact List.Perm.refl _
   | succ i => exact ((ih i (by simpa using h)).cons x).trans (List.Perm.swap _ _ _)
 exact this σ i hi
theorem St.back {r r' : Rs} {i : Nat} (hi : σ[i]? = some r) (hs : St H0 H (r' :: σ.eraseIdx i)) : St H0 H (σ.set i r') := by
 refine hs.perm ?_
 have : ∀ (l : List Rs) (i : Nat), l[i]? = some r → (r' :: l.eraseIdx i).Perm (l.set i r') := by
  intro l
  induction l with
  | nil => intro i h; simp at h
  | cons x l ih =>
   intro i h
   cases i with
   | zero => exact List.Perm.refl _
   | succ i => exact (List.Perm.swap _ _ _).trans ((ih i (by simpa using h)).cons x)
 exact this σ i hi
theorem St.del (hs : St H0 H σ) (i : Nat) : St H0 H (σ.eraseIdx i) := by
 rcases Nat.lt_or_ge i σ.length with h | h
 ·exact (hs.front i (List.getElem?_eq_getElem h)).tail
 ·rw [List.eraseIdx_of_length_le h]; exact hs
theorem St.cat {r s : Rs} (hs : St H0 H (r :: s :: σ)) : St H0 H (.star r s :: σ) := by
 obtain ⟨he, fps, hl, hn, hb⟩ := hs
 match fps, hl with
 | f :: g :: fps, hl => exact ⟨he, (f ++ g) :: fps, ⟨⟨f, g, rfl, hl.1, hl.2.1⟩, hl.2.2⟩, by simpa using hn, fun b h => hb b (by simpa using h)⟩
theorem St.cut {r s : Rs} (hs : St H0 H (.star r s :: σ)) : St H0 H (r :: s :: σ) := by
 obtain ⟨he, fps, hl, hn, hb⟩ := hs
 match fps, hl with
 | _ :: fps, ⟨⟨f, g, rfl, h1, h2⟩, h3⟩ => exact ⟨he, f :: g :: fps, ⟨h1, h2, h3⟩, by simpa using hn, fun b h => hb b (by simpa using h)⟩
theorem St.unex {α : Type} {f : α → Rs} (hs : St H0 H (.ex f :: σ)) : ∃ a, St H0 H (f a :: σ) := by
 obtain ⟨he, fps, hl, hn, hb⟩ := hs
 match fps, hl with
 | g :: fps, ⟨⟨a, h1⟩, h3⟩ => exact ⟨a, he, g :: fps, ⟨h1, h3⟩, hn, hb⟩
theorem St.inex {α : Type} {f : α → Rs} (a : α) (hs : St H0 H (f a :: σ)) : St H0 H (.ex f :: σ) := by
 obtain ⟨he, fps, hl, hn, hb⟩ := hs
 match fps, hl with
 | g :: fps, ⟨h1, h3⟩ => exact ⟨he, g :: fps, ⟨⟨a, h1⟩, h3⟩, hn, hb⟩
theorem St.fact {q : Prop} {r : Rs} (hs : St H0 H (.pu q r :: σ)) : q ∧ St H0 H (r :: σ) := by
 obtain ⟨he, fps, hl, hn, hb⟩ := hs
 match fps, hl with
 | g :: fps, ⟨⟨a, h1⟩, h3⟩ => exact ⟨a, he, g :: fps, ⟨h1, h3⟩, hn, hb⟩
theorem St.with {q : Prop} {r : Rs} (hq : q) (hs : St H0 H (r :: σ)) : St H0 H (.pu q r :: σ) := by
 obtain ⟨he, fps, hl, hn, hb⟩ := hs
 match fps, hl with
 | g :: fps, ⟨h1, h3⟩ => exact ⟨he, g :: fps, ⟨⟨hq, h1⟩, h3⟩, hn, hb⟩
theorem St.new (hs : St H0 H σ) {r : Rs} {fp : List Nat} (he : Ext H H') (h : r.at_ H' fp) (hn : fp.Nodup) (hb : ∀ b ∈ fp, H.size ≤ b) : St H0 H' (r :: σ) :=
 St.call (τ := [r]) hs ⟨he, [fp], ⟨h, trivial⟩, by simpa using hn, by simpa using hb⟩
theorem St.block (hs : St H0 H σ) (i : Nat) {b : Nat} {cs : Array Value} {ty : TypeId} (hi : σ[i]? = some (.cell b cs ty)) : H[b]? = some (.cells cs ty) := by
 obtain ⟨_, fps, hl, _⟩ := hs
 obtain ⟨fp, _, h⟩ := hl.get hi
 exact h.2
theorem St.get (hs : St H0 H σ) (i : Nat) {b j : Nat} {cs : Array Value} {ty : TypeId} {v : Value} (hi : σ[i]? = some (.cell b cs ty)) (hj : cs[j]? = some v) : Sh.cell H ⟨b, j, none⟩ = some v :=
 cell_get (hs.block i hi) hj
theorem St.alc (hs : St H0 H σ) {cs : Array Value} {ty : TypeId} {K : Nat → Heap → Prop} (hK : ∀ b H', St H0 H' (.cell b cs ty :: σ) → K b H') : Sh.alc H (.cells cs ty) K :=
 hK _ _ (hs.new (Ext.push _ _) (fp := [H.size]) ⟨rfl, get_push_self _ _⟩ (by simp) (by simp))
theorem St.alcE (hs : St H0 H σ) {cs : Array Value} {ty : TypeId} {K : Nat → Heap → Prop} (hK : ∀ b H', Ext H H' → St H0 H' (.cell b cs ty :: σ) → K b H') : Sh.alc H (.cells cs ty) K :=
 hK _ _ (Ext.push _ _) (hs.new (Ext.push _ _) (fp := [H.size]) ⟨rfl, get_push_self _ _⟩ (by simp) (by simp))
theorem St.put (hs : St H0 H σ) (i : Nat) {b j : Nat} {cs : Array Value} {ty : TypeId} {v : Value} {f : Heap → Prop} (hi : σ[i]? = some (.cell b cs ty)) (hj : j < cs.size) (ho : v.oneCell' = true)
    (hK : ∀ H', St H0 H' (σ.set i (.cell b (cs.setIfInBounds j v) ty)) → f H') : stAt H ⟨b, j, none⟩ [v] f :=
  stAt_one (hs.block i hi) hj ho (hK _ (hs.upd hi fun fp h1 _ _ => ⟨[b], ⟨rfl, get_set_self h1.2⟩, by simp, fun x hx => .inl (h1.1 ▸ hx), fun x o ho hx => get_set_ne (fun he => hx (by rw [h1.1, he]; exact List.mem_singleton.2 rfl)) ho⟩))
theorem St.putAll (hs : St H0 H σ) (i : Nat) {b : Nat} {cs : Array Value} {ty : TypeId} {vs : List Value} {f : Heap → Prop} (hi : σ[i]? = some (.cell b cs ty)) (hl : vs.length = cs.size) (ho : ∀ v ∈ vs, v.oneCell' = true)
    (hK : ∀ H', St H0 H' (σ.set i (.cell b vs.toArray ty)) → f H') : stAt H ⟨b, 0, none⟩ vs f :=
  stAt_whole (hs.block i hi) hl ho (hK _ (hs.upd hi fun fp h1 _ _ => ⟨[b], ⟨rfl, get_set_self h1.2⟩, by simp, fun x hx => .inl (h1.1 ▸ hx), fun x o ho hx => get_set_ne (fun he => hx (by rw [h1.1, he]; exact List.mem_singleton.2 rfl)) ho⟩))
theorem St.putRow (hs : St H0 H σ) (i : Nat) {b j : Nat} {cs : Array Value} {ty : TypeId} {vs : List Value} {f : Heap → Prop} (hi : σ[i]? = some (.cell b cs ty)) (hl : j + vs.length ≤ cs.size) (ho : ∀ v ∈ vs, v.oneCell' = true)
    (hK : ∀ H', St H0 H' (σ.set i (.cell b (setL cs.toList j vs).toArray ty)) → f H') : stAt H ⟨b, j, none⟩ vs f :=
  ⟨cs, ty, hs.block i hi, rfl, hl, ho, hK _ (hs.upd hi fun fp h1 _ _ => ⟨[b], ⟨rfl, get_set_self h1.2⟩, by simp, fun x hx => .inl (h1.1 ▸ hx), fun x o ho hx => get_set_ne (fun he => hx (by rw [h1.1]; exact List.mem_singleton.2 he.symm)) ho⟩)⟩
theorem St.fs (hs : St H0 H σ) (i : Nat) {p : Option Addr} {l c k : Nat} {el : TypeId} {fs : List Value} (hi : σ[i]? = some (.sl p l c el k fs)) : FS 0 H p l c el k fs := by
 obtain ⟨_, fps, hl, _⟩ := hs
 obtain ⟨fp, _, h⟩ := hl.get hi
 exact h.1
theorem St.rs (hs : St H0 H σ) (i : Nat) {p : Option Addr} {l c k : Nat} {el : TypeId} {fs : List Value} (hi : σ[i]? = some (.sl p l c el k fs)) : RS H p l el k fs := (hs.fs i hi).rs
theorem St.is (hs : St H0 H σ) (i : Nat) {p : Option Addr} {l c : Nat} {el : TypeId} {fs : List Value} (hi : σ[i]? = some (.sl p l c el 1 fs)) : IS H p l fs := (hs.rs i hi).is
theorem FS.resrc {n0 : Nat} {H : Heap} {p : Option Addr} {l c k : Nat} {el : TypeId} {fs : List Value} (h : FS n0 H p l c el k fs) : ∃ fp, (Rs.sl p l c el k fs).at_ H fp ∧ fp.Nodup ∧ (∀ b ∈ fp, n0 ≤ b) ∧ ∀ b ∈ fp, p = some ⟨b, 0, none⟩ := by
 rcases h.at_ with ⟨h1, h2⟩ | ⟨blk, cs, h1, h2, h3, h4, h5⟩
 ·exact ⟨[], ⟨h.lower (Nat.zero_le _), .inl ⟨h1, rfl⟩⟩, by simp, by simp, by simp⟩
 ·exact ⟨[blk], ⟨h.lower (Nat.zero_le _), .inr ⟨blk, h1, rfl⟩⟩, by simp, by simpa using h2, by simpa using h1⟩
theorem St.newSl (hs : St H0 H σ) {p : Option Addr} {l c k : Nat} {el : TypeId} {fs : List Value} (he : Ext H H') (h : FS H.size H' p l c el k fs) : St H0 H' (.sl p l c el k fs :: σ) := by
 obtain ⟨fp, h1, h2, h3, _⟩ := h.resrc
 exact hs.new he h1 h2 h3
theorem St.nilSl (hs : St H0 H σ) (el : TypeId) (k : Nat) : St H0 H (.sl none 0 0 el k [] :: σ) := hs.newSl (Ext.refl _) (FS.nil _ _ _ _)
theorem St.toSl (hs : St H0 H σ) (i : Nat) {b l k : Nat} {cs : Array Value} {ty : TypeId} {fs : List Value} (hi : σ[i]? = some (.cell b cs ty)) (hl : cs.size = l * k) (hf : cs.toList = fs) (ho : ∀ v ∈ fs, v.oneCell' = true) :
    St H0 H (σ.set i (.sl (some ⟨b, 0, none⟩) l l ty k fs)) :=
  hs.as i hi fun fp h => ⟨⟨by rw [← hf]; simpa using hl, Nat.le_refl _, ho, .inr ⟨b, cs, rfl, Nat.zero_le _, h.2, hl, fun j v hv => by rw [← hf] at hv; simpa using hv⟩⟩, .inr ⟨b, rfl, h.1⟩⟩
theorem FS.app2 {n0 : Nat} {H : Heap} {p q : Option Addr} {l c n : Nat} {el : TypeId} {k bytes : Nat} {zero : Array Value} {fs gs : List Value} (h : FS n0 H p l c el k fs) (hrow : Go.Sh.rowOf H q (n * k) gs.toArray) (hgl : gs.length = n * k) (hgo : ∀ v ∈ gs, v.oneCell' = true) (hk : 0 < k) (hn : n0 ≤ H.size) (hz : zero.size = k)
    (hb : (l + n) * bytes ≤ 70368744177664) (hm : l + n ≤ 1000000000000) {K : Option Addr → Nat → Nat → Heap → Prop}
    (hK : ∀ p' c' H', FS n0 H' p' (l + n) c' el k (fs ++ gs) → (∀ (b : Nat) (o : Obj), H[b]? = some o → p ≠ some ⟨b, 0, none⟩ → H'[b]? = some o) → (p' = p ∨ p' = some ⟨H.size, 0, none⟩) → K p' (l + n) c' H') : appQ k bytes zero H p l c q n el K := by
  by_cases hle : l + n ≤ c
  · obtain ⟨g1, g2, xs, g3, g4, _⟩ := h.app' (K := fun p' l' c' H' => p' = p → K p' l' c' H') hrow hgl hgo hk hn hz hb hm fun p' c' H' h1 h2 h3 hp => hK p' c' H' h1 h2 (.inl hp)
    refine ⟨g1, g2, xs, g3, fun hle => ?_, fun hlt => by omega⟩
    have := g4 hle
    cases p with
    | none => exact this rfl
    | some a =>
      obtain ⟨cs, T, a1, a2, a3, a4, a5⟩ := this
      exact ⟨cs, T, a1, a2, a3, a4, a5 rfl⟩
  · obtain ⟨g1, g2, xs, g3, _, g4⟩ := h.app' (K := fun p' l' c' H' => p' = some ⟨H.size, 0, none⟩ → K p' l' c' H') hrow hgl hgo hk hn hz hb hm fun p' c' H' h1 h2 h3 hp => hK p' c' H' h1 h2 (.inr hp)
    refine ⟨g1, g2, xs, g3, fun hle' => by omega, fun hlt => ?_⟩
    obtain ⟨ys, b1, b2⟩ := g4 hlt
    exact ⟨ys, b1, fun c' hc' => b2 c' hc' rfl⟩
theorem Rs.sl_at {H : Heap} {p : Option Addr} {l c k : Nat} {el : TypeId} {fs : List Value} {fp : List Nat} (h : (Rs.sl p l c el k fs).at_ H fp) {b : Nat} (hp : p = some ⟨b, 0, none⟩) : fp = [b] := by
 rcases h.2 with ⟨h1, _⟩ | ⟨blk, h1, h2⟩
 ·rw [hp] at h1; cases h1
 ·rw [hp] at h1; cases h1; exact h2
theorem St.slSet (hs : St H0 H σ) {i : Nat} {p p' : Option Addr} {l c l' c' k : Nat} {el : TypeId} {fs fs' : List Value} (hi : σ[i]? = some (.sl p l c el k fs)) (h : FS 0 H' p' l' c' el k fs')
    (hk : ∀ (b : Nat) (o : Obj), H[b]? = some o → p ≠ some ⟨b, 0, none⟩ → H'[b]? = some o) (hp : p' = p ∨ p' = some ⟨H.size, 0, none⟩) : St H0 H' (σ.set i (.sl p' l' c' el k fs')) := by
  refine hs.upd hi fun fp h1 h2 h3 => ?_
  obtain ⟨fp', g1, g2, _, g4⟩ := h.resrc
  refine ⟨fp', g1, g2, fun b hb => ?_, fun b o ho hb => hk b o ho fun he => hb (by rw [Rs.sl_at h1 he]; exact List.mem_singleton.2 rfl)⟩
  have := g4 b hb
  rcases hp with rfl | hp
  · left; rw [Rs.sl_at h1 this]; exact List.mem_singleton.2 rfl
  · rw [this] at hp; cases hp; exact .inr (Nat.le_refl _)
theorem St.appS (hs : St H0 H σ) (i : Nat) {p q : Option Addr} {l c n k bytes : Nat} {el : TypeId} {zero : Array Value} {fs gs : List Value} (hi : σ[i]? = some (.sl p l c el k fs)) (hrow : Go.Sh.rowOf H q (n * k) gs.toArray) (hgl : gs.length = n * k)
    (hgo : ∀ v ∈ gs, v.oneCell' = true) (hk : 0 < k) (hz : zero.size = k) (hb : (l + n) * bytes ≤ 70368744177664) (hm : l + n ≤ 1000000000000) {K : Option Addr → Nat → Nat → Heap → Prop}
    (hK : ∀ p' c' H', St H0 H' (σ.set i (.sl p' (l + n) c' el k (fs ++ gs))) → K p' (l + n) c' H') : appQ k bytes zero H p l c q n el K :=
  (hs.fs i hi).app2 hrow hgl hgo hk (Nat.zero_le _) hz hb hm fun p' c' H' h1 h2 h3 => hK p' c' H' (hs.slSet hi h1 h2 h3)
theorem St.appC (hs : St H0 H σ) (i m : Nat) {p : Option Addr} {b l c n k bytes : Nat} {el ty : TypeId} {zero cs : Array Value} {fs : List Value} (hi : σ[i]? = some (.sl p l c el k fs)) (hm' : σ[m]? = some (.cell b cs ty)) (hgl : cs.size = n * k)
    (hgo : ∀ v ∈ cs.toList, v.oneCell' = true) (hk : 0 < k) (hz : zero.size = k) (hb : (l + n) * bytes ≤ 70368744177664) (hm : l + n ≤ 1000000000000) {K : Option Addr → Nat → Nat → Heap → Prop}
    (hK : ∀ p' c' H', St H0 H' (σ.set i (.sl p' (l + n) c' el k (fs ++ cs.toList))) → K p' (l + n) c' H') : appQ k bytes zero H p l c (some ⟨b, 0, none⟩) n el K :=
  hs.appS i hi (gs := cs.toList) (show Go.Sh.rowOf H (Option.some ⟨b, 0, none⟩) (n * k) cs.toList.toArray from ⟨by simpa using hgl, by simpa using rowIn_whole (hs.block m hm')⟩) (by simpa using hgl) hgo hk hz hb hm hK
theorem IS.rowOf {H : Heap} {p : Option Addr} {l : Nat} {fs : List Value} (h : IS H p l fs) : Go.Sh.rowOf H p (l * 1) fs.toArray := by
 cases p with
 | none =>
  have : fs = [] := List.eq_nil_iff_forall_not_mem.2 fun v hv => by
   obtain ⟨i, hi⟩ := List.getElem?_of_mem hv
   obtain ⟨a, h1, _⟩ := h.get i v hi
   cases h1
  subst this; rfl
 | some a =>
  refine ⟨by simp [h.len], fun j v hv => ?_⟩
  obtain ⟨a', h1, h2⟩ := h.get j v (by simpa using hv)
  cases h1; exact h2
theorem St.appI (hs : St H0 H σ) (i : Nat) {p q : Option Addr} {l c n bytes : Nat} {el : TypeId} {zero : Array Value} {fs gs : List Value} (hi : σ[i]? = some (.sl p l c el 1 fs)) (hr : IS H q n gs) (ho : ∀ v ∈ gs, v.oneCell' = true) (hz : zero.size = 1)
    (hb : (l + n) * bytes ≤ 70368744177664) (hm : l + n ≤ 1000000000000) {K : Option Addr → Nat → Nat → Heap → Prop}
    (hK : ∀ p' c' H', St H0 H' (σ.set i (.sl p' (l + n) c' el 1 (fs ++ gs))) → K p' (l + n) c' H') : appQ 1 bytes zero H p l c q n el K :=
  hs.appS i hi hr.rowOf (by simp [hr.len]) ho (by decide) hz hb hm hK
theorem St.slPut (hs : St H0 H σ) (i : Nat) {b l c k j : Nat} {el : TypeId} {fs : List Value} {v : Value} {f : Heap → Prop} (hi : σ[i]? = some (.sl (some ⟨b, 0, none⟩) l c el k fs)) (hj : j < fs.length) (ho : v.oneCell' = true)
    (hK : ∀ H', St H0 H' (σ.set i (.sl (some ⟨b, 0, none⟩) l c el k (fs.set j v))) → f H') : stAt H ⟨b, j, none⟩ [v] f :=
  (hs.fs i hi).set hj ho fun H' h1 h2 h3 => hK H' (hs.slSet hi h1 (fun b' o ho hne => h2 b' o ho fun he => hne (by rw [he])) (.inl rfl))
theorem St.slSome (hs : St H0 H σ) (i : Nat) {p : Option Addr} {l c k j : Nat} {el : TypeId} {fs : List Value} (hi : σ[i]? = some (.sl p l c el k fs)) (hj : j < fs.length) : ∃ b, p = some ⟨b, 0, none⟩ := by
 obtain ⟨b, h, _⟩ := (hs.rs i hi).cell (List.getElem?_eq_getElem hj)
 exact ⟨b, h⟩
def kints (k : IntKind) (l : List Int) : List Value := l.map (Value.int k)
theorem kints_get {k : IntKind} {l : List Int} {i : Nat} {v : Int} (h : l[i]? = some v) : (kints k l)[i]? = some (Value.int k v) := by simp [kints, h]
theorem kints_len (k : IntKind) (l : List Int) : (kints k l).length = l.length := by simp [kints]
theorem kints_append (k : IntKind) (a b : List Int) : kints k (a ++ b) = kints k a ++ kints k b := by simp [kints]
theorem kints_set (k : IntKind) (l : List Int) (i : Nat) (v : Int) : (kints k l).set i (.int k v) = kints k (l.set i v) := by simp [kints]
theorem kints_one (k : IntKind) (l : List Int) : ∀ v ∈ kints k l, v.oneCell' = true := fun v hv => by
 obtain ⟨x, _, rfl⟩ := List.mem_map.1 hv; rfl
theorem IS.rd {H : Heap} {p : Option Addr} {l : Nat} {k : IntKind} {ls : List Int} (h : IS H p l (kints k ls)) {i x : Int} (h0 : 0 ≤ i) (h1 : i < l) (hx : ls[i.toNat]? = some x) {K : Int → Prop} (hK : K x) :
    ∃ a : Addr, p = some a ∧ 0 ≤ i ∧ i < ((l : Nat) : Int) ∧ ∃ v : Int, Sh.cell H (Addr.add a (Int.toNat i * 1)) = some (.int k v) ∧ K v := by
  obtain ⟨a, hp, hc⟩ := h.get _ _ (kints_get hx)
  exact ⟨a, hp, h0, h1, x, by simpa using hc, hK⟩
theorem IS.length {H : Heap} {p : Option Addr} {l : Nat} {k : IntKind} {ls : List Int} (h : IS H p l (kints k ls)) : ls.length = l := by have := h.len; rwa [kints_len] at this
theorem add_add (a : Addr) (i j : Nat) : (a.add i).add j = a.add (i + j) := by
 obtain ⟨b, o, s⟩ := a
 unfold Addr.add
 cases s <;> simp <;> split <;> split <;> simp_all <;> omega
theorem IS.part {H : Heap} {a : Addr} {l : Nat} {fs : List Value} (h : IS H (some a) l fs) {i n : Nat} (hi : i + n ≤ l) : IS H (some (a.add i)) n ((fs.drop i).take n) := by
 refine ⟨by have := h.len; simp; omega, fun j v hv => ?_⟩
 rw [List.getElem?_take] at hv
 split at hv
 ·rw [List.getElem?_drop] at hv
  obtain ⟨a', h1, h2⟩ := h.get _ _ hv
  cases h1
  refine ⟨_, rfl, ?_⟩
  rw [show (a.add i).add j = a.add (i + j) from add_add a i j]
  exact h2
 ·cases hv
theorem upto {n : Nat} {Q : Nat → Prop} (h : ∀ i, i ≤ n → (i < n → Q (i + 1)) → Q i) : ∀ i, i ≤ n → Q i := by
 have : ∀ m i, n - i = m → i ≤ n → Q i := by
  intro m
  induction m with
  | zero => intro i hm hi; exact h i hi fun hlt => by omega
  | succ m ih => intro i hm hi; exact h i hi fun hlt => ih (i + 1) (by omega) (by omega)
 exact fun i hi => this (n - i) i rfl hi
end Go.Sh
namespace Go.Sh
variable {H0 H : Heap} {σ : List Rs}
theorem intsA_size (l : List Int) : (ints l).toArray.size = l.length := by simp [ints]
theorem St.rdA (hs : St H0 H σ) (i : Nat) {b j : Nat} {l : List Int} {ty : TypeId} {x : Int} (hi : σ[i]? = some (.cell b (ints l).toArray ty)) (hx : l[j]? = some x) : Sh.cell H ⟨b, j, none⟩ = some (.int .i64 x) :=
 hs.get i hi (by rw [List.getElem?_toArray]; exact ints_get hx)
theorem St.putA (hs : St H0 H σ) (i : Nat) {b j : Nat} {l : List Int} {ty : TypeId} {x : Int} {f : Heap → Prop} (hi : σ[i]? = some (.cell b (ints l).toArray ty)) (hj : j < l.length)
    (hK : ∀ H', St H0 H' (σ.set i (.cell b (ints (l.set j x)).toArray ty)) → f H') : stAt H ⟨b, j, none⟩ [.int .i64 x] f :=
  hs.put i hi (by rw [intsA_size]; exact hj) rfl fun H' hs' => hK H' (by
    have e : (ints l).toArray.setIfInBounds j (Value.int .i64 x) = (ints (l.set j x)).toArray := by rw [← ints_set]; simp
    rw [← e]; exact hs')
theorem St.putAllA (hs : St H0 H σ) (i : Nat) {b : Nat} {cs : Array Value} {l : List Int} {ty : TypeId} {f : Heap → Prop} (hi : σ[i]? = some (.cell b cs ty)) (hl : l.length = cs.size)
    (hK : ∀ H', St H0 H' (σ.set i (.cell b (ints l).toArray ty)) → f H') : stAt H ⟨b, 0, none⟩ (Array.toList (ints l).toArray) f :=
  hs.putAll i hi (by simpa [ints] using hl) (fun v hv => ints_one l v (by simpa using hv)) fun H' hs' => hK H' (by simpa using hs')
theorem reps_rep (v : Value) : ∀ n, reps n [v] = List.replicate n v
 | 0 => rfl
 | n + 1 => by rw [reps, reps_rep v n, List.replicate_succ]; rfl
theorem repsA (n : Nat) : (reps n (Array.toList #[Value.int .i64 0])).toArray = (ints (List.replicate n 0)).toArray := by
 show (reps n [Value.int .i64 0]).toArray = _
 rw [reps_rep]; simp [ints]
theorem St.isA (hs : St H0 H σ) (i : Nat) {b n : Nat} {l : List Int} {ty : TypeId} (hi : σ[i]? = some (.cell b (ints l).toArray ty)) (hn : l.length = n) : IS H (some ⟨b, 0, none⟩) n (ints l) :=
 ⟨by rw [ints_len]; exact hn, fun j v hv => ⟨_, rfl, by rw [add_none, Nat.zero_add]; exact hs.get i hi (by rw [List.getElem?_toArray]; exact hv)⟩⟩
theorem getD_some {α : Type} (a : List α) (d : α) {i : Nat} (h : i < a.length) : a[i]? = some (a.getD i d) := by rw [List.getD_eq_getElem?_getD, List.getElem?_eq_getElem h]; rfl
def fillA (L : List Int) (s : Nat) : List Int := L.take s ++ List.replicate (L.length - s) 0
theorem fillA_len {L : List Int} {s : Nat} (h : s ≤ L.length) : (fillA L s).length = L.length := by unfold fillA; simp; omega
theorem fillA_zero (L : List Int) : fillA L 0 = List.replicate L.length 0 := by simp [fillA]
theorem fillA_all (L : List Int) : fillA L L.length = L := by simp [fillA]
theorem fillA_set {L : List Int} {s : Nat} (h : s < L.length) : (fillA L s).set s (L.getD s 0) = fillA L (s + 1) := by
 unfold fillA
 have ht : L.take (s + 1) = L.take s ++ [L.getD s 0] := by rw [List.take_add_one, getD_some L 0 h]; rfl
 rw [ht, List.set_append_right _ _ (by rw [List.length_take]; omega), List.length_take, Nat.min_eq_left (by omega), Nat.sub_self, show L.length - s = (L.length - (s + 1)) + 1 from by omega, List.replicate_succ, List.set_cons_zero, List.append_assoc]
 rfl
theorem fillA_at {L : List Int} {s : Nat} (h : s < L.length) : (fillA L s)[s]? = some 0 := by
 unfold fillA
 rw [List.getElem?_append_right (by rw [List.length_take]; omega), List.length_take, Nat.min_eq_left (by omega), Nat.sub_self, show L.length - s = (L.length - (s + 1)) + 1 from by omega, List.replicate_succ]
 rfl
theorem fillA_set0 {L : List Int} {s : Nat} (h : s < L.length) : (fillA L s).set s 0 = fillA L s := by
 have h1 := fillA_at h
 obtain ⟨h2, h3⟩ := List.getElem?_eq_some_iff.1 h1
 rw [← h3, List.set_getElem_self]
theorem tab_getD {n : Nat} {f : Nat → Int} {i : Nat} (h : i < n) : ((List.range n).map f).getD i 0 = f i := by simp [List.getD_eq_getElem?_getD, h]
theorem tab_get {n : Nat} {f : Nat → Int} {i : Nat} (h : i < n) : ((List.range n).map f)[i]? = some (f i) := by simp [h]
theorem mul_bd {x y A B : Int} (hx : -A ≤ x ∧ x ≤ A) (hy : -B ≤ y ∧ y ≤ B) : -(A * B) ≤ x * y ∧ x * y ≤ A * B := by
 have h1 : x.natAbs ≤ A.toNat := by omega
 have h2 : y.natAbs ≤ B.toNat := by omega
 have h3 := Nat.mul_le_mul h1 h2
 rw [← Int.natAbs_mul] at h3
 have h4 : ((A.toNat * B.toNat : Nat) : Int) = A * B := by
  rw [Int.natCast_mul, Int.toNat_of_nonneg (by omega), Int.toNat_of_nonneg (by omega)]
 omega
end Go.Sh
namespace Go.Proofs
open Go.Sh
structure M6 where
 a : Int
 b : Int
 c : Int
 d : Int
 e : Int
 f : Int
 deriving DecidableEq
def M6.l (m : M6) : List Int := [m.a, m.b, m.c, m.d, m.e, m.f]
structure LayF where
 id : Int
 kind : Int
 hidden : Bool
 opacity : Int
 mode : Int
 w : Int
 h : Int
 p : List Int
 mask : List Int
 map : M6
 smooth : Bool
 table : Int
 params : List Int
 deriving DecidableEq
inductive Lay where
 | mk (f : LayF) (kids : List Lay)
def Lay.f : Lay → LayF
 | .mk f _ => f
def Lay.kids : Lay → List Lay
 | .mk _ k => k
structure Sl3 where
 p : Option Addr
 l : Nat
 c : Nat
def Sl3.v (s : Sl3) : Value := .slice s.p s.l s.c
def Sl3.nil : Sl3 := ⟨none, 0, 0⟩
inductive T where
 | mk (f : LayF) (P M A K : Sl3) (kids : List T)
def T.f : T → LayF
 | .mk f _ _ _ _ _ => f
def T.K : T → Sl3
 | .mk _ _ _ _ K _ => K
def T.P' : T → Sl3
 | .mk _ P _ _ _ _ => P
def T.M' : T → Sl3
 | .mk _ _ M _ _ _ => M
def T.A' : T → Sl3
 | .mk _ _ _ A _ _ => A
def T.kids : T → List T
 | .mk _ _ _ _ _ k => k
def cellsL (f : LayF) (P M A K : Value) : List Value :=
 [.int .i64 f.id, .int .i64 f.kind, .bool f.hidden, .int .i64 f.opacity, .int .i64 f.mode, .int .i64 f.w, .int .i64 f.h, P, M,
  .int .i64 f.map.a, .int .i64 f.map.b, .int .i64 f.map.c, .int .i64 f.map.d, .int .i64 f.map.e, .int .i64 f.map.f, .bool f.smooth, .int .i64 f.table, A, K]
def cellsT : T → List Value
 | .mk f P M A K _ => cellsL f P.v M.v A.v K.v
def cellsKs (ts : List T) : List Value := (ts.map cellsT).flatten
theorem cellsT_len (t : T) : (cellsT t).length = 19 := by cases t; rfl
theorem cellsKs_len (ts : List T) : (cellsKs ts).length = ts.length * 19 := by
 unfold cellsKs
 induction ts with
 | nil => rfl
 | cons t ts ih => rw [List.map_cons, List.flatten_cons, List.length_append, ih, cellsT_len, List.length_cons]; omega
theorem cellsT_one (t : T) : ∀ v ∈ cellsT t, v.oneCell' = true := by
 cases t with | mk f P M A K ks =>
 show ∀ v ∈ cellsL f P.v M.v A.v K.v, v.oneCell' = true
 unfold cellsL
 simp only [List.forall_mem_cons]
 exact ⟨rfl, rfl, rfl, rfl, rfl, rfl, rfl, rfl, rfl, rfl, rfl, rfl, rfl, rfl, rfl, rfl, rfl, rfl, rfl, fun _ h => by cases h⟩
theorem cellsL_one (f : LayF) (P M A K : Sl3) : ∀ v ∈ cellsL f P.v M.v A.v K.v, v.oneCell' = true := cellsT_one (.mk f P M A K [])
theorem cellsKs_app (a b : List T) : cellsKs (a ++ b) = cellsKs a ++ cellsKs b := by simp [cellsKs]
theorem cellsKs_one (t : T) : cellsKs [t] = cellsT t := by simp [cellsKs]
theorem cellsKs_cons (t : T) (ts : List T) : cellsKs (t :: ts) = cellsT t ++ cellsKs ts := by simp [cellsKs]
theorem cellsKs_get {ts : List T} {i : Nat} {t : T} (h : ts[i]? = some t) {j : Nat} {v : Value} (hv : (cellsT t)[j]? = some v) : (cellsKs ts)[i * 19 + j]? = some v := by
 have hj : j < 19 := by have := (List.getElem?_eq_some_iff.1 hv).1; rw [cellsT_len] at this; exact this
 induction ts generalizing i with
 | nil => simp at h
 | cons x ts ih =>
  rw [cellsKs_cons]
  cases i with
  | zero =>
   simp at h; subst h
   rw [Nat.zero_mul, Nat.zero_add, List.getElem?_append_left (by rw [cellsT_len]; exact hj)]; exact hv
  | succ i =>
   rw [List.getElem?_append_right (by rw [cellsT_len]; omega), cellsT_len, show (i + 1) * 19 + j - 19 = i * 19 + j from by omega]
   exact ih (by simpa using h)
mutual
def layT : T → Lay
 | .mk f _ _ _ _ ks => .mk f (layKs ks)
def layKs : List T → List Lay
 | [] => []
 | t :: ts => layT t :: layKs ts
end
theorem layKs_map (ts : List T) : layKs ts = ts.map layT := by
 induction ts with
 | nil => rfl
 | cons t ts ih => rw [layKs, ih]; rfl
theorem layKs_len (ts : List T) : (layKs ts).length = ts.length := by rw [layKs_map, List.length_map]
theorem layKs_app (a b : List T) : layKs (a ++ b) = layKs a ++ layKs b := by simp [layKs_map]
theorem layT_f (t : T) : (layT t).f = t.f := by cases t; rfl
theorem T.ind {Q : T → Prop} (h : ∀ f P M A K ks, (∀ t ∈ ks, Q t) → Q (.mk f P M A K ks)) : ∀ t, Q t :=
 fun t => T.rec (motive_1 := Q) (motive_2 := fun ts => ∀ t ∈ ts, Q t) (fun f P M A K ks ih => h f P M A K ks ih) (fun _ h => by cases h)
  (fun t ts h1 h2 u hu => by
   rcases List.mem_cons.1 hu with rfl | hu
   ·exact h1
   ·exact h2 u hu) t
theorem Lay.ind {Q : Lay → Prop} (h : ∀ f ks, (∀ t ∈ ks, Q t) → Q (.mk f ks)) : ∀ t, Q t :=
 fun t => Lay.rec (motive_1 := Q) (motive_2 := fun ts => ∀ t ∈ ts, Q t) (fun f ks ih => h f ks ih) (fun _ h => by cases h)
  (fun t ts h1 h2 u hu => by
   rcases List.mem_cons.1 hu with rfl | hu
   ·exact h1
   ·exact h2 u hu) t
def rowsK (H : Heap) (K : Sl3) (ks : List T) : Prop := K.l = ks.length ∧ ∀ (i : Nat) t, ks[i]? = some t → ∃ a, K.p = some a ∧ rowIn H (a.add (i * 19)) (cellsT t).toArray
mutual
def rdT (H : Heap) : T → Prop
 | .mk f P M A K ks => IS H P.p P.l (ints f.p) ∧ IS H M.p M.l (kints .u8 f.mask) ∧ IS H A.p A.l (ints f.params) ∧ rowsK H K ks ∧ rdKs H ks
def rdKs (H : Heap) : List T → Prop
 | [] => True
 | t :: ts => rdT H t ∧ rdKs H ts
end
def grp (H : Heap) (K : Sl3) (ks : List T) : Prop := rowsK H K ks ∧ rdKs H ks
theorem rdKs_iff {H : Heap} : ∀ {ts : List T}, rdKs H ts ↔ ∀ t ∈ ts, rdT H t
 | [] => ⟨fun _ _ h => (by cases h), fun _ => trivial⟩
 | t :: ts => by
  rw [rdKs, rdKs_iff]
  simp only [List.forall_mem_cons]
theorem rowsK.ext {H H' : Heap} {K : Sl3} {ks : List T} (h : rowsK H K ks) (he : Ext H H') : rowsK H' K ks :=
 ⟨h.1, fun i t ht => let ⟨a, h1, h2⟩ := h.2 i t ht; ⟨a, h1, rowAt_ext he h2⟩⟩
theorem rdT.ext {H H' : Heap} (he : Ext H H') : ∀ t, rdT H t → rdT H' t := by
 refine T.ind fun f P M A K ks ih h => ?_
 rw [rdT] at h ⊢
 exact ⟨h.1.ext he, h.2.1.ext he, h.2.2.1.ext he, h.2.2.2.1.ext he, rdKs_iff.2 fun t ht => ih t ht (rdKs_iff.1 h.2.2.2.2 t ht)⟩
theorem grp.ext {H H' : Heap} {K : Sl3} {ks : List T} (h : grp H K ks) (he : Ext H H') : grp H' K ks :=
 ⟨h.1.ext he, rdKs_iff.2 fun t ht => rdT.ext he t (rdKs_iff.1 h.2 t ht)⟩
theorem grp.get {H : Heap} {K : Sl3} {ks : List T} (h : grp H K ks) {i : Nat} {t : T} (ht : ks[i]? = some t) : ∃ a, K.p = some a ∧ rowIn H (a.add (i * 19)) (cellsT t).toArray ∧ rdT H t :=
 let ⟨a, h1, h2⟩ := h.1.2 i t ht
 ⟨a, h1, h2, rdKs_iff.1 h.2 t (List.mem_of_getElem? ht)⟩
theorem grp.nil (H : Heap) : grp H .nil [] := ⟨⟨rfl, fun i t h => by simp at h⟩, trivial⟩
theorem rdT.grp {H : Heap} {t : T} (h : rdT H t) : grp H t.K t.kids := by
 cases t with | mk f P M A K ks =>
 rw [rdT] at h
 exact ⟨h.2.2.2.1, h.2.2.2.2⟩
mutual
def resT : T → List Rs
 | .mk f P M A K ks => .sl P.p P.l P.c 3 1 (ints f.p) :: .sl M.p M.l M.c 5 1 (kints .u8 f.mask) :: .sl A.p A.l A.c 3 1 (ints f.params) :: .sl K.p K.l K.c 58 19 (cellsKs ks) :: resKs ks
def resKs : List T → List Rs
 | [] => []
 | t :: ts => resT t ++ resKs ts
end
def resG (K : Sl3) (ks : List T) : List Rs := .sl K.p K.l K.c 58 19 (cellsKs ks) :: resKs ks
theorem resKs_app (a b : List T) : resKs (a ++ b) = resKs a ++ resKs b := by
 induction a with
 | nil => rfl
 | cons t a ih => rw [List.cons_append, resKs, ih, resKs, List.append_assoc]
theorem resKs_one (t : T) : resKs [t] = resT t := by rw [resKs, resKs, List.append_nil]
theorem resKs_cons (t : T) (ts : List T) : resKs (t :: ts) = resT t ++ resKs ts := by rw [resKs]
theorem resT_mk (f : LayF) (P M A K : Sl3) (ks : List T) : resT (.mk f P M A K ks) = .sl P.p P.l P.c 3 1 (ints f.p) :: .sl M.p M.l M.c 5 1 (kints .u8 f.mask) :: .sl A.p A.l A.c 3 1 (ints f.params) :: resG K ks := by rw [resT]; rfl
end Go.Proofs
namespace Go.Sh
open Go.Proofs
variable {H0 H H' : Heap} {σ τ : List Rs}
theorem RS.rowsK {H : Heap} {K : Sl3} {ks : List T} {el : TypeId} (h : RS H K.p K.l el 19 (cellsKs ks)) : Go.Proofs.rowsK H K ks := by
 have hl : K.l = ks.length := by have := h.len; rw [cellsKs_len] at this; omega
 refine ⟨hl, fun i t ht => ?_⟩
 have hi : i < ks.length := (List.getElem?_eq_some_iff.1 ht).1
 obtain ⟨blk, h1, h2⟩ := h.row (i := i) (by omega) (by decide) (xs := (cellsT t).toArray) fun j v hv => cellsKs_get ht (by simpa using hv)
 exact ⟨_, h1, by rw [add_none, Nat.zero_add]; exact h2⟩
theorem St.rdKs_of : ∀ {ks : List T}, (∀ t ∈ ks, ∀ {σ : List Rs}, St H0 H (resT t ++ σ) → Go.Proofs.rdT H t) → St H0 H (resKs ks ++ σ) → Go.Proofs.rdKs H ks
 | [], _, _ => trivial
 | t :: ts, h, hs => by
  rw [resKs, List.append_assoc] at hs
  exact ⟨h t List.mem_cons_self hs, St.rdKs_of (fun t ht => h t (List.mem_cons_of_mem _ ht)) hs.app.2⟩
theorem St.rdT : ∀ (t : T) {σ : List Rs}, St H0 H (resT t ++ σ) → Go.Proofs.rdT H t := by
 refine T.ind fun f P M A K ks ih σ hs => ?_
 rw [resT] at hs
 rw [Go.Proofs.rdT]
 refine ⟨hs.is 0 rfl, hs.is 1 rfl, hs.is 2 rfl, RS.rowsK (hs.rs 3 rfl), St.rdKs_of (fun t ht _ hs => ih t ht hs) (σ := σ) ?_⟩
 exact hs.drop 4
theorem St.grp {K : Sl3} {ks : List T} (hs : St H0 H (resG K ks ++ σ)) : Go.Proofs.grp H K ks :=
 ⟨RS.rowsK (hs.rs 0 rfl), St.rdKs_of (fun t ht _ hs => St.rdT t hs) (σ := σ) hs.tail⟩
theorem St.callR (hs : St H0 H σ) (ht : St H H' τ) : St H0 H' (σ ++ τ) := (hs.call ht).perm List.perm_append_comm
end Go.Sh
namespace Go.Proofs
open Go.Sh
def Tryz.i0 : TI := ⟨.tuple [], 1, 0, Value.tuple #[]⟩
theorem Tryz.tok0 : TIok Tryz.prog 0 Tryz.i0 := ⟨by kernel_rfl, by kernel_rfl⟩
def Tryz.i3 : TI := ⟨.int .i64, 1, 8, Value.int .i64 0⟩
theorem Tryz.tok3 : TIok Tryz.prog 3 Tryz.i3 := ⟨by kernel_rfl, by kernel_rfl⟩
def Tryz.i4 : TI := ⟨.bool, 1, 1, Value.bool false⟩
theorem Tryz.tok4 : TIok Tryz.prog 4 Tryz.i4 := ⟨by kernel_rfl, by kernel_rfl⟩
def Tryz.i5 : TI := ⟨.int .u8, 1, 1, Value.int .u8 0⟩
theorem Tryz.tok5 : TIok Tryz.prog 5 Tryz.i5 := ⟨by kernel_rfl, by kernel_rfl⟩
def Tryz.i9 : TI := ⟨.str, 1, 16, Value.string ByteArray.empty⟩
theorem Tryz.tok9 : TIok Tryz.prog 9 Tryz.i9 := ⟨by kernel_rfl, by kernel_rfl⟩
def Tryz.i22 : TI := ⟨.sl 52, 1, 24, Value.slice none 0 0⟩
theorem Tryz.tok22 : TIok Tryz.prog 22 Tryz.i22 := ⟨by kernel_rfl, by kernel_rfl⟩
def Tryz.i24 : TI := ⟨.sl 58, 1, 24, Value.slice none 0 0⟩
theorem Tryz.tok24 : TIok Tryz.prog 24 Tryz.i24 := ⟨by kernel_rfl, by kernel_rfl⟩
def Tryz.i26 : TI := ⟨.struct [(0, 3), (1, 3), (2, 3), (3, 24)], 4, 48, Value.agg #[Value.int .i64 0, Value.int .i64 0, Value.int .i64 0, Value.slice none 0 0]⟩
theorem Tryz.tok26 : TIok Tryz.prog 26 Tryz.i26 := ⟨by kernel_rfl, by kernel_rfl⟩
def Tryz.i27 : TI := ⟨.sl 101, 1, 24, Value.slice none 0 0⟩
theorem Tryz.tok27 : TIok Tryz.prog 27 Tryz.i27 := ⟨by kernel_rfl, by kernel_rfl⟩
def Tryz.i29 : TI := ⟨.struct [(0, 3), (1, 3), (2, 3), (3, 27)], 4, 48, Value.agg #[Value.int .i64 0, Value.int .i64 0, Value.int .i64 0, Value.slice none 0 0]⟩
theorem Tryz.tok29 : TIok Tryz.prog 29 Tryz.i29 := ⟨by kernel_rfl, by kernel_rfl⟩
def Tryz.i30 : TI := ⟨.tuple [26, 29, 4], 1, 0, Value.tuple #[Value.agg #[Value.int .i64 0, Value.int .i64 0, Value.int .i64 0, Value.slice none 0 0], Value.agg #[Value.int .i64 0, Value.int .i64 0, Value.int .i64 0, Value.slice none 0 0], Value.bool false]⟩
theorem Tryz.tok30 : TIok Tryz.prog 30 Tryz.i30 := ⟨by kernel_rfl, by kernel_rfl⟩
def Tryz.i32 : TI := ⟨.sl 3, 1, 24, Value.slice none 0 0⟩
theorem Tryz.tok32 : TIok Tryz.prog 32 Tryz.i32 := ⟨by kernel_rfl, by kernel_rfl⟩
def Tryz.i34 : TI := ⟨.struct [(0, 3), (1, 3), (2, 32)], 3, 40, Value.agg #[Value.int .i64 0, Value.int .i64 0, Value.slice none 0 0]⟩
theorem Tryz.tok34 : TIok Tryz.prog 34 Tryz.i34 := ⟨by kernel_rfl, by kernel_rfl⟩
def Tryz.i36 : TI := ⟨.tuple [32, 3], 1, 0, Value.tuple #[Value.slice none 0 0, Value.int .i64 0]⟩
theorem Tryz.tok36 : TIok Tryz.prog 36 Tryz.i36 := ⟨by kernel_rfl, by kernel_rfl⟩
def Tryz.i38 : TI := ⟨.fn, 1, 8, Value.nilFunc⟩
theorem Tryz.tok38 : TIok Tryz.prog 38 Tryz.i38 := ⟨by kernel_rfl, by kernel_rfl⟩
def Tryz.i42 : TI := ⟨.int .i64, 1, 8, Value.int .i64 0⟩
theorem Tryz.tok42 : TIok Tryz.prog 42 Tryz.i42 := ⟨by kernel_rfl, by kernel_rfl⟩
def Tryz.i43 : TI := ⟨.tuple [32, 42], 1, 0, Value.tuple #[Value.slice none 0 0, Value.int .i64 0]⟩
theorem Tryz.tok43 : TIok Tryz.prog 43 Tryz.i43 := ⟨by kernel_rfl, by kernel_rfl⟩
def Tryz.i46 : TI := ⟨.tuple [26, 42], 1, 0, Value.tuple #[Value.agg #[Value.int .i64 0, Value.int .i64 0, Value.int .i64 0, Value.slice none 0 0], Value.int .i64 0]⟩
theorem Tryz.tok46 : TIok Tryz.prog 46 Tryz.i46 := ⟨by kernel_rfl, by kernel_rfl⟩
def Tryz.i48 : TI := ⟨.sl 105, 1, 24, Value.slice none 0 0⟩
theorem Tryz.tok48 : TIok Tryz.prog 48 Tryz.i48 := ⟨by kernel_rfl, by kernel_rfl⟩
def Tryz.i50 : TI := ⟨.arr 6 3, 6, 48, Value.agg #[Value.int .i64 0, Value.int .i64 0, Value.int .i64 0, Value.int .i64 0, Value.int .i64 0, Value.int .i64 0]⟩
theorem Tryz.tok50 : TIok Tryz.prog 50 Tryz.i50 := ⟨by kernel_rfl, by kernel_rfl⟩
def Tryz.i52 : TI := ⟨.struct [(0, 3), (1, 3), (2, 3), (3, 3), (4, 3), (5, 3), (6, 3), (7, 3), (8, 3), (9, 3), (10, 32), (11, 48), (12, 50), (18, 32)], 19, 200, Value.agg #[Value.int .i64 0, Value.int .i64 0, Value.int .i64 0, Value.int .i64 0, Value.int .i64 0, Value.int .i64 0, Value.int .i64 0, Value.int .i64 0, Value.int .i64 0, Value.int .i64 0, Value.slice none 0 0, Value.slice none 0 0, Value.int .i64 0, Value.int .i64 0, Value.int .i64 0, Value.int .i64 0, Value.int .i64 0, Value.int .i64 0, Value.slice none 0 0]⟩
theorem Tryz.tok52 : TIok Tryz.prog 52 Tryz.i52 := ⟨by kernel_rfl, by kernel_rfl⟩
def Tryz.i56 : TI := ⟨.sl 5, 1, 24, Value.slice none 0 0⟩
theorem Tryz.tok56 : TIok Tryz.prog 56 Tryz.i56 := ⟨by kernel_rfl, by kernel_rfl⟩
def Tryz.i58 : TI := ⟨.struct [(0, 3), (1, 3), (2, 4), (3, 3), (4, 3), (5, 3), (6, 3), (7, 32), (8, 56), (9, 50), (15, 4), (16, 3), (17, 32), (18, 24)], 19, 216, Value.agg #[Value.int .i64 0, Value.int .i64 0, Value.bool false, Value.int .i64 0, Value.int .i64 0, Value.int .i64 0, Value.int .i64 0, Value.slice none 0 0, Value.slice none 0 0, Value.int .i64 0, Value.int .i64 0, Value.int .i64 0, Value.int .i64 0, Value.int .i64 0, Value.int .i64 0, Value.bool false, Value.int .i64 0, Value.slice none 0 0, Value.slice none 0 0]⟩
theorem Tryz.tok58 : TIok Tryz.prog 58 Tryz.i58 := ⟨by kernel_rfl, by kernel_rfl⟩
def Tryz.i60 : TI := ⟨.tuple [58, 4], 1, 0, Value.tuple #[Value.agg #[Value.int .i64 0, Value.int .i64 0, Value.bool false, Value.int .i64 0, Value.int .i64 0, Value.int .i64 0, Value.int .i64 0, Value.slice none 0 0, Value.slice none 0 0, Value.int .i64 0, Value.int .i64 0, Value.int .i64 0, Value.int .i64 0, Value.int .i64 0, Value.int .i64 0, Value.bool false, Value.int .i64 0, Value.slice none 0 0, Value.slice none 0 0], Value.bool false]⟩
theorem Tryz.tok60 : TIok Tryz.prog 60 Tryz.i60 := ⟨by kernel_rfl, by kernel_rfl⟩
def Tryz.i63 : TI := ⟨.tuple [3, 3, 4], 1, 0, Value.tuple #[Value.int .i64 0, Value.int .i64 0, Value.bool false]⟩
theorem Tryz.tok63 : TIok Tryz.prog 63 Tryz.i63 := ⟨by kernel_rfl, by kernel_rfl⟩
def Tryz.i67 : TI := ⟨.tuple [29, 3], 1, 0, Value.tuple #[Value.agg #[Value.int .i64 0, Value.int .i64 0, Value.int .i64 0, Value.slice none 0 0], Value.int .i64 0]⟩
theorem Tryz.tok67 : TIok Tryz.prog 67 Tryz.i67 := ⟨by kernel_rfl, by kernel_rfl⟩
def Tryz.i70 : TI := ⟨.sl 106, 1, 24, Value.slice none 0 0⟩
theorem Tryz.tok70 : TIok Tryz.prog 70 Tryz.i70 := ⟨by kernel_rfl, by kernel_rfl⟩
def Tryz.i71 : TI := ⟨.arr 6 3, 6, 48, Value.agg #[Value.int .i64 0, Value.int .i64 0, Value.int .i64 0, Value.int .i64 0, Value.int .i64 0, Value.int .i64 0]⟩
theorem Tryz.tok71 : TIok Tryz.prog 71 Tryz.i71 := ⟨by kernel_rfl, by kernel_rfl⟩
def Tryz.i73 : TI := ⟨.struct [(0, 3), (1, 3), (2, 3), (3, 3), (4, 3), (5, 3), (6, 3), (7, 3), (8, 3), (9, 3), (10, 32), (11, 70), (12, 71), (18, 32)], 19, 200, Value.agg #[Value.int .i64 0, Value.int .i64 0, Value.int .i64 0, Value.int .i64 0, Value.int .i64 0, Value.int .i64 0, Value.int .i64 0, Value.int .i64 0, Value.int .i64 0, Value.int .i64 0, Value.slice none 0 0, Value.slice none 0 0, Value.int .i64 0, Value.int .i64 0, Value.int .i64 0, Value.int .i64 0, Value.int .i64 0, Value.int .i64 0, Value.slice none 0 0]⟩
theorem Tryz.tok73 : TIok Tryz.prog 73 Tryz.i73 := ⟨by kernel_rfl, by kernel_rfl⟩
def Tryz.i79 : TI := ⟨.struct [(0, 26), (4, 3), (5, 3), (6, 3), (7, 3)], 8, 80, Value.agg #[Value.int .i64 0, Value.int .i64 0, Value.int .i64 0, Value.slice none 0 0, Value.int .i64 0, Value.int .i64 0, Value.int .i64 0, Value.int .i64 0]⟩
theorem Tryz.tok79 : TIok Tryz.prog 79 Tryz.i79 := ⟨by kernel_rfl, by kernel_rfl⟩
def Tryz.i82 : TI := ⟨.ptr 58, 1, 8, Value.pointer none⟩
theorem Tryz.tok82 : TIok Tryz.prog 82 Tryz.i82 := ⟨by kernel_rfl, by kernel_rfl⟩
def Tryz.i84 : TI := ⟨.ptr 26, 1, 8, Value.pointer none⟩
theorem Tryz.tok84 : TIok Tryz.prog 84 Tryz.i84 := ⟨by kernel_rfl, by kernel_rfl⟩
def Tryz.i86 : TI := ⟨.struct [(0, 82), (1, 84), (2, 52)], 21, 216, Value.agg #[Value.pointer none, Value.pointer none, Value.int .i64 0, Value.int .i64 0, Value.int .i64 0, Value.int .i64 0, Value.int .i64 0, Value.int .i64 0, Value.int .i64 0, Value.int .i64 0, Value.int .i64 0, Value.int .i64 0, Value.slice none 0 0, Value.slice none 0 0, Value.int .i64 0, Value.int .i64 0, Value.int .i64 0, Value.int .i64 0, Value.int .i64 0, Value.int .i64 0, Value.slice none 0 0]⟩
theorem Tryz.tok86 : TIok Tryz.prog 86 Tryz.i86 := ⟨by kernel_rfl, by kernel_rfl⟩
def Tryz.i87 : TI := ⟨.fn, 1, 8, Value.nilFunc⟩
theorem Tryz.tok87 : TIok Tryz.prog 87 Tryz.i87 := ⟨by kernel_rfl, by kernel_rfl⟩
def Tryz.i89 : TI := ⟨.sl 87, 1, 24, Value.slice none 0 0⟩
theorem Tryz.tok89 : TIok Tryz.prog 89 Tryz.i89 := ⟨by kernel_rfl, by kernel_rfl⟩
def Tryz.i91 : TI := ⟨.tuple [82, 82, 3], 1, 0, Value.tuple #[Value.pointer none, Value.pointer none, Value.int .i64 0]⟩
theorem Tryz.tok91 : TIok Tryz.prog 91 Tryz.i91 := ⟨by kernel_rfl, by kernel_rfl⟩
def Tryz.i94 : TI := ⟨.arr 4 3, 4, 32, Value.agg #[Value.int .i64 0, Value.int .i64 0, Value.int .i64 0, Value.int .i64 0]⟩
theorem Tryz.tok94 : TIok Tryz.prog 94 Tryz.i94 := ⟨by kernel_rfl, by kernel_rfl⟩
def Tryz.i98 : TI := ⟨.tuple [27, 27], 1, 0, Value.tuple #[Value.slice none 0 0, Value.slice none 0 0]⟩
theorem Tryz.tok98 : TIok Tryz.prog 98 Tryz.i98 := ⟨by kernel_rfl, by kernel_rfl⟩
def Tryz.i101 : TI := ⟨.struct [(0, 3), (1, 3), (2, 3), (3, 4), (4, 3), (5, 3), (6, 3), (7, 3), (8, 32), (9, 56), (10, 71), (16, 4), (17, 3), (18, 32)], 19, 200, Value.agg #[Value.int .i64 0, Value.int .i64 0, Value.int .i64 0, Value.bool false, Value.int .i64 0, Value.int .i64 0, Value.int .i64 0, Value.int .i64 0, Value.slice none 0 0, Value.slice none 0 0, Value.int .i64 0, Value.int .i64 0, Value.int .i64 0, Value.int .i64 0, Value.int .i64 0, Value.int .i64 0, Value.bool false, Value.int .i64 0, Value.slice none 0 0]⟩
theorem Tryz.tok101 : TIok Tryz.prog 101 Tryz.i101 := ⟨by kernel_rfl, by kernel_rfl⟩
def Tryz.i102 : TI := ⟨.tuple [101, 3], 1, 0, Value.tuple #[Value.agg #[Value.int .i64 0, Value.int .i64 0, Value.int .i64 0, Value.bool false, Value.int .i64 0, Value.int .i64 0, Value.int .i64 0, Value.int .i64 0, Value.slice none 0 0, Value.slice none 0 0, Value.int .i64 0, Value.int .i64 0, Value.int .i64 0, Value.int .i64 0, Value.int .i64 0, Value.int .i64 0, Value.bool false, Value.int .i64 0, Value.slice none 0 0], Value.int .i64 0]⟩
theorem Tryz.tok102 : TIok Tryz.prog 102 Tryz.i102 := ⟨by kernel_rfl, by kernel_rfl⟩
def Tryz.i105 : TI := ⟨.struct [(0, 3), (1, 3)], 2, 16, Value.agg #[Value.int .i64 0, Value.int .i64 0]⟩
theorem Tryz.tok105 : TIok Tryz.prog 105 Tryz.i105 := ⟨by kernel_rfl, by kernel_rfl⟩
def Tryz.i106 : TI := ⟨.struct [(0, 3), (1, 3)], 2, 16, Value.agg #[Value.int .i64 0, Value.int .i64 0]⟩
theorem Tryz.tok106 : TIok Tryz.prog 106 Tryz.i106 := ⟨by kernel_rfl, by kernel_rfl⟩
def Tryz.i119 : TI := ⟨.fn, 1, 8, Value.nilFunc⟩
theorem Tryz.tok119 : TIok Tryz.prog 119 Tryz.i119 := ⟨by kernel_rfl, by kernel_rfl⟩
def Tryz.i121 : TI := ⟨.tuple [82, 42], 1, 0, Value.tuple #[Value.pointer none, Value.int .i64 0]⟩
theorem Tryz.tok121 : TIok Tryz.prog 121 Tryz.i121 := ⟨by kernel_rfl, by kernel_rfl⟩
def Tryz.i126 : TI := ⟨.tuple [56, 42], 1, 0, Value.tuple #[Value.slice none 0 0, Value.int .i64 0]⟩
theorem Tryz.tok126 : TIok Tryz.prog 126 Tryz.i126 := ⟨by kernel_rfl, by kernel_rfl⟩
def Tryz.i128 : TI := ⟨.tuple [50, 42], 1, 0, Value.tuple #[Value.agg #[Value.int .i64 0, Value.int .i64 0, Value.int .i64 0, Value.int .i64 0, Value.int .i64 0, Value.int .i64 0], Value.int .i64 0]⟩
theorem Tryz.tok128 : TIok Tryz.prog 128 Tryz.i128 := ⟨by kernel_rfl, by kernel_rfl⟩
def Tryz.i130 : TI := ⟨.tuple [32, 4], 1, 0, Value.tuple #[Value.slice none 0 0, Value.bool false]⟩
theorem Tryz.tok130 : TIok Tryz.prog 130 Tryz.i130 := ⟨by kernel_rfl, by kernel_rfl⟩
def Tryz.i135 : TI := ⟨.tuple [71, 3], 1, 0, Value.tuple #[Value.agg #[Value.int .i64 0, Value.int .i64 0, Value.int .i64 0, Value.int .i64 0, Value.int .i64 0, Value.int .i64 0], Value.int .i64 0]⟩
theorem Tryz.tok135 : TIok Tryz.prog 135 Tryz.i135 := ⟨by kernel_rfl, by kernel_rfl⟩
def Tryz.i137 : TI := ⟨.struct [(0, 3), (1, 3), (2, 32)], 3, 40, Value.agg #[Value.int .i64 0, Value.int .i64 0, Value.slice none 0 0]⟩
theorem Tryz.tok137 : TIok Tryz.prog 137 Tryz.i137 := ⟨by kernel_rfl, by kernel_rfl⟩
def Tryz.i151 : TI := ⟨.sl 48, 1, 24, Value.slice none 0 0⟩
theorem Tryz.tok151 : TIok Tryz.prog 151 Tryz.i151 := ⟨by kernel_rfl, by kernel_rfl⟩
def Tryz.i152 : TI := ⟨.cpl .f64, 1, 16, Value.complex .f64 0 0⟩
theorem Tryz.tok152 : TIok Tryz.prog 152 Tryz.i152 := ⟨by kernel_rfl, by kernel_rfl⟩
def Tryz.i153 : TI := ⟨.flt .f64, 1, 8, Value.float .f64 0⟩
theorem Tryz.tok153 : TIok Tryz.prog 153 Tryz.i153 := ⟨by kernel_rfl, by kernel_rfl⟩
def Tryz.i157 : TI := ⟨.arr 4 94, 16, 128, Value.agg #[Value.int .i64 0, Value.int .i64 0, Value.int .i64 0, Value.int .i64 0, Value.int .i64 0, Value.int .i64 0, Value.int .i64 0, Value.int .i64 0, Value.int .i64 0, Value.int .i64 0, Value.int .i64 0, Value.int .i64 0, Value.int .i64 0, Value.int .i64 0, Value.int .i64 0, Value.int .i64 0]⟩
theorem Tryz.tok157 : TIok Tryz.prog 157 Tryz.i157 := ⟨by kernel_rfl, by kernel_rfl⟩
def Tryz.tab : Tab := [(0, Tryz.i0), (3, Tryz.i3), (4, Tryz.i4), (5, Tryz.i5), (9, Tryz.i9), (22, Tryz.i22), (24, Tryz.i24), (26, Tryz.i26), (27, Tryz.i27), (29, Tryz.i29), (30, Tryz.i30), (32, Tryz.i32), (34, Tryz.i34), (36, Tryz.i36), (38, Tryz.i38), (42, Tryz.i42), (43, Tryz.i43), (46, Tryz.i46), (48, Tryz.i48), (50, Tryz.i50), (52, Tryz.i52), (56, Tryz.i56), (58, Tryz.i58), (60, Tryz.i60), (63, Tryz.i63), (67, Tryz.i67), (70, Tryz.i70), (71, Tryz.i71), (73, Tryz.i73), (79, Tryz.i79), (82, Tryz.i82), (84, Tryz.i84), (86, Tryz.i86), (87, Tryz.i87), (89, Tryz.i89), (91, Tryz.i91), (94, Tryz.i94), (98, Tryz.i98), (101, Tryz.i101), (102, Tryz.i102), (105, Tryz.i105), (106, Tryz.i106), (119, Tryz.i119), (121, Tryz.i121), (126, Tryz.i126), (128, Tryz.i128), (130, Tryz.i130), (135, Tryz.i135), (137, Tryz.i137), (151, Tryz.i151), (152, Tryz.i152), (153, Tryz.i153), (157, Tryz.i157)]
theorem Tryz.tab_ok : TabOk Tryz.prog Tryz.tab := by
 unfold TabOk Tryz.tab
 simp only [List.forall_mem_cons]
 exact ⟨Tryz.tok0, Tryz.tok3, Tryz.tok4, Tryz.tok5, Tryz.tok9, Tryz.tok22, Tryz.tok24, Tryz.tok26, Tryz.tok27, Tryz.tok29, Tryz.tok30, Tryz.tok32, Tryz.tok34, Tryz.tok36, Tryz.tok38, Tryz.tok42, Tryz.tok43, Tryz.tok46, Tryz.tok48, Tryz.tok50, Tryz.tok52, Tryz.tok56, Tryz.tok58, Tryz.tok60, Tryz.tok63, Tryz.tok67, Tryz.tok70, Tryz.tok71, Tryz.tok73, Tryz.tok79, Tryz.tok82, Tryz.tok84, Tryz.tok86, Tryz.tok87, Tryz.tok89, Tryz.tok91, Tryz.tok94, Tryz.tok98, Tryz.tok101, Tryz.tok102, Tryz.tok105, Tryz.tok106, Tryz.tok119, Tryz.tok121, Tryz.tok126, Tryz.tok128, Tryz.tok130, Tryz.tok135, Tryz.tok137, Tryz.tok151, Tryz.tok152, Tryz.tok153, Tryz.tok157, fun _ h => by cases h⟩
abbrev Tryz.C := CallsH Tryz.prog
theorem Tryz.mixed : Tryz.prog.follows .mixedOrders = true := by kernel_rfl
theorem Tryz.cal3 : callable Tryz.prog 3 := ⟨Tryz.f3, Tryz.func3, by kernel_rfl, by kernel_rfl⟩
theorem Tryz.cal4 : callable Tryz.prog 4 := ⟨Tryz.f4, Tryz.func4, by kernel_rfl, by kernel_rfl⟩
theorem Tryz.cal8 : callable Tryz.prog 8 := ⟨Tryz.f8, Tryz.func8, by kernel_rfl, by kernel_rfl⟩
theorem Tryz.cal9 : callable Tryz.prog 9 := ⟨Tryz.f9, Tryz.func9, by kernel_rfl, by kernel_rfl⟩
theorem Tryz.cal10 : callable Tryz.prog 10 := ⟨Tryz.f10, Tryz.func10, by kernel_rfl, by kernel_rfl⟩
theorem Tryz.cal11 : callable Tryz.prog 11 := ⟨Tryz.f11, Tryz.func11, by kernel_rfl, by kernel_rfl⟩
theorem Tryz.cal13 : callable Tryz.prog 13 := ⟨Tryz.f13, Tryz.func13, by kernel_rfl, by kernel_rfl⟩
theorem Tryz.cal15 : callable Tryz.prog 15 := ⟨Tryz.f15, Tryz.func15, by kernel_rfl, by kernel_rfl⟩
theorem Tryz.cal16 : callable Tryz.prog 16 := ⟨Tryz.f16, Tryz.func16, by kernel_rfl, by kernel_rfl⟩
theorem Tryz.cal17 : callable Tryz.prog 17 := ⟨Tryz.f17, Tryz.func17, by kernel_rfl, by kernel_rfl⟩
theorem Tryz.cal19 : callable Tryz.prog 19 := ⟨Tryz.f19, Tryz.func19, by kernel_rfl, by kernel_rfl⟩
theorem Tryz.cal20 : callable Tryz.prog 20 := ⟨Tryz.f20, Tryz.func20, by kernel_rfl, by kernel_rfl⟩
theorem Tryz.cal21 : callable Tryz.prog 21 := ⟨Tryz.f21, Tryz.func21, by kernel_rfl, by kernel_rfl⟩
theorem Tryz.cal22 : callable Tryz.prog 22 := ⟨Tryz.f22, Tryz.func22, by kernel_rfl, by kernel_rfl⟩
theorem Tryz.cal23 : callable Tryz.prog 23 := ⟨Tryz.f23, Tryz.func23, by kernel_rfl, by kernel_rfl⟩
theorem Tryz.cal24 : callable Tryz.prog 24 := ⟨Tryz.f24, Tryz.func24, by kernel_rfl, by kernel_rfl⟩
theorem Tryz.cal25 : callable Tryz.prog 25 := ⟨Tryz.f25, Tryz.func25, by kernel_rfl, by kernel_rfl⟩
theorem Tryz.cal26 : callable Tryz.prog 26 := ⟨Tryz.f26, Tryz.func26, by kernel_rfl, by kernel_rfl⟩
theorem Tryz.cal28 : callable Tryz.prog 28 := ⟨Tryz.f28, Tryz.func28, by kernel_rfl, by kernel_rfl⟩
theorem Tryz.cal29 : callable Tryz.prog 29 := ⟨Tryz.f29, Tryz.func29, by kernel_rfl, by kernel_rfl⟩
theorem Tryz.cal30 : callable Tryz.prog 30 := ⟨Tryz.f30, Tryz.func30, by kernel_rfl, by kernel_rfl⟩
theorem Tryz.cal31 : callable Tryz.prog 31 := ⟨Tryz.f31, Tryz.func31, by kernel_rfl, by kernel_rfl⟩
theorem Tryz.cal32 : callable Tryz.prog 32 := ⟨Tryz.f32, Tryz.func32, by kernel_rfl, by kernel_rfl⟩
theorem Tryz.cal33 : callable Tryz.prog 33 := ⟨Tryz.f33, Tryz.func33, by kernel_rfl, by kernel_rfl⟩
theorem Tryz.cal34 : callable Tryz.prog 34 := ⟨Tryz.f34, Tryz.func34, by kernel_rfl, by kernel_rfl⟩
theorem Tryz.cal35 : callable Tryz.prog 35 := ⟨Tryz.f35, Tryz.func35, by kernel_rfl, by kernel_rfl⟩
theorem Tryz.cal36 : callable Tryz.prog 36 := ⟨Tryz.f36, Tryz.func36, by kernel_rfl, by kernel_rfl⟩
theorem Tryz.cal37 : callable Tryz.prog 37 := ⟨Tryz.f37, Tryz.func37, by kernel_rfl, by kernel_rfl⟩
theorem Tryz.cal38 : callable Tryz.prog 38 := ⟨Tryz.f38, Tryz.func38, by kernel_rfl, by kernel_rfl⟩
theorem Tryz.cal39 : callable Tryz.prog 39 := ⟨Tryz.f39, Tryz.func39, by kernel_rfl, by kernel_rfl⟩
theorem Tryz.cal40 : callable Tryz.prog 40 := ⟨Tryz.f40, Tryz.func40, by kernel_rfl, by kernel_rfl⟩
theorem Tryz.cal41 : callable Tryz.prog 41 := ⟨Tryz.f41, Tryz.func41, by kernel_rfl, by kernel_rfl⟩
theorem Tryz.cal42 : callable Tryz.prog 42 := ⟨Tryz.f42, Tryz.func42, by kernel_rfl, by kernel_rfl⟩
theorem Tryz.cal43 : callable Tryz.prog 43 := ⟨Tryz.f43, Tryz.func43, by kernel_rfl, by kernel_rfl⟩
theorem Tryz.cal44 : callable Tryz.prog 44 := ⟨Tryz.f44, Tryz.func44, by kernel_rfl, by kernel_rfl⟩
theorem Tryz.cal45 : callable Tryz.prog 45 := ⟨Tryz.f45, Tryz.func45, by kernel_rfl, by kernel_rfl⟩
theorem Tryz.cal46 : callable Tryz.prog 46 := ⟨Tryz.f46, Tryz.func46, by kernel_rfl, by kernel_rfl⟩
theorem Tryz.cal47 : callable Tryz.prog 47 := ⟨Tryz.f47, Tryz.func47, by kernel_rfl, by kernel_rfl⟩
theorem Tryz.cal48 : callable Tryz.prog 48 := ⟨Tryz.f48, Tryz.func48, by kernel_rfl, by kernel_rfl⟩
theorem Tryz.cal49 : callable Tryz.prog 49 := ⟨Tryz.f49, Tryz.func49, by kernel_rfl, by kernel_rfl⟩
theorem Tryz.cal50 : callable Tryz.prog 50 := ⟨Tryz.f50, Tryz.func50, by kernel_rfl, by kernel_rfl⟩
theorem Tryz.cal51 : callable Tryz.prog 51 := ⟨Tryz.f51, Tryz.func51, by kernel_rfl, by kernel_rfl⟩
theorem Tryz.cal52 : callable Tryz.prog 52 := ⟨Tryz.f52, Tryz.func52, by kernel_rfl, by kernel_rfl⟩
theorem Tryz.cal60 : callable Tryz.prog 60 := ⟨Tryz.f60, Tryz.func60, by kernel_rfl, by kernel_rfl⟩
theorem Tryz.cal61 : callable Tryz.prog 61 := ⟨Tryz.f61, Tryz.func61, by kernel_rfl, by kernel_rfl⟩
theorem Tryz.cal62 : callable Tryz.prog 62 := ⟨Tryz.f62, Tryz.func62, by kernel_rfl, by kernel_rfl⟩
theorem Tryz.cal63 : callable Tryz.prog 63 := ⟨Tryz.f63, Tryz.func63, by kernel_rfl, by kernel_rfl⟩
theorem Tryz.cal64 : callable Tryz.prog 64 := ⟨Tryz.f64, Tryz.func64, by kernel_rfl, by kernel_rfl⟩
theorem Tryz.cal65 : callable Tryz.prog 65 := ⟨Tryz.f65, Tryz.func65, by kernel_rfl, by kernel_rfl⟩
theorem Tryz.cal66 : callable Tryz.prog 66 := ⟨Tryz.f66, Tryz.func66, by kernel_rfl, by kernel_rfl⟩
theorem Tryz.cal67 : callable Tryz.prog 67 := ⟨Tryz.f67, Tryz.func67, by kernel_rfl, by kernel_rfl⟩
theorem Tryz.cal68 : callable Tryz.prog 68 := ⟨Tryz.f68, Tryz.func68, by kernel_rfl, by kernel_rfl⟩
theorem Tryz.cal69 : callable Tryz.prog 69 := ⟨Tryz.f69, Tryz.func69, by kernel_rfl, by kernel_rfl⟩
theorem Tryz.cal70 : callable Tryz.prog 70 := ⟨Tryz.f70, Tryz.func70, by kernel_rfl, by kernel_rfl⟩
theorem Tryz.cal71 : callable Tryz.prog 71 := ⟨Tryz.f71, Tryz.func71, by kernel_rfl, by kernel_rfl⟩
theorem Tryz.cal72 : callable Tryz.prog 72 := ⟨Tryz.f72, Tryz.func72, by kernel_rfl, by kernel_rfl⟩
theorem Tryz.cal73 : callable Tryz.prog 73 := ⟨Tryz.f73, Tryz.func73, by kernel_rfl, by kernel_rfl⟩
theorem Tryz.cal74 : callable Tryz.prog 74 := ⟨Tryz.f74, Tryz.func74, by kernel_rfl, by kernel_rfl⟩
theorem Tryz.cal75 : callable Tryz.prog 75 := ⟨Tryz.f75, Tryz.func75, by kernel_rfl, by kernel_rfl⟩
theorem Tryz.cal76 : callable Tryz.prog 76 := ⟨Tryz.f76, Tryz.func76, by kernel_rfl, by kernel_rfl⟩
theorem Tryz.cal77 : callable Tryz.prog 77 := ⟨Tryz.f77, Tryz.func77, by kernel_rfl, by kernel_rfl⟩
theorem Tryz.cal78 : callable Tryz.prog 78 := ⟨Tryz.f78, Tryz.func78, by kernel_rfl, by kernel_rfl⟩
theorem Tryz.cal79 : callable Tryz.prog 79 := ⟨Tryz.f79, Tryz.func79, by kernel_rfl, by kernel_rfl⟩
theorem Tryz.cal80 : callable Tryz.prog 80 := ⟨Tryz.f80, Tryz.func80, by kernel_rfl, by kernel_rfl⟩
theorem Tryz.cal81 : callable Tryz.prog 81 := ⟨Tryz.f81, Tryz.func81, by kernel_rfl, by kernel_rfl⟩
theorem Tryz.cal82 : callable Tryz.prog 82 := ⟨Tryz.f82, Tryz.func82, by kernel_rfl, by kernel_rfl⟩
theorem Tryz.cal83 : callable Tryz.prog 83 := ⟨Tryz.f83, Tryz.func83, by kernel_rfl, by kernel_rfl⟩
theorem Tryz.cal84 : callable Tryz.prog 84 := ⟨Tryz.f84, Tryz.func84, by kernel_rfl, by kernel_rfl⟩
theorem Tryz.cal85 : callable Tryz.prog 85 := ⟨Tryz.f85, Tryz.func85, by kernel_rfl, by kernel_rfl⟩
theorem Tryz.cal86 : callable Tryz.prog 86 := ⟨Tryz.f86, Tryz.func86, by kernel_rfl, by kernel_rfl⟩
theorem Tryz.cal87 : callable Tryz.prog 87 := ⟨Tryz.f87, Tryz.func87, by kernel_rfl, by kernel_rfl⟩
theorem Tryz.cal88 : callable Tryz.prog 88 := ⟨Tryz.f88, Tryz.func88, by kernel_rfl, by kernel_rfl⟩
theorem Tryz.cal89 : callable Tryz.prog 89 := ⟨Tryz.f89, Tryz.func89, by kernel_rfl, by kernel_rfl⟩
theorem Tryz.cal90 : callable Tryz.prog 90 := ⟨Tryz.f90, Tryz.func90, by kernel_rfl, by kernel_rfl⟩
theorem Tryz.cal91 : callable Tryz.prog 91 := ⟨Tryz.f91, Tryz.func91, by kernel_rfl, by kernel_rfl⟩
theorem Tryz.cal94 : callable Tryz.prog 94 := ⟨Tryz.f94, Tryz.func94, by kernel_rfl, by kernel_rfl⟩
theorem Tryz.cal99 : callable Tryz.prog 99 := ⟨Tryz.f99, Tryz.func99, by kernel_rfl, by kernel_rfl⟩
theorem Tryz.cal100 : callable Tryz.prog 100 := ⟨Tryz.f100, Tryz.func100, by kernel_rfl, by kernel_rfl⟩
theorem Tryz.cal101 : callable Tryz.prog 101 := ⟨Tryz.f101, Tryz.func101, by kernel_rfl, by kernel_rfl⟩
theorem Tryz.cal102 : callable Tryz.prog 102 := ⟨Tryz.f102, Tryz.func102, by kernel_rfl, by kernel_rfl⟩
theorem Tryz.cal103 : callable Tryz.prog 103 := ⟨Tryz.f103, Tryz.func103, by kernel_rfl, by kernel_rfl⟩
theorem Tryz.cal104 : callable Tryz.prog 104 := ⟨Tryz.f104, Tryz.func104, by kernel_rfl, by kernel_rfl⟩
theorem Tryz.cal105 : callable Tryz.prog 105 := ⟨Tryz.f105, Tryz.func105, by kernel_rfl, by kernel_rfl⟩
theorem Tryz.cal106 : callable Tryz.prog 106 := ⟨Tryz.f106, Tryz.func106, by kernel_rfl, by kernel_rfl⟩
theorem Tryz.cal107 : callable Tryz.prog 107 := ⟨Tryz.f107, Tryz.func107, by kernel_rfl, by kernel_rfl⟩
theorem Tryz.cal108 : callable Tryz.prog 108 := ⟨Tryz.f108, Tryz.func108, by kernel_rfl, by kernel_rfl⟩
theorem Tryz.cal109 : callable Tryz.prog 109 := ⟨Tryz.f109, Tryz.func109, by kernel_rfl, by kernel_rfl⟩
theorem Tryz.cal110 : callable Tryz.prog 110 := ⟨Tryz.f110, Tryz.func110, by kernel_rfl, by kernel_rfl⟩
theorem Tryz.cal111 : callable Tryz.prog 111 := ⟨Tryz.f111, Tryz.func111, by kernel_rfl, by kernel_rfl⟩
theorem Tryz.cal112 : callable Tryz.prog 112 := ⟨Tryz.f112, Tryz.func112, by kernel_rfl, by kernel_rfl⟩
theorem Tryz.cal113 : callable Tryz.prog 113 := ⟨Tryz.f113, Tryz.func113, by kernel_rfl, by kernel_rfl⟩
theorem Tryz.cal114 : callable Tryz.prog 114 := ⟨Tryz.f114, Tryz.func114, by kernel_rfl, by kernel_rfl⟩
theorem Tryz.cal115 : callable Tryz.prog 115 := ⟨Tryz.f115, Tryz.func115, by kernel_rfl, by kernel_rfl⟩
theorem Tryz.cal116 : callable Tryz.prog 116 := ⟨Tryz.f116, Tryz.func116, by kernel_rfl, by kernel_rfl⟩
theorem Tryz.cal117 : callable Tryz.prog 117 := ⟨Tryz.f117, Tryz.func117, by kernel_rfl, by kernel_rfl⟩
theorem Tryz.cal118 : callable Tryz.prog 118 := ⟨Tryz.f118, Tryz.func118, by kernel_rfl, by kernel_rfl⟩
theorem Tryz.cal119 : callable Tryz.prog 119 := ⟨Tryz.f119, Tryz.func119, by kernel_rfl, by kernel_rfl⟩
theorem Tryz.cal120 : callable Tryz.prog 120 := ⟨Tryz.f120, Tryz.func120, by kernel_rfl, by kernel_rfl⟩
theorem Tryz.cal121 : callable Tryz.prog 121 := ⟨Tryz.f121, Tryz.func121, by kernel_rfl, by kernel_rfl⟩
theorem Tryz.cal123 : callable Tryz.prog 123 := ⟨Tryz.f123, Tryz.func123, by kernel_rfl, by kernel_rfl⟩
theorem Tryz.cal124 : callable Tryz.prog 124 := ⟨Tryz.f124, Tryz.func124, by kernel_rfl, by kernel_rfl⟩
theorem Tryz.cal125 : callable Tryz.prog 125 := ⟨Tryz.f125, Tryz.func125, by kernel_rfl, by kernel_rfl⟩
theorem Tryz.cal126 : callable Tryz.prog 126 := ⟨Tryz.f126, Tryz.func126, by kernel_rfl, by kernel_rfl⟩
theorem Tryz.cal129 : callable Tryz.prog 129 := ⟨Tryz.f129, Tryz.func129, by kernel_rfl, by kernel_rfl⟩
theorem Tryz.cal130 : callable Tryz.prog 130 := ⟨Tryz.f130, Tryz.func130, by kernel_rfl, by kernel_rfl⟩
theorem Tryz.cal131 : callable Tryz.prog 131 := ⟨Tryz.f131, Tryz.func131, by kernel_rfl, by kernel_rfl⟩
theorem Tryz.cal132 : callable Tryz.prog 132 := ⟨Tryz.f132, Tryz.func132, by kernel_rfl, by kernel_rfl⟩
theorem Tryz.cal133 : callable Tryz.prog 133 := ⟨Tryz.f133, Tryz.func133, by kernel_rfl, by kernel_rfl⟩
theorem Tryz.cal134 : callable Tryz.prog 134 := ⟨Tryz.f134, Tryz.func134, by kernel_rfl, by kernel_rfl⟩
end Go.Proofs
namespace Go.Proofs
open Go.Sh Go.Sh.Plan
open Go.IntKind (wrap)
open Int (toNat)
def Tryz.S3 (w1 h2 : Int) (ed3p : OA) (ed3l ed3c : Nat) (H : Heap) (R : Kv) : Prop :=
 Tryz.C 9 #[] H fun r4 H5 => ∃ r6, r4 = .bool r6 ∧ br (!r6)
 (R (.bool false) H5)
 (Tryz.C 10 #[.int .i64 w1, .int .i64 h2, .slice ed3p ed3l ed3c] H5 fun r7 H8 => ∃ r9 r10 r11, r7 = .tuple #[.agg r9, .agg r10, .bool r11] ∧ alc H8 (.cells #[.int .i64 0, .int .i64 0, .int .i64 0, .slice none 0 0] 26) fun b12 H13 => alc H13 (.cells #[.int .i64 0, .int .i64 0, .int .i64 0, .slice none 0 0] 29) fun b14 H15 => r9.size = 4 ∧ stAt H15 ⟨b12, 0, none⟩ r9.toList fun H16 => r10.size = 4 ∧ stAt H16 ⟨b14, 0, none⟩ r10.toList fun H17 => br (!r11)
 (R (.bool true) H17)
 (∃ v18, v18.size = 4 ∧ rowIn H17 ⟨b12, 0, none⟩ v18 ∧ Tryz.C 11 #[.agg v18] H17 fun r19 H20 => ∃ r21, r19 = .agg r21 ∧ alc H20 (.cells #[.int .i64 0, .int .i64 0, .slice none 0 0] 34) fun b22 H23 => r21.size = 3 ∧ stAt H23 ⟨b22, 0, none⟩ r21.toList fun H24 => ∃ v25, v25.size = 4 ∧ rowIn H24 ⟨b14, 0, none⟩ v25 ∧ Tryz.C 12 #[.agg v25, .int .i64 0, .int .i64 0, .int .i64 w1, .int .i64 h2] H24 fun r26 H27 => ∃ r28p r28l r28c r29, r26 = .tuple #[.slice r28p r28l r28c, .int .i64 r29] ∧ ∃ P30p P30l P30c, cell H27 (.add ⟨b22, 0, none⟩ 2) = some (.slice P30p P30l P30c) ∧ ∀ X31 : Kl, (∀ (t32 : Int) H33, (br (decide (t32 < (P30l : Int)))
 (∃ a34, P30p = some a34 ∧ 0 ≤ t32 ∧ t32 < (P30l : Int) ∧ ∃ v35, cell H33 (.add a34 (toNat t32 * 1)) = some (.int .i64 v35) ∧ Tryz.C 13 #[.int .i64 v35] H33 fun r36 H37 => ∃ r38, r36 = .bool r38 ∧ br (!r38)
 (R (.bool false) H37)
 (X31 [.int .i64 (wrap .i64 (t32 + 1))] H37))
 (∃ W39, cell H33 (.add ⟨b22, 0, none⟩ 0) = some (.int .i64 W39) ∧ br (W39 == w1) (∃ H40, cell H33 (.add ⟨b22, 0, none⟩ 1) = some (.int .i64 H40) ∧ br (H40 == h2) (∃ P41p P41l P41c, cell H33 (.add ⟨b22, 0, none⟩ 2) = some (.slice P41p P41l P41c) ∧ Tryz.C 14 #[.slice P41p P41l P41c, .slice r28p r28l r28c] H33 fun r42 H43 => ∃ r44, r42 = .bool r44 ∧ br r44 (∃ v45, v45.size = 4 ∧ rowIn H43 ⟨b12, 0, none⟩ v45 ∧ ∃ v46, v46.size = 4 ∧ rowIn H43 ⟨b14, 0, none⟩ v46 ∧ Tryz.C 15 #[.agg v45, .agg v46] H43 fun r47 H48 => ∃ r49, r47 = .bool r49 ∧ R (.bool r49) H48) (R (.bool false) H43)) (R (.bool false) H33)) (R (.bool false) H33))) → X31 [.int .i64 t32] H33) → X31 [.int .i64 0] H27))
def Tryz.p3 : Plan := (tl (tg (tl (tg (tl (tl (two (tl (one (loop [(39, 3)] [0, 1, 7, 8, 10, 11, 37, 38] (tl (two (tl leaf) (two (one (tl g0)) leaf)))))) (tl leaf))))))))
theorem Tryz.s3 {w1 h2 : Int} {ed3p : OA} {ed3l ed3c : Nat} {H R} (h : Tryz.S3 w1 h2 ed3p ed3l ed3c H R) : Tryz.C 3 #[.int .i64 w1, .int .i64 h2, .slice ed3p ed3l ed3c] H R := vcs Tryz.tab_ok Tryz.mixed Tryz.func3 Tryz.cal3 Tryz.p3 h (by kernel_rfl)
def Tryz.S4 (ed1p : OA) (ed1l ed1c : Nat) (x2 y3 w4 h5 : Int) (H : Heap) (R : Kv) : Prop :=
 Tryz.C 9 #[] H fun r6 H7 => ∃ r8, r6 = .bool r8 ∧ br (!r8)
 (R (.bool false) H7)
 (Tryz.C 10 #[.int .i64 9, .int .i64 7, .slice ed1p ed1l ed1c] H7 fun r9 H10 => ∃ r11 r12 r13, r9 = .tuple #[.agg r11, .agg r12, .bool r13] ∧ alc H10 (.cells #[.int .i64 0, .int .i64 0, .int .i64 0, .slice none 0 0] 26) fun b14 H15 => alc H15 (.cells #[.int .i64 0, .int .i64 0, .int .i64 0, .slice none 0 0] 29) fun b16 H17 => r11.size = 4 ∧ stAt H17 ⟨b14, 0, none⟩ r11.toList fun H18 => r12.size = 4 ∧ stAt H18 ⟨b16, 0, none⟩ r12.toList fun H19 => br (!r13)
 (R (.bool true) H19)
 (∃ v20, v20.size = 4 ∧ rowIn H19 ⟨b14, 0, none⟩ v20 ∧ Tryz.C 16 #[.agg v20, .int .i64 x2, .int .i64 y3, .int .i64 w4, .int .i64 h5] H19 fun r21 H22 => ∃ r23p r23l r23c r24, r21 = .tuple #[.slice r23p r23l r23c, .int .i64 r24] ∧ ∃ v25, v25.size = 4 ∧ rowIn H22 ⟨b16, 0, none⟩ v25 ∧ Tryz.C 12 #[.agg v25, .int .i64 x2, .int .i64 y3, .int .i64 w4, .int .i64 h5] H22 fun r26 H27 => ∃ r28p r28l r28c r29, r26 = .tuple #[.slice r28p r28l r28c, .int .i64 r29] ∧ ∀ J30 : Kl, (∀ H31, (br (r24 != 0)
 (R (.bool true) H31)
 (∃ v32, v32.size = 4 ∧ rowIn H31 ⟨b14, 0, none⟩ v32 ∧ Tryz.C 11 #[.agg v32] H31 fun r33 H34 => ∃ r35, r33 = .agg r35 ∧ alc H34 (.cells #[.int .i64 0, .int .i64 0, .slice none 0 0] 34) fun b36 H37 => r35.size = 3 ∧ stAt H37 ⟨b36, 0, none⟩ r35.toList fun H38 => ∀ X39 : Kl, (∀ (i40 : Int) H41, (br (decide (i40 < (r23l : Int)))
 (∃ a42, r23p = some a42 ∧ 0 ≤ i40 ∧ i40 < (r23l : Int) ∧ ∃ v43, cell H41 (.add a42 (toNat i40 * 1)) = some (.int .i64 v43) ∧ ∃ P44p P44l P44c, cell H41 (.add ⟨b36, 0, none⟩ 2) = some (.slice P44p P44l P44c) ∧ w4 ≠ 0 ∧ w4 ≠ 0 ∧ ∃ a45, P44p = some a45 ∧ 0 ≤ (wrap .i64 ((wrap .i64 ((wrap .i64 ((wrap .i64 (y3 + (wrap .i64 (Int.tdiv i40 w4)))) * 9)) + x2)) + (Int.tmod i40 w4))) ∧ (wrap .i64 ((wrap .i64 ((wrap .i64 ((wrap .i64 (y3 + (wrap .i64 (Int.tdiv i40 w4)))) * 9)) + x2)) + (Int.tmod i40 w4))) < (P44l : Int) ∧ ∃ v46, cell H41 (.add a45 (toNat (wrap .i64 ((wrap .i64 ((wrap .i64 ((wrap .i64 (y3 + (wrap .i64 (Int.tdiv i40 w4)))) * 9)) + x2)) + (Int.tmod i40 w4))) * 1)) = some (.int .i64 v46) ∧ br (v46 != v43)
 (R (.bool false) H41)
 (X39 [.int .i64 (wrap .i64 (i40 + 1))] H41))
 (R (.bool true) H41)) → X39 [.int .i64 i40] H41) → X39 [.int .i64 0] H38)) → J30 [] H31) →
 br (r24 != r29) (R (.bool false) H27) (Tryz.C 14 #[.slice r23p r23l r23c, .slice r28p r28l r28c] H27 fun r47 H48 => ∃ r49, r47 = .bool r49 ∧ br (!r49)
 (R (.bool false) H48)
 (J30 [] H48))))
def Tryz.p4 : Plan := (tl (tg (tl (tg (tl (tl (two (join [] [1, 2, 3, 11, 14, 15] g0) (tg (tl (two (tl (one (loop [(64, 3)] [1, 2, 3, 18, 62, 63] (tl (two (tl leaf) (two (one (tl g0)) leaf)))))) (tl leaf)))))))))))
theorem Tryz.s4 {ed1p : OA} {ed1l ed1c : Nat} {x2 y3 w4 h5 : Int} {H R} (h : Tryz.S4 ed1p ed1l ed1c x2 y3 w4 h5 H R) : Tryz.C 4 #[.slice ed1p ed1l ed1c, .int .i64 x2, .int .i64 y3, .int .i64 w4, .int .i64 h5] H R := vcs Tryz.tab_ok Tryz.mixed Tryz.func4 Tryz.cal4 Tryz.p4 h (by kernel_rfl)
def Tryz.p5 : Plan := (tl (tg (tl (two (join [] [1, 5] g0) (tl (tg (tl (two (tl (one (loop [(9, 32), (37, 3)] [5, 35, 36] (tl (two (tl leaf) (two (one (tl leaf)) leaf)))))) (tl (tl leaf))))))))))
end Go.Proofs
namespace Go.Proofs
open Go.Sh Go.Sh.Plan
open Go.IntKind (wrap)
open Int (toNat)
end Go.Proofs
namespace Go.Proofs
open Go.Sh Go.Sh.Plan
open Go.IntKind (wrap)
open Int (toNat)
def Tryz.S8 (ed1p : OA) (ed1l ed1c : Nat) (id2 : Int) (H : Heap) (R : Kv) : Prop :=
 Tryz.C 9 #[] H fun r3 H4 => ∃ r5, r3 = .bool r5 ∧ br (!r5)
 (R (.bool false) H4)
 (Tryz.C 10 #[.int .i64 8, .int .i64 8, .slice ed1p ed1l ed1c] H4 fun r6 H7 => ∃ r8 r9 r10, r6 = .tuple #[.agg r8, .agg r9, .bool r10] ∧ alc H7 (.cells #[.int .i64 0, .int .i64 0, .int .i64 0, .slice none 0 0] 26) fun b11 H12 => alc H12 (.cells #[.int .i64 0, .int .i64 0, .int .i64 0, .slice none 0 0] 29) fun b13 H14 => r8.size = 4 ∧ stAt H14 ⟨b11, 0, none⟩ r8.toList fun H15 => r9.size = 4 ∧ stAt H15 ⟨b13, 0, none⟩ r9.toList fun H16 => ∃ v17, v17.size = 4 ∧ rowIn H16 ⟨b11, 0, none⟩ v17 ∧ Tryz.C 19 #[.agg v17, .int .i64 id2] H16 fun r18 H19 => ∃ r20 r21, r18 = .tuple #[.agg r20, .bool r21] ∧ alc H19 (.cells #[.int .i64 0, .int .i64 0, .bool false, .int .i64 0, .int .i64 0, .int .i64 0, .int .i64 0, .slice none 0 0, .slice none 0 0, .int .i64 0, .int .i64 0, .int .i64 0, .int .i64 0, .int .i64 0, .int .i64 0, .bool false, .int .i64 0, .slice none 0 0, .slice none 0 0] 58) fun b22 H23 => r20.size = 19 ∧ stAt H23 ⟨b22, 0, none⟩ r20.toList fun H24 => ∃ v25, v25.size = 4 ∧ rowIn H24 ⟨b11, 0, none⟩ v25 ∧ Tryz.C 20 #[.agg v25, .int .i64 id2] H24 fun r26 H27 => ∃ r28 r29 r30, r26 = .tuple #[.int .i64 r28, .int .i64 r29, .bool r30] ∧ ∀ J31 : Kl, (∀ H32, (∃ v33, v33.size = 4 ∧ rowIn H32 ⟨b11, 0, none⟩ v33 ∧ Tryz.C 17 #[.agg v33, .agg #[.int .i64 2, .int .i64 id2, .int .i64 0, .int .i64 0, .int .i64 0, .int .i64 0, .int .i64 0, .int .i64 0, .int .i64 0, .int .i64 0, .slice none 0 0, .slice none 0 0, .int .i64 0, .int .i64 0, .int .i64 0, .int .i64 0, .int .i64 0, .int .i64 0, .slice none 0 0]] H32 fun r34 H35 => ∃ r36 r37, r34 = .tuple #[.agg r36, .int .i64 r37] ∧ alc H35 (.cells #[.int .i64 0, .int .i64 0, .int .i64 0, .slice none 0 0] 26) fun b38 H39 => r36.size = 4 ∧ stAt H39 ⟨b38, 0, none⟩ r36.toList fun H40 => ∃ v41, v41.size = 4 ∧ rowIn H40 ⟨b11, 0, none⟩ v41 ∧ Tryz.C 17 #[.agg v41, .agg #[.int .i64 7, .int .i64 id2, .int .i64 0, .int .i64 0, .int .i64 2, .int .i64 0, .int .i64 0, .int .i64 0, .int .i64 0, .int .i64 0, .slice none 0 0, .slice none 0 0, .int .i64 0, .int .i64 0, .int .i64 0, .int .i64 0, .int .i64 0, .int .i64 0, .slice none 0 0]] H40 fun r42 H43 => ∃ r44 r45, r42 = .tuple #[.agg r44, .int .i64 r45] ∧ alc H43 (.cells #[.int .i64 0, .int .i64 0, .int .i64 0, .slice none 0 0] 26) fun b46 H47 => r44.size = 4 ∧ stAt H47 ⟨b46, 0, none⟩ r44.toList fun H48 => ∃ Ki49p Ki49l Ki49c, cell H48 (.add ⟨b11, 0, none⟩ 3) = some (.slice Ki49p Ki49l Ki49c) ∧ ∃ Ki50p Ki50l Ki50c, cell H48 (.add ⟨b11, 0, none⟩ 3) = some (.slice Ki50p Ki50l Ki50c) ∧ ∃ a51, Ki49p = some a51 ∧ 0 ≤ (wrap .i64 ((Ki50l : Int) - 1)) ∧ (wrap .i64 ((Ki50l : Int) - 1)) < (Ki49l : Int) ∧ ∃ ID52, cell H48 (.add (.add a51 (toNat (wrap .i64 ((Ki50l : Int) - 1)) * 19)) 0) = some (.int .i64 ID52) ∧ ∀ J53 : Kl, (∀ H54, (∀ J55 : Kl, (∀ (x56 y57 z58 : Addr) H59, (∃ Ma60p Ma60l Ma60c, cell H59 (.add ⟨b22, 0, none⟩ 8) = some (.slice Ma60p Ma60l Ma60c) ∧ ∀ X61 : Kl, (∀ (i62 : Int) H63, (br (decide (i62 < (Ma60l : Int)))
 (∀ J64 : Kl, (∀ H65, (X61 [.int .i64 (wrap .i64 (i62 + 1))] H65) → J64 [] H65) →
 ∃ a66, Ma60p = some a66 ∧ 0 ≤ i62 ∧ i62 < (Ma60l : Int) ∧ ∃ m67, cell H63 (.add a66 (toNat i62 * 1)) = some (.int .u8 m67) ∧ br (m67 == 0) (∃ P68p P68l P68c, cell H63 (Addr.add x56 2) = some (.slice P68p P68l P68c) ∧ ∃ a69, P68p = some a69 ∧ 0 ≤ i62 ∧ i62 < (P68l : Int) ∧ ∃ v70, cell H63 (.add a69 (toNat i62 * 1)) = some (.int .i64 v70) ∧ ∃ P71p P71l P71c, cell H63 (.add y57 2) = some (.slice P71p P71l P71c) ∧ ∃ a72, P71p = some a72 ∧ 0 ≤ i62 ∧ i62 < (P71l : Int) ∧ ∃ v73, cell H63 (.add a72 (toNat i62 * 1)) = some (.int .i64 v73) ∧ br (v70 != v73) (R (.bool false) H63) (br (m67 == 255) (∃ P74p P74l P74c, cell H63 (Addr.add x56 2) = some (.slice P74p P74l P74c) ∧ ∃ a75, P74p = some a75 ∧ 0 ≤ i62 ∧ i62 < (P74l : Int) ∧ ∃ v76, cell H63 (.add a75 (toNat i62 * 1)) = some (.int .i64 v76) ∧ ∃ P77p P77l P77c, cell H63 (.add z58 2) = some (.slice P77p P77l P77c) ∧ ∃ a78, P77p = some a78 ∧ 0 ≤ i62 ∧ i62 < (P77l : Int) ∧ ∃ v79, cell H63 (.add a78 (toNat i62 * 1)) = some (.int .i64 v79) ∧ br (v76 != v79)
 (R (.bool false) H63)
 (J64 [] H63)) (J64 [] H63))) (br (m67 == 255) (∃ P80p P80l P80c, cell H63 (Addr.add x56 2) = some (.slice P80p P80l P80c) ∧ ∃ a81, P80p = some a81 ∧ 0 ≤ i62 ∧ i62 < (P80l : Int) ∧ ∃ v82, cell H63 (.add a81 (toNat i62 * 1)) = some (.int .i64 v82) ∧ ∃ P83p P83l P83c, cell H63 (.add z58 2) = some (.slice P83p P83l P83c) ∧ ∃ a84, P83p = some a84 ∧ 0 ≤ i62 ∧ i62 < (P83l : Int) ∧ ∃ v85, cell H63 (.add a84 (toNat i62 * 1)) = some (.int .i64 v85) ∧ br (v82 != v85)
 (R (.bool false) H63)
 (J64 [] H63)) (J64 [] H63)))
 (br (ID52 == id2) (R (.bool true) H63) (∃ P86p P86l P86c, cell H63 (Addr.add x56 2) = some (.slice P86p P86l P86c) ∧ R (.bool (((P86l : Int) : Int) == 64)) H63))) → X61 [.int .i64 i62] H63) → X61 [.int .i64 0] H59) → J55 [.pointer (some x56), .pointer (some y57), .pointer (some z58)] H59) →
 ∃ v87, v87.size = 4 ∧ rowIn H54 ⟨b11, 0, none⟩ v87 ∧ ∃ v88, v88.size = 4 ∧ rowIn H54 ⟨b38, 0, none⟩ v88 ∧ ∃ v89, v89.size = 4 ∧ rowIn H54 ⟨b46, 0, none⟩ v89 ∧ (Tryz.C 11 #[.agg v87] H54 fun r90 H91 => ∃ r92, r90 = .agg r92 ∧ (Ext H54 H91 ∨ (∃ v757, v757.size = 4 ∧ rowIn H91 ⟨b46, 0, none⟩ v757 ∧ Value.agg v757 = .agg v89) ∧ (∃ v758, v758.size = 4 ∧ rowIn H91 ⟨b38, 0, none⟩ v758 ∧ Value.agg v758 = .agg v88)) ∧ (Tryz.C 11 #[.agg v88] H91 fun r93 H94 => ∃ r95, r93 = .agg r95 ∧ (Ext H91 H94 ∨ (∃ v327, v327.size = 4 ∧ rowIn H94 ⟨b46, 0, none⟩ v327 ∧ Value.agg v327 = .agg v89)) ∧ (Tryz.C 11 #[.agg v89] H94 fun r96 H97 => ∃ r98, r96 = .agg r98 ∧ (alc H97 (.cells #[.int .i64 0, .int .i64 0, .slice none 0 0] 34) fun b99 H100 => (alc H100 (.cells #[.int .i64 0, .int .i64 0, .slice none 0 0] 34) fun b101 H102 => alc H102 (.cells #[.int .i64 0, .int .i64 0, .slice none 0 0] 34) fun b103 H104 => r92.size = 3 ∧ stAt H104 ⟨b99, 0, none⟩ r92.toList fun H105 => r95.size = 3 ∧ stAt H105 ⟨b101, 0, none⟩ r95.toList fun H106 => r98.size = 3 ∧ stAt H106 ⟨b103, 0, none⟩ r98.toList fun H107 => J55 [.pointer (some ⟨b99, 0, none⟩), .pointer (some ⟨b101, 0, none⟩), .pointer (some ⟨b103, 0, none⟩)] H107) ∧ (alc H100 (.cells #[.int .i64 0, .int .i64 0, .slice none 0 0] 34) fun b108 H109 => alc H109 (.cells #[.int .i64 0, .int .i64 0, .slice none 0 0] 34) fun b110 H111 => r92.size = 3 ∧ stAt H111 ⟨b99, 0, none⟩ r92.toList fun H112 => r95.size = 3 ∧ stAt H112 ⟨b110, 0, none⟩ r95.toList fun H113 => r98.size = 3 ∧ stAt H113 ⟨b108, 0, none⟩ r98.toList fun H114 => J55 [.pointer (some ⟨b99, 0, none⟩), .pointer (some ⟨b110, 0, none⟩), .pointer (some ⟨b108, 0, none⟩)] H114)) ∧ (alc H97 (.cells #[.int .i64 0, .int .i64 0, .slice none 0 0] 34) fun b115 H116 => (alc H116 (.cells #[.int .i64 0, .int .i64 0, .slice none 0 0] 34) fun b117 H118 => alc H118 (.cells #[.int .i64 0, .int .i64 0, .slice none 0 0] 34) fun b119 H120 => r92.size = 3 ∧ stAt H120 ⟨b117, 0, none⟩ r92.toList fun H121 => r95.size = 3 ∧ stAt H121 ⟨b115, 0, none⟩ r95.toList fun H122 => r98.size = 3 ∧ stAt H122 ⟨b119, 0, none⟩ r98.toList fun H123 => J55 [.pointer (some ⟨b117, 0, none⟩), .pointer (some ⟨b115, 0, none⟩), .pointer (some ⟨b119, 0, none⟩)] H123) ∧ (alc H116 (.cells #[.int .i64 0, .int .i64 0, .slice none 0 0] 34) fun b124 H125 => alc H125 (.cells #[.int .i64 0, .int .i64 0, .slice none 0 0] 34) fun b126 H127 => r92.size = 3 ∧ stAt H127 ⟨b126, 0, none⟩ r92.toList fun H128 => r95.size = 3 ∧ stAt H128 ⟨b115, 0, none⟩ r95.toList fun H129 => r98.size = 3 ∧ stAt H129 ⟨b124, 0, none⟩ r98.toList fun H130 => J55 [.pointer (some ⟨b126, 0, none⟩), .pointer (some ⟨b115, 0, none⟩), .pointer (some ⟨b124, 0, none⟩)] H130)) ∧ (alc H97 (.cells #[.int .i64 0, .int .i64 0, .slice none 0 0] 34) fun b131 H132 => (alc H132 (.cells #[.int .i64 0, .int .i64 0, .slice none 0 0] 34) fun b133 H134 => alc H134 (.cells #[.int .i64 0, .int .i64 0, .slice none 0 0] 34) fun b135 H136 => r92.size = 3 ∧ stAt H136 ⟨b133, 0, none⟩ r92.toList fun H137 => r95.size = 3 ∧ stAt H137 ⟨b135, 0, none⟩ r95.toList fun H138 => r98.size = 3 ∧ stAt H138 ⟨b131, 0, none⟩ r98.toList fun H139 => J55 [.pointer (some ⟨b133, 0, none⟩), .pointer (some ⟨b135, 0, none⟩), .pointer (some ⟨b131, 0, none⟩)] H139) ∧ (alc H132 (.cells #[.int .i64 0, .int .i64 0, .slice none 0 0] 34) fun b140 H141 => alc H141 (.cells #[.int .i64 0, .int .i64 0, .slice none 0 0] 34) fun b142 H143 => r92.size = 3 ∧ stAt H143 ⟨b142, 0, none⟩ r92.toList fun H144 => r95.size = 3 ∧ stAt H144 ⟨b140, 0, none⟩ r95.toList fun H145 => r98.size = 3 ∧ stAt H145 ⟨b131, 0, none⟩ r98.toList fun H146 => J55 [.pointer (some ⟨b142, 0, none⟩), .pointer (some ⟨b140, 0, none⟩), .pointer (some ⟨b131, 0, none⟩)] H146))) ∧ (alc H94 (.cells #[.int .i64 0, .int .i64 0, .slice none 0 0] 34) fun b147 H148 => (Ext H94 H148 ∨ (∃ v206, v206.size = 4 ∧ rowIn H148 ⟨b46, 0, none⟩ v206 ∧ Value.agg v206 = .agg v89)) ∧ (Tryz.C 11 #[.agg v89] H148 fun r149 H150 => ∃ r151, r149 = .agg r151 ∧ (alc H150 (.cells #[.int .i64 0, .int .i64 0, .slice none 0 0] 34) fun b152 H153 => alc H153 (.cells #[.int .i64 0, .int .i64 0, .slice none 0 0] 34) fun b154 H155 => r92.size = 3 ∧ stAt H155 ⟨b147, 0, none⟩ r92.toList fun H156 => r95.size = 3 ∧ stAt H156 ⟨b152, 0, none⟩ r95.toList fun H157 => r151.size = 3 ∧ stAt H157 ⟨b154, 0, none⟩ r151.toList fun H158 => J55 [.pointer (some ⟨b147, 0, none⟩), .pointer (some ⟨b152, 0, none⟩), .pointer (some ⟨b154, 0, none⟩)] H158) ∧ (alc H150 (.cells #[.int .i64 0, .int .i64 0, .slice none 0 0] 34) fun b159 H160 => alc H160 (.cells #[.int .i64 0, .int .i64 0, .slice none 0 0] 34) fun b161 H162 => r92.size = 3 ∧ stAt H162 ⟨b147, 0, none⟩ r92.toList fun H163 => r95.size = 3 ∧ stAt H163 ⟨b161, 0, none⟩ r95.toList fun H164 => r151.size = 3 ∧ stAt H164 ⟨b159, 0, none⟩ r151.toList fun H165 => J55 [.pointer (some ⟨b147, 0, none⟩), .pointer (some ⟨b161, 0, none⟩), .pointer (some ⟨b159, 0, none⟩)] H165)) ∧ (alc H148 (.cells #[.int .i64 0, .int .i64 0, .slice none 0 0] 34) fun b166 H167 => (Ext H148 H167 ∨ (∃ v185, v185.size = 4 ∧ rowIn H167 ⟨b46, 0, none⟩ v185 ∧ Value.agg v185 = .agg v89)) ∧ (Tryz.C 11 #[.agg v89] H167 fun r168 H169 => ∃ r170, r168 = .agg r170 ∧ alc H169 (.cells #[.int .i64 0, .int .i64 0, .slice none 0 0] 34) fun b171 H172 => r92.size = 3 ∧ stAt H172 ⟨b147, 0, none⟩ r92.toList fun H173 => r95.size = 3 ∧ stAt H173 ⟨b166, 0, none⟩ r95.toList fun H174 => r170.size = 3 ∧ stAt H174 ⟨b171, 0, none⟩ r170.toList fun H175 => J55 [.pointer (some ⟨b147, 0, none⟩), .pointer (some ⟨b166, 0, none⟩), .pointer (some ⟨b171, 0, none⟩)] H175) ∧ (alc H167 (.cells #[.int .i64 0, .int .i64 0, .slice none 0 0] 34) fun b176 H177 => (Ext H167 H177 ∨ (∃ v184, v184.size = 4 ∧ rowIn H177 ⟨b46, 0, none⟩ v184 ∧ Value.agg v184 = .agg v89)) ∧ Tryz.C 11 #[.agg v89] H177 fun r178 H179 => ∃ r180, r178 = .agg r180 ∧ r92.size = 3 ∧ stAt H179 ⟨b147, 0, none⟩ r92.toList fun H181 => r95.size = 3 ∧ stAt H181 ⟨b166, 0, none⟩ r95.toList fun H182 => r180.size = 3 ∧ stAt H182 ⟨b176, 0, none⟩ r180.toList fun H183 => J55 [.pointer (some ⟨b147, 0, none⟩), .pointer (some ⟨b166, 0, none⟩), .pointer (some ⟨b176, 0, none⟩)] H183)) ∧ (alc H148 (.cells #[.int .i64 0, .int .i64 0, .slice none 0 0] 34) fun b186 H187 => (Ext H148 H187 ∨ (∃ v205, v205.size = 4 ∧ rowIn H187 ⟨b46, 0, none⟩ v205 ∧ Value.agg v205 = .agg v89)) ∧ (Tryz.C 11 #[.agg v89] H187 fun r188 H189 => ∃ r190, r188 = .agg r190 ∧ alc H189 (.cells #[.int .i64 0, .int .i64 0, .slice none 0 0] 34) fun b191 H192 => r92.size = 3 ∧ stAt H192 ⟨b147, 0, none⟩ r92.toList fun H193 => r95.size = 3 ∧ stAt H193 ⟨b191, 0, none⟩ r95.toList fun H194 => r190.size = 3 ∧ stAt H194 ⟨b186, 0, none⟩ r190.toList fun H195 => J55 [.pointer (some ⟨b147, 0, none⟩), .pointer (some ⟨b191, 0, none⟩), .pointer (some ⟨b186, 0, none⟩)] H195) ∧ (alc H187 (.cells #[.int .i64 0, .int .i64 0, .slice none 0 0] 34) fun b196 H197 => (Ext H187 H197 ∨ (∃ v204, v204.size = 4 ∧ rowIn H197 ⟨b46, 0, none⟩ v204 ∧ Value.agg v204 = .agg v89)) ∧ Tryz.C 11 #[.agg v89] H197 fun r198 H199 => ∃ r200, r198 = .agg r200 ∧ r92.size = 3 ∧ stAt H199 ⟨b147, 0, none⟩ r92.toList fun H201 => r95.size = 3 ∧ stAt H201 ⟨b196, 0, none⟩ r95.toList fun H202 => r200.size = 3 ∧ stAt H202 ⟨b186, 0, none⟩ r200.toList fun H203 => J55 [.pointer (some ⟨b147, 0, none⟩), .pointer (some ⟨b196, 0, none⟩), .pointer (some ⟨b186, 0, none⟩)] H203))) ∧ (alc H94 (.cells #[.int .i64 0, .int .i64 0, .slice none 0 0] 34) fun b207 H208 => (Ext H94 H208 ∨ (∃ v266, v266.size = 4 ∧ rowIn H208 ⟨b46, 0, none⟩ v266 ∧ Value.agg v266 = .agg v89)) ∧ (Tryz.C 11 #[.agg v89] H208 fun r209 H210 => ∃ r211, r209 = .agg r211 ∧ (alc H210 (.cells #[.int .i64 0, .int .i64 0, .slice none 0 0] 34) fun b212 H213 => alc H213 (.cells #[.int .i64 0, .int .i64 0, .slice none 0 0] 34) fun b214 H215 => r92.size = 3 ∧ stAt H215 ⟨b212, 0, none⟩ r92.toList fun H216 => r95.size = 3 ∧ stAt H216 ⟨b207, 0, none⟩ r95.toList fun H217 => r211.size = 3 ∧ stAt H217 ⟨b214, 0, none⟩ r211.toList fun H218 => J55 [.pointer (some ⟨b212, 0, none⟩), .pointer (some ⟨b207, 0, none⟩), .pointer (some ⟨b214, 0, none⟩)] H218) ∧ (alc H210 (.cells #[.int .i64 0, .int .i64 0, .slice none 0 0] 34) fun b219 H220 => alc H220 (.cells #[.int .i64 0, .int .i64 0, .slice none 0 0] 34) fun b221 H222 => r92.size = 3 ∧ stAt H222 ⟨b221, 0, none⟩ r92.toList fun H223 => r95.size = 3 ∧ stAt H223 ⟨b207, 0, none⟩ r95.toList fun H224 => r211.size = 3 ∧ stAt H224 ⟨b219, 0, none⟩ r211.toList fun H225 => J55 [.pointer (some ⟨b221, 0, none⟩), .pointer (some ⟨b207, 0, none⟩), .pointer (some ⟨b219, 0, none⟩)] H225)) ∧ (alc H208 (.cells #[.int .i64 0, .int .i64 0, .slice none 0 0] 34) fun b226 H227 => (Ext H208 H227 ∨ (∃ v245, v245.size = 4 ∧ rowIn H227 ⟨b46, 0, none⟩ v245 ∧ Value.agg v245 = .agg v89)) ∧ (Tryz.C 11 #[.agg v89] H227 fun r228 H229 => ∃ r230, r228 = .agg r230 ∧ alc H229 (.cells #[.int .i64 0, .int .i64 0, .slice none 0 0] 34) fun b231 H232 => r92.size = 3 ∧ stAt H232 ⟨b226, 0, none⟩ r92.toList fun H233 => r95.size = 3 ∧ stAt H233 ⟨b207, 0, none⟩ r95.toList fun H234 => r230.size = 3 ∧ stAt H234 ⟨b231, 0, none⟩ r230.toList fun H235 => J55 [.pointer (some ⟨b226, 0, none⟩), .pointer (some ⟨b207, 0, none⟩), .pointer (some ⟨b231, 0, none⟩)] H235) ∧ (alc H227 (.cells #[.int .i64 0, .int .i64 0, .slice none 0 0] 34) fun b236 H237 => (Ext H227 H237 ∨ (∃ v244, v244.size = 4 ∧ rowIn H237 ⟨b46, 0, none⟩ v244 ∧ Value.agg v244 = .agg v89)) ∧ Tryz.C 11 #[.agg v89] H237 fun r238 H239 => ∃ r240, r238 = .agg r240 ∧ r92.size = 3 ∧ stAt H239 ⟨b226, 0, none⟩ r92.toList fun H241 => r95.size = 3 ∧ stAt H241 ⟨b207, 0, none⟩ r95.toList fun H242 => r240.size = 3 ∧ stAt H242 ⟨b236, 0, none⟩ r240.toList fun H243 => J55 [.pointer (some ⟨b226, 0, none⟩), .pointer (some ⟨b207, 0, none⟩), .pointer (some ⟨b236, 0, none⟩)] H243)) ∧ (alc H208 (.cells #[.int .i64 0, .int .i64 0, .slice none 0 0] 34) fun b246 H247 => (Ext H208 H247 ∨ (∃ v265, v265.size = 4 ∧ rowIn H247 ⟨b46, 0, none⟩ v265 ∧ Value.agg v265 = .agg v89)) ∧ (Tryz.C 11 #[.agg v89] H247 fun r248 H249 => ∃ r250, r248 = .agg r250 ∧ alc H249 (.cells #[.int .i64 0, .int .i64 0, .slice none 0 0] 34) fun b251 H252 => r92.size = 3 ∧ stAt H252 ⟨b251, 0, none⟩ r92.toList fun H253 => r95.size = 3 ∧ stAt H253 ⟨b207, 0, none⟩ r95.toList fun H254 => r250.size = 3 ∧ stAt H254 ⟨b246, 0, none⟩ r250.toList fun H255 => J55 [.pointer (some ⟨b251, 0, none⟩), .pointer (some ⟨b207, 0, none⟩), .pointer (some ⟨b246, 0, none⟩)] H255) ∧ (alc H247 (.cells #[.int .i64 0, .int .i64 0, .slice none 0 0] 34) fun b256 H257 => (Ext H247 H257 ∨ (∃ v264, v264.size = 4 ∧ rowIn H257 ⟨b46, 0, none⟩ v264 ∧ Value.agg v264 = .agg v89)) ∧ Tryz.C 11 #[.agg v89] H257 fun r258 H259 => ∃ r260, r258 = .agg r260 ∧ r92.size = 3 ∧ stAt H259 ⟨b256, 0, none⟩ r92.toList fun H261 => r95.size = 3 ∧ stAt H261 ⟨b207, 0, none⟩ r95.toList fun H262 => r260.size = 3 ∧ stAt H262 ⟨b246, 0, none⟩ r260.toList fun H263 => J55 [.pointer (some ⟨b256, 0, none⟩), .pointer (some ⟨b207, 0, none⟩), .pointer (some ⟨b246, 0, none⟩)] H263))) ∧ (alc H94 (.cells #[.int .i64 0, .int .i64 0, .slice none 0 0] 34) fun b267 H268 => (Ext H94 H268 ∨ (∃ v326, v326.size = 4 ∧ rowIn H268 ⟨b46, 0, none⟩ v326 ∧ Value.agg v326 = .agg v89)) ∧ (Tryz.C 11 #[.agg v89] H268 fun r269 H270 => ∃ r271, r269 = .agg r271 ∧ (alc H270 (.cells #[.int .i64 0, .int .i64 0, .slice none 0 0] 34) fun b272 H273 => alc H273 (.cells #[.int .i64 0, .int .i64 0, .slice none 0 0] 34) fun b274 H275 => r92.size = 3 ∧ stAt H275 ⟨b272, 0, none⟩ r92.toList fun H276 => r95.size = 3 ∧ stAt H276 ⟨b274, 0, none⟩ r95.toList fun H277 => r271.size = 3 ∧ stAt H277 ⟨b267, 0, none⟩ r271.toList fun H278 => J55 [.pointer (some ⟨b272, 0, none⟩), .pointer (some ⟨b274, 0, none⟩), .pointer (some ⟨b267, 0, none⟩)] H278) ∧ (alc H270 (.cells #[.int .i64 0, .int .i64 0, .slice none 0 0] 34) fun b279 H280 => alc H280 (.cells #[.int .i64 0, .int .i64 0, .slice none 0 0] 34) fun b281 H282 => r92.size = 3 ∧ stAt H282 ⟨b281, 0, none⟩ r92.toList fun H283 => r95.size = 3 ∧ stAt H283 ⟨b279, 0, none⟩ r95.toList fun H284 => r271.size = 3 ∧ stAt H284 ⟨b267, 0, none⟩ r271.toList fun H285 => J55 [.pointer (some ⟨b281, 0, none⟩), .pointer (some ⟨b279, 0, none⟩), .pointer (some ⟨b267, 0, none⟩)] H285)) ∧ (alc H268 (.cells #[.int .i64 0, .int .i64 0, .slice none 0 0] 34) fun b286 H287 => (Ext H268 H287 ∨ (∃ v305, v305.size = 4 ∧ rowIn H287 ⟨b46, 0, none⟩ v305 ∧ Value.agg v305 = .agg v89)) ∧ (Tryz.C 11 #[.agg v89] H287 fun r288 H289 => ∃ r290, r288 = .agg r290 ∧ alc H289 (.cells #[.int .i64 0, .int .i64 0, .slice none 0 0] 34) fun b291 H292 => r92.size = 3 ∧ stAt H292 ⟨b286, 0, none⟩ r92.toList fun H293 => r95.size = 3 ∧ stAt H293 ⟨b291, 0, none⟩ r95.toList fun H294 => r290.size = 3 ∧ stAt H294 ⟨b267, 0, none⟩ r290.toList fun H295 => J55 [.pointer (some ⟨b286, 0, none⟩), .pointer (some ⟨b291, 0, none⟩), .pointer (some ⟨b267, 0, none⟩)] H295) ∧ (alc H287 (.cells #[.int .i64 0, .int .i64 0, .slice none 0 0] 34) fun b296 H297 => (Ext H287 H297 ∨ (∃ v304, v304.size = 4 ∧ rowIn H297 ⟨b46, 0, none⟩ v304 ∧ Value.agg v304 = .agg v89)) ∧ Tryz.C 11 #[.agg v89] H297 fun r298 H299 => ∃ r300, r298 = .agg r300 ∧ r92.size = 3 ∧ stAt H299 ⟨b286, 0, none⟩ r92.toList fun H301 => r95.size = 3 ∧ stAt H301 ⟨b296, 0, none⟩ r95.toList fun H302 => r300.size = 3 ∧ stAt H302 ⟨b267, 0, none⟩ r300.toList fun H303 => J55 [.pointer (some ⟨b286, 0, none⟩), .pointer (some ⟨b296, 0, none⟩), .pointer (some ⟨b267, 0, none⟩)] H303)) ∧ (alc H268 (.cells #[.int .i64 0, .int .i64 0, .slice none 0 0] 34) fun b306 H307 => (Ext H268 H307 ∨ (∃ v325, v325.size = 4 ∧ rowIn H307 ⟨b46, 0, none⟩ v325 ∧ Value.agg v325 = .agg v89)) ∧ (Tryz.C 11 #[.agg v89] H307 fun r308 H309 => ∃ r310, r308 = .agg r310 ∧ alc H309 (.cells #[.int .i64 0, .int .i64 0, .slice none 0 0] 34) fun b311 H312 => r92.size = 3 ∧ stAt H312 ⟨b311, 0, none⟩ r92.toList fun H313 => r95.size = 3 ∧ stAt H313 ⟨b306, 0, none⟩ r95.toList fun H314 => r310.size = 3 ∧ stAt H314 ⟨b267, 0, none⟩ r310.toList fun H315 => J55 [.pointer (some ⟨b311, 0, none⟩), .pointer (some ⟨b306, 0, none⟩), .pointer (some ⟨b267, 0, none⟩)] H315) ∧ (alc H307 (.cells #[.int .i64 0, .int .i64 0, .slice none 0 0] 34) fun b316 H317 => (Ext H307 H317 ∨ (∃ v324, v324.size = 4 ∧ rowIn H317 ⟨b46, 0, none⟩ v324 ∧ Value.agg v324 = .agg v89)) ∧ Tryz.C 11 #[.agg v89] H317 fun r318 H319 => ∃ r320, r318 = .agg r320 ∧ r92.size = 3 ∧ stAt H319 ⟨b316, 0, none⟩ r92.toList fun H321 => r95.size = 3 ∧ stAt H321 ⟨b306, 0, none⟩ r95.toList fun H322 => r320.size = 3 ∧ stAt H322 ⟨b267, 0, none⟩ r320.toList fun H323 => J55 [.pointer (some ⟨b316, 0, none⟩), .pointer (some ⟨b306, 0, none⟩), .pointer (some ⟨b267, 0, none⟩)] H323)))) ∧ (alc H91 (.cells #[.int .i64 0, .int .i64 0, .slice none 0 0] 34) fun b328 H329 => (Ext H91 H329 ∨ (∃ v469, v469.size = 4 ∧ rowIn H329 ⟨b46, 0, none⟩ v469 ∧ Value.agg v469 = .agg v89) ∧ (∃ v470, v470.size = 4 ∧ rowIn H329 ⟨b38, 0, none⟩ v470 ∧ Value.agg v470 = .agg v88)) ∧ (Tryz.C 11 #[.agg v88] H329 fun r330 H331 => ∃ r332, r330 = .agg r332 ∧ (Ext H329 H331 ∨ (∃ v390, v390.size = 4 ∧ rowIn H331 ⟨b46, 0, none⟩ v390 ∧ Value.agg v390 = .agg v89)) ∧ (Tryz.C 11 #[.agg v89] H331 fun r333 H334 => ∃ r335, r333 = .agg r335 ∧ (alc H334 (.cells #[.int .i64 0, .int .i64 0, .slice none 0 0] 34) fun b336 H337 => alc H337 (.cells #[.int .i64 0, .int .i64 0, .slice none 0 0] 34) fun b338 H339 => r92.size = 3 ∧ stAt H339 ⟨b328, 0, none⟩ r92.toList fun H340 => r332.size = 3 ∧ stAt H340 ⟨b336, 0, none⟩ r332.toList fun H341 => r335.size = 3 ∧ stAt H341 ⟨b338, 0, none⟩ r335.toList fun H342 => J55 [.pointer (some ⟨b328, 0, none⟩), .pointer (some ⟨b336, 0, none⟩), .pointer (some ⟨b338, 0, none⟩)] H342) ∧ (alc H334 (.cells #[.int .i64 0, .int .i64 0, .slice none 0 0] 34) fun b343 H344 => alc H344 (.cells #[.int .i64 0, .int .i64 0, .slice none 0 0] 34) fun b345 H346 => r92.size = 3 ∧ stAt H346 ⟨b328, 0, none⟩ r92.toList fun H347 => r332.size = 3 ∧ stAt H347 ⟨b345, 0, none⟩ r332.toList fun H348 => r335.size = 3 ∧ stAt H348 ⟨b343, 0, none⟩ r335.toList fun H349 => J55 [.pointer (some ⟨b328, 0, none⟩), .pointer (some ⟨b345, 0, none⟩), .pointer (some ⟨b343, 0, none⟩)] H349)) ∧ (alc H331 (.cells #[.int .i64 0, .int .i64 0, .slice none 0 0] 34) fun b350 H351 => (Ext H331 H351 ∨ (∃ v369, v369.size = 4 ∧ rowIn H351 ⟨b46, 0, none⟩ v369 ∧ Value.agg v369 = .agg v89)) ∧ (Tryz.C 11 #[.agg v89] H351 fun r352 H353 => ∃ r354, r352 = .agg r354 ∧ alc H353 (.cells #[.int .i64 0, .int .i64 0, .slice none 0 0] 34) fun b355 H356 => r92.size = 3 ∧ stAt H356 ⟨b328, 0, none⟩ r92.toList fun H357 => r332.size = 3 ∧ stAt H357 ⟨b350, 0, none⟩ r332.toList fun H358 => r354.size = 3 ∧ stAt H358 ⟨b355, 0, none⟩ r354.toList fun H359 => J55 [.pointer (some ⟨b328, 0, none⟩), .pointer (some ⟨b350, 0, none⟩), .pointer (some ⟨b355, 0, none⟩)] H359) ∧ (alc H351 (.cells #[.int .i64 0, .int .i64 0, .slice none 0 0] 34) fun b360 H361 => (Ext H351 H361 ∨ (∃ v368, v368.size = 4 ∧ rowIn H361 ⟨b46, 0, none⟩ v368 ∧ Value.agg v368 = .agg v89)) ∧ Tryz.C 11 #[.agg v89] H361 fun r362 H363 => ∃ r364, r362 = .agg r364 ∧ r92.size = 3 ∧ stAt H363 ⟨b328, 0, none⟩ r92.toList fun H365 => r332.size = 3 ∧ stAt H365 ⟨b350, 0, none⟩ r332.toList fun H366 => r364.size = 3 ∧ stAt H366 ⟨b360, 0, none⟩ r364.toList fun H367 => J55 [.pointer (some ⟨b328, 0, none⟩), .pointer (some ⟨b350, 0, none⟩), .pointer (some ⟨b360, 0, none⟩)] H367)) ∧ (alc H331 (.cells #[.int .i64 0, .int .i64 0, .slice none 0 0] 34) fun b370 H371 => (Ext H331 H371 ∨ (∃ v389, v389.size = 4 ∧ rowIn H371 ⟨b46, 0, none⟩ v389 ∧ Value.agg v389 = .agg v89)) ∧ (Tryz.C 11 #[.agg v89] H371 fun r372 H373 => ∃ r374, r372 = .agg r374 ∧ alc H373 (.cells #[.int .i64 0, .int .i64 0, .slice none 0 0] 34) fun b375 H376 => r92.size = 3 ∧ stAt H376 ⟨b328, 0, none⟩ r92.toList fun H377 => r332.size = 3 ∧ stAt H377 ⟨b375, 0, none⟩ r332.toList fun H378 => r374.size = 3 ∧ stAt H378 ⟨b370, 0, none⟩ r374.toList fun H379 => J55 [.pointer (some ⟨b328, 0, none⟩), .pointer (some ⟨b375, 0, none⟩), .pointer (some ⟨b370, 0, none⟩)] H379) ∧ (alc H371 (.cells #[.int .i64 0, .int .i64 0, .slice none 0 0] 34) fun b380 H381 => (Ext H371 H381 ∨ (∃ v388, v388.size = 4 ∧ rowIn H381 ⟨b46, 0, none⟩ v388 ∧ Value.agg v388 = .agg v89)) ∧ Tryz.C 11 #[.agg v89] H381 fun r382 H383 => ∃ r384, r382 = .agg r384 ∧ r92.size = 3 ∧ stAt H383 ⟨b328, 0, none⟩ r92.toList fun H385 => r332.size = 3 ∧ stAt H385 ⟨b380, 0, none⟩ r332.toList fun H386 => r384.size = 3 ∧ stAt H386 ⟨b370, 0, none⟩ r384.toList fun H387 => J55 [.pointer (some ⟨b328, 0, none⟩), .pointer (some ⟨b380, 0, none⟩), .pointer (some ⟨b370, 0, none⟩)] H387))) ∧ (alc H329 (.cells #[.int .i64 0, .int .i64 0, .slice none 0 0] 34) fun b391 H392 => (Ext H329 H392 ∨ (∃ v428, v428.size = 4 ∧ rowIn H392 ⟨b46, 0, none⟩ v428 ∧ Value.agg v428 = .agg v89) ∧ (∃ v429, v429.size = 4 ∧ rowIn H392 ⟨b38, 0, none⟩ v429 ∧ Value.agg v429 = .agg v88)) ∧ (Tryz.C 11 #[.agg v88] H392 fun r393 H394 => ∃ r395, r393 = .agg r395 ∧ (Ext H392 H394 ∨ (∃ v413, v413.size = 4 ∧ rowIn H394 ⟨b46, 0, none⟩ v413 ∧ Value.agg v413 = .agg v89)) ∧ (Tryz.C 11 #[.agg v89] H394 fun r396 H397 => ∃ r398, r396 = .agg r398 ∧ alc H397 (.cells #[.int .i64 0, .int .i64 0, .slice none 0 0] 34) fun b399 H400 => r92.size = 3 ∧ stAt H400 ⟨b328, 0, none⟩ r92.toList fun H401 => r395.size = 3 ∧ stAt H401 ⟨b391, 0, none⟩ r395.toList fun H402 => r398.size = 3 ∧ stAt H402 ⟨b399, 0, none⟩ r398.toList fun H403 => J55 [.pointer (some ⟨b328, 0, none⟩), .pointer (some ⟨b391, 0, none⟩), .pointer (some ⟨b399, 0, none⟩)] H403) ∧ (alc H394 (.cells #[.int .i64 0, .int .i64 0, .slice none 0 0] 34) fun b404 H405 => (Ext H394 H405 ∨ (∃ v412, v412.size = 4 ∧ rowIn H405 ⟨b46, 0, none⟩ v412 ∧ Value.agg v412 = .agg v89)) ∧ Tryz.C 11 #[.agg v89] H405 fun r406 H407 => ∃ r408, r406 = .agg r408 ∧ r92.size = 3 ∧ stAt H407 ⟨b328, 0, none⟩ r92.toList fun H409 => r395.size = 3 ∧ stAt H409 ⟨b391, 0, none⟩ r395.toList fun H410 => r408.size = 3 ∧ stAt H410 ⟨b404, 0, none⟩ r408.toList fun H411 => J55 [.pointer (some ⟨b328, 0, none⟩), .pointer (some ⟨b391, 0, none⟩), .pointer (some ⟨b404, 0, none⟩)] H411)) ∧ (alc H392 (.cells #[.int .i64 0, .int .i64 0, .slice none 0 0] 34) fun b414 H415 => (Ext H392 H415 ∨ (∃ v426, v426.size = 4 ∧ rowIn H415 ⟨b46, 0, none⟩ v426 ∧ Value.agg v426 = .agg v89) ∧ (∃ v427, v427.size = 4 ∧ rowIn H415 ⟨b38, 0, none⟩ v427 ∧ Value.agg v427 = .agg v88)) ∧ Tryz.C 11 #[.agg v88] H415 fun r416 H417 => ∃ r418, r416 = .agg r418 ∧ (Ext H415 H417 ∨ (∃ v425, v425.size = 4 ∧ rowIn H417 ⟨b46, 0, none⟩ v425 ∧ Value.agg v425 = .agg v89)) ∧ Tryz.C 11 #[.agg v89] H417 fun r419 H420 => ∃ r421, r419 = .agg r421 ∧ r92.size = 3 ∧ stAt H420 ⟨b328, 0, none⟩ r92.toList fun H422 => r418.size = 3 ∧ stAt H422 ⟨b391, 0, none⟩ r418.toList fun H423 => r421.size = 3 ∧ stAt H423 ⟨b414, 0, none⟩ r421.toList fun H424 => J55 [.pointer (some ⟨b328, 0, none⟩), .pointer (some ⟨b391, 0, none⟩), .pointer (some ⟨b414, 0, none⟩)] H424)) ∧ (alc H329 (.cells #[.int .i64 0, .int .i64 0, .slice none 0 0] 34) fun b430 H431 => (Ext H329 H431 ∨ (∃ v467, v467.size = 4 ∧ rowIn H431 ⟨b46, 0, none⟩ v467 ∧ Value.agg v467 = .agg v89) ∧ (∃ v468, v468.size = 4 ∧ rowIn H431 ⟨b38, 0, none⟩ v468 ∧ Value.agg v468 = .agg v88)) ∧ (Tryz.C 11 #[.agg v88] H431 fun r432 H433 => ∃ r434, r432 = .agg r434 ∧ (Ext H431 H433 ∨ (∃ v452, v452.size = 4 ∧ rowIn H433 ⟨b46, 0, none⟩ v452 ∧ Value.agg v452 = .agg v89)) ∧ (Tryz.C 11 #[.agg v89] H433 fun r435 H436 => ∃ r437, r435 = .agg r437 ∧ alc H436 (.cells #[.int .i64 0, .int .i64 0, .slice none 0 0] 34) fun b438 H439 => r92.size = 3 ∧ stAt H439 ⟨b328, 0, none⟩ r92.toList fun H440 => r434.size = 3 ∧ stAt H440 ⟨b438, 0, none⟩ r434.toList fun H441 => r437.size = 3 ∧ stAt H441 ⟨b430, 0, none⟩ r437.toList fun H442 => J55 [.pointer (some ⟨b328, 0, none⟩), .pointer (some ⟨b438, 0, none⟩), .pointer (some ⟨b430, 0, none⟩)] H442) ∧ (alc H433 (.cells #[.int .i64 0, .int .i64 0, .slice none 0 0] 34) fun b443 H444 => (Ext H433 H444 ∨ (∃ v451, v451.size = 4 ∧ rowIn H444 ⟨b46, 0, none⟩ v451 ∧ Value.agg v451 = .agg v89)) ∧ Tryz.C 11 #[.agg v89] H444 fun r445 H446 => ∃ r447, r445 = .agg r447 ∧ r92.size = 3 ∧ stAt H446 ⟨b328, 0, none⟩ r92.toList fun H448 => r434.size = 3 ∧ stAt H448 ⟨b443, 0, none⟩ r434.toList fun H449 => r447.size = 3 ∧ stAt H449 ⟨b430, 0, none⟩ r447.toList fun H450 => J55 [.pointer (some ⟨b328, 0, none⟩), .pointer (some ⟨b443, 0, none⟩), .pointer (some ⟨b430, 0, none⟩)] H450)) ∧ (alc H431 (.cells #[.int .i64 0, .int .i64 0, .slice none 0 0] 34) fun b453 H454 => (Ext H431 H454 ∨ (∃ v465, v465.size = 4 ∧ rowIn H454 ⟨b46, 0, none⟩ v465 ∧ Value.agg v465 = .agg v89) ∧ (∃ v466, v466.size = 4 ∧ rowIn H454 ⟨b38, 0, none⟩ v466 ∧ Value.agg v466 = .agg v88)) ∧ Tryz.C 11 #[.agg v88] H454 fun r455 H456 => ∃ r457, r455 = .agg r457 ∧ (Ext H454 H456 ∨ (∃ v464, v464.size = 4 ∧ rowIn H456 ⟨b46, 0, none⟩ v464 ∧ Value.agg v464 = .agg v89)) ∧ Tryz.C 11 #[.agg v89] H456 fun r458 H459 => ∃ r460, r458 = .agg r460 ∧ r92.size = 3 ∧ stAt H459 ⟨b328, 0, none⟩ r92.toList fun H461 => r457.size = 3 ∧ stAt H461 ⟨b453, 0, none⟩ r457.toList fun H462 => r460.size = 3 ∧ stAt H462 ⟨b430, 0, none⟩ r460.toList fun H463 => J55 [.pointer (some ⟨b328, 0, none⟩), .pointer (some ⟨b453, 0, none⟩), .pointer (some ⟨b430, 0, none⟩)] H463))) ∧ (alc H91 (.cells #[.int .i64 0, .int .i64 0, .slice none 0 0] 34) fun b471 H472 => (Ext H91 H472 ∨ (∃ v612, v612.size = 4 ∧ rowIn H472 ⟨b46, 0, none⟩ v612 ∧ Value.agg v612 = .agg v89) ∧ (∃ v613, v613.size = 4 ∧ rowIn H472 ⟨b38, 0, none⟩ v613 ∧ Value.agg v613 = .agg v88)) ∧ (Tryz.C 11 #[.agg v88] H472 fun r473 H474 => ∃ r475, r473 = .agg r475 ∧ (Ext H472 H474 ∨ (∃ v533, v533.size = 4 ∧ rowIn H474 ⟨b46, 0, none⟩ v533 ∧ Value.agg v533 = .agg v89)) ∧ (Tryz.C 11 #[.agg v89] H474 fun r476 H477 => ∃ r478, r476 = .agg r478 ∧ (alc H477 (.cells #[.int .i64 0, .int .i64 0, .slice none 0 0] 34) fun b479 H480 => alc H480 (.cells #[.int .i64 0, .int .i64 0, .slice none 0 0] 34) fun b481 H482 => r92.size = 3 ∧ stAt H482 ⟨b479, 0, none⟩ r92.toList fun H483 => r475.size = 3 ∧ stAt H483 ⟨b471, 0, none⟩ r475.toList fun H484 => r478.size = 3 ∧ stAt H484 ⟨b481, 0, none⟩ r478.toList fun H485 => J55 [.pointer (some ⟨b479, 0, none⟩), .pointer (some ⟨b471, 0, none⟩), .pointer (some ⟨b481, 0, none⟩)] H485) ∧ (alc H477 (.cells #[.int .i64 0, .int .i64 0, .slice none 0 0] 34) fun b486 H487 => alc H487 (.cells #[.int .i64 0, .int .i64 0, .slice none 0 0] 34) fun b488 H489 => r92.size = 3 ∧ stAt H489 ⟨b488, 0, none⟩ r92.toList fun H490 => r475.size = 3 ∧ stAt H490 ⟨b471, 0, none⟩ r475.toList fun H491 => r478.size = 3 ∧ stAt H491 ⟨b486, 0, none⟩ r478.toList fun H492 => J55 [.pointer (some ⟨b488, 0, none⟩), .pointer (some ⟨b471, 0, none⟩), .pointer (some ⟨b486, 0, none⟩)] H492)) ∧ (alc H474 (.cells #[.int .i64 0, .int .i64 0, .slice none 0 0] 34) fun b493 H494 => (Ext H474 H494 ∨ (∃ v512, v512.size = 4 ∧ rowIn H494 ⟨b46, 0, none⟩ v512 ∧ Value.agg v512 = .agg v89)) ∧ (Tryz.C 11 #[.agg v89] H494 fun r495 H496 => ∃ r497, r495 = .agg r497 ∧ alc H496 (.cells #[.int .i64 0, .int .i64 0, .slice none 0 0] 34) fun b498 H499 => r92.size = 3 ∧ stAt H499 ⟨b493, 0, none⟩ r92.toList fun H500 => r475.size = 3 ∧ stAt H500 ⟨b471, 0, none⟩ r475.toList fun H501 => r497.size = 3 ∧ stAt H501 ⟨b498, 0, none⟩ r497.toList fun H502 => J55 [.pointer (some ⟨b493, 0, none⟩), .pointer (some ⟨b471, 0, none⟩), .pointer (some ⟨b498, 0, none⟩)] H502) ∧ (alc H494 (.cells #[.int .i64 0, .int .i64 0, .slice none 0 0] 34) fun b503 H504 => (Ext H494 H504 ∨ (∃ v511, v511.size = 4 ∧ rowIn H504 ⟨b46, 0, none⟩ v511 ∧ Value.agg v511 = .agg v89)) ∧ Tryz.C 11 #[.agg v89] H504 fun r505 H506 => ∃ r507, r505 = .agg r507 ∧ r92.size = 3 ∧ stAt H506 ⟨b493, 0, none⟩ r92.toList fun H508 => r475.size = 3 ∧ stAt H508 ⟨b471, 0, none⟩ r475.toList fun H509 => r507.size = 3 ∧ stAt H509 ⟨b503, 0, none⟩ r507.toList fun H510 => J55 [.pointer (some ⟨b493, 0, none⟩), .pointer (some ⟨b471, 0, none⟩), .pointer (some ⟨b503, 0, none⟩)] H510)) ∧ (alc H474 (.cells #[.int .i64 0, .int .i64 0, .slice none 0 0] 34) fun b513 H514 => (Ext H474 H514 ∨ (∃ v532, v532.size = 4 ∧ rowIn H514 ⟨b46, 0, none⟩ v532 ∧ Value.agg v532 = .agg v89)) ∧ (Tryz.C 11 #[.agg v89] H514 fun r515 H516 => ∃ r517, r515 = .agg r517 ∧ alc H516 (.cells #[.int .i64 0, .int .i64 0, .slice none 0 0] 34) fun b518 H519 => r92.size = 3 ∧ stAt H519 ⟨b518, 0, none⟩ r92.toList fun H520 => r475.size = 3 ∧ stAt H520 ⟨b471, 0, none⟩ r475.toList fun H521 => r517.size = 3 ∧ stAt H521 ⟨b513, 0, none⟩ r517.toList fun H522 => J55 [.pointer (some ⟨b518, 0, none⟩), .pointer (some ⟨b471, 0, none⟩), .pointer (some ⟨b513, 0, none⟩)] H522) ∧ (alc H514 (.cells #[.int .i64 0, .int .i64 0, .slice none 0 0] 34) fun b523 H524 => (Ext H514 H524 ∨ (∃ v531, v531.size = 4 ∧ rowIn H524 ⟨b46, 0, none⟩ v531 ∧ Value.agg v531 = .agg v89)) ∧ Tryz.C 11 #[.agg v89] H524 fun r525 H526 => ∃ r527, r525 = .agg r527 ∧ r92.size = 3 ∧ stAt H526 ⟨b523, 0, none⟩ r92.toList fun H528 => r475.size = 3 ∧ stAt H528 ⟨b471, 0, none⟩ r475.toList fun H529 => r527.size = 3 ∧ stAt H529 ⟨b513, 0, none⟩ r527.toList fun H530 => J55 [.pointer (some ⟨b523, 0, none⟩), .pointer (some ⟨b471, 0, none⟩), .pointer (some ⟨b513, 0, none⟩)] H530))) ∧ (alc H472 (.cells #[.int .i64 0, .int .i64 0, .slice none 0 0] 34) fun b534 H535 => (Ext H472 H535 ∨ (∃ v571, v571.size = 4 ∧ rowIn H535 ⟨b46, 0, none⟩ v571 ∧ Value.agg v571 = .agg v89) ∧ (∃ v572, v572.size = 4 ∧ rowIn H535 ⟨b38, 0, none⟩ v572 ∧ Value.agg v572 = .agg v88)) ∧ (Tryz.C 11 #[.agg v88] H535 fun r536 H537 => ∃ r538, r536 = .agg r538 ∧ (Ext H535 H537 ∨ (∃ v556, v556.size = 4 ∧ rowIn H537 ⟨b46, 0, none⟩ v556 ∧ Value.agg v556 = .agg v89)) ∧ (Tryz.C 11 #[.agg v89] H537 fun r539 H540 => ∃ r541, r539 = .agg r541 ∧ alc H540 (.cells #[.int .i64 0, .int .i64 0, .slice none 0 0] 34) fun b542 H543 => r92.size = 3 ∧ stAt H543 ⟨b534, 0, none⟩ r92.toList fun H544 => r538.size = 3 ∧ stAt H544 ⟨b471, 0, none⟩ r538.toList fun H545 => r541.size = 3 ∧ stAt H545 ⟨b542, 0, none⟩ r541.toList fun H546 => J55 [.pointer (some ⟨b534, 0, none⟩), .pointer (some ⟨b471, 0, none⟩), .pointer (some ⟨b542, 0, none⟩)] H546) ∧ (alc H537 (.cells #[.int .i64 0, .int .i64 0, .slice none 0 0] 34) fun b547 H548 => (Ext H537 H548 ∨ (∃ v555, v555.size = 4 ∧ rowIn H548 ⟨b46, 0, none⟩ v555 ∧ Value.agg v555 = .agg v89)) ∧ Tryz.C 11 #[.agg v89] H548 fun r549 H550 => ∃ r551, r549 = .agg r551 ∧ r92.size = 3 ∧ stAt H550 ⟨b534, 0, none⟩ r92.toList fun H552 => r538.size = 3 ∧ stAt H552 ⟨b471, 0, none⟩ r538.toList fun H553 => r551.size = 3 ∧ stAt H553 ⟨b547, 0, none⟩ r551.toList fun H554 => J55 [.pointer (some ⟨b534, 0, none⟩), .pointer (some ⟨b471, 0, none⟩), .pointer (some ⟨b547, 0, none⟩)] H554)) ∧ (alc H535 (.cells #[.int .i64 0, .int .i64 0, .slice none 0 0] 34) fun b557 H558 => (Ext H535 H558 ∨ (∃ v569, v569.size = 4 ∧ rowIn H558 ⟨b46, 0, none⟩ v569 ∧ Value.agg v569 = .agg v89) ∧ (∃ v570, v570.size = 4 ∧ rowIn H558 ⟨b38, 0, none⟩ v570 ∧ Value.agg v570 = .agg v88)) ∧ Tryz.C 11 #[.agg v88] H558 fun r559 H560 => ∃ r561, r559 = .agg r561 ∧ (Ext H558 H560 ∨ (∃ v568, v568.size = 4 ∧ rowIn H560 ⟨b46, 0, none⟩ v568 ∧ Value.agg v568 = .agg v89)) ∧ Tryz.C 11 #[.agg v89] H560 fun r562 H563 => ∃ r564, r562 = .agg r564 ∧ r92.size = 3 ∧ stAt H563 ⟨b534, 0, none⟩ r92.toList fun H565 => r561.size = 3 ∧ stAt H565 ⟨b471, 0, none⟩ r561.toList fun H566 => r564.size = 3 ∧ stAt H566 ⟨b557, 0, none⟩ r564.toList fun H567 => J55 [.pointer (some ⟨b534, 0, none⟩), .pointer (some ⟨b471, 0, none⟩), .pointer (some ⟨b557, 0, none⟩)] H567)) ∧ (alc H472 (.cells #[.int .i64 0, .int .i64 0, .slice none 0 0] 34) fun b573 H574 => (Ext H472 H574 ∨ (∃ v610, v610.size = 4 ∧ rowIn H574 ⟨b46, 0, none⟩ v610 ∧ Value.agg v610 = .agg v89) ∧ (∃ v611, v611.size = 4 ∧ rowIn H574 ⟨b38, 0, none⟩ v611 ∧ Value.agg v611 = .agg v88)) ∧ (Tryz.C 11 #[.agg v88] H574 fun r575 H576 => ∃ r577, r575 = .agg r577 ∧ (Ext H574 H576 ∨ (∃ v595, v595.size = 4 ∧ rowIn H576 ⟨b46, 0, none⟩ v595 ∧ Value.agg v595 = .agg v89)) ∧ (Tryz.C 11 #[.agg v89] H576 fun r578 H579 => ∃ r580, r578 = .agg r580 ∧ alc H579 (.cells #[.int .i64 0, .int .i64 0, .slice none 0 0] 34) fun b581 H582 => r92.size = 3 ∧ stAt H582 ⟨b581, 0, none⟩ r92.toList fun H583 => r577.size = 3 ∧ stAt H583 ⟨b471, 0, none⟩ r577.toList fun H584 => r580.size = 3 ∧ stAt H584 ⟨b573, 0, none⟩ r580.toList fun H585 => J55 [.pointer (some ⟨b581, 0, none⟩), .pointer (some ⟨b471, 0, none⟩), .pointer (some ⟨b573, 0, none⟩)] H585) ∧ (alc H576 (.cells #[.int .i64 0, .int .i64 0, .slice none 0 0] 34) fun b586 H587 => (Ext H576 H587 ∨ (∃ v594, v594.size = 4 ∧ rowIn H587 ⟨b46, 0, none⟩ v594 ∧ Value.agg v594 = .agg v89)) ∧ Tryz.C 11 #[.agg v89] H587 fun r588 H589 => ∃ r590, r588 = .agg r590 ∧ r92.size = 3 ∧ stAt H589 ⟨b586, 0, none⟩ r92.toList fun H591 => r577.size = 3 ∧ stAt H591 ⟨b471, 0, none⟩ r577.toList fun H592 => r590.size = 3 ∧ stAt H592 ⟨b573, 0, none⟩ r590.toList fun H593 => J55 [.pointer (some ⟨b586, 0, none⟩), .pointer (some ⟨b471, 0, none⟩), .pointer (some ⟨b573, 0, none⟩)] H593)) ∧ (alc H574 (.cells #[.int .i64 0, .int .i64 0, .slice none 0 0] 34) fun b596 H597 => (Ext H574 H597 ∨ (∃ v608, v608.size = 4 ∧ rowIn H597 ⟨b46, 0, none⟩ v608 ∧ Value.agg v608 = .agg v89) ∧ (∃ v609, v609.size = 4 ∧ rowIn H597 ⟨b38, 0, none⟩ v609 ∧ Value.agg v609 = .agg v88)) ∧ Tryz.C 11 #[.agg v88] H597 fun r598 H599 => ∃ r600, r598 = .agg r600 ∧ (Ext H597 H599 ∨ (∃ v607, v607.size = 4 ∧ rowIn H599 ⟨b46, 0, none⟩ v607 ∧ Value.agg v607 = .agg v89)) ∧ Tryz.C 11 #[.agg v89] H599 fun r601 H602 => ∃ r603, r601 = .agg r603 ∧ r92.size = 3 ∧ stAt H602 ⟨b596, 0, none⟩ r92.toList fun H604 => r600.size = 3 ∧ stAt H604 ⟨b471, 0, none⟩ r600.toList fun H605 => r603.size = 3 ∧ stAt H605 ⟨b573, 0, none⟩ r603.toList fun H606 => J55 [.pointer (some ⟨b596, 0, none⟩), .pointer (some ⟨b471, 0, none⟩), .pointer (some ⟨b573, 0, none⟩)] H606))) ∧ (alc H91 (.cells #[.int .i64 0, .int .i64 0, .slice none 0 0] 34) fun b614 H615 => (Ext H91 H615 ∨ (∃ v755, v755.size = 4 ∧ rowIn H615 ⟨b46, 0, none⟩ v755 ∧ Value.agg v755 = .agg v89) ∧ (∃ v756, v756.size = 4 ∧ rowIn H615 ⟨b38, 0, none⟩ v756 ∧ Value.agg v756 = .agg v88)) ∧ (Tryz.C 11 #[.agg v88] H615 fun r616 H617 => ∃ r618, r616 = .agg r618 ∧ (Ext H615 H617 ∨ (∃ v676, v676.size = 4 ∧ rowIn H617 ⟨b46, 0, none⟩ v676 ∧ Value.agg v676 = .agg v89)) ∧ (Tryz.C 11 #[.agg v89] H617 fun r619 H620 => ∃ r621, r619 = .agg r621 ∧ (alc H620 (.cells #[.int .i64 0, .int .i64 0, .slice none 0 0] 34) fun b622 H623 => alc H623 (.cells #[.int .i64 0, .int .i64 0, .slice none 0 0] 34) fun b624 H625 => r92.size = 3 ∧ stAt H625 ⟨b622, 0, none⟩ r92.toList fun H626 => r618.size = 3 ∧ stAt H626 ⟨b624, 0, none⟩ r618.toList fun H627 => r621.size = 3 ∧ stAt H627 ⟨b614, 0, none⟩ r621.toList fun H628 => J55 [.pointer (some ⟨b622, 0, none⟩), .pointer (some ⟨b624, 0, none⟩), .pointer (some ⟨b614, 0, none⟩)] H628) ∧ (alc H620 (.cells #[.int .i64 0, .int .i64 0, .slice none 0 0] 34) fun b629 H630 => alc H630 (.cells #[.int .i64 0, .int .i64 0, .slice none 0 0] 34) fun b631 H632 => r92.size = 3 ∧ stAt H632 ⟨b631, 0, none⟩ r92.toList fun H633 => r618.size = 3 ∧ stAt H633 ⟨b629, 0, none⟩ r618.toList fun H634 => r621.size = 3 ∧ stAt H634 ⟨b614, 0, none⟩ r621.toList fun H635 => J55 [.pointer (some ⟨b631, 0, none⟩), .pointer (some ⟨b629, 0, none⟩), .pointer (some ⟨b614, 0, none⟩)] H635)) ∧ (alc H617 (.cells #[.int .i64 0, .int .i64 0, .slice none 0 0] 34) fun b636 H637 => (Ext H617 H637 ∨ (∃ v655, v655.size = 4 ∧ rowIn H637 ⟨b46, 0, none⟩ v655 ∧ Value.agg v655 = .agg v89)) ∧ (Tryz.C 11 #[.agg v89] H637 fun r638 H639 => ∃ r640, r638 = .agg r640 ∧ alc H639 (.cells #[.int .i64 0, .int .i64 0, .slice none 0 0] 34) fun b641 H642 => r92.size = 3 ∧ stAt H642 ⟨b636, 0, none⟩ r92.toList fun H643 => r618.size = 3 ∧ stAt H643 ⟨b641, 0, none⟩ r618.toList fun H644 => r640.size = 3 ∧ stAt H644 ⟨b614, 0, none⟩ r640.toList fun H645 => J55 [.pointer (some ⟨b636, 0, none⟩), .pointer (some ⟨b641, 0, none⟩), .pointer (some ⟨b614, 0, none⟩)] H645) ∧ (alc H637 (.cells #[.int .i64 0, .int .i64 0, .slice none 0 0] 34) fun b646 H647 => (Ext H637 H647 ∨ (∃ v654, v654.size = 4 ∧ rowIn H647 ⟨b46, 0, none⟩ v654 ∧ Value.agg v654 = .agg v89)) ∧ Tryz.C 11 #[.agg v89] H647 fun r648 H649 => ∃ r650, r648 = .agg r650 ∧ r92.size = 3 ∧ stAt H649 ⟨b636, 0, none⟩ r92.toList fun H651 => r618.size = 3 ∧ stAt H651 ⟨b646, 0, none⟩ r618.toList fun H652 => r650.size = 3 ∧ stAt H652 ⟨b614, 0, none⟩ r650.toList fun H653 => J55 [.pointer (some ⟨b636, 0, none⟩), .pointer (some ⟨b646, 0, none⟩), .pointer (some ⟨b614, 0, none⟩)] H653)) ∧ (alc H617 (.cells #[.int .i64 0, .int .i64 0, .slice none 0 0] 34) fun b656 H657 => (Ext H617 H657 ∨ (∃ v675, v675.size = 4 ∧ rowIn H657 ⟨b46, 0, none⟩ v675 ∧ Value.agg v675 = .agg v89)) ∧ (Tryz.C 11 #[.agg v89] H657 fun r658 H659 => ∃ r660, r658 = .agg r660 ∧ alc H659 (.cells #[.int .i64 0, .int .i64 0, .slice none 0 0] 34) fun b661 H662 => r92.size = 3 ∧ stAt H662 ⟨b661, 0, none⟩ r92.toList fun H663 => r618.size = 3 ∧ stAt H663 ⟨b656, 0, none⟩ r618.toList fun H664 => r660.size = 3 ∧ stAt H664 ⟨b614, 0, none⟩ r660.toList fun H665 => J55 [.pointer (some ⟨b661, 0, none⟩), .pointer (some ⟨b656, 0, none⟩), .pointer (some ⟨b614, 0, none⟩)] H665) ∧ (alc H657 (.cells #[.int .i64 0, .int .i64 0, .slice none 0 0] 34) fun b666 H667 => (Ext H657 H667 ∨ (∃ v674, v674.size = 4 ∧ rowIn H667 ⟨b46, 0, none⟩ v674 ∧ Value.agg v674 = .agg v89)) ∧ Tryz.C 11 #[.agg v89] H667 fun r668 H669 => ∃ r670, r668 = .agg r670 ∧ r92.size = 3 ∧ stAt H669 ⟨b666, 0, none⟩ r92.toList fun H671 => r618.size = 3 ∧ stAt H671 ⟨b656, 0, none⟩ r618.toList fun H672 => r670.size = 3 ∧ stAt H672 ⟨b614, 0, none⟩ r670.toList fun H673 => J55 [.pointer (some ⟨b666, 0, none⟩), .pointer (some ⟨b656, 0, none⟩), .pointer (some ⟨b614, 0, none⟩)] H673))) ∧ (alc H615 (.cells #[.int .i64 0, .int .i64 0, .slice none 0 0] 34) fun b677 H678 => (Ext H615 H678 ∨ (∃ v714, v714.size = 4 ∧ rowIn H678 ⟨b46, 0, none⟩ v714 ∧ Value.agg v714 = .agg v89) ∧ (∃ v715, v715.size = 4 ∧ rowIn H678 ⟨b38, 0, none⟩ v715 ∧ Value.agg v715 = .agg v88)) ∧ (Tryz.C 11 #[.agg v88] H678 fun r679 H680 => ∃ r681, r679 = .agg r681 ∧ (Ext H678 H680 ∨ (∃ v699, v699.size = 4 ∧ rowIn H680 ⟨b46, 0, none⟩ v699 ∧ Value.agg v699 = .agg v89)) ∧ (Tryz.C 11 #[.agg v89] H680 fun r682 H683 => ∃ r684, r682 = .agg r684 ∧ alc H683 (.cells #[.int .i64 0, .int .i64 0, .slice none 0 0] 34) fun b685 H686 => r92.size = 3 ∧ stAt H686 ⟨b677, 0, none⟩ r92.toList fun H687 => r681.size = 3 ∧ stAt H687 ⟨b685, 0, none⟩ r681.toList fun H688 => r684.size = 3 ∧ stAt H688 ⟨b614, 0, none⟩ r684.toList fun H689 => J55 [.pointer (some ⟨b677, 0, none⟩), .pointer (some ⟨b685, 0, none⟩), .pointer (some ⟨b614, 0, none⟩)] H689) ∧ (alc H680 (.cells #[.int .i64 0, .int .i64 0, .slice none 0 0] 34) fun b690 H691 => (Ext H680 H691 ∨ (∃ v698, v698.size = 4 ∧ rowIn H691 ⟨b46, 0, none⟩ v698 ∧ Value.agg v698 = .agg v89)) ∧ Tryz.C 11 #[.agg v89] H691 fun r692 H693 => ∃ r694, r692 = .agg r694 ∧ r92.size = 3 ∧ stAt H693 ⟨b677, 0, none⟩ r92.toList fun H695 => r681.size = 3 ∧ stAt H695 ⟨b690, 0, none⟩ r681.toList fun H696 => r694.size = 3 ∧ stAt H696 ⟨b614, 0, none⟩ r694.toList fun H697 => J55 [.pointer (some ⟨b677, 0, none⟩), .pointer (some ⟨b690, 0, none⟩), .pointer (some ⟨b614, 0, none⟩)] H697)) ∧ (alc H678 (.cells #[.int .i64 0, .int .i64 0, .slice none 0 0] 34) fun b700 H701 => (Ext H678 H701 ∨ (∃ v712, v712.size = 4 ∧ rowIn H701 ⟨b46, 0, none⟩ v712 ∧ Value.agg v712 = .agg v89) ∧ (∃ v713, v713.size = 4 ∧ rowIn H701 ⟨b38, 0, none⟩ v713 ∧ Value.agg v713 = .agg v88)) ∧ Tryz.C 11 #[.agg v88] H701 fun r702 H703 => ∃ r704, r702 = .agg r704 ∧ (Ext H701 H703 ∨ (∃ v711, v711.size = 4 ∧ rowIn H703 ⟨b46, 0, none⟩ v711 ∧ Value.agg v711 = .agg v89)) ∧ Tryz.C 11 #[.agg v89] H703 fun r705 H706 => ∃ r707, r705 = .agg r707 ∧ r92.size = 3 ∧ stAt H706 ⟨b677, 0, none⟩ r92.toList fun H708 => r704.size = 3 ∧ stAt H708 ⟨b700, 0, none⟩ r704.toList fun H709 => r707.size = 3 ∧ stAt H709 ⟨b614, 0, none⟩ r707.toList fun H710 => J55 [.pointer (some ⟨b677, 0, none⟩), .pointer (some ⟨b700, 0, none⟩), .pointer (some ⟨b614, 0, none⟩)] H710)) ∧ (alc H615 (.cells #[.int .i64 0, .int .i64 0, .slice none 0 0] 34) fun b716 H717 => (Ext H615 H717 ∨ (∃ v753, v753.size = 4 ∧ rowIn H717 ⟨b46, 0, none⟩ v753 ∧ Value.agg v753 = .agg v89) ∧ (∃ v754, v754.size = 4 ∧ rowIn H717 ⟨b38, 0, none⟩ v754 ∧ Value.agg v754 = .agg v88)) ∧ (Tryz.C 11 #[.agg v88] H717 fun r718 H719 => ∃ r720, r718 = .agg r720 ∧ (Ext H717 H719 ∨ (∃ v738, v738.size = 4 ∧ rowIn H719 ⟨b46, 0, none⟩ v738 ∧ Value.agg v738 = .agg v89)) ∧ (Tryz.C 11 #[.agg v89] H719 fun r721 H722 => ∃ r723, r721 = .agg r723 ∧ alc H722 (.cells #[.int .i64 0, .int .i64 0, .slice none 0 0] 34) fun b724 H725 => r92.size = 3 ∧ stAt H725 ⟨b724, 0, none⟩ r92.toList fun H726 => r720.size = 3 ∧ stAt H726 ⟨b716, 0, none⟩ r720.toList fun H727 => r723.size = 3 ∧ stAt H727 ⟨b614, 0, none⟩ r723.toList fun H728 => J55 [.pointer (some ⟨b724, 0, none⟩), .pointer (some ⟨b716, 0, none⟩), .pointer (some ⟨b614, 0, none⟩)] H728) ∧ (alc H719 (.cells #[.int .i64 0, .int .i64 0, .slice none 0 0] 34) fun b729 H730 => (Ext H719 H730 ∨ (∃ v737, v737.size = 4 ∧ rowIn H730 ⟨b46, 0, none⟩ v737 ∧ Value.agg v737 = .agg v89)) ∧ Tryz.C 11 #[.agg v89] H730 fun r731 H732 => ∃ r733, r731 = .agg r733 ∧ r92.size = 3 ∧ stAt H732 ⟨b729, 0, none⟩ r92.toList fun H734 => r720.size = 3 ∧ stAt H734 ⟨b716, 0, none⟩ r720.toList fun H735 => r733.size = 3 ∧ stAt H735 ⟨b614, 0, none⟩ r733.toList fun H736 => J55 [.pointer (some ⟨b729, 0, none⟩), .pointer (some ⟨b716, 0, none⟩), .pointer (some ⟨b614, 0, none⟩)] H736)) ∧ (alc H717 (.cells #[.int .i64 0, .int .i64 0, .slice none 0 0] 34) fun b739 H740 => (Ext H717 H740 ∨ (∃ v751, v751.size = 4 ∧ rowIn H740 ⟨b46, 0, none⟩ v751 ∧ Value.agg v751 = .agg v89) ∧ (∃ v752, v752.size = 4 ∧ rowIn H740 ⟨b38, 0, none⟩ v752 ∧ Value.agg v752 = .agg v88)) ∧ Tryz.C 11 #[.agg v88] H740 fun r741 H742 => ∃ r743, r741 = .agg r743 ∧ (Ext H740 H742 ∨ (∃ v750, v750.size = 4 ∧ rowIn H742 ⟨b46, 0, none⟩ v750 ∧ Value.agg v750 = .agg v89)) ∧ Tryz.C 11 #[.agg v89] H742 fun r744 H745 => ∃ r746, r744 = .agg r746 ∧ r92.size = 3 ∧ stAt H745 ⟨b739, 0, none⟩ r92.toList fun H747 => r743.size = 3 ∧ stAt H747 ⟨b716, 0, none⟩ r743.toList fun H748 => r746.size = 3 ∧ stAt H748 ⟨b614, 0, none⟩ r746.toList fun H749 => J55 [.pointer (some ⟨b739, 0, none⟩), .pointer (some ⟨b716, 0, none⟩), .pointer (some ⟨b614, 0, none⟩)] H749)))) ∧ (alc H54 (.cells #[.int .i64 0, .int .i64 0, .slice none 0 0] 34) fun b759 H760 => (Ext H54 H760 ∨ (∃ v1035, v1035.size = 4 ∧ rowIn H760 ⟨b46, 0, none⟩ v1035 ∧ Value.agg v1035 = .agg v89) ∧ (∃ v1036, v1036.size = 4 ∧ rowIn H760 ⟨b38, 0, none⟩ v1036 ∧ Value.agg v1036 = .agg v88) ∧ (∃ v1037, v1037.size = 4 ∧ rowIn H760 ⟨b11, 0, none⟩ v1037 ∧ Value.agg v1037 = .agg v87)) ∧ (Tryz.C 11 #[.agg v87] H760 fun r761 H762 => ∃ r763, r761 = .agg r763 ∧ (Ext H760 H762 ∨ (∃ v903, v903.size = 4 ∧ rowIn H762 ⟨b46, 0, none⟩ v903 ∧ Value.agg v903 = .agg v89) ∧ (∃ v904, v904.size = 4 ∧ rowIn H762 ⟨b38, 0, none⟩ v904 ∧ Value.agg v904 = .agg v88)) ∧ (Tryz.C 11 #[.agg v88] H762 fun r764 H765 => ∃ r766, r764 = .agg r766 ∧ (Ext H762 H765 ∨ (∃ v824, v824.size = 4 ∧ rowIn H765 ⟨b46, 0, none⟩ v824 ∧ Value.agg v824 = .agg v89)) ∧ (Tryz.C 11 #[.agg v89] H765 fun r767 H768 => ∃ r769, r767 = .agg r769 ∧ (alc H768 (.cells #[.int .i64 0, .int .i64 0, .slice none 0 0] 34) fun b770 H771 => alc H771 (.cells #[.int .i64 0, .int .i64 0, .slice none 0 0] 34) fun b772 H773 => r763.size = 3 ∧ stAt H773 ⟨b759, 0, none⟩ r763.toList fun H774 => r766.size = 3 ∧ stAt H774 ⟨b770, 0, none⟩ r766.toList fun H775 => r769.size = 3 ∧ stAt H775 ⟨b772, 0, none⟩ r769.toList fun H776 => J55 [.pointer (some ⟨b759, 0, none⟩), .pointer (some ⟨b770, 0, none⟩), .pointer (some ⟨b772, 0, none⟩)] H776) ∧ (alc H768 (.cells #[.int .i64 0, .int .i64 0, .slice none 0 0] 34) fun b777 H778 => alc H778 (.cells #[.int .i64 0, .int .i64 0, .slice none 0 0] 34) fun b779 H780 => r763.size = 3 ∧ stAt H780 ⟨b759, 0, none⟩ r763.toList fun H781 => r766.size = 3 ∧ stAt H781 ⟨b779, 0, none⟩ r766.toList fun H782 => r769.size = 3 ∧ stAt H782 ⟨b777, 0, none⟩ r769.toList fun H783 => J55 [.pointer (some ⟨b759, 0, none⟩), .pointer (some ⟨b779, 0, none⟩), .pointer (some ⟨b777, 0, none⟩)] H783)) ∧ (alc H765 (.cells #[.int .i64 0, .int .i64 0, .slice none 0 0] 34) fun b784 H785 => (Ext H765 H785 ∨ (∃ v803, v803.size = 4 ∧ rowIn H785 ⟨b46, 0, none⟩ v803 ∧ Value.agg v803 = .agg v89)) ∧ (Tryz.C 11 #[.agg v89] H785 fun r786 H787 => ∃ r788, r786 = .agg r788 ∧ alc H787 (.cells #[.int .i64 0, .int .i64 0, .slice none 0 0] 34) fun b789 H790 => r763.size = 3 ∧ stAt H790 ⟨b759, 0, none⟩ r763.toList fun H791 => r766.size = 3 ∧ stAt H791 ⟨b784, 0, none⟩ r766.toList fun H792 => r788.size = 3 ∧ stAt H792 ⟨b789, 0, none⟩ r788.toList fun H793 => J55 [.pointer (some ⟨b759, 0, none⟩), .pointer (some ⟨b784, 0, none⟩), .pointer (some ⟨b789, 0, none⟩)] H793) ∧ (alc H785 (.cells #[.int .i64 0, .int .i64 0, .slice none 0 0] 34) fun b794 H795 => (Ext H785 H795 ∨ (∃ v802, v802.size = 4 ∧ rowIn H795 ⟨b46, 0, none⟩ v802 ∧ Value.agg v802 = .agg v89)) ∧ Tryz.C 11 #[.agg v89] H795 fun r796 H797 => ∃ r798, r796 = .agg r798 ∧ r763.size = 3 ∧ stAt H797 ⟨b759, 0, none⟩ r763.toList fun H799 => r766.size = 3 ∧ stAt H799 ⟨b784, 0, none⟩ r766.toList fun H800 => r798.size = 3 ∧ stAt H800 ⟨b794, 0, none⟩ r798.toList fun H801 => J55 [.pointer (some ⟨b759, 0, none⟩), .pointer (some ⟨b784, 0, none⟩), .pointer (some ⟨b794, 0, none⟩)] H801)) ∧ (alc H765 (.cells #[.int .i64 0, .int .i64 0, .slice none 0 0] 34) fun b804 H805 => (Ext H765 H805 ∨ (∃ v823, v823.size = 4 ∧ rowIn H805 ⟨b46, 0, none⟩ v823 ∧ Value.agg v823 = .agg v89)) ∧ (Tryz.C 11 #[.agg v89] H805 fun r806 H807 => ∃ r808, r806 = .agg r808 ∧ alc H807 (.cells #[.int .i64 0, .int .i64 0, .slice none 0 0] 34) fun b809 H810 => r763.size = 3 ∧ stAt H810 ⟨b759, 0, none⟩ r763.toList fun H811 => r766.size = 3 ∧ stAt H811 ⟨b809, 0, none⟩ r766.toList fun H812 => r808.size = 3 ∧ stAt H812 ⟨b804, 0, none⟩ r808.toList fun H813 => J55 [.pointer (some ⟨b759, 0, none⟩), .pointer (some ⟨b809, 0, none⟩), .pointer (some ⟨b804, 0, none⟩)] H813) ∧ (alc H805 (.cells #[.int .i64 0, .int .i64 0, .slice none 0 0] 34) fun b814 H815 => (Ext H805 H815 ∨ (∃ v822, v822.size = 4 ∧ rowIn H815 ⟨b46, 0, none⟩ v822 ∧ Value.agg v822 = .agg v89)) ∧ Tryz.C 11 #[.agg v89] H815 fun r816 H817 => ∃ r818, r816 = .agg r818 ∧ r763.size = 3 ∧ stAt H817 ⟨b759, 0, none⟩ r763.toList fun H819 => r766.size = 3 ∧ stAt H819 ⟨b814, 0, none⟩ r766.toList fun H820 => r818.size = 3 ∧ stAt H820 ⟨b804, 0, none⟩ r818.toList fun H821 => J55 [.pointer (some ⟨b759, 0, none⟩), .pointer (some ⟨b814, 0, none⟩), .pointer (some ⟨b804, 0, none⟩)] H821))) ∧ (alc H762 (.cells #[.int .i64 0, .int .i64 0, .slice none 0 0] 34) fun b825 H826 => (Ext H762 H826 ∨ (∃ v862, v862.size = 4 ∧ rowIn H826 ⟨b46, 0, none⟩ v862 ∧ Value.agg v862 = .agg v89) ∧ (∃ v863, v863.size = 4 ∧ rowIn H826 ⟨b38, 0, none⟩ v863 ∧ Value.agg v863 = .agg v88)) ∧ (Tryz.C 11 #[.agg v88] H826 fun r827 H828 => ∃ r829, r827 = .agg r829 ∧ (Ext H826 H828 ∨ (∃ v847, v847.size = 4 ∧ rowIn H828 ⟨b46, 0, none⟩ v847 ∧ Value.agg v847 = .agg v89)) ∧ (Tryz.C 11 #[.agg v89] H828 fun r830 H831 => ∃ r832, r830 = .agg r832 ∧ alc H831 (.cells #[.int .i64 0, .int .i64 0, .slice none 0 0] 34) fun b833 H834 => r763.size = 3 ∧ stAt H834 ⟨b759, 0, none⟩ r763.toList fun H835 => r829.size = 3 ∧ stAt H835 ⟨b825, 0, none⟩ r829.toList fun H836 => r832.size = 3 ∧ stAt H836 ⟨b833, 0, none⟩ r832.toList fun H837 => J55 [.pointer (some ⟨b759, 0, none⟩), .pointer (some ⟨b825, 0, none⟩), .pointer (some ⟨b833, 0, none⟩)] H837) ∧ (alc H828 (.cells #[.int .i64 0, .int .i64 0, .slice none 0 0] 34) fun b838 H839 => (Ext H828 H839 ∨ (∃ v846, v846.size = 4 ∧ rowIn H839 ⟨b46, 0, none⟩ v846 ∧ Value.agg v846 = .agg v89)) ∧ Tryz.C 11 #[.agg v89] H839 fun r840 H841 => ∃ r842, r840 = .agg r842 ∧ r763.size = 3 ∧ stAt H841 ⟨b759, 0, none⟩ r763.toList fun H843 => r829.size = 3 ∧ stAt H843 ⟨b825, 0, none⟩ r829.toList fun H844 => r842.size = 3 ∧ stAt H844 ⟨b838, 0, none⟩ r842.toList fun H845 => J55 [.pointer (some ⟨b759, 0, none⟩), .pointer (some ⟨b825, 0, none⟩), .pointer (some ⟨b838, 0, none⟩)] H845)) ∧ (alc H826 (.cells #[.int .i64 0, .int .i64 0, .slice none 0 0] 34) fun b848 H849 => (Ext H826 H849 ∨ (∃ v860, v860.size = 4 ∧ rowIn H849 ⟨b46, 0, none⟩ v860 ∧ Value.agg v860 = .agg v89) ∧ (∃ v861, v861.size = 4 ∧ rowIn H849 ⟨b38, 0, none⟩ v861 ∧ Value.agg v861 = .agg v88)) ∧ Tryz.C 11 #[.agg v88] H849 fun r850 H851 => ∃ r852, r850 = .agg r852 ∧ (Ext H849 H851 ∨ (∃ v859, v859.size = 4 ∧ rowIn H851 ⟨b46, 0, none⟩ v859 ∧ Value.agg v859 = .agg v89)) ∧ Tryz.C 11 #[.agg v89] H851 fun r853 H854 => ∃ r855, r853 = .agg r855 ∧ r763.size = 3 ∧ stAt H854 ⟨b759, 0, none⟩ r763.toList fun H856 => r852.size = 3 ∧ stAt H856 ⟨b825, 0, none⟩ r852.toList fun H857 => r855.size = 3 ∧ stAt H857 ⟨b848, 0, none⟩ r855.toList fun H858 => J55 [.pointer (some ⟨b759, 0, none⟩), .pointer (some ⟨b825, 0, none⟩), .pointer (some ⟨b848, 0, none⟩)] H858)) ∧ (alc H762 (.cells #[.int .i64 0, .int .i64 0, .slice none 0 0] 34) fun b864 H865 => (Ext H762 H865 ∨ (∃ v901, v901.size = 4 ∧ rowIn H865 ⟨b46, 0, none⟩ v901 ∧ Value.agg v901 = .agg v89) ∧ (∃ v902, v902.size = 4 ∧ rowIn H865 ⟨b38, 0, none⟩ v902 ∧ Value.agg v902 = .agg v88)) ∧ (Tryz.C 11 #[.agg v88] H865 fun r866 H867 => ∃ r868, r866 = .agg r868 ∧ (Ext H865 H867 ∨ (∃ v886, v886.size = 4 ∧ rowIn H867 ⟨b46, 0, none⟩ v886 ∧ Value.agg v886 = .agg v89)) ∧ (Tryz.C 11 #[.agg v89] H867 fun r869 H870 => ∃ r871, r869 = .agg r871 ∧ alc H870 (.cells #[.int .i64 0, .int .i64 0, .slice none 0 0] 34) fun b872 H873 => r763.size = 3 ∧ stAt H873 ⟨b759, 0, none⟩ r763.toList fun H874 => r868.size = 3 ∧ stAt H874 ⟨b872, 0, none⟩ r868.toList fun H875 => r871.size = 3 ∧ stAt H875 ⟨b864, 0, none⟩ r871.toList fun H876 => J55 [.pointer (some ⟨b759, 0, none⟩), .pointer (some ⟨b872, 0, none⟩), .pointer (some ⟨b864, 0, none⟩)] H876) ∧ (alc H867 (.cells #[.int .i64 0, .int .i64 0, .slice none 0 0] 34) fun b877 H878 => (Ext H867 H878 ∨ (∃ v885, v885.size = 4 ∧ rowIn H878 ⟨b46, 0, none⟩ v885 ∧ Value.agg v885 = .agg v89)) ∧ Tryz.C 11 #[.agg v89] H878 fun r879 H880 => ∃ r881, r879 = .agg r881 ∧ r763.size = 3 ∧ stAt H880 ⟨b759, 0, none⟩ r763.toList fun H882 => r868.size = 3 ∧ stAt H882 ⟨b877, 0, none⟩ r868.toList fun H883 => r881.size = 3 ∧ stAt H883 ⟨b864, 0, none⟩ r881.toList fun H884 => J55 [.pointer (some ⟨b759, 0, none⟩), .pointer (some ⟨b877, 0, none⟩), .pointer (some ⟨b864, 0, none⟩)] H884)) ∧ (alc H865 (.cells #[.int .i64 0, .int .i64 0, .slice none 0 0] 34) fun b887 H888 => (Ext H865 H888 ∨ (∃ v899, v899.size = 4 ∧ rowIn H888 ⟨b46, 0, none⟩ v899 ∧ Value.agg v899 = .agg v89) ∧ (∃ v900, v900.size = 4 ∧ rowIn H888 ⟨b38, 0, none⟩ v900 ∧ Value.agg v900 = .agg v88)) ∧ Tryz.C 11 #[.agg v88] H888 fun r889 H890 => ∃ r891, r889 = .agg r891 ∧ (Ext H888 H890 ∨ (∃ v898, v898.size = 4 ∧ rowIn H890 ⟨b46, 0, none⟩ v898 ∧ Value.agg v898 = .agg v89)) ∧ Tryz.C 11 #[.agg v89] H890 fun r892 H893 => ∃ r894, r892 = .agg r894 ∧ r763.size = 3 ∧ stAt H893 ⟨b759, 0, none⟩ r763.toList fun H895 => r891.size = 3 ∧ stAt H895 ⟨b887, 0, none⟩ r891.toList fun H896 => r894.size = 3 ∧ stAt H896 ⟨b864, 0, none⟩ r894.toList fun H897 => J55 [.pointer (some ⟨b759, 0, none⟩), .pointer (some ⟨b887, 0, none⟩), .pointer (some ⟨b864, 0, none⟩)] H897))) ∧ (alc H760 (.cells #[.int .i64 0, .int .i64 0, .slice none 0 0] 34) fun b905 H906 => (Ext H760 H906 ∨ (∃ v967, v967.size = 4 ∧ rowIn H906 ⟨b46, 0, none⟩ v967 ∧ Value.agg v967 = .agg v89) ∧ (∃ v968, v968.size = 4 ∧ rowIn H906 ⟨b38, 0, none⟩ v968 ∧ Value.agg v968 = .agg v88) ∧ (∃ v969, v969.size = 4 ∧ rowIn H906 ⟨b11, 0, none⟩ v969 ∧ Value.agg v969 = .agg v87)) ∧ (Tryz.C 11 #[.agg v87] H906 fun r907 H908 => ∃ r909, r907 = .agg r909 ∧ (Ext H906 H908 ∨ (∃ v945, v945.size = 4 ∧ rowIn H908 ⟨b46, 0, none⟩ v945 ∧ Value.agg v945 = .agg v89) ∧ (∃ v946, v946.size = 4 ∧ rowIn H908 ⟨b38, 0, none⟩ v946 ∧ Value.agg v946 = .agg v88)) ∧ (Tryz.C 11 #[.agg v88] H908 fun r910 H911 => ∃ r912, r910 = .agg r912 ∧ (Ext H908 H911 ∨ (∃ v930, v930.size = 4 ∧ rowIn H911 ⟨b46, 0, none⟩ v930 ∧ Value.agg v930 = .agg v89)) ∧ (Tryz.C 11 #[.agg v89] H911 fun r913 H914 => ∃ r915, r913 = .agg r915 ∧ alc H914 (.cells #[.int .i64 0, .int .i64 0, .slice none 0 0] 34) fun b916 H917 => r909.size = 3 ∧ stAt H917 ⟨b759, 0, none⟩ r909.toList fun H918 => r912.size = 3 ∧ stAt H918 ⟨b905, 0, none⟩ r912.toList fun H919 => r915.size = 3 ∧ stAt H919 ⟨b916, 0, none⟩ r915.toList fun H920 => J55 [.pointer (some ⟨b759, 0, none⟩), .pointer (some ⟨b905, 0, none⟩), .pointer (some ⟨b916, 0, none⟩)] H920) ∧ (alc H911 (.cells #[.int .i64 0, .int .i64 0, .slice none 0 0] 34) fun b921 H922 => (Ext H911 H922 ∨ (∃ v929, v929.size = 4 ∧ rowIn H922 ⟨b46, 0, none⟩ v929 ∧ Value.agg v929 = .agg v89)) ∧ Tryz.C 11 #[.agg v89] H922 fun r923 H924 => ∃ r925, r923 = .agg r925 ∧ r909.size = 3 ∧ stAt H924 ⟨b759, 0, none⟩ r909.toList fun H926 => r912.size = 3 ∧ stAt H926 ⟨b905, 0, none⟩ r912.toList fun H927 => r925.size = 3 ∧ stAt H927 ⟨b921, 0, none⟩ r925.toList fun H928 => J55 [.pointer (some ⟨b759, 0, none⟩), .pointer (some ⟨b905, 0, none⟩), .pointer (some ⟨b921, 0, none⟩)] H928)) ∧ (alc H908 (.cells #[.int .i64 0, .int .i64 0, .slice none 0 0] 34) fun b931 H932 => (Ext H908 H932 ∨ (∃ v943, v943.size = 4 ∧ rowIn H932 ⟨b46, 0, none⟩ v943 ∧ Value.agg v943 = .agg v89) ∧ (∃ v944, v944.size = 4 ∧ rowIn H932 ⟨b38, 0, none⟩ v944 ∧ Value.agg v944 = .agg v88)) ∧ Tryz.C 11 #[.agg v88] H932 fun r933 H934 => ∃ r935, r933 = .agg r935 ∧ (Ext H932 H934 ∨ (∃ v942, v942.size = 4 ∧ rowIn H934 ⟨b46, 0, none⟩ v942 ∧ Value.agg v942 = .agg v89)) ∧ Tryz.C 11 #[.agg v89] H934 fun r936 H937 => ∃ r938, r936 = .agg r938 ∧ r909.size = 3 ∧ stAt H937 ⟨b759, 0, none⟩ r909.toList fun H939 => r935.size = 3 ∧ stAt H939 ⟨b905, 0, none⟩ r935.toList fun H940 => r938.size = 3 ∧ stAt H940 ⟨b931, 0, none⟩ r938.toList fun H941 => J55 [.pointer (some ⟨b759, 0, none⟩), .pointer (some ⟨b905, 0, none⟩), .pointer (some ⟨b931, 0, none⟩)] H941)) ∧ (alc H906 (.cells #[.int .i64 0, .int .i64 0, .slice none 0 0] 34) fun b947 H948 => (Ext H906 H948 ∨ (∃ v964, v964.size = 4 ∧ rowIn H948 ⟨b46, 0, none⟩ v964 ∧ Value.agg v964 = .agg v89) ∧ (∃ v965, v965.size = 4 ∧ rowIn H948 ⟨b38, 0, none⟩ v965 ∧ Value.agg v965 = .agg v88) ∧ (∃ v966, v966.size = 4 ∧ rowIn H948 ⟨b11, 0, none⟩ v966 ∧ Value.agg v966 = .agg v87)) ∧ Tryz.C 11 #[.agg v87] H948 fun r949 H950 => ∃ r951, r949 = .agg r951 ∧ (Ext H948 H950 ∨ (∃ v962, v962.size = 4 ∧ rowIn H950 ⟨b46, 0, none⟩ v962 ∧ Value.agg v962 = .agg v89) ∧ (∃ v963, v963.size = 4 ∧ rowIn H950 ⟨b38, 0, none⟩ v963 ∧ Value.agg v963 = .agg v88)) ∧ Tryz.C 11 #[.agg v88] H950 fun r952 H953 => ∃ r954, r952 = .agg r954 ∧ (Ext H950 H953 ∨ (∃ v961, v961.size = 4 ∧ rowIn H953 ⟨b46, 0, none⟩ v961 ∧ Value.agg v961 = .agg v89)) ∧ Tryz.C 11 #[.agg v89] H953 fun r955 H956 => ∃ r957, r955 = .agg r957 ∧ r951.size = 3 ∧ stAt H956 ⟨b759, 0, none⟩ r951.toList fun H958 => r954.size = 3 ∧ stAt H958 ⟨b905, 0, none⟩ r954.toList fun H959 => r957.size = 3 ∧ stAt H959 ⟨b947, 0, none⟩ r957.toList fun H960 => J55 [.pointer (some ⟨b759, 0, none⟩), .pointer (some ⟨b905, 0, none⟩), .pointer (some ⟨b947, 0, none⟩)] H960)) ∧ (alc H760 (.cells #[.int .i64 0, .int .i64 0, .slice none 0 0] 34) fun b970 H971 => (Ext H760 H971 ∨ (∃ v1032, v1032.size = 4 ∧ rowIn H971 ⟨b46, 0, none⟩ v1032 ∧ Value.agg v1032 = .agg v89) ∧ (∃ v1033, v1033.size = 4 ∧ rowIn H971 ⟨b38, 0, none⟩ v1033 ∧ Value.agg v1033 = .agg v88) ∧ (∃ v1034, v1034.size = 4 ∧ rowIn H971 ⟨b11, 0, none⟩ v1034 ∧ Value.agg v1034 = .agg v87)) ∧ (Tryz.C 11 #[.agg v87] H971 fun r972 H973 => ∃ r974, r972 = .agg r974 ∧ (Ext H971 H973 ∨ (∃ v1010, v1010.size = 4 ∧ rowIn H973 ⟨b46, 0, none⟩ v1010 ∧ Value.agg v1010 = .agg v89) ∧ (∃ v1011, v1011.size = 4 ∧ rowIn H973 ⟨b38, 0, none⟩ v1011 ∧ Value.agg v1011 = .agg v88)) ∧ (Tryz.C 11 #[.agg v88] H973 fun r975 H976 => ∃ r977, r975 = .agg r977 ∧ (Ext H973 H976 ∨ (∃ v995, v995.size = 4 ∧ rowIn H976 ⟨b46, 0, none⟩ v995 ∧ Value.agg v995 = .agg v89)) ∧ (Tryz.C 11 #[.agg v89] H976 fun r978 H979 => ∃ r980, r978 = .agg r980 ∧ alc H979 (.cells #[.int .i64 0, .int .i64 0, .slice none 0 0] 34) fun b981 H982 => r974.size = 3 ∧ stAt H982 ⟨b759, 0, none⟩ r974.toList fun H983 => r977.size = 3 ∧ stAt H983 ⟨b981, 0, none⟩ r977.toList fun H984 => r980.size = 3 ∧ stAt H984 ⟨b970, 0, none⟩ r980.toList fun H985 => J55 [.pointer (some ⟨b759, 0, none⟩), .pointer (some ⟨b981, 0, none⟩), .pointer (some ⟨b970, 0, none⟩)] H985) ∧ (alc H976 (.cells #[.int .i64 0, .int .i64 0, .slice none 0 0] 34) fun b986 H987 => (Ext H976 H987 ∨ (∃ v994, v994.size = 4 ∧ rowIn H987 ⟨b46, 0, none⟩ v994 ∧ Value.agg v994 = .agg v89)) ∧ Tryz.C 11 #[.agg v89] H987 fun r988 H989 => ∃ r990, r988 = .agg r990 ∧ r974.size = 3 ∧ stAt H989 ⟨b759, 0, none⟩ r974.toList fun H991 => r977.size = 3 ∧ stAt H991 ⟨b986, 0, none⟩ r977.toList fun H992 => r990.size = 3 ∧ stAt H992 ⟨b970, 0, none⟩ r990.toList fun H993 => J55 [.pointer (some ⟨b759, 0, none⟩), .pointer (some ⟨b986, 0, none⟩), .pointer (some ⟨b970, 0, none⟩)] H993)) ∧ (alc H973 (.cells #[.int .i64 0, .int .i64 0, .slice none 0 0] 34) fun b996 H997 => (Ext H973 H997 ∨ (∃ v1008, v1008.size = 4 ∧ rowIn H997 ⟨b46, 0, none⟩ v1008 ∧ Value.agg v1008 = .agg v89) ∧ (∃ v1009, v1009.size = 4 ∧ rowIn H997 ⟨b38, 0, none⟩ v1009 ∧ Value.agg v1009 = .agg v88)) ∧ Tryz.C 11 #[.agg v88] H997 fun r998 H999 => ∃ r1000, r998 = .agg r1000 ∧ (Ext H997 H999 ∨ (∃ v1007, v1007.size = 4 ∧ rowIn H999 ⟨b46, 0, none⟩ v1007 ∧ Value.agg v1007 = .agg v89)) ∧ Tryz.C 11 #[.agg v89] H999 fun r1001 H1002 => ∃ r1003, r1001 = .agg r1003 ∧ r974.size = 3 ∧ stAt H1002 ⟨b759, 0, none⟩ r974.toList fun H1004 => r1000.size = 3 ∧ stAt H1004 ⟨b996, 0, none⟩ r1000.toList fun H1005 => r1003.size = 3 ∧ stAt H1005 ⟨b970, 0, none⟩ r1003.toList fun H1006 => J55 [.pointer (some ⟨b759, 0, none⟩), .pointer (some ⟨b996, 0, none⟩), .pointer (some ⟨b970, 0, none⟩)] H1006)) ∧ (alc H971 (.cells #[.int .i64 0, .int .i64 0, .slice none 0 0] 34) fun b1012 H1013 => (Ext H971 H1013 ∨ (∃ v1029, v1029.size = 4 ∧ rowIn H1013 ⟨b46, 0, none⟩ v1029 ∧ Value.agg v1029 = .agg v89) ∧ (∃ v1030, v1030.size = 4 ∧ rowIn H1013 ⟨b38, 0, none⟩ v1030 ∧ Value.agg v1030 = .agg v88) ∧ (∃ v1031, v1031.size = 4 ∧ rowIn H1013 ⟨b11, 0, none⟩ v1031 ∧ Value.agg v1031 = .agg v87)) ∧ Tryz.C 11 #[.agg v87] H1013 fun r1014 H1015 => ∃ r1016, r1014 = .agg r1016 ∧ (Ext H1013 H1015 ∨ (∃ v1027, v1027.size = 4 ∧ rowIn H1015 ⟨b46, 0, none⟩ v1027 ∧ Value.agg v1027 = .agg v89) ∧ (∃ v1028, v1028.size = 4 ∧ rowIn H1015 ⟨b38, 0, none⟩ v1028 ∧ Value.agg v1028 = .agg v88)) ∧ Tryz.C 11 #[.agg v88] H1015 fun r1017 H1018 => ∃ r1019, r1017 = .agg r1019 ∧ (Ext H1015 H1018 ∨ (∃ v1026, v1026.size = 4 ∧ rowIn H1018 ⟨b46, 0, none⟩ v1026 ∧ Value.agg v1026 = .agg v89)) ∧ Tryz.C 11 #[.agg v89] H1018 fun r1020 H1021 => ∃ r1022, r1020 = .agg r1022 ∧ r1016.size = 3 ∧ stAt H1021 ⟨b759, 0, none⟩ r1016.toList fun H1023 => r1019.size = 3 ∧ stAt H1023 ⟨b1012, 0, none⟩ r1019.toList fun H1024 => r1022.size = 3 ∧ stAt H1024 ⟨b970, 0, none⟩ r1022.toList fun H1025 => J55 [.pointer (some ⟨b759, 0, none⟩), .pointer (some ⟨b1012, 0, none⟩), .pointer (some ⟨b970, 0, none⟩)] H1025))) ∧ (alc H54 (.cells #[.int .i64 0, .int .i64 0, .slice none 0 0] 34) fun b1038 H1039 => (Ext H54 H1039 ∨ (∃ v1314, v1314.size = 4 ∧ rowIn H1039 ⟨b46, 0, none⟩ v1314 ∧ Value.agg v1314 = .agg v89) ∧ (∃ v1315, v1315.size = 4 ∧ rowIn H1039 ⟨b38, 0, none⟩ v1315 ∧ Value.agg v1315 = .agg v88) ∧ (∃ v1316, v1316.size = 4 ∧ rowIn H1039 ⟨b11, 0, none⟩ v1316 ∧ Value.agg v1316 = .agg v87)) ∧ (Tryz.C 11 #[.agg v87] H1039 fun r1040 H1041 => ∃ r1042, r1040 = .agg r1042 ∧ (Ext H1039 H1041 ∨ (∃ v1182, v1182.size = 4 ∧ rowIn H1041 ⟨b46, 0, none⟩ v1182 ∧ Value.agg v1182 = .agg v89) ∧ (∃ v1183, v1183.size = 4 ∧ rowIn H1041 ⟨b38, 0, none⟩ v1183 ∧ Value.agg v1183 = .agg v88)) ∧ (Tryz.C 11 #[.agg v88] H1041 fun r1043 H1044 => ∃ r1045, r1043 = .agg r1045 ∧ (Ext H1041 H1044 ∨ (∃ v1103, v1103.size = 4 ∧ rowIn H1044 ⟨b46, 0, none⟩ v1103 ∧ Value.agg v1103 = .agg v89)) ∧ (Tryz.C 11 #[.agg v89] H1044 fun r1046 H1047 => ∃ r1048, r1046 = .agg r1048 ∧ (alc H1047 (.cells #[.int .i64 0, .int .i64 0, .slice none 0 0] 34) fun b1049 H1050 => alc H1050 (.cells #[.int .i64 0, .int .i64 0, .slice none 0 0] 34) fun b1051 H1052 => r1042.size = 3 ∧ stAt H1052 ⟨b1049, 0, none⟩ r1042.toList fun H1053 => r1045.size = 3 ∧ stAt H1053 ⟨b1038, 0, none⟩ r1045.toList fun H1054 => r1048.size = 3 ∧ stAt H1054 ⟨b1051, 0, none⟩ r1048.toList fun H1055 => J55 [.pointer (some ⟨b1049, 0, none⟩), .pointer (some ⟨b1038, 0, none⟩), .pointer (some ⟨b1051, 0, none⟩)] H1055) ∧ (alc H1047 (.cells #[.int .i64 0, .int .i64 0, .slice none 0 0] 34) fun b1056 H1057 => alc H1057 (.cells #[.int .i64 0, .int .i64 0, .slice none 0 0] 34) fun b1058 H1059 => r1042.size = 3 ∧ stAt H1059 ⟨b1058, 0, none⟩ r1042.toList fun H1060 => r1045.size = 3 ∧ stAt H1060 ⟨b1038, 0, none⟩ r1045.toList fun H1061 => r1048.size = 3 ∧ stAt H1061 ⟨b1056, 0, none⟩ r1048.toList fun H1062 => J55 [.pointer (some ⟨b1058, 0, none⟩), .pointer (some ⟨b1038, 0, none⟩), .pointer (some ⟨b1056, 0, none⟩)] H1062)) ∧ (alc H1044 (.cells #[.int .i64 0, .int .i64 0, .slice none 0 0] 34) fun b1063 H1064 => (Ext H1044 H1064 ∨ (∃ v1082, v1082.size = 4 ∧ rowIn H1064 ⟨b46, 0, none⟩ v1082 ∧ Value.agg v1082 = .agg v89)) ∧ (Tryz.C 11 #[.agg v89] H1064 fun r1065 H1066 => ∃ r1067, r1065 = .agg r1067 ∧ alc H1066 (.cells #[.int .i64 0, .int .i64 0, .slice none 0 0] 34) fun b1068 H1069 => r1042.size = 3 ∧ stAt H1069 ⟨b1063, 0, none⟩ r1042.toList fun H1070 => r1045.size = 3 ∧ stAt H1070 ⟨b1038, 0, none⟩ r1045.toList fun H1071 => r1067.size = 3 ∧ stAt H1071 ⟨b1068, 0, none⟩ r1067.toList fun H1072 => J55 [.pointer (some ⟨b1063, 0, none⟩), .pointer (some ⟨b1038, 0, none⟩), .pointer (some ⟨b1068, 0, none⟩)] H1072) ∧ (alc H1064 (.cells #[.int .i64 0, .int .i64 0, .slice none 0 0] 34) fun b1073 H1074 => (Ext H1064 H1074 ∨ (∃ v1081, v1081.size = 4 ∧ rowIn H1074 ⟨b46, 0, none⟩ v1081 ∧ Value.agg v1081 = .agg v89)) ∧ Tryz.C 11 #[.agg v89] H1074 fun r1075 H1076 => ∃ r1077, r1075 = .agg r1077 ∧ r1042.size = 3 ∧ stAt H1076 ⟨b1063, 0, none⟩ r1042.toList fun H1078 => r1045.size = 3 ∧ stAt H1078 ⟨b1038, 0, none⟩ r1045.toList fun H1079 => r1077.size = 3 ∧ stAt H1079 ⟨b1073, 0, none⟩ r1077.toList fun H1080 => J55 [.pointer (some ⟨b1063, 0, none⟩), .pointer (some ⟨b1038, 0, none⟩), .pointer (some ⟨b1073, 0, none⟩)] H1080)) ∧ (alc H1044 (.cells #[.int .i64 0, .int .i64 0, .slice none 0 0] 34) fun b1083 H1084 => (Ext H1044 H1084 ∨ (∃ v1102, v1102.size = 4 ∧ rowIn H1084 ⟨b46, 0, none⟩ v1102 ∧ Value.agg v1102 = .agg v89)) ∧ (Tryz.C 11 #[.agg v89] H1084 fun r1085 H1086 => ∃ r1087, r1085 = .agg r1087 ∧ alc H1086 (.cells #[.int .i64 0, .int .i64 0, .slice none 0 0] 34) fun b1088 H1089 => r1042.size = 3 ∧ stAt H1089 ⟨b1088, 0, none⟩ r1042.toList fun H1090 => r1045.size = 3 ∧ stAt H1090 ⟨b1038, 0, none⟩ r1045.toList fun H1091 => r1087.size = 3 ∧ stAt H1091 ⟨b1083, 0, none⟩ r1087.toList fun H1092 => J55 [.pointer (some ⟨b1088, 0, none⟩), .pointer (some ⟨b1038, 0, none⟩), .pointer (some ⟨b1083, 0, none⟩)] H1092) ∧ (alc H1084 (.cells #[.int .i64 0, .int .i64 0, .slice none 0 0] 34) fun b1093 H1094 => (Ext H1084 H1094 ∨ (∃ v1101, v1101.size = 4 ∧ rowIn H1094 ⟨b46, 0, none⟩ v1101 ∧ Value.agg v1101 = .agg v89)) ∧ Tryz.C 11 #[.agg v89] H1094 fun r1095 H1096 => ∃ r1097, r1095 = .agg r1097 ∧ r1042.size = 3 ∧ stAt H1096 ⟨b1093, 0, none⟩ r1042.toList fun H1098 => r1045.size = 3 ∧ stAt H1098 ⟨b1038, 0, none⟩ r1045.toList fun H1099 => r1097.size = 3 ∧ stAt H1099 ⟨b1083, 0, none⟩ r1097.toList fun H1100 => J55 [.pointer (some ⟨b1093, 0, none⟩), .pointer (some ⟨b1038, 0, none⟩), .pointer (some ⟨b1083, 0, none⟩)] H1100))) ∧ (alc H1041 (.cells #[.int .i64 0, .int .i64 0, .slice none 0 0] 34) fun b1104 H1105 => (Ext H1041 H1105 ∨ (∃ v1141, v1141.size = 4 ∧ rowIn H1105 ⟨b46, 0, none⟩ v1141 ∧ Value.agg v1141 = .agg v89) ∧ (∃ v1142, v1142.size = 4 ∧ rowIn H1105 ⟨b38, 0, none⟩ v1142 ∧ Value.agg v1142 = .agg v88)) ∧ (Tryz.C 11 #[.agg v88] H1105 fun r1106 H1107 => ∃ r1108, r1106 = .agg r1108 ∧ (Ext H1105 H1107 ∨ (∃ v1126, v1126.size = 4 ∧ rowIn H1107 ⟨b46, 0, none⟩ v1126 ∧ Value.agg v1126 = .agg v89)) ∧ (Tryz.C 11 #[.agg v89] H1107 fun r1109 H1110 => ∃ r1111, r1109 = .agg r1111 ∧ alc H1110 (.cells #[.int .i64 0, .int .i64 0, .slice none 0 0] 34) fun b1112 H1113 => r1042.size = 3 ∧ stAt H1113 ⟨b1104, 0, none⟩ r1042.toList fun H1114 => r1108.size = 3 ∧ stAt H1114 ⟨b1038, 0, none⟩ r1108.toList fun H1115 => r1111.size = 3 ∧ stAt H1115 ⟨b1112, 0, none⟩ r1111.toList fun H1116 => J55 [.pointer (some ⟨b1104, 0, none⟩), .pointer (some ⟨b1038, 0, none⟩), .pointer (some ⟨b1112, 0, none⟩)] H1116) ∧ (alc H1107 (.cells #[.int .i64 0, .int .i64 0, .slice none 0 0] 34) fun b1117 H1118 => (Ext H1107 H1118 ∨ (∃ v1125, v1125.size = 4 ∧ rowIn H1118 ⟨b46, 0, none⟩ v1125 ∧ Value.agg v1125 = .agg v89)) ∧ Tryz.C 11 #[.agg v89] H1118 fun r1119 H1120 => ∃ r1121, r1119 = .agg r1121 ∧ r1042.size = 3 ∧ stAt H1120 ⟨b1104, 0, none⟩ r1042.toList fun H1122 => r1108.size = 3 ∧ stAt H1122 ⟨b1038, 0, none⟩ r1108.toList fun H1123 => r1121.size = 3 ∧ stAt H1123 ⟨b1117, 0, none⟩ r1121.toList fun H1124 => J55 [.pointer (some ⟨b1104, 0, none⟩), .pointer (some ⟨b1038, 0, none⟩), .pointer (some ⟨b1117, 0, none⟩)] H1124)) ∧ (alc H1105 (.cells #[.int .i64 0, .int .i64 0, .slice none 0 0] 34) fun b1127 H1128 => (Ext H1105 H1128 ∨ (∃ v1139, v1139.size = 4 ∧ rowIn H1128 ⟨b46, 0, none⟩ v1139 ∧ Value.agg v1139 = .agg v89) ∧ (∃ v1140, v1140.size = 4 ∧ rowIn H1128 ⟨b38, 0, none⟩ v1140 ∧ Value.agg v1140 = .agg v88)) ∧ Tryz.C 11 #[.agg v88] H1128 fun r1129 H1130 => ∃ r1131, r1129 = .agg r1131 ∧ (Ext H1128 H1130 ∨ (∃ v1138, v1138.size = 4 ∧ rowIn H1130 ⟨b46, 0, none⟩ v1138 ∧ Value.agg v1138 = .agg v89)) ∧ Tryz.C 11 #[.agg v89] H1130 fun r1132 H1133 => ∃ r1134, r1132 = .agg r1134 ∧ r1042.size = 3 ∧ stAt H1133 ⟨b1104, 0, none⟩ r1042.toList fun H1135 => r1131.size = 3 ∧ stAt H1135 ⟨b1038, 0, none⟩ r1131.toList fun H1136 => r1134.size = 3 ∧ stAt H1136 ⟨b1127, 0, none⟩ r1134.toList fun H1137 => J55 [.pointer (some ⟨b1104, 0, none⟩), .pointer (some ⟨b1038, 0, none⟩), .pointer (some ⟨b1127, 0, none⟩)] H1137)) ∧ (alc H1041 (.cells #[.int .i64 0, .int .i64 0, .slice none 0 0] 34) fun b1143 H1144 => (Ext H1041 H1144 ∨ (∃ v1180, v1180.size = 4 ∧ rowIn H1144 ⟨b46, 0, none⟩ v1180 ∧ Value.agg v1180 = .agg v89) ∧ (∃ v1181, v1181.size = 4 ∧ rowIn H1144 ⟨b38, 0, none⟩ v1181 ∧ Value.agg v1181 = .agg v88)) ∧ (Tryz.C 11 #[.agg v88] H1144 fun r1145 H1146 => ∃ r1147, r1145 = .agg r1147 ∧ (Ext H1144 H1146 ∨ (∃ v1165, v1165.size = 4 ∧ rowIn H1146 ⟨b46, 0, none⟩ v1165 ∧ Value.agg v1165 = .agg v89)) ∧ (Tryz.C 11 #[.agg v89] H1146 fun r1148 H1149 => ∃ r1150, r1148 = .agg r1150 ∧ alc H1149 (.cells #[.int .i64 0, .int .i64 0, .slice none 0 0] 34) fun b1151 H1152 => r1042.size = 3 ∧ stAt H1152 ⟨b1151, 0, none⟩ r1042.toList fun H1153 => r1147.size = 3 ∧ stAt H1153 ⟨b1038, 0, none⟩ r1147.toList fun H1154 => r1150.size = 3 ∧ stAt H1154 ⟨b1143, 0, none⟩ r1150.toList fun H1155 => J55 [.pointer (some ⟨b1151, 0, none⟩), .pointer (some ⟨b1038, 0, none⟩), .pointer (some ⟨b1143, 0, none⟩)] H1155) ∧ (alc H1146 (.cells #[.int .i64 0, .int .i64 0, .slice none 0 0] 34) fun b1156 H1157 => (Ext H1146 H1157 ∨ (∃ v1164, v1164.size = 4 ∧ rowIn H1157 ⟨b46, 0, none⟩ v1164 ∧ Value.agg v1164 = .agg v89)) ∧ Tryz.C 11 #[.agg v89] H1157 fun r1158 H1159 => ∃ r1160, r1158 = .agg r1160 ∧ r1042.size = 3 ∧ stAt H1159 ⟨b1156, 0, none⟩ r1042.toList fun H1161 => r1147.size = 3 ∧ stAt H1161 ⟨b1038, 0, none⟩ r1147.toList fun H1162 => r1160.size = 3 ∧ stAt H1162 ⟨b1143, 0, none⟩ r1160.toList fun H1163 => J55 [.pointer (some ⟨b1156, 0, none⟩), .pointer (some ⟨b1038, 0, none⟩), .pointer (some ⟨b1143, 0, none⟩)] H1163)) ∧ (alc H1144 (.cells #[.int .i64 0, .int .i64 0, .slice none 0 0] 34) fun b1166 H1167 => (Ext H1144 H1167 ∨ (∃ v1178, v1178.size = 4 ∧ rowIn H1167 ⟨b46, 0, none⟩ v1178 ∧ Value.agg v1178 = .agg v89) ∧ (∃ v1179, v1179.size = 4 ∧ rowIn H1167 ⟨b38, 0, none⟩ v1179 ∧ Value.agg v1179 = .agg v88)) ∧ Tryz.C 11 #[.agg v88] H1167 fun r1168 H1169 => ∃ r1170, r1168 = .agg r1170 ∧ (Ext H1167 H1169 ∨ (∃ v1177, v1177.size = 4 ∧ rowIn H1169 ⟨b46, 0, none⟩ v1177 ∧ Value.agg v1177 = .agg v89)) ∧ Tryz.C 11 #[.agg v89] H1169 fun r1171 H1172 => ∃ r1173, r1171 = .agg r1173 ∧ r1042.size = 3 ∧ stAt H1172 ⟨b1166, 0, none⟩ r1042.toList fun H1174 => r1170.size = 3 ∧ stAt H1174 ⟨b1038, 0, none⟩ r1170.toList fun H1175 => r1173.size = 3 ∧ stAt H1175 ⟨b1143, 0, none⟩ r1173.toList fun H1176 => J55 [.pointer (some ⟨b1166, 0, none⟩), .pointer (some ⟨b1038, 0, none⟩), .pointer (some ⟨b1143, 0, none⟩)] H1176))) ∧ (alc H1039 (.cells #[.int .i64 0, .int .i64 0, .slice none 0 0] 34) fun b1184 H1185 => (Ext H1039 H1185 ∨ (∃ v1246, v1246.size = 4 ∧ rowIn H1185 ⟨b46, 0, none⟩ v1246 ∧ Value.agg v1246 = .agg v89) ∧ (∃ v1247, v1247.size = 4 ∧ rowIn H1185 ⟨b38, 0, none⟩ v1247 ∧ Value.agg v1247 = .agg v88) ∧ (∃ v1248, v1248.size = 4 ∧ rowIn H1185 ⟨b11, 0, none⟩ v1248 ∧ Value.agg v1248 = .agg v87)) ∧ (Tryz.C 11 #[.agg v87] H1185 fun r1186 H1187 => ∃ r1188, r1186 = .agg r1188 ∧ (Ext H1185 H1187 ∨ (∃ v1224, v1224.size = 4 ∧ rowIn H1187 ⟨b46, 0, none⟩ v1224 ∧ Value.agg v1224 = .agg v89) ∧ (∃ v1225, v1225.size = 4 ∧ rowIn H1187 ⟨b38, 0, none⟩ v1225 ∧ Value.agg v1225 = .agg v88)) ∧ (Tryz.C 11 #[.agg v88] H1187 fun r1189 H1190 => ∃ r1191, r1189 = .agg r1191 ∧ (Ext H1187 H1190 ∨ (∃ v1209, v1209.size = 4 ∧ rowIn H1190 ⟨b46, 0, none⟩ v1209 ∧ Value.agg v1209 = .agg v89)) ∧ (Tryz.C 11 #[.agg v89] H1190 fun r1192 H1193 => ∃ r1194, r1192 = .agg r1194 ∧ alc H1193 (.cells #[.int .i64 0, .int .i64 0, .slice none 0 0] 34) fun b1195 H1196 => r1188.size = 3 ∧ stAt H1196 ⟨b1184, 0, none⟩ r1188.toList fun H1197 => r1191.size = 3 ∧ stAt H1197 ⟨b1038, 0, none⟩ r1191.toList fun H1198 => r1194.size = 3 ∧ stAt H1198 ⟨b1195, 0, none⟩ r1194.toList fun H1199 => J55 [.pointer (some ⟨b1184, 0, none⟩), .pointer (some ⟨b1038, 0, none⟩), .pointer (some ⟨b1195, 0, none⟩)] H1199) ∧ (alc H1190 (.cells #[.int .i64 0, .int .i64 0, .slice none 0 0] 34) fun b1200 H1201 => (Ext H1190 H1201 ∨ (∃ v1208, v1208.size = 4 ∧ rowIn H1201 ⟨b46, 0, none⟩ v1208 ∧ Value.agg v1208 = .agg v89)) ∧ Tryz.C 11 #[.agg v89] H1201 fun r1202 H1203 => ∃ r1204, r1202 = .agg r1204 ∧ r1188.size = 3 ∧ stAt H1203 ⟨b1184, 0, none⟩ r1188.toList fun H1205 => r1191.size = 3 ∧ stAt H1205 ⟨b1038, 0, none⟩ r1191.toList fun H1206 => r1204.size = 3 ∧ stAt H1206 ⟨b1200, 0, none⟩ r1204.toList fun H1207 => J55 [.pointer (some ⟨b1184, 0, none⟩), .pointer (some ⟨b1038, 0, none⟩), .pointer (some ⟨b1200, 0, none⟩)] H1207)) ∧ (alc H1187 (.cells #[.int .i64 0, .int .i64 0, .slice none 0 0] 34) fun b1210 H1211 => (Ext H1187 H1211 ∨ (∃ v1222, v1222.size = 4 ∧ rowIn H1211 ⟨b46, 0, none⟩ v1222 ∧ Value.agg v1222 = .agg v89) ∧ (∃ v1223, v1223.size = 4 ∧ rowIn H1211 ⟨b38, 0, none⟩ v1223 ∧ Value.agg v1223 = .agg v88)) ∧ Tryz.C 11 #[.agg v88] H1211 fun r1212 H1213 => ∃ r1214, r1212 = .agg r1214 ∧ (Ext H1211 H1213 ∨ (∃ v1221, v1221.size = 4 ∧ rowIn H1213 ⟨b46, 0, none⟩ v1221 ∧ Value.agg v1221 = .agg v89)) ∧ Tryz.C 11 #[.agg v89] H1213 fun r1215 H1216 => ∃ r1217, r1215 = .agg r1217 ∧ r1188.size = 3 ∧ stAt H1216 ⟨b1184, 0, none⟩ r1188.toList fun H1218 => r1214.size = 3 ∧ stAt H1218 ⟨b1038, 0, none⟩ r1214.toList fun H1219 => r1217.size = 3 ∧ stAt H1219 ⟨b1210, 0, none⟩ r1217.toList fun H1220 => J55 [.pointer (some ⟨b1184, 0, none⟩), .pointer (some ⟨b1038, 0, none⟩), .pointer (some ⟨b1210, 0, none⟩)] H1220)) ∧ (alc H1185 (.cells #[.int .i64 0, .int .i64 0, .slice none 0 0] 34) fun b1226 H1227 => (Ext H1185 H1227 ∨ (∃ v1243, v1243.size = 4 ∧ rowIn H1227 ⟨b46, 0, none⟩ v1243 ∧ Value.agg v1243 = .agg v89) ∧ (∃ v1244, v1244.size = 4 ∧ rowIn H1227 ⟨b38, 0, none⟩ v1244 ∧ Value.agg v1244 = .agg v88) ∧ (∃ v1245, v1245.size = 4 ∧ rowIn H1227 ⟨b11, 0, none⟩ v1245 ∧ Value.agg v1245 = .agg v87)) ∧ Tryz.C 11 #[.agg v87] H1227 fun r1228 H1229 => ∃ r1230, r1228 = .agg r1230 ∧ (Ext H1227 H1229 ∨ (∃ v1241, v1241.size = 4 ∧ rowIn H1229 ⟨b46, 0, none⟩ v1241 ∧ Value.agg v1241 = .agg v89) ∧ (∃ v1242, v1242.size = 4 ∧ rowIn H1229 ⟨b38, 0, none⟩ v1242 ∧ Value.agg v1242 = .agg v88)) ∧ Tryz.C 11 #[.agg v88] H1229 fun r1231 H1232 => ∃ r1233, r1231 = .agg r1233 ∧ (Ext H1229 H1232 ∨ (∃ v1240, v1240.size = 4 ∧ rowIn H1232 ⟨b46, 0, none⟩ v1240 ∧ Value.agg v1240 = .agg v89)) ∧ Tryz.C 11 #[.agg v89] H1232 fun r1234 H1235 => ∃ r1236, r1234 = .agg r1236 ∧ r1230.size = 3 ∧ stAt H1235 ⟨b1184, 0, none⟩ r1230.toList fun H1237 => r1233.size = 3 ∧ stAt H1237 ⟨b1038, 0, none⟩ r1233.toList fun H1238 => r1236.size = 3 ∧ stAt H1238 ⟨b1226, 0, none⟩ r1236.toList fun H1239 => J55 [.pointer (some ⟨b1184, 0, none⟩), .pointer (some ⟨b1038, 0, none⟩), .pointer (some ⟨b1226, 0, none⟩)] H1239)) ∧ (alc H1039 (.cells #[.int .i64 0, .int .i64 0, .slice none 0 0] 34) fun b1249 H1250 => (Ext H1039 H1250 ∨ (∃ v1311, v1311.size = 4 ∧ rowIn H1250 ⟨b46, 0, none⟩ v1311 ∧ Value.agg v1311 = .agg v89) ∧ (∃ v1312, v1312.size = 4 ∧ rowIn H1250 ⟨b38, 0, none⟩ v1312 ∧ Value.agg v1312 = .agg v88) ∧ (∃ v1313, v1313.size = 4 ∧ rowIn H1250 ⟨b11, 0, none⟩ v1313 ∧ Value.agg v1313 = .agg v87)) ∧ (Tryz.C 11 #[.agg v87] H1250 fun r1251 H1252 => ∃ r1253, r1251 = .agg r1253 ∧ (Ext H1250 H1252 ∨ (∃ v1289, v1289.size = 4 ∧ rowIn H1252 ⟨b46, 0, none⟩ v1289 ∧ Value.agg v1289 = .agg v89) ∧ (∃ v1290, v1290.size = 4 ∧ rowIn H1252 ⟨b38, 0, none⟩ v1290 ∧ Value.agg v1290 = .agg v88)) ∧ (Tryz.C 11 #[.agg v88] H1252 fun r1254 H1255 => ∃ r1256, r1254 = .agg r1256 ∧ (Ext H1252 H1255 ∨ (∃ v1274, v1274.size = 4 ∧ rowIn H1255 ⟨b46, 0, none⟩ v1274 ∧ Value.agg v1274 = .agg v89)) ∧ (Tryz.C 11 #[.agg v89] H1255 fun r1257 H1258 => ∃ r1259, r1257 = .agg r1259 ∧ alc H1258 (.cells #[.int .i64 0, .int .i64 0, .slice none 0 0] 34) fun b1260 H1261 => r1253.size = 3 ∧ stAt H1261 ⟨b1260, 0, none⟩ r1253.toList fun H1262 => r1256.size = 3 ∧ stAt H1262 ⟨b1038, 0, none⟩ r1256.toList fun H1263 => r1259.size = 3 ∧ stAt H1263 ⟨b1249, 0, none⟩ r1259.toList fun H1264 => J55 [.pointer (some ⟨b1260, 0, none⟩), .pointer (some ⟨b1038, 0, none⟩), .pointer (some ⟨b1249, 0, none⟩)] H1264) ∧ (alc H1255 (.cells #[.int .i64 0, .int .i64 0, .slice none 0 0] 34) fun b1265 H1266 => (Ext H1255 H1266 ∨ (∃ v1273, v1273.size = 4 ∧ rowIn H1266 ⟨b46, 0, none⟩ v1273 ∧ Value.agg v1273 = .agg v89)) ∧ Tryz.C 11 #[.agg v89] H1266 fun r1267 H1268 => ∃ r1269, r1267 = .agg r1269 ∧ r1253.size = 3 ∧ stAt H1268 ⟨b1265, 0, none⟩ r1253.toList fun H1270 => r1256.size = 3 ∧ stAt H1270 ⟨b1038, 0, none⟩ r1256.toList fun H1271 => r1269.size = 3 ∧ stAt H1271 ⟨b1249, 0, none⟩ r1269.toList fun H1272 => J55 [.pointer (some ⟨b1265, 0, none⟩), .pointer (some ⟨b1038, 0, none⟩), .pointer (some ⟨b1249, 0, none⟩)] H1272)) ∧ (alc H1252 (.cells #[.int .i64 0, .int .i64 0, .slice none 0 0] 34) fun b1275 H1276 => (Ext H1252 H1276 ∨ (∃ v1287, v1287.size = 4 ∧ rowIn H1276 ⟨b46, 0, none⟩ v1287 ∧ Value.agg v1287 = .agg v89) ∧ (∃ v1288, v1288.size = 4 ∧ rowIn H1276 ⟨b38, 0, none⟩ v1288 ∧ Value.agg v1288 = .agg v88)) ∧ Tryz.C 11 #[.agg v88] H1276 fun r1277 H1278 => ∃ r1279, r1277 = .agg r1279 ∧ (Ext H1276 H1278 ∨ (∃ v1286, v1286.size = 4 ∧ rowIn H1278 ⟨b46, 0, none⟩ v1286 ∧ Value.agg v1286 = .agg v89)) ∧ Tryz.C 11 #[.agg v89] H1278 fun r1280 H1281 => ∃ r1282, r1280 = .agg r1282 ∧ r1253.size = 3 ∧ stAt H1281 ⟨b1275, 0, none⟩ r1253.toList fun H1283 => r1279.size = 3 ∧ stAt H1283 ⟨b1038, 0, none⟩ r1279.toList fun H1284 => r1282.size = 3 ∧ stAt H1284 ⟨b1249, 0, none⟩ r1282.toList fun H1285 => J55 [.pointer (some ⟨b1275, 0, none⟩), .pointer (some ⟨b1038, 0, none⟩), .pointer (some ⟨b1249, 0, none⟩)] H1285)) ∧ (alc H1250 (.cells #[.int .i64 0, .int .i64 0, .slice none 0 0] 34) fun b1291 H1292 => (Ext H1250 H1292 ∨ (∃ v1308, v1308.size = 4 ∧ rowIn H1292 ⟨b46, 0, none⟩ v1308 ∧ Value.agg v1308 = .agg v89) ∧ (∃ v1309, v1309.size = 4 ∧ rowIn H1292 ⟨b38, 0, none⟩ v1309 ∧ Value.agg v1309 = .agg v88) ∧ (∃ v1310, v1310.size = 4 ∧ rowIn H1292 ⟨b11, 0, none⟩ v1310 ∧ Value.agg v1310 = .agg v87)) ∧ Tryz.C 11 #[.agg v87] H1292 fun r1293 H1294 => ∃ r1295, r1293 = .agg r1295 ∧ (Ext H1292 H1294 ∨ (∃ v1306, v1306.size = 4 ∧ rowIn H1294 ⟨b46, 0, none⟩ v1306 ∧ Value.agg v1306 = .agg v89) ∧ (∃ v1307, v1307.size = 4 ∧ rowIn H1294 ⟨b38, 0, none⟩ v1307 ∧ Value.agg v1307 = .agg v88)) ∧ Tryz.C 11 #[.agg v88] H1294 fun r1296 H1297 => ∃ r1298, r1296 = .agg r1298 ∧ (Ext H1294 H1297 ∨ (∃ v1305, v1305.size = 4 ∧ rowIn H1297 ⟨b46, 0, none⟩ v1305 ∧ Value.agg v1305 = .agg v89)) ∧ Tryz.C 11 #[.agg v89] H1297 fun r1299 H1300 => ∃ r1301, r1299 = .agg r1301 ∧ r1295.size = 3 ∧ stAt H1300 ⟨b1291, 0, none⟩ r1295.toList fun H1302 => r1298.size = 3 ∧ stAt H1302 ⟨b1038, 0, none⟩ r1298.toList fun H1303 => r1301.size = 3 ∧ stAt H1303 ⟨b1249, 0, none⟩ r1301.toList fun H1304 => J55 [.pointer (some ⟨b1291, 0, none⟩), .pointer (some ⟨b1038, 0, none⟩), .pointer (some ⟨b1249, 0, none⟩)] H1304))) ∧ (alc H54 (.cells #[.int .i64 0, .int .i64 0, .slice none 0 0] 34) fun b1317 H1318 => (Ext H54 H1318 ∨ (∃ v1593, v1593.size = 4 ∧ rowIn H1318 ⟨b46, 0, none⟩ v1593 ∧ Value.agg v1593 = .agg v89) ∧ (∃ v1594, v1594.size = 4 ∧ rowIn H1318 ⟨b38, 0, none⟩ v1594 ∧ Value.agg v1594 = .agg v88) ∧ (∃ v1595, v1595.size = 4 ∧ rowIn H1318 ⟨b11, 0, none⟩ v1595 ∧ Value.agg v1595 = .agg v87)) ∧ (Tryz.C 11 #[.agg v87] H1318 fun r1319 H1320 => ∃ r1321, r1319 = .agg r1321 ∧ (Ext H1318 H1320 ∨ (∃ v1461, v1461.size = 4 ∧ rowIn H1320 ⟨b46, 0, none⟩ v1461 ∧ Value.agg v1461 = .agg v89) ∧ (∃ v1462, v1462.size = 4 ∧ rowIn H1320 ⟨b38, 0, none⟩ v1462 ∧ Value.agg v1462 = .agg v88)) ∧ (Tryz.C 11 #[.agg v88] H1320 fun r1322 H1323 => ∃ r1324, r1322 = .agg r1324 ∧ (Ext H1320 H1323 ∨ (∃ v1382, v1382.size = 4 ∧ rowIn H1323 ⟨b46, 0, none⟩ v1382 ∧ Value.agg v1382 = .agg v89)) ∧ (Tryz.C 11 #[.agg v89] H1323 fun r1325 H1326 => ∃ r1327, r1325 = .agg r1327 ∧ (alc H1326 (.cells #[.int .i64 0, .int .i64 0, .slice none 0 0] 34) fun b1328 H1329 => alc H1329 (.cells #[.int .i64 0, .int .i64 0, .slice none 0 0] 34) fun b1330 H1331 => r1321.size = 3 ∧ stAt H1331 ⟨b1328, 0, none⟩ r1321.toList fun H1332 => r1324.size = 3 ∧ stAt H1332 ⟨b1330, 0, none⟩ r1324.toList fun H1333 => r1327.size = 3 ∧ stAt H1333 ⟨b1317, 0, none⟩ r1327.toList fun H1334 => J55 [.pointer (some ⟨b1328, 0, none⟩), .pointer (some ⟨b1330, 0, none⟩), .pointer (some ⟨b1317, 0, none⟩)] H1334) ∧ (alc H1326 (.cells #[.int .i64 0, .int .i64 0, .slice none 0 0] 34) fun b1335 H1336 => alc H1336 (.cells #[.int .i64 0, .int .i64 0, .slice none 0 0] 34) fun b1337 H1338 => r1321.size = 3 ∧ stAt H1338 ⟨b1337, 0, none⟩ r1321.toList fun H1339 => r1324.size = 3 ∧ stAt H1339 ⟨b1335, 0, none⟩ r1324.toList fun H1340 => r1327.size = 3 ∧ stAt H1340 ⟨b1317, 0, none⟩ r1327.toList fun H1341 => J55 [.pointer (some ⟨b1337, 0, none⟩), .pointer (some ⟨b1335, 0, none⟩), .pointer (some ⟨b1317, 0, none⟩)] H1341)) ∧ (alc H1323 (.cells #[.int .i64 0, .int .i64 0, .slice none 0 0] 34) fun b1342 H1343 => (Ext H1323 H1343 ∨ (∃ v1361, v1361.size = 4 ∧ rowIn H1343 ⟨b46, 0, none⟩ v1361 ∧ Value.agg v1361 = .agg v89)) ∧ (Tryz.C 11 #[.agg v89] H1343 fun r1344 H1345 => ∃ r1346, r1344 = .agg r1346 ∧ alc H1345 (.cells #[.int .i64 0, .int .i64 0, .slice none 0 0] 34) fun b1347 H1348 => r1321.size = 3 ∧ stAt H1348 ⟨b1342, 0, none⟩ r1321.toList fun H1349 => r1324.size = 3 ∧ stAt H1349 ⟨b1347, 0, none⟩ r1324.toList fun H1350 => r1346.size = 3 ∧ stAt H1350 ⟨b1317, 0, none⟩ r1346.toList fun H1351 => J55 [.pointer (some ⟨b1342, 0, none⟩), .pointer (some ⟨b1347, 0, none⟩), .pointer (some ⟨b1317, 0, none⟩)] H1351) ∧ (alc H1343 (.cells #[.int .i64 0, .int .i64 0, .slice none 0 0] 34) fun b1352 H1353 => (Ext H1343 H1353 ∨ (∃ v1360, v1360.size = 4 ∧ rowIn H1353 ⟨b46, 0, none⟩ v1360 ∧ Value.agg v1360 = .agg v89)) ∧ Tryz.C 11 #[.agg v89] H1353 fun r1354 H1355 => ∃ r1356, r1354 = .agg r1356 ∧ r1321.size = 3 ∧ stAt H1355 ⟨b1342, 0, none⟩ r1321.toList fun H1357 => r1324.size = 3 ∧ stAt H1357 ⟨b1352, 0, none⟩ r1324.toList fun H1358 => r1356.size = 3 ∧ stAt H1358 ⟨b1317, 0, none⟩ r1356.toList fun H1359 => J55 [.pointer (some ⟨b1342, 0, none⟩), .pointer (some ⟨b1352, 0, none⟩), .pointer (some ⟨b1317, 0, none⟩)] H1359)) ∧ (alc H1323 (.cells #[.int .i64 0, .int .i64 0, .slice none 0 0] 34) fun b1362 H1363 => (Ext H1323 H1363 ∨ (∃ v1381, v1381.size = 4 ∧ rowIn H1363 ⟨b46, 0, none⟩ v1381 ∧ Value.agg v1381 = .agg v89)) ∧ (Tryz.C 11 #[.agg v89] H1363 fun r1364 H1365 => ∃ r1366, r1364 = .agg r1366 ∧ alc H1365 (.cells #[.int .i64 0, .int .i64 0, .slice none 0 0] 34) fun b1367 H1368 => r1321.size = 3 ∧ stAt H1368 ⟨b1367, 0, none⟩ r1321.toList fun H1369 => r1324.size = 3 ∧ stAt H1369 ⟨b1362, 0, none⟩ r1324.toList fun H1370 => r1366.size = 3 ∧ stAt H1370 ⟨b1317, 0, none⟩ r1366.toList fun H1371 => J55 [.pointer (some ⟨b1367, 0, none⟩), .pointer (some ⟨b1362, 0, none⟩), .pointer (some ⟨b1317, 0, none⟩)] H1371) ∧ (alc H1363 (.cells #[.int .i64 0, .int .i64 0, .slice none 0 0] 34) fun b1372 H1373 => (Ext H1363 H1373 ∨ (∃ v1380, v1380.size = 4 ∧ rowIn H1373 ⟨b46, 0, none⟩ v1380 ∧ Value.agg v1380 = .agg v89)) ∧ Tryz.C 11 #[.agg v89] H1373 fun r1374 H1375 => ∃ r1376, r1374 = .agg r1376 ∧ r1321.size = 3 ∧ stAt H1375 ⟨b1372, 0, none⟩ r1321.toList fun H1377 => r1324.size = 3 ∧ stAt H1377 ⟨b1362, 0, none⟩ r1324.toList fun H1378 => r1376.size = 3 ∧ stAt H1378 ⟨b1317, 0, none⟩ r1376.toList fun H1379 => J55 [.pointer (some ⟨b1372, 0, none⟩), .pointer (some ⟨b1362, 0, none⟩), .pointer (some ⟨b1317, 0, none⟩)] H1379))) ∧ (alc H1320 (.cells #[.int .i64 0, .int .i64 0, .slice none 0 0] 34) fun b1383 H1384 => (Ext H1320 H1384 ∨ (∃ v1420, v1420.size = 4 ∧ rowIn H1384 ⟨b46, 0, none⟩ v1420 ∧ Value.agg v1420 = .agg v89) ∧ (∃ v1421, v1421.size = 4 ∧ rowIn H1384 ⟨b38, 0, none⟩ v1421 ∧ Value.agg v1421 = .agg v88)) ∧ (Tryz.C 11 #[.agg v88] H1384 fun r1385 H1386 => ∃ r1387, r1385 = .agg r1387 ∧ (Ext H1384 H1386 ∨ (∃ v1405, v1405.size = 4 ∧ rowIn H1386 ⟨b46, 0, none⟩ v1405 ∧ Value.agg v1405 = .agg v89)) ∧ (Tryz.C 11 #[.agg v89] H1386 fun r1388 H1389 => ∃ r1390, r1388 = .agg r1390 ∧ alc H1389 (.cells #[.int .i64 0, .int .i64 0, .slice none 0 0] 34) fun b1391 H1392 => r1321.size = 3 ∧ stAt H1392 ⟨b1383, 0, none⟩ r1321.toList fun H1393 => r1387.size = 3 ∧ stAt H1393 ⟨b1391, 0, none⟩ r1387.toList fun H1394 => r1390.size = 3 ∧ stAt H1394 ⟨b1317, 0, none⟩ r1390.toList fun H1395 => J55 [.pointer (some ⟨b1383, 0, none⟩), .pointer (some ⟨b1391, 0, none⟩), .pointer (some ⟨b1317, 0, none⟩)] H1395) ∧ (alc H1386 (.cells #[.int .i64 0, .int .i64 0, .slice none 0 0] 34) fun b1396 H1397 => (Ext H1386 H1397 ∨ (∃ v1404, v1404.size = 4 ∧ rowIn H1397 ⟨b46, 0, none⟩ v1404 ∧ Value.agg v1404 = .agg v89)) ∧ Tryz.C 11 #[.agg v89] H1397 fun r1398 H1399 => ∃ r1400, r1398 = .agg r1400 ∧ r1321.size = 3 ∧ stAt H1399 ⟨b1383, 0, none⟩ r1321.toList fun H1401 => r1387.size = 3 ∧ stAt H1401 ⟨b1396, 0, none⟩ r1387.toList fun H1402 => r1400.size = 3 ∧ stAt H1402 ⟨b1317, 0, none⟩ r1400.toList fun H1403 => J55 [.pointer (some ⟨b1383, 0, none⟩), .pointer (some ⟨b1396, 0, none⟩), .pointer (some ⟨b1317, 0, none⟩)] H1403)) ∧ (alc H1384 (.cells #[.int .i64 0, .int .i64 0, .slice none 0 0] 34) fun b1406 H1407 => (Ext H1384 H1407 ∨ (∃ v1418, v1418.size = 4 ∧ rowIn H1407 ⟨b46, 0, none⟩ v1418 ∧ Value.agg v1418 = .agg v89) ∧ (∃ v1419, v1419.size = 4 ∧ rowIn H1407 ⟨b38, 0, none⟩ v1419 ∧ Value.agg v1419 = .agg v88)) ∧ Tryz.C 11 #[.agg v88] H1407 fun r1408 H1409 => ∃ r1410, r1408 = .agg r1410 ∧ (Ext H1407 H1409 ∨ (∃ v1417, v1417.size = 4 ∧ rowIn H1409 ⟨b46, 0, none⟩ v1417 ∧ Value.agg v1417 = .agg v89)) ∧ Tryz.C 11 #[.agg v89] H1409 fun r1411 H1412 => ∃ r1413, r1411 = .agg r1413 ∧ r1321.size = 3 ∧ stAt H1412 ⟨b1383, 0, none⟩ r1321.toList fun H1414 => r1410.size = 3 ∧ stAt H1414 ⟨b1406, 0, none⟩ r1410.toList fun H1415 => r1413.size = 3 ∧ stAt H1415 ⟨b1317, 0, none⟩ r1413.toList fun H1416 => J55 [.pointer (some ⟨b1383, 0, none⟩), .pointer (some ⟨b1406, 0, none⟩), .pointer (some ⟨b1317, 0, none⟩)] H1416)) ∧ (alc H1320 (.cells #[.int .i64 0, .int .i64 0, .slice none 0 0] 34) fun b1422 H1423 => (Ext H1320 H1423 ∨ (∃ v1459, v1459.size = 4 ∧ rowIn H1423 ⟨b46, 0, none⟩ v1459 ∧ Value.agg v1459 = .agg v89) ∧ (∃ v1460, v1460.size = 4 ∧ rowIn H1423 ⟨b38, 0, none⟩ v1460 ∧ Value.agg v1460 = .agg v88)) ∧ (Tryz.C 11 #[.agg v88] H1423 fun r1424 H1425 => ∃ r1426, r1424 = .agg r1426 ∧ (Ext H1423 H1425 ∨ (∃ v1444, v1444.size = 4 ∧ rowIn H1425 ⟨b46, 0, none⟩ v1444 ∧ Value.agg v1444 = .agg v89)) ∧ (Tryz.C 11 #[.agg v89] H1425 fun r1427 H1428 => ∃ r1429, r1427 = .agg r1429 ∧ alc H1428 (.cells #[.int .i64 0, .int .i64 0, .slice none 0 0] 34) fun b1430 H1431 => r1321.size = 3 ∧ stAt H1431 ⟨b1430, 0, none⟩ r1321.toList fun H1432 => r1426.size = 3 ∧ stAt H1432 ⟨b1422, 0, none⟩ r1426.toList fun H1433 => r1429.size = 3 ∧ stAt H1433 ⟨b1317, 0, none⟩ r1429.toList fun H1434 => J55 [.pointer (some ⟨b1430, 0, none⟩), .pointer (some ⟨b1422, 0, none⟩), .pointer (some ⟨b1317, 0, none⟩)] H1434) ∧ (alc H1425 (.cells #[.int .i64 0, .int .i64 0, .slice none 0 0] 34) fun b1435 H1436 => (Ext H1425 H1436 ∨ (∃ v1443, v1443.size = 4 ∧ rowIn H1436 ⟨b46, 0, none⟩ v1443 ∧ Value.agg v1443 = .agg v89)) ∧ Tryz.C 11 #[.agg v89] H1436 fun r1437 H1438 => ∃ r1439, r1437 = .agg r1439 ∧ r1321.size = 3 ∧ stAt H1438 ⟨b1435, 0, none⟩ r1321.toList fun H1440 => r1426.size = 3 ∧ stAt H1440 ⟨b1422, 0, none⟩ r1426.toList fun H1441 => r1439.size = 3 ∧ stAt H1441 ⟨b1317, 0, none⟩ r1439.toList fun H1442 => J55 [.pointer (some ⟨b1435, 0, none⟩), .pointer (some ⟨b1422, 0, none⟩), .pointer (some ⟨b1317, 0, none⟩)] H1442)) ∧ (alc H1423 (.cells #[.int .i64 0, .int .i64 0, .slice none 0 0] 34) fun b1445 H1446 => (Ext H1423 H1446 ∨ (∃ v1457, v1457.size = 4 ∧ rowIn H1446 ⟨b46, 0, none⟩ v1457 ∧ Value.agg v1457 = .agg v89) ∧ (∃ v1458, v1458.size = 4 ∧ rowIn H1446 ⟨b38, 0, none⟩ v1458 ∧ Value.agg v1458 = .agg v88)) ∧ Tryz.C 11 #[.agg v88] H1446 fun r1447 H1448 => ∃ r1449, r1447 = .agg r1449 ∧ (Ext H1446 H1448 ∨ (∃ v1456, v1456.size = 4 ∧ rowIn H1448 ⟨b46, 0, none⟩ v1456 ∧ Value.agg v1456 = .agg v89)) ∧ Tryz.C 11 #[.agg v89] H1448 fun r1450 H1451 => ∃ r1452, r1450 = .agg r1452 ∧ r1321.size = 3 ∧ stAt H1451 ⟨b1445, 0, none⟩ r1321.toList fun H1453 => r1449.size = 3 ∧ stAt H1453 ⟨b1422, 0, none⟩ r1449.toList fun H1454 => r1452.size = 3 ∧ stAt H1454 ⟨b1317, 0, none⟩ r1452.toList fun H1455 => J55 [.pointer (some ⟨b1445, 0, none⟩), .pointer (some ⟨b1422, 0, none⟩), .pointer (some ⟨b1317, 0, none⟩)] H1455))) ∧ (alc H1318 (.cells #[.int .i64 0, .int .i64 0, .slice none 0 0] 34) fun b1463 H1464 => (Ext H1318 H1464 ∨ (∃ v1525, v1525.size = 4 ∧ rowIn H1464 ⟨b46, 0, none⟩ v1525 ∧ Value.agg v1525 = .agg v89) ∧ (∃ v1526, v1526.size = 4 ∧ rowIn H1464 ⟨b38, 0, none⟩ v1526 ∧ Value.agg v1526 = .agg v88) ∧ (∃ v1527, v1527.size = 4 ∧ rowIn H1464 ⟨b11, 0, none⟩ v1527 ∧ Value.agg v1527 = .agg v87)) ∧ (Tryz.C 11 #[.agg v87] H1464 fun r1465 H1466 => ∃ r1467, r1465 = .agg r1467 ∧ (Ext H1464 H1466 ∨ (∃ v1503, v1503.size = 4 ∧ rowIn H1466 ⟨b46, 0, none⟩ v1503 ∧ Value.agg v1503 = .agg v89) ∧ (∃ v1504, v1504.size = 4 ∧ rowIn H1466 ⟨b38, 0, none⟩ v1504 ∧ Value.agg v1504 = .agg v88)) ∧ (Tryz.C 11 #[.agg v88] H1466 fun r1468 H1469 => ∃ r1470, r1468 = .agg r1470 ∧ (Ext H1466 H1469 ∨ (∃ v1488, v1488.size = 4 ∧ rowIn H1469 ⟨b46, 0, none⟩ v1488 ∧ Value.agg v1488 = .agg v89)) ∧ (Tryz.C 11 #[.agg v89] H1469 fun r1471 H1472 => ∃ r1473, r1471 = .agg r1473 ∧ alc H1472 (.cells #[.int .i64 0, .int .i64 0, .slice none 0 0] 34) fun b1474 H1475 => r1467.size = 3 ∧ stAt H1475 ⟨b1463, 0, none⟩ r1467.toList fun H1476 => r1470.size = 3 ∧ stAt H1476 ⟨b1474, 0, none⟩ r1470.toList fun H1477 => r1473.size = 3 ∧ stAt H1477 ⟨b1317, 0, none⟩ r1473.toList fun H1478 => J55 [.pointer (some ⟨b1463, 0, none⟩), .pointer (some ⟨b1474, 0, none⟩), .pointer (some ⟨b1317, 0, none⟩)] H1478) ∧ (alc H1469 (.cells #[.int .i64 0, .int .i64 0, .slice none 0 0] 34) fun b1479 H1480 => (Ext H1469 H1480 ∨ (∃ v1487, v1487.size = 4 ∧ rowIn H1480 ⟨b46, 0, none⟩ v1487 ∧ Value.agg v1487 = .agg v89)) ∧ Tryz.C 11 #[.agg v89] H1480 fun r1481 H1482 => ∃ r1483, r1481 = .agg r1483 ∧ r1467.size = 3 ∧ stAt H1482 ⟨b1463, 0, none⟩ r1467.toList fun H1484 => r1470.size = 3 ∧ stAt H1484 ⟨b1479, 0, none⟩ r1470.toList fun H1485 => r1483.size = 3 ∧ stAt H1485 ⟨b1317, 0, none⟩ r1483.toList fun H1486 => J55 [.pointer (some ⟨b1463, 0, none⟩), .pointer (some ⟨b1479, 0, none⟩), .pointer (some ⟨b1317, 0, none⟩)] H1486)) ∧ (alc H1466 (.cells #[.int .i64 0, .int .i64 0, .slice none 0 0] 34) fun b1489 H1490 => (Ext H1466 H1490 ∨ (∃ v1501, v1501.size = 4 ∧ rowIn H1490 ⟨b46, 0, none⟩ v1501 ∧ Value.agg v1501 = .agg v89) ∧ (∃ v1502, v1502.size = 4 ∧ rowIn H1490 ⟨b38, 0, none⟩ v1502 ∧ Value.agg v1502 = .agg v88)) ∧ Tryz.C 11 #[.agg v88] H1490 fun r1491 H1492 => ∃ r1493, r1491 = .agg r1493 ∧ (Ext H1490 H1492 ∨ (∃ v1500, v1500.size = 4 ∧ rowIn H1492 ⟨b46, 0, none⟩ v1500 ∧ Value.agg v1500 = .agg v89)) ∧ Tryz.C 11 #[.agg v89] H1492 fun r1494 H1495 => ∃ r1496, r1494 = .agg r1496 ∧ r1467.size = 3 ∧ stAt H1495 ⟨b1463, 0, none⟩ r1467.toList fun H1497 => r1493.size = 3 ∧ stAt H1497 ⟨b1489, 0, none⟩ r1493.toList fun H1498 => r1496.size = 3 ∧ stAt H1498 ⟨b1317, 0, none⟩ r1496.toList fun H1499 => J55 [.pointer (some ⟨b1463, 0, none⟩), .pointer (some ⟨b1489, 0, none⟩), .pointer (some ⟨b1317, 0, none⟩)] H1499)) ∧ (alc H1464 (.cells #[.int .i64 0, .int .i64 0, .slice none 0 0] 34) fun b1505 H1506 => (Ext H1464 H1506 ∨ (∃ v1522, v1522.size = 4 ∧ rowIn H1506 ⟨b46, 0, none⟩ v1522 ∧ Value.agg v1522 = .agg v89) ∧ (∃ v1523, v1523.size = 4 ∧ rowIn H1506 ⟨b38, 0, none⟩ v1523 ∧ Value.agg v1523 = .agg v88) ∧ (∃ v1524, v1524.size = 4 ∧ rowIn H1506 ⟨b11, 0, none⟩ v1524 ∧ Value.agg v1524 = .agg v87)) ∧ Tryz.C 11 #[.agg v87] H1506 fun r1507 H1508 => ∃ r1509, r1507 = .agg r1509 ∧ (Ext H1506 H1508 ∨ (∃ v1520, v1520.size = 4 ∧ rowIn H1508 ⟨b46, 0, none⟩ v1520 ∧ Value.agg v1520 = .agg v89) ∧ (∃ v1521, v1521.size = 4 ∧ rowIn H1508 ⟨b38, 0, none⟩ v1521 ∧ Value.agg v1521 = .agg v88)) ∧ Tryz.C 11 #[.agg v88] H1508 fun r1510 H1511 => ∃ r1512, r1510 = .agg r1512 ∧ (Ext H1508 H1511 ∨ (∃ v1519, v1519.size = 4 ∧ rowIn H1511 ⟨b46, 0, none⟩ v1519 ∧ Value.agg v1519 = .agg v89)) ∧ Tryz.C 11 #[.agg v89] H1511 fun r1513 H1514 => ∃ r1515, r1513 = .agg r1515 ∧ r1509.size = 3 ∧ stAt H1514 ⟨b1463, 0, none⟩ r1509.toList fun H1516 => r1512.size = 3 ∧ stAt H1516 ⟨b1505, 0, none⟩ r1512.toList fun H1517 => r1515.size = 3 ∧ stAt H1517 ⟨b1317, 0, none⟩ r1515.toList fun H1518 => J55 [.pointer (some ⟨b1463, 0, none⟩), .pointer (some ⟨b1505, 0, none⟩), .pointer (some ⟨b1317, 0, none⟩)] H1518)) ∧ (alc H1318 (.cells #[.int .i64 0, .int .i64 0, .slice none 0 0] 34) fun b1528 H1529 => (Ext H1318 H1529 ∨ (∃ v1590, v1590.size = 4 ∧ rowIn H1529 ⟨b46, 0, none⟩ v1590 ∧ Value.agg v1590 = .agg v89) ∧ (∃ v1591, v1591.size = 4 ∧ rowIn H1529 ⟨b38, 0, none⟩ v1591 ∧ Value.agg v1591 = .agg v88) ∧ (∃ v1592, v1592.size = 4 ∧ rowIn H1529 ⟨b11, 0, none⟩ v1592 ∧ Value.agg v1592 = .agg v87)) ∧ (Tryz.C 11 #[.agg v87] H1529 fun r1530 H1531 => ∃ r1532, r1530 = .agg r1532 ∧ (Ext H1529 H1531 ∨ (∃ v1568, v1568.size = 4 ∧ rowIn H1531 ⟨b46, 0, none⟩ v1568 ∧ Value.agg v1568 = .agg v89) ∧ (∃ v1569, v1569.size = 4 ∧ rowIn H1531 ⟨b38, 0, none⟩ v1569 ∧ Value.agg v1569 = .agg v88)) ∧ (Tryz.C 11 #[.agg v88] H1531 fun r1533 H1534 => ∃ r1535, r1533 = .agg r1535 ∧ (Ext H1531 H1534 ∨ (∃ v1553, v1553.size = 4 ∧ rowIn H1534 ⟨b46, 0, none⟩ v1553 ∧ Value.agg v1553 = .agg v89)) ∧ (Tryz.C 11 #[.agg v89] H1534 fun r1536 H1537 => ∃ r1538, r1536 = .agg r1538 ∧ alc H1537 (.cells #[.int .i64 0, .int .i64 0, .slice none 0 0] 34) fun b1539 H1540 => r1532.size = 3 ∧ stAt H1540 ⟨b1539, 0, none⟩ r1532.toList fun H1541 => r1535.size = 3 ∧ stAt H1541 ⟨b1528, 0, none⟩ r1535.toList fun H1542 => r1538.size = 3 ∧ stAt H1542 ⟨b1317, 0, none⟩ r1538.toList fun H1543 => J55 [.pointer (some ⟨b1539, 0, none⟩), .pointer (some ⟨b1528, 0, none⟩), .pointer (some ⟨b1317, 0, none⟩)] H1543) ∧ (alc H1534 (.cells #[.int .i64 0, .int .i64 0, .slice none 0 0] 34) fun b1544 H1545 => (Ext H1534 H1545 ∨ (∃ v1552, v1552.size = 4 ∧ rowIn H1545 ⟨b46, 0, none⟩ v1552 ∧ Value.agg v1552 = .agg v89)) ∧ Tryz.C 11 #[.agg v89] H1545 fun r1546 H1547 => ∃ r1548, r1546 = .agg r1548 ∧ r1532.size = 3 ∧ stAt H1547 ⟨b1544, 0, none⟩ r1532.toList fun H1549 => r1535.size = 3 ∧ stAt H1549 ⟨b1528, 0, none⟩ r1535.toList fun H1550 => r1548.size = 3 ∧ stAt H1550 ⟨b1317, 0, none⟩ r1548.toList fun H1551 => J55 [.pointer (some ⟨b1544, 0, none⟩), .pointer (some ⟨b1528, 0, none⟩), .pointer (some ⟨b1317, 0, none⟩)] H1551)) ∧ (alc H1531 (.cells #[.int .i64 0, .int .i64 0, .slice none 0 0] 34) fun b1554 H1555 => (Ext H1531 H1555 ∨ (∃ v1566, v1566.size = 4 ∧ rowIn H1555 ⟨b46, 0, none⟩ v1566 ∧ Value.agg v1566 = .agg v89) ∧ (∃ v1567, v1567.size = 4 ∧ rowIn H1555 ⟨b38, 0, none⟩ v1567 ∧ Value.agg v1567 = .agg v88)) ∧ Tryz.C 11 #[.agg v88] H1555 fun r1556 H1557 => ∃ r1558, r1556 = .agg r1558 ∧ (Ext H1555 H1557 ∨ (∃ v1565, v1565.size = 4 ∧ rowIn H1557 ⟨b46, 0, none⟩ v1565 ∧ Value.agg v1565 = .agg v89)) ∧ Tryz.C 11 #[.agg v89] H1557 fun r1559 H1560 => ∃ r1561, r1559 = .agg r1561 ∧ r1532.size = 3 ∧ stAt H1560 ⟨b1554, 0, none⟩ r1532.toList fun H1562 => r1558.size = 3 ∧ stAt H1562 ⟨b1528, 0, none⟩ r1558.toList fun H1563 => r1561.size = 3 ∧ stAt H1563 ⟨b1317, 0, none⟩ r1561.toList fun H1564 => J55 [.pointer (some ⟨b1554, 0, none⟩), .pointer (some ⟨b1528, 0, none⟩), .pointer (some ⟨b1317, 0, none⟩)] H1564)) ∧ (alc H1529 (.cells #[.int .i64 0, .int .i64 0, .slice none 0 0] 34) fun b1570 H1571 => (Ext H1529 H1571 ∨ (∃ v1587, v1587.size = 4 ∧ rowIn H1571 ⟨b46, 0, none⟩ v1587 ∧ Value.agg v1587 = .agg v89) ∧ (∃ v1588, v1588.size = 4 ∧ rowIn H1571 ⟨b38, 0, none⟩ v1588 ∧ Value.agg v1588 = .agg v88) ∧ (∃ v1589, v1589.size = 4 ∧ rowIn H1571 ⟨b11, 0, none⟩ v1589 ∧ Value.agg v1589 = .agg v87)) ∧ Tryz.C 11 #[.agg v87] H1571 fun r1572 H1573 => ∃ r1574, r1572 = .agg r1574 ∧ (Ext H1571 H1573 ∨ (∃ v1585, v1585.size = 4 ∧ rowIn H1573 ⟨b46, 0, none⟩ v1585 ∧ Value.agg v1585 = .agg v89) ∧ (∃ v1586, v1586.size = 4 ∧ rowIn H1573 ⟨b38, 0, none⟩ v1586 ∧ Value.agg v1586 = .agg v88)) ∧ Tryz.C 11 #[.agg v88] H1573 fun r1575 H1576 => ∃ r1577, r1575 = .agg r1577 ∧ (Ext H1573 H1576 ∨ (∃ v1584, v1584.size = 4 ∧ rowIn H1576 ⟨b46, 0, none⟩ v1584 ∧ Value.agg v1584 = .agg v89)) ∧ Tryz.C 11 #[.agg v89] H1576 fun r1578 H1579 => ∃ r1580, r1578 = .agg r1580 ∧ r1574.size = 3 ∧ stAt H1579 ⟨b1570, 0, none⟩ r1574.toList fun H1581 => r1577.size = 3 ∧ stAt H1581 ⟨b1528, 0, none⟩ r1577.toList fun H1582 => r1580.size = 3 ∧ stAt H1582 ⟨b1317, 0, none⟩ r1580.toList fun H1583 => J55 [.pointer (some ⟨b1570, 0, none⟩), .pointer (some ⟨b1528, 0, none⟩), .pointer (some ⟨b1317, 0, none⟩)] H1583)))) → J53 [] H54) →
 br (r37 != 0) (R (.bool false) H48) (br (r45 != 0)
 (R (.bool false) H48)
 (J53 [] H48))) → J31 [] H32) →
 br (!r10) (R (.bool true) H27) (br (!r21) (R (.bool true) H27) (br (r28 != 0) (R (.bool true) H27) (∃ Ma1596p Ma1596l Ma1596c, cell H27 (.add ⟨b22, 0, none⟩ 8) = some (.slice Ma1596p Ma1596l Ma1596c) ∧ br (((Ma1596l : Int) : Int) == 0)
 (R (.bool true) H27)
 (J31 [] H27)))))
def Tryz.p8 : Plan := (tl (tg (tl (tl (tl (two (join [] [1, 5, 8] g0) (tl (tl (tl (two (join [] [5, 8, 13, 15, 17] g0) (two (join [(18, 999999), (19, 999999), (20, 999999)] [8, 17] leaf) (two (tl (one (loop [(100, 3)] [17, 18, 19, 20, 98, 99] (tl (two (tl leaf) (two (join [] [17, 18, 19, 20, 98, 99, 100] (one (tl g0))) leaf)))))) (tl leaf)))))))))))))
theorem Tryz.s8 {ed1p : OA} {ed1l ed1c : Nat} {id2 : Int} {H R} (h : Tryz.S8 ed1p ed1l ed1c id2 H R) : Tryz.C 8 #[.slice ed1p ed1l ed1c, .int .i64 id2] H R := vcs Tryz.tab_ok Tryz.mixed Tryz.func8 Tryz.cal8 Tryz.p8 h (by kernel_rfl)
end Go.Proofs
