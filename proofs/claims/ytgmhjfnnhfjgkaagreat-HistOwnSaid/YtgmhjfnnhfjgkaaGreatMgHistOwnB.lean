/-
  OWN WORK. Several texts in one: ShP, ShL, TileW, TileStay, ShS, ShT, ShU, TrA, GTab, GFunA, GFunB.
-/
import Derived.Test.YtgmhjfnnhfjgkaaGreatMgHistOwnA
import Derived.ProofKit
import Derived.OpenShut
import Derived.Test.YtgmhjfnnhfjgkaaGreatProg
import Derived.KernelRfl

set_option linter.unusedSimpArgs false
set_option linter.unusedVariables false
set_option maxRecDepth 100000
namespace Go.Sh
def br (t : Bool) (A B : Prop) : Prop := (t = true → A) ∧ (t = false → B)
def alc (H : Heap) (o : Obj) (K : Nat → Heap → Prop) : Prop := K H.size (H.push o)
abbrev OA := Option Addr
abbrev AV := Array Value
abbrev Kv := Value → Heap → Prop
abbrev Kl := List Value → Heap → Prop
namespace Plan
def tl (a : Plan) : Plan := two leaf a
def g0 : Plan := tl (two (tl leaf) leaf)
def tg (a : Plan) : Plan := two g0 a
end Plan
theorem vcs {P : Program} {T : Tab} (hT : TabOk P T) (hm : P.follows .mixedOrders = true) {g : FuncId} {fn : Func} (hg : P.funcs[g]? = some fn) (hc : callable P g) (p : Plan) {args : Array Value} {H : Heap}
    {R : Value → Heap → Prop} {A : Prop} (h : A) (e : A = vcFun P T fn p args.toList H R) : CallsH P g args H R := by
  have := vcFun_sound hT hm hg hc (p := p) (args := args.toList) (H := H) (R := R) (Eq.mp e h)
  simpa using this
end Go.Sh
namespace Go.Sh
theorem br_i {t : Bool} {A B : Prop} (h : t = true → A) (h' : t = false → B) : br t A B := ⟨h, h'⟩
theorem br_dec {p : Prop} [Decidable p] {A B : Prop} (h : p → A) (h' : ¬ p → B) : br (decide p) A B := ⟨fun e => h (of_decide_eq_true e), fun e => h' (of_decide_eq_false e)⟩
theorem br_eq {a b : Int} {A B : Prop} (h : a = b → A) (h' : a ≠ b → B) : br (a == b) A B := ⟨fun e => h (by simpa using e), fun e => h' (by simpa using e)⟩
theorem br_ne {a b : Int} {A B : Prop} (h : a ≠ b → A) (h' : a = b → B) : br (a != b) A B := ⟨fun e => h (by simpa using e), fun e => h' (by simpa using e)⟩
theorem br_not {t : Bool} {A B : Prop} (h : t = false → A) (h' : t = true → B) : br (!t) A B := ⟨fun e => h (by simpa using e), fun e => h' (by simpa using e)⟩
theorem br_true {A B : Prop} (h : A) : br true A B := ⟨fun _ => h, fun e => (by cases e)⟩
theorem br_false {A B : Prop} (h : B) : br false A B := ⟨fun e => (by cases e), fun _ => h⟩
theorem br_t {t : Bool} {A B : Prop} (ht : t = true) (h : A) : br t A B := by subst ht; exact br_true h
theorem br_f {t : Bool} {A B : Prop} (ht : t = false) (h : B) : br t A B := by subst ht; exact br_false h
theorem br_y {p : Prop} [Decidable p] {A B : Prop} (hp : p) (h : A) : br (decide p) A B := br_dec (fun _ => h) (fun n => absurd hp n)
theorem br_n {p : Prop} [Decidable p] {A B : Prop} (hp : ¬ p) (h : B) : br (decide p) A B := br_dec (fun y => absurd y hp) (fun _ => h)
theorem br_none {α : Type} {p : Option α} {A B : Prop} (h : p = none → A) (h' : ∀ a, p = some a → B) : br (Option.isNone p) A B := by
 cases p with
 | none => exact br_true (h rfl)
 | some a => exact br_false (h' a rfl)
theorem lt_of_get {H : Heap} {b : Nat} {o : Obj} (h : H[b]? = some o) : b < H.size := (Array.getElem?_eq_some_iff.1 h).1
theorem get_push_self (H : Heap) (o : Obj) : (H.push o)[H.size]? = some o := by simp
theorem get_push {H : Heap} {b : Nat} {o x : Obj} (h : H[b]? = some x) : (H.push o)[b]? = some x := Ext.push H o b x h
theorem get_set_ne {H : Heap} {b r : Nat} {o x : Obj} (hne : r ≠ b) (h : H[b]? = some x) : (H.setIfInBounds r o)[b]? = some x := by
 rw [Array.getElem?_setIfInBounds_ne hne]; exact h
theorem get_set_self {H : Heap} {r : Nat} {o x : Obj} (h : H[r]? = some x) : (H.setIfInBounds r o)[r]? = some o := by
 rw [Array.getElem?_setIfInBounds_self_of_lt (lt_of_get h)]
theorem cell_block {H : Heap} {b i : Nat} {c : Array Value} {t : TypeId} {f : Nat × Nat} (h : H[b]? = some (.cells c t f)) : cell H ⟨b, i, none⟩ = c[i]? := by
 simp [cell, h]
theorem cell_get {H : Heap} {b i : Nat} {c : Array Value} {t : TypeId} {f : Nat × Nat} {v : Value} (h : H[b]? = some (.cells c t f)) (hv : c[i]? = some v) : cell H ⟨b, i, none⟩ = some v := by
 rw [cell_block h]; exact hv
@[simp] theorem add_none (b i n : Nat) : Addr.add ⟨b, i, none⟩ n = ⟨b, i + n, none⟩ := by
 unfold Addr.add; split <;> simp_all
theorem rowIn_block {H : Heap} {b i : Nat} {c cs : Array Value} {t : TypeId} {f : Nat × Nat} (h : H[b]? = some (.cells c t f)) (hc : ∀ j v, cs[j]? = some v → c[i + j]? = some v) :
    rowIn H ⟨b, i, none⟩ cs := by
  intro j v hv
  rw [add_none, cell_block h]
  exact hc j v hv
theorem rowIn_whole {H : Heap} {b : Nat} {c : Array Value} {t : TypeId} {f : Nat × Nat} (h : H[b]? = some (.cells c t f)) : rowIn H ⟨b, 0, none⟩ c :=
 rowIn_block h fun j v hv => by rw [Nat.zero_add]; exact hv
theorem stAt_one {H : Heap} {b i : Nat} {c : Array Value} {t : TypeId} {v : Value} {f : Heap → Prop} (h : H[b]? = some (.cells c t (0, 0))) (hi : i < c.size) (ho : v.oneCell' = true)
    (hf : f (H.setIfInBounds b (.cells (c.setIfInBounds i v) t (0, 0)))) : stAt H ⟨b, i, none⟩ [v] f := by
  refine ⟨c, t, h, rfl, (by simp; omega), by simpa using ho, ?_⟩
  have : (setL c.toList i [v]).toArray = c.setIfInBounds i v := by
    rw [setL_one (by simpa using hi)]
    apply Array.toList_inj.1
    simp
  simp only [this]
  exact hf
theorem stAt_whole {H : Heap} {b : Nat} {c : Array Value} {t : TypeId} {vs : List Value} {f : Heap → Prop} (h : H[b]? = some (.cells c t (0, 0))) (hl : vs.length = c.size) (ho : ∀ v ∈ vs, v.oneCell' = true)
    (hf : f (H.setIfInBounds b (.cells vs.toArray t (0, 0)))) : stAt H ⟨b, 0, none⟩ vs f := by
  refine ⟨c, t, h, rfl, by simp; omega, ho, ?_⟩
  have : setL c.toList 0 vs = vs := by simp [setL, hl]
  simp only [this]
  exact hf
theorem wrap_id {n : Int} (h0 : -9223372036854775808 ≤ n) (h1 : n ≤ 9223372036854775807) : IntKind.wrap .i64 n = n := wrap_i64 h0 h1
theorem wrap_u8 {n : Int} (h0 : 0 ≤ n) (h1 : n < 256) : IntKind.wrap .u8 n = n := by
 simp only [IntKind.wrap, IntKind.signed, IntKind.bits]; simp; omega
end Go.Sh
namespace Go.Sh
open Go.RowKit
theorem grown_of {W w' : World} (hos : w'.os = W.os) (ho : Out W w') (hx : Ext W.heap w'.heap) : Grown W w' := by
 refine ⟨⟨hos, ho.output, fun i hi => ?_⟩, ho.froz, hx.size⟩
 obtain ⟨o, h⟩ : ∃ o, W.heap[i]? = some o := ⟨_, Array.getElem?_eq_getElem hi⟩
 rw [hx i o h, h]
 cases o with
 | cells c t fr => exact ⟨rfl, rfl, rfl, fun _ _ => rfl⟩
 | map es k => exact .inr ⟨rfl, rfl⟩
 | _ => rfl
end Go.Sh
namespace Go.Sh
open Go.RowKit Go.ChangeShapes Go.WideShapes Go.ChangeAt
section
variable {H : Type} {enc : TypeId × Value → H} {P : Program} {W W' : World}
theorem same_of (hx : Ext W.heap W'.heap) {p : MemPlace} (hp : p.block < W.heap.size) : W.sameAt W' p := by
 have h : W'.heap[p.block]? = W.heap[p.block]? := by
  obtain ⟨o, h⟩ : ∃ o, W.heap[p.block]? = some o := ⟨_, Array.getElem?_eq_getElem hp⟩
  rw [hx _ o h, h]
 cases p with
 | cell b o => exact World.cell?_of_block (w := W) h
 | map b => exact h
theorem trodAll_ext (hl : laidOutB P = true) (hx : Ext W.heap W'.heap) {sp : Nat → Bool} : ∀ {ts : List TypeId} {vs : List Value} {ds : List (DataW H)} {ps : List MemPlace}, (ts.all fun t => P.readableRec t && decide (t < P.types.size)) = true →
    DataW.TrodAll enc P W 0 (fun _ => true) true ts vs ds ps → (∀ x ∈ ps, x.block < W.heap.size) → (∀ x ∈ ps, sp x.block = true) → DataW.TrodAll enc P W' 0 sp true ts vs ds ps
  | [], vs, ds, ps, _, h, _, _ => by
    obtain ⟨rfl, rfl, rfl⟩ := trodAll_nil h
    exact trodAll_mk0
  | t :: ts, vs, ds, ps, hr, h, hlt, hs => by
    obtain ⟨v, vs1, d, ds1, a, b, rfl, rfl, rfl, h1, h2⟩ := trodAll_cons h
    simp only [List.all_cons, Bool.and_eq_true, decide_eq_true_eq] at hr
    exact trodAll_cons_mk (WideElems.Trod_stays hl hr.1.1 hr.1.2 h1 (fun x hx' => same_of hx (hlt x (List.mem_append_left _ hx'))) (fun x hx' => hs x (List.mem_append_left _ hx')))
      (trodAll_ext hl hx (by simpa using hr.2) h2 (fun x hx' => hlt x (List.mem_append_right _ hx')) (fun x hx' => hs x (List.mem_append_right _ hx')))
end
end Go.Sh
namespace Go.Sh
def ints (l : List Int) : List Value := l.map (Value.int .i64)
theorem ints_get {l : List Int} {i : Nat} {v : Int} (h : l[i]? = some v) : (ints l)[i]? = some (Value.int .i64 v) := by simp [ints, h]
theorem ints_len (l : List Int) : (ints l).length = l.length := by simp [ints]
theorem ints_append (a b : List Int) : ints (a ++ b) = ints a ++ ints b := by simp [ints]
theorem ints_set (l : List Int) (i : Nat) (v : Int) : (ints l).set i (.int .i64 v) = ints (l.set i v) := by simp [ints]
theorem ints_one (l : List Int) : ∀ v ∈ ints l, v.oneCell' = true := fun v hv => by
 obtain ⟨x, _, rfl⟩ := List.mem_map.1 hv; rfl
structure RS (H : Heap) (p : Option Addr) (l : Nat) (el : TypeId) (k : Nat) (fs : List Value) : Prop where
 len : fs.length = l * k
 one : ∀ v ∈ fs, v.oneCell' = true
 at_ : l = 0 ∨ ∃ blk cs, p = some ⟨blk, 0, none⟩ ∧ H[blk]? = some (.cells cs el) ∧ ∀ (i : Nat) v, fs[i]? = some v → cs[i]? = some v
structure FS (n0 : Nat) (H : Heap) (p : Option Addr) (l c : Nat) (el : TypeId) (k : Nat) (fs : List Value) : Prop where
 len : fs.length = l * k
 le : l ≤ c
 one : ∀ v ∈ fs, v.oneCell' = true
 at_ : (p = none ∧ c = 0) ∨ ∃ blk cs, p = some ⟨blk, 0, none⟩ ∧ n0 ≤ blk ∧ H[blk]? = some (.cells cs el) ∧ cs.size = c * k ∧ ∀ (i : Nat) v, fs[i]? = some v → cs[i]? = some v
theorem FS.rs {n0 : Nat} {H : Heap} {p : Option Addr} {l c : Nat} {el : TypeId} {k : Nat} {fs : List Value} (h : FS n0 H p l c el k fs) : RS H p l el k fs := by
 refine ⟨h.len, h.one, ?_⟩
 rcases h.at_ with ⟨_, h2⟩ | ⟨blk, cs, h1, _, h3, _, h5⟩
 ·left; have := h.le; omega
 ·exact .inr ⟨blk, cs, h1, h3, h5⟩
theorem RS.keep {H H' : Heap} {p : Option Addr} {l : Nat} {el : TypeId} {k : Nat} {fs : List Value} (h : RS H p l el k fs) (hk : ∀ b cs, p = some ⟨b, 0, none⟩ → H[b]? = some (.cells cs el) → H'[b]? = some (.cells cs el)) : RS H' p l el k fs := by
 refine ⟨h.len, h.one, ?_⟩
 rcases h.at_ with h1 | ⟨blk, cs, h1, h3, h5⟩
 ·exact .inl h1
 ·exact .inr ⟨blk, cs, h1, hk _ _ h1 h3, h5⟩
theorem RS.ext {H H' : Heap} {p : Option Addr} {l : Nat} {el : TypeId} {k : Nat} {fs : List Value} (h : RS H p l el k fs) (he : Ext H H') : RS H' p l el k fs := h.keep fun b cs _ hb => he _ _ hb
theorem FS.keep {n0 : Nat} {H H' : Heap} {p : Option Addr} {l c : Nat} {el : TypeId} {k : Nat} {fs : List Value} (h : FS n0 H p l c el k fs) (hk : ∀ b cs, p = some ⟨b, 0, none⟩ → H[b]? = some (.cells cs el) → H'[b]? = some (.cells cs el)) : FS n0 H' p l c el k fs := by
 refine ⟨h.len, h.le, h.one, ?_⟩
 rcases h.at_ with h1 | ⟨blk, cs, h1, h2, h3, h5⟩
 ·exact .inl h1
 ·exact .inr ⟨blk, cs, h1, h2, hk _ _ h1 h3, h5⟩
theorem FS.ext {n0 : Nat} {H H' : Heap} {p : Option Addr} {l c : Nat} {el : TypeId} {k : Nat} {fs : List Value} (h : FS n0 H p l c el k fs) (he : Ext H H') : FS n0 H' p l c el k fs := h.keep fun b cs _ hb => he _ _ hb
theorem FS.lower {n0 n1 : Nat} {H : Heap} {p : Option Addr} {l c : Nat} {el : TypeId} {k : Nat} {fs : List Value} (h : FS n0 H p l c el k fs) (hn : n1 ≤ n0) : FS n1 H p l c el k fs := by
 refine ⟨h.len, h.le, h.one, ?_⟩
 rcases h.at_ with h1 | ⟨blk, cs, h1, h2, h3, h5⟩
 ·exact .inl h1
 ·exact .inr ⟨blk, cs, h1, by omega, h3, h5⟩
theorem FS.nil (n0 : Nat) (H : Heap) (el : TypeId) (k : Nat) : FS n0 H none 0 0 el k [] := ⟨by simp, Nat.le_refl _, by simp, .inl ⟨rfl, rfl⟩⟩
theorem RS.nil (H : Heap) (p : Option Addr) (el : TypeId) (k : Nat) : RS H p 0 el k [] := ⟨by simp, by simp, .inl rfl⟩
theorem FS.whole {n0 : Nat} {H : Heap} {b l k : Nat} {el : TypeId} {cs : Array Value} (hb : n0 ≤ b) (h : H[b]? = some (.cells cs el)) (hs : cs.size = l * k) (ho : ∀ v ∈ cs.toList, v.oneCell' = true) : FS n0 H (some ⟨b, 0, none⟩) l l el k cs.toList :=
 ⟨by simpa using hs, Nat.le_refl _, ho, .inr ⟨b, cs, rfl, hb, h, hs, fun i v hv => by simpa using hv⟩⟩
theorem RS.cell {H : Heap} {p : Option Addr} {l : Nat} {el : TypeId} {k : Nat} {fs : List Value} (h : RS H p l el k fs) {i : Nat} {v : Value} (hv : fs[i]? = some v) : ∃ blk, p = some ⟨blk, 0, none⟩ ∧ Go.Sh.cell H ⟨blk, i, none⟩ = some v := by
 rcases h.at_ with h1 | ⟨blk, cs, h1, h3, h5⟩
 ·have := (List.getElem?_eq_some_iff.1 hv).1
  have := h.len
  rw [h1] at this
  omega
 ·exact ⟨blk, h1, cell_get h3 (h5 i v hv)⟩
theorem RS.row {H : Heap} {p : Option Addr} {l : Nat} {el : TypeId} {k : Nat} {fs : List Value} (h : RS H p l el k fs) {i : Nat} (hi : i < l) (hk : 0 < k) {xs : Array Value} (hx : ∀ (j : Nat) v, xs[j]? = some v → fs[i * k + j]? = some v) : ∃ blk, p = some ⟨blk, 0, none⟩ ∧ rowIn H ⟨blk, i * k, none⟩ xs := by
 rcases h.at_ with h1 | ⟨blk, cs, h1, h3, h5⟩
 ·omega
 ·exact ⟨blk, h1, rowIn_block h3 fun j v hv => h5 _ _ (hx j v hv)⟩
structure IS (H : Heap) (p : Option Addr) (l : Nat) (fs : List Value) : Prop where
 len : fs.length = l
 get : ∀ (i : Nat) v, fs[i]? = some v → ∃ a, p = some a ∧ Go.Sh.cell H (a.add i) = some v
theorem IS.ext {H H' : Heap} {p : Option Addr} {l : Nat} {fs : List Value} (h : IS H p l fs) (he : Ext H H') : IS H' p l fs := ⟨h.len, fun i v hv => let ⟨a, h1, h2⟩ := h.get i v hv; ⟨a, h1, he.cell h2⟩⟩
theorem IS.cell {H : Heap} {p : Option Addr} {l : Nat} {fs : List Value} (h : IS H p l fs) {i : Nat} {v : Value} (hv : fs[i]? = some v) : ∃ a, p = some a ∧ Go.Sh.cell H (a.add i) = some v := h.get i v hv
theorem RS.is {H : Heap} {p : Option Addr} {l : Nat} {el : TypeId} {fs : List Value} (h : RS H p l el 1 fs) : IS H p l fs :=
 ⟨by have := h.len; omega, fun i v hv => let ⟨blk, h1, h2⟩ := h.cell hv; ⟨_, h1, by simpa using h2⟩⟩
theorem RS.rowOf {H : Heap} {p : Option Addr} {l : Nat} {el : TypeId} {k : Nat} {fs : List Value} (h : RS H p l el k fs) : rowOf H p (l * k) fs.toArray := by
 rcases h.at_ with h1 | ⟨blk, cs, h1, h3, h5⟩
 ·have := h.len
  rw [h1, Nat.zero_mul] at this
  have : fs = [] := List.length_eq_zero_iff.1 this
  subst this
  subst h1
  cases p with
  | none => rfl
  | some a => exact ⟨by simp, fun j v hv => by simp at hv⟩
 ·subst h1
  refine ⟨by simp [h.len], rowIn_block h3 fun j v hv => ?_⟩
  rw [Nat.zero_add]
  exact h5 j v (by simpa using hv)
theorem setL_get {c vs : List Value} {i : Nat} (h : i + vs.length ≤ c.length) (j : Nat) : (setL c i vs)[j]? = if i ≤ j ∧ j < i + vs.length then vs[j - i]? else c[j]? := by
 unfold setL
 by_cases h1 : j < i
 ·rw [if_neg (by omega), List.append_assoc, List.getElem?_append_left (by simp; omega), List.getElem?_take_of_lt h1]
 ·by_cases h2 : j < i + vs.length
  ·rw [if_pos ⟨by omega, h2⟩, List.append_assoc, List.getElem?_append_right (by simp; omega), List.getElem?_append_left (by simp; omega)]
   congr 1
   simp; omega
  ·rw [if_neg (by omega), List.getElem?_append_right (by simp; omega), List.getElem?_drop]
   congr 1
   simp; omega
theorem setL_len {c vs : List Value} {i : Nat} (h : i + vs.length ≤ c.length) : (setL c i vs).length = c.length := by unfold setL; simp; omega
theorem stAt_some {H : Heap} {b i : Nat} {c : Array Value} {t : TypeId} {vs : List Value} {f : Heap → Prop} (h : H[b]? = some (.cells c t (0, 0))) (hl : i + vs.length ≤ c.size) (ho : ∀ v ∈ vs, v.oneCell' = true)
    (hf : ∀ c' : Array Value, c'.size = c.size → (∀ j : Nat, c'[j]? = if i ≤ j ∧ j < i + vs.length then vs[j - i]? else c[j]?) → f (H.setIfInBounds b (.cells c' t (0, 0)))) : stAt H ⟨b, i, none⟩ vs f := by
  have hl' : i + vs.length ≤ c.toList.length := by simpa using hl
  refine ⟨c, t, h, rfl, hl, ho, ?_⟩
  refine hf (setL c.toList i vs).toArray (by simp [setL_len hl']) fun j => ?_
  rw [List.getElem?_toArray, setL_get hl' j, Array.getElem?_toList (xs := c)]
theorem FS.app' {n0 : Nat} {H : Heap} {p q : Option Addr} {l c n : Nat} {el : TypeId} {k bytes : Nat} {zero : Array Value} {fs gs : List Value} (h : FS n0 H p l c el k fs) (hrow : Go.Sh.rowOf H q (n * k) gs.toArray) (hgl : gs.length = n * k) (hgo : ∀ v ∈ gs, v.oneCell' = true) (hk : 0 < k) (hn : n0 ≤ H.size) (hz : zero.size = k)
    (hb : (l + n) * bytes ≤ 70368744177664) (hm : l + n ≤ 1000000000000) {K : Option Addr → Nat → Nat → Heap → Prop}
    (hK : ∀ p' c' H', FS n0 H' p' (l + n) c' el k (fs ++ gs) → (∀ (b : Nat) (o : Obj), H[b]? = some o → p ≠ some ⟨b, 0, none⟩ → H'[b]? = some o) → H.size ≤ H'.size → K p' (l + n) c' H') : appQ k bytes zero H p l c q n el K := by
  have hfl := h.len
  have hlen : (fs ++ gs).length = (l + n) * k := by rw [List.length_append, hfl, hgl, Nat.add_mul]
  have hone : ∀ v ∈ fs ++ gs, v.oneCell' = true := fun v hv => (List.mem_append.1 hv).elim (h.one v) (hgo v)
  refine ⟨hb, by omega, gs.toArray, hrow, fun hle => ?_, fun hlt => ?_⟩
  · rcases h.at_ with ⟨rfl, hc0⟩ | ⟨blk, cs, rfl, h2, h3, h4, h5⟩
    · refine hK none c H ⟨hlen, hle, hone, .inl ⟨rfl, hc0⟩⟩ (fun b o hb _ => hb) (Nat.le_refl _)
    · simp only [add_none, Nat.zero_add]
      have hcap : (l + n) * k ≤ c * k := Nat.mul_le_mul_right k hle
      rw [Nat.add_mul] at hcap
      refine stAt_some h3 (by show l * k + gs.length ≤ cs.size; omega) (by simpa using hgo) fun c' hc' hg => ?_
      refine hK _ _ _ ⟨hlen, hle, hone, .inr ⟨blk, c', rfl, h2, get_set_self h3, by omega, fun i v hv => ?_⟩⟩ (fun b o hb hne => get_set_ne (fun hh => hne (by rw [hh])) hb) (by simp)
      rw [hg]
      by_cases hi : i < fs.length
      · rw [if_neg (by omega)]
        rw [List.getElem?_append_left hi] at hv
        exact h5 i v hv
      · rw [List.getElem?_append_right (by omega)] at hv
        have hlt := (List.getElem?_eq_some_iff.1 hv).1
        rw [if_pos ⟨by omega, by show i < l * k + gs.length; omega⟩]
        rw [← hfl]
        simpa using hv
  · have hrow : ∃ ys, Go.Sh.rowOf H p (l * k) ys ∧ ys.toList = fs := ⟨fs.toArray, h.rs.rowOf, by simp⟩
    obtain ⟨ys, hy, hvs⟩ := hrow
    refine ⟨ys, hy, fun c' hc' => ?_⟩
    rw [zeroCells_eq _ _ (by omega)]
    have hcap : (l + n) * k ≤ c' * k := Nat.mul_le_mul_right k hc'
    have hys : ys.size = l * k := by rw [← Array.length_toList, hvs, hfl]
    refine hK _ _ _ ⟨hlen, hc', hone, .inr ⟨H.size, _, rfl, hn, get_push_self _ _, ?_, fun i v hv => ?_⟩⟩ (fun b o hb _ => get_push hb) (by simp)
    · simp only [Array.size_append, hys, List.size_toArray, reps_length, Array.length_toList, hz, hgl]
      rw [Nat.sub_mul]
      rw [Nat.add_mul] at hcap ⊢
      omega
    · have hi := (List.getElem?_eq_some_iff.1 hv).1
      rw [Array.getElem?_append_left (by simp [hys, hgl]; rw [hlen, Nat.add_mul] at hi; omega)]
      have : (ys ++ gs.toArray).toList = fs ++ gs := by simp [hvs]
      rw [← Array.getElem?_toList, this]
      exact hv
theorem FS.app {n0 : Nat} {H : Heap} {p q : Option Addr} {l c n : Nat} {el : TypeId} {k bytes : Nat} {zero : Array Value} {fs gs : List Value} (h : FS n0 H p l c el k fs) (hs : RS H q n el k gs) (hk : 0 < k) (hn : n0 ≤ H.size) (hz : zero.size = k)
    (hb : (l + n) * bytes ≤ 70368744177664) (hm : l + n ≤ 1000000000000) {K : Option Addr → Nat → Nat → Heap → Prop}
    (hK : ∀ p' c' H', FS n0 H' p' (l + n) c' el k (fs ++ gs) → (∀ (b : Nat) (o : Obj), H[b]? = some o → p ≠ some ⟨b, 0, none⟩ → H'[b]? = some o) → H.size ≤ H'.size → K p' (l + n) c' H') : appQ k bytes zero H p l c q n el K :=
  h.app' hs.rowOf hs.len hs.one hk hn hz hb hm hK
theorem FS.set {n0 : Nat} {H : Heap} {b l c : Nat} {el : TypeId} {k : Nat} {fs : List Value} {i : Nat} {v : Value} {f : Heap → Prop} (h : FS n0 H (some ⟨b, 0, none⟩) l c el k fs) (hi : i < fs.length) (ho : v.oneCell' = true)
    (hf : ∀ H', FS n0 H' (some ⟨b, 0, none⟩) l c el k (fs.set i v) → (∀ (b' : Nat) (o : Obj), H[b']? = some o → b' ≠ b → H'[b']? = some o) → H'.size = H.size → f H') : stAt H ⟨b, i, none⟩ [v] f := by
  have hlen := h.len
  rcases h.at_ with ⟨h1, _⟩ | ⟨blk, cs, h1, h2, h3, h4, h5⟩
  · cases h1
  · cases h1
    have hics : i < cs.size := by
      have := h5 i fs[i] (List.getElem?_eq_getElem hi)
      exact (Array.getElem?_eq_some_iff.1 this).1
    refine stAt_one h3 hics ho ?_
    refine hf _ ⟨by simpa using hlen, h.le, fun u hu => ?_, .inr ⟨b, cs.setIfInBounds i v, rfl, h2, get_set_self h3, by simpa using h4, fun j u hu => ?_⟩⟩ (fun b' o hb' hne => get_set_ne (Ne.symm hne) hb') (by simp)
    · rcases List.mem_or_eq_of_mem_set hu with hu | rfl
      · exact h.one u hu
      · exact ho
    · rw [List.getElem?_set] at hu
      rw [Array.getElem?_setIfInBounds]
      by_cases hij : i = j
      · subst hij
        rw [if_pos rfl, if_pos hi] at hu
        rw [if_pos rfl, if_pos hics]
        exact hu
      · rw [if_neg hij] at hu
        rw [if_neg hij]
        exact h5 j u hu
end Go.Sh
namespace Go.Sh
structure Rs where
 at_ : Heap → List Nat → Prop
 loc : ∀ {H H' : Heap} {fp : List Nat}, at_ H fp → (∀ b ∈ fp, ∀ o, H[b]? = some o → H'[b]? = some o) → at_ H' fp
 has : ∀ {H : Heap} {fp : List Nat}, at_ H fp → ∀ b ∈ fp, b < H.size
def Rs.cell (b : Nat) (cs : Array Value) (ty : TypeId) : Rs where
 at_ H fp := fp = [b] ∧ H[b]? = some (.cells cs ty)
 loc h hk := ⟨h.1, hk _ (by rw [h.1]; exact List.mem_singleton.2 rfl) _ h.2⟩
 has h b hb := by rw [h.1, List.mem_singleton] at hb; subst hb; exact lt_of_get h.2
def Rs.sl (p : Option Addr) (l c : Nat) (el : TypeId) (k : Nat) (fs : List Value) : Rs where
 at_ H fp := FS 0 H p l c el k fs ∧ ((p = none ∧ fp = []) ∨ ∃ blk, p = some ⟨blk, 0, none⟩ ∧ fp = [blk])
 loc h hk := by
  refine ⟨h.1.keep fun b cs hp hb => hk b ?_ _ hb, h.2⟩
  rcases h.2 with ⟨h1, _⟩ | ⟨blk, h1, h2⟩
  ·rw [h1] at hp; cases hp
  ·rw [h1] at hp; cases hp; rw [h2]; exact List.mem_singleton.2 rfl
 has h b hb := by
  rcases h.2 with ⟨_, h2⟩ | ⟨blk, h1, h2⟩
  ·rw [h2] at hb; cases hb
  ·rw [h2, List.mem_singleton] at hb
   subst hb
   rcases h.1.at_ with ⟨h3, _⟩ | ⟨blk', cs, h3, _, h4, _⟩
   ·rw [h1] at h3; cases h3
   ·rw [h1] at h3; cases h3; exact lt_of_get h4
def Rs.star (r s : Rs) : Rs where
 at_ H fp := ∃ a b, fp = a ++ b ∧ r.at_ H a ∧ s.at_ H b
 loc := fun ⟨a, b, e, h1, h2⟩ hk => ⟨a, b, e, r.loc h1 fun x hx => hk x (by rw [e]; exact List.mem_append_left _ hx), s.loc h2 fun x hx => hk x (by rw [e]; exact List.mem_append_right _ hx)⟩
 has := fun ⟨a, b, e, h1, h2⟩ x hx => by
  rw [e] at hx
  rcases List.mem_append.1 hx with hx | hx
  ·exact r.has h1 x hx
  ·exact s.has h2 x hx
def Rs.ex {α : Type} (f : α → Rs) : Rs where
 at_ H fp := ∃ a, (f a).at_ H fp
 loc := fun ⟨a, h⟩ hk => ⟨a, (f a).loc h hk⟩
 has := fun ⟨a, h⟩ => (f a).has h
def Rs.pu (q : Prop) (r : Rs) : Rs where
 at_ H fp := q ∧ r.at_ H fp
 loc := fun ⟨a, h⟩ hk => ⟨a, r.loc h hk⟩
 has := fun ⟨a, h⟩ => r.has h
def Rs.emp : Rs where
 at_ H fp := fp = []
 loc h _ := h
 has h b hb := by rw [h] at hb; cases hb
def Lie (H : Heap) : List Rs → List (List Nat) → Prop
 | [], [] => True
 | r :: σ, fp :: fps => r.at_ H fp ∧ Lie H σ fps
 | _, _ => False
theorem Lie.get {H : Heap} : ∀ {σ : List Rs} {fps : List (List Nat)}, Lie H σ fps → ∀ {i : Nat} {r : Rs}, σ[i]? = some r → ∃ fp, fps[i]? = some fp ∧ r.at_ H fp
 | [], [], _, i, r, h => by simp at h
 | r :: σ, fp :: fps, hl, 0, s, h => by simp at h; subst h; exact ⟨fp, rfl, hl.1⟩
 | r :: σ, fp :: fps, hl, i + 1, s, h => by
  simp only [List.getElem?_cons_succ] at h ⊢
  exact Lie.get hl.2 h
theorem Lie.has {H : Heap} : ∀ {σ : List Rs} {fps : List (List Nat)}, Lie H σ fps → ∀ b ∈ fps.flatten, b < H.size
 | [], [], _, b, hb => by simp at hb
 | r :: σ, fp :: fps, hl, b, hb => by
  simp only [List.flatten_cons, List.mem_append] at hb
  rcases hb with hb | hb
  ·exact r.has hl.1 b hb
  ·exact Lie.has hl.2 b hb
theorem Lie.loc {H H' : Heap} : ∀ {σ : List Rs} {fps : List (List Nat)}, Lie H σ fps → (∀ b ∈ fps.flatten, ∀ o, H[b]? = some o → H'[b]? = some o) → Lie H' σ fps
 | [], [], _, _ => trivial
 | r :: σ, fp :: fps, hl, hk => by
  simp only [List.flatten_cons, List.mem_append] at hk
  exact ⟨r.loc hl.1 fun b hb => hk b (.inl hb), Lie.loc hl.2 fun b hb => hk b (.inr hb)⟩
theorem Lie.set {H H' : Heap} : ∀ {σ : List Rs} {fps : List (List Nat)} {i : Nat} {fp fp' : List Nat} {r' : Rs}, Lie H σ fps → fps.flatten.Nodup → fps[i]? = some fp → r'.at_ H' fp' → fp'.Nodup → (∀ b ∈ fp', b ∈ fp ∨ H.size ≤ b) →
    (∀ b o, H[b]? = some o → b ∉ fp → H'[b]? = some o) → Lie H' (σ.set i r') (fps.set i fp') ∧ (fps.set i fp').flatten.Nodup
  | [], [], i, fp, fp', r', hl, hn, hi, h, hn', hf, hk => by simp at hi
  | r :: σ, g :: fps, 0, fp, fp', r', hl, hn, hi, h, hn', hf, hk => by
    simp at hi; subst hi
    simp only [List.flatten_cons, List.nodup_append] at hn
    refine ⟨⟨h, hl.2.loc fun b hb o ho => hk b o ho fun hg => hn.2.2 b hg b hb rfl⟩, ?_⟩
    simp only [List.set_cons_zero, List.flatten_cons, List.nodup_append]
    refine ⟨hn', hn.2.1, fun a ha b hb hab => ?_⟩
    subst hab
    rcases hf a ha with h1 | h1
    · exact hn.2.2 a h1 a hb rfl
    · have := Lie.has hl.2 a hb; omega
  | r :: σ, g :: fps, i + 1, fp, fp', r', hl, hn, hi, h, hn', hf, hk => by
    simp only [List.getElem?_cons_succ] at hi
    simp only [List.flatten_cons, List.nodup_append] at hn
    obtain ⟨h1, h2⟩ := Lie.set hl.2 hn.2.1 hi h hn' hf hk
    have hmem : ∀ b ∈ fp, b ∈ fps.flatten := fun b hb => List.mem_flatten.2 ⟨fp, List.mem_of_getElem? hi, hb⟩
    refine ⟨⟨r.loc hl.1 fun b hb o ho => hk b o ho fun hg => hn.2.2 b hb b (hmem b hg) rfl, h1⟩, ?_⟩
    simp only [List.set_cons_succ, List.flatten_cons, List.nodup_append]
    refine ⟨hn.1, h2, fun a ha b hb hab => ?_⟩
    subst hab
    obtain ⟨f, hf1, hf2⟩ := List.mem_flatten.1 hb
    rcases List.mem_or_eq_of_mem_set hf1 with hf1 | rfl
    · exact hn.2.2 a ha a (List.mem_flatten.2 ⟨f, hf1, hf2⟩) rfl
    · rcases hf a hf2 with h3 | h3
      · exact hn.2.2 a ha a (hmem a h3) rfl
      · have := r.has hl.1 a ha; omega
structure St (H0 H : Heap) (σ : List Rs) : Prop where
 ext : Ext H0 H
 own : ∃ fps, Lie H σ fps ∧ fps.flatten.Nodup ∧ ∀ b ∈ fps.flatten, H0.size ≤ b
theorem St.nil (H : Heap) : St H H [] := ⟨Ext.refl H, [], trivial, by simp, by simp⟩
theorem St.of_ext {H0 H : Heap} (h : Ext H0 H) : St H0 H [] := ⟨h, [], trivial, by simp, by simp⟩
variable {H0 H H' : Heap} {σ τ : List Rs}
theorem nodup_mem : ∀ {fps : List (List Nat)}, fps.flatten.Nodup → ∀ fp ∈ fps, fp.Nodup
 | [], _, fp, h => by cases h
 | g :: r, hn, fp, h => by
  rw [List.flatten_cons, List.nodup_append] at hn
  rcases List.mem_cons.1 h with rfl | h
  ·exact hn.1
  ·exact nodup_mem hn.2.1 fp h
theorem St.upd (hs : St H0 H σ) {i : Nat} {r r' : Rs} (hi : σ[i]? = some r)
    (h : ∀ fp, r.at_ H fp → fp.Nodup → (∀ b ∈ fp, H0.size ≤ b) → ∃ fp', r'.at_ H' fp' ∧ fp'.Nodup ∧ (∀ b ∈ fp', b ∈ fp ∨ H.size ≤ b) ∧ ∀ b o, H[b]? = some o → b ∉ fp → H'[b]? = some o) : St H0 H' (σ.set i r') := by
  obtain ⟨he, fps, hl, hn, hb⟩ := hs
  obtain ⟨fp, hfp, hat⟩ := hl.get hi
  have hmem : ∀ b ∈ fp, b ∈ fps.flatten := fun b hb => List.mem_flatten.2 ⟨fp, List.mem_of_getElem? hfp, hb⟩
  have hfn : fp.Nodup := nodup_mem hn _ (List.mem_of_getElem? hfp)
  obtain ⟨fp', h1, h2, h3, h4⟩ := h fp hat hfn fun b hb' => hb b (hmem b hb')
  obtain ⟨h5, h6⟩ := hl.set hn hfp h1 h2 h3 h4
  refine ⟨fun b o ho => h4 b o (he b o ho) fun hf => ?_, _, h5, h6, fun b hb' => ?_⟩
  · have := hb b (hmem b hf); have := lt_of_get ho; omega
  · obtain ⟨f, hf1, hf2⟩ := List.mem_flatten.1 hb'
    rcases List.mem_or_eq_of_mem_set hf1 with hf1 | rfl
    · exact hb b (List.mem_flatten.2 ⟨f, hf1, hf2⟩)
    · rcases h3 b hf2 with h7 | h7
      · exact hb b (hmem b h7)
      · have := he.size; omega
theorem St.as (hs : St H0 H σ) (i : Nat) {r r' : Rs} (hi : σ[i]? = some r) (h : ∀ fp, r.at_ H fp → r'.at_ H fp) : St H0 H (σ.set i r') :=
 hs.upd hi fun fp h1 h2 _ => ⟨fp, h fp h1, h2, fun b hb => .inl hb, fun b o ho _ => ho⟩
theorem St.step (hs : St H0 H σ) (he : Ext H H') : St H0 H' σ := by
 obtain ⟨h1, fps, hl, hn, hb⟩ := hs
 exact ⟨h1.trans he, fps, hl.loc fun b _ o ho => he b o ho, hn, hb⟩
theorem Lie.append {H : Heap} : ∀ {σ τ : List Rs} {f g : List (List Nat)}, Lie H σ f → Lie H τ g → Lie H (σ ++ τ) (f ++ g)
 | [], _, [], _, _, h => h
 | _ :: _, _, _ :: _, _, h, h' => ⟨h.1, Lie.append h.2 h'⟩
theorem Lie.split {H : Heap} : ∀ {σ τ : List Rs} {f : List (List Nat)}, Lie H (σ ++ τ) f → ∃ a b, f = a ++ b ∧ Lie H σ a ∧ Lie H τ b
 | [], _, f, h => ⟨[], f, rfl, trivial, h⟩
 | r :: σ, τ, [], h => h.elim
 | r :: σ, τ, g :: f, h => let ⟨a, b, e, h1, h2⟩ := Lie.split h.2; ⟨g :: a, b, by rw [e]; rfl, ⟨h.1, h1⟩, h2⟩
theorem St.call (hs : St H0 H σ) (ht : St H H' τ) : St H0 H' (τ ++ σ) := by
 obtain ⟨h1, fps, hl, hn, hb⟩ := hs
 obtain ⟨h2, gps, hl2, hn2, hb2⟩ := ht
 refine ⟨h1.trans h2, gps ++ fps, hl2.append (hl.loc fun b _ o ho => h2 b o ho), ?_, fun b h => ?_⟩
 ·rw [List.flatten_append, List.nodup_append]
  refine ⟨hn2, hn, fun a ha b hb' hab => ?_⟩
  subst hab
  have := hb2 a ha; have := hl.has a hb'; omega
 ·rw [List.flatten_append, List.mem_append] at h
  rcases h with h | h
  ·have := hb2 b h; have := h1.size; omega
  ·exact hb b h
theorem St.perm (hs : St H0 H σ) (hp : σ.Perm τ) : St H0 H τ := by
 obtain ⟨he, fps, hl, hn, hb⟩ := hs
 have : ∀ {σ τ : List Rs}, σ.Perm τ → ∀ fps, Lie H σ fps → ∃ gps, Lie H τ gps ∧ fps.Perm gps := by
  intro σ τ hp
  induction hp with
  | nil => intro fps h; exact ⟨fps, h, List.Perm.refl _⟩
  | cons x _ ih =>
   intro fps h
   match fps, h with
   | f :: fps, h => obtain ⟨g, h1, h2⟩ := ih fps h.2; exact ⟨f :: g, ⟨h.1, h1⟩, h2.cons f⟩
  | swap x y l =>
   intro fps h
   match fps, h with
   | f :: g :: fps, h => exact ⟨g :: f :: fps, ⟨h.2.1, h.1, h.2.2⟩, List.Perm.swap _ _ _⟩
  | trans _ _ ih1 ih2 =>
   intro fps h
   obtain ⟨g, h1, h2⟩ := ih1 fps h
   obtain ⟨k, h3, h4⟩ := ih2 g h1
   exact ⟨k, h3, h2.trans h4⟩
 obtain ⟨gps, h1, h2⟩ := this hp fps hl
 exact ⟨he, gps, h1, (h2.flatten.nodup_iff).1 hn, fun b h => hb b ((h2.flatten.mem_iff).2 h)⟩
theorem St.app (hs : St H0 H (σ ++ τ)) : St H0 H σ ∧ St H0 H τ := by
 obtain ⟨he, fps, hl, hn, hb⟩ := hs
 obtain ⟨a, b, rfl, h1, h2⟩ := hl.split
 rw [List.flatten_append, List.nodup_append] at hn
 rw [List.flatten_append] at hb
 exact ⟨⟨he, a, h1, hn.1, fun x hx => hb x (List.mem_append_left _ hx)⟩, ⟨he, b, h2, hn.2.1, fun x hx => hb x (List.mem_append_right _ hx)⟩⟩
theorem St.tail {r : Rs} (hs : St H0 H (r :: σ)) : St H0 H σ := (St.app (σ := [r]) hs).2
theorem St.drop (hs : St H0 H σ) (n : Nat) : St H0 H (σ.drop n) := by
 rw [← List.take_append_drop n σ] at hs
 exact hs.app.2
theorem St.take (hs : St H0 H σ) (n : Nat) : St H0 H (σ.take n) := by
 rw [← List.take_append_drop n σ] at hs
 exact hs.app.1
theorem St.swap {r s : Rs} (hs : St H0 H (r :: s :: σ)) : St H0 H (s :: r :: σ) := hs.perm (List.Perm.swap _ _ _)
theorem St.front (hs : St H0 H σ) (i : Nat) {r : Rs} (hi : σ[i]? = some r) : St H0 H (r :: σ.eraseIdx i) := by
 refine hs.perm ?_
 have : ∀ (l : List Rs) (i : Nat), l[i]? = some r → l.Perm (r :: l.eraseIdx i) := by
  intro l
  induction l with
  | nil => intro i h; simp at h
  | cons x l ih =>
   intro i h
   cases i with
   | zero => simp at h; subst h; exact List.Perm.refl _
   | succ i => exact ((ih i (by simpa using h)).cons x).trans (List.Perm.swap _ _ _)
 exact this σ i hi
theorem St.back {r r' : Rs} {i : Nat} (hi : σ[i]? = some r) (hs : St H0 H (r' :: σ.eraseIdx i)) : St H0 H (σ.set i r') := by
 refine hs.perm ?_
 have : ∀ (l : List Rs) (i : Nat), l[i]? = some r → (r' :: l.eraseIdx i).Perm (l.set i r') := by
  intro l
  induction l with
  | nil => intro i h; simp at h
  | cons x l ih =>
   intro i h
   cases i with
   | zero => exact List.Perm.refl _
   | succ i => exact (List.Perm.swap _ _ _).trans ((ih i (by simpa using h)).cons x)
 exact this σ i hi
theorem St.del (hs : St H0 H σ) (i : Nat) : St H0 H (σ.eraseIdx i) := by
 rcases Nat.lt_or_ge i σ.length with h | h
 ·exact (hs.front i (List.getElem?_eq_getElem h)).tail
 ·rw [List.eraseIdx_of_length_le h]; exact hs
theorem St.cat {r s : Rs} (hs : St H0 H (r :: s :: σ)) : St H0 H (.star r s :: σ) := by
 obtain ⟨he, fps, hl, hn, hb⟩ := hs
 match fps, hl with
 | f :: g :: fps, hl => exact ⟨he, (f ++ g) :: fps, ⟨⟨f, g, rfl, hl.1, hl.2.1⟩, hl.2.2⟩, by simpa using hn, fun b h => hb b (by simpa using h)⟩
theorem St.cut {r s : Rs} (hs : St H0 H (.star r s :: σ)) : St H0 H (r :: s :: σ) := by
 obtain ⟨he, fps, hl, hn, hb⟩ := hs
 match fps, hl with
 | _ :: fps, ⟨⟨f, g, rfl, h1, h2⟩, h3⟩ => exact ⟨he, f :: g :: fps, ⟨h1, h2, h3⟩, by simpa using hn, fun b h => hb b (by simpa using h)⟩
theorem St.unex {α : Type} {f : α → Rs} (hs : St H0 H (.ex f :: σ)) : ∃ a, St H0 H (f a :: σ) := by
 obtain ⟨he, fps, hl, hn, hb⟩ := hs
 match fps, hl with
 | g :: fps, ⟨⟨a, h1⟩, h3⟩ => exact ⟨a, he, g :: fps, ⟨h1, h3⟩, hn, hb⟩
theorem St.inex {α : Type} {f : α → Rs} (a : α) (hs : St H0 H (f a :: σ)) : St H0 H (.ex f :: σ) := by
 obtain ⟨he, fps, hl, hn, hb⟩ := hs
 match fps, hl with
 | g :: fps, ⟨h1, h3⟩ => exact ⟨he, g :: fps, ⟨⟨a, h1⟩, h3⟩, hn, hb⟩
theorem St.fact {q : Prop} {r : Rs} (hs : St H0 H (.pu q r :: σ)) : q ∧ St H0 H (r :: σ) := by
 obtain ⟨he, fps, hl, hn, hb⟩ := hs
 match fps, hl with
 | g :: fps, ⟨⟨a, h1⟩, h3⟩ => exact ⟨a, he, g :: fps, ⟨h1, h3⟩, hn, hb⟩
theorem St.with {q : Prop} {r : Rs} (hq : q) (hs : St H0 H (r :: σ)) : St H0 H (.pu q r :: σ) := by
 obtain ⟨he, fps, hl, hn, hb⟩ := hs
 match fps, hl with
 | g :: fps, ⟨h1, h3⟩ => exact ⟨he, g :: fps, ⟨⟨hq, h1⟩, h3⟩, hn, hb⟩
theorem St.new (hs : St H0 H σ) {r : Rs} {fp : List Nat} (he : Ext H H') (h : r.at_ H' fp) (hn : fp.Nodup) (hb : ∀ b ∈ fp, H.size ≤ b) : St H0 H' (r :: σ) :=
 St.call (τ := [r]) hs ⟨he, [fp], ⟨h, trivial⟩, by simpa using hn, by simpa using hb⟩
theorem St.block (hs : St H0 H σ) (i : Nat) {b : Nat} {cs : Array Value} {ty : TypeId} (hi : σ[i]? = some (.cell b cs ty)) : H[b]? = some (.cells cs ty) := by
 obtain ⟨_, fps, hl, _⟩ := hs
 obtain ⟨fp, _, h⟩ := hl.get hi
 exact h.2
theorem St.get (hs : St H0 H σ) (i : Nat) {b j : Nat} {cs : Array Value} {ty : TypeId} {v : Value} (hi : σ[i]? = some (.cell b cs ty)) (hj : cs[j]? = some v) : Sh.cell H ⟨b, j, none⟩ = some v :=
 cell_get (hs.block i hi) hj
theorem St.alc (hs : St H0 H σ) {cs : Array Value} {ty : TypeId} {K : Nat → Heap → Prop} (hK : ∀ b H', St H0 H' (.cell b cs ty :: σ) → K b H') : Sh.alc H (.cells cs ty) K :=
 hK _ _ (hs.new (Ext.push _ _) (fp := [H.size]) ⟨rfl, get_push_self _ _⟩ (by simp) (by simp))
theorem St.alcE (hs : St H0 H σ) {cs : Array Value} {ty : TypeId} {K : Nat → Heap → Prop} (hK : ∀ b H', Ext H H' → St H0 H' (.cell b cs ty :: σ) → K b H') : Sh.alc H (.cells cs ty) K :=
 hK _ _ (Ext.push _ _) (hs.new (Ext.push _ _) (fp := [H.size]) ⟨rfl, get_push_self _ _⟩ (by simp) (by simp))
theorem St.put (hs : St H0 H σ) (i : Nat) {b j : Nat} {cs : Array Value} {ty : TypeId} {v : Value} {f : Heap → Prop} (hi : σ[i]? = some (.cell b cs ty)) (hj : j < cs.size) (ho : v.oneCell' = true)
    (hK : ∀ H', St H0 H' (σ.set i (.cell b (cs.setIfInBounds j v) ty)) → f H') : stAt H ⟨b, j, none⟩ [v] f :=
  stAt_one (hs.block i hi) hj ho (hK _ (hs.upd hi fun fp h1 _ _ => ⟨[b], ⟨rfl, get_set_self h1.2⟩, by simp, fun x hx => .inl (h1.1 ▸ hx), fun x o ho hx => get_set_ne (fun he => hx (by rw [h1.1, he]; exact List.mem_singleton.2 rfl)) ho⟩))
theorem St.putAll (hs : St H0 H σ) (i : Nat) {b : Nat} {cs : Array Value} {ty : TypeId} {vs : List Value} {f : Heap → Prop} (hi : σ[i]? = some (.cell b cs ty)) (hl : vs.length = cs.size) (ho : ∀ v ∈ vs, v.oneCell' = true)
    (hK : ∀ H', St H0 H' (σ.set i (.cell b vs.toArray ty)) → f H') : stAt H ⟨b, 0, none⟩ vs f :=
  stAt_whole (hs.block i hi) hl ho (hK _ (hs.upd hi fun fp h1 _ _ => ⟨[b], ⟨rfl, get_set_self h1.2⟩, by simp, fun x hx => .inl (h1.1 ▸ hx), fun x o ho hx => get_set_ne (fun he => hx (by rw [h1.1, he]; exact List.mem_singleton.2 rfl)) ho⟩))
theorem St.putRow (hs : St H0 H σ) (i : Nat) {b j : Nat} {cs : Array Value} {ty : TypeId} {vs : List Value} {f : Heap → Prop} (hi : σ[i]? = some (.cell b cs ty)) (hl : j + vs.length ≤ cs.size) (ho : ∀ v ∈ vs, v.oneCell' = true)
    (hK : ∀ H', St H0 H' (σ.set i (.cell b (setL cs.toList j vs).toArray ty)) → f H') : stAt H ⟨b, j, none⟩ vs f :=
  ⟨cs, ty, hs.block i hi, rfl, hl, ho, hK _ (hs.upd hi fun fp h1 _ _ => ⟨[b], ⟨rfl, get_set_self h1.2⟩, by simp, fun x hx => .inl (h1.1 ▸ hx), fun x o ho hx => get_set_ne (fun he => hx (by rw [h1.1]; exact List.mem_singleton.2 he.symm)) ho⟩)⟩
theorem St.fs (hs : St H0 H σ) (i : Nat) {p : Option Addr} {l c k : Nat} {el : TypeId} {fs : List Value} (hi : σ[i]? = some (.sl p l c el k fs)) : FS 0 H p l c el k fs := by
 obtain ⟨_, fps, hl, _⟩ := hs
 obtain ⟨fp, _, h⟩ := hl.get hi
 exact h.1
theorem St.rs (hs : St H0 H σ) (i : Nat) {p : Option Addr} {l c k : Nat} {el : TypeId} {fs : List Value} (hi : σ[i]? = some (.sl p l c el k fs)) : RS H p l el k fs := (hs.fs i hi).rs
theorem St.is (hs : St H0 H σ) (i : Nat) {p : Option Addr} {l c : Nat} {el : TypeId} {fs : List Value} (hi : σ[i]? = some (.sl p l c el 1 fs)) : IS H p l fs := (hs.rs i hi).is
theorem FS.resrc {n0 : Nat} {H : Heap} {p : Option Addr} {l c k : Nat} {el : TypeId} {fs : List Value} (h : FS n0 H p l c el k fs) : ∃ fp, (Rs.sl p l c el k fs).at_ H fp ∧ fp.Nodup ∧ (∀ b ∈ fp, n0 ≤ b) ∧ ∀ b ∈ fp, p = some ⟨b, 0, none⟩ := by
 rcases h.at_ with ⟨h1, h2⟩ | ⟨blk, cs, h1, h2, h3, h4, h5⟩
 ·exact ⟨[], ⟨h.lower (Nat.zero_le _), .inl ⟨h1, rfl⟩⟩, by simp, by simp, by simp⟩
 ·exact ⟨[blk], ⟨h.lower (Nat.zero_le _), .inr ⟨blk, h1, rfl⟩⟩, by simp, by simpa using h2, by simpa using h1⟩
theorem St.newSl (hs : St H0 H σ) {p : Option Addr} {l c k : Nat} {el : TypeId} {fs : List Value} (he : Ext H H') (h : FS H.size H' p l c el k fs) : St H0 H' (.sl p l c el k fs :: σ) := by
 obtain ⟨fp, h1, h2, h3, _⟩ := h.resrc
 exact hs.new he h1 h2 h3
theorem St.nilSl (hs : St H0 H σ) (el : TypeId) (k : Nat) : St H0 H (.sl none 0 0 el k [] :: σ) := hs.newSl (Ext.refl _) (FS.nil _ _ _ _)
theorem St.toSl (hs : St H0 H σ) (i : Nat) {b l k : Nat} {cs : Array Value} {ty : TypeId} {fs : List Value} (hi : σ[i]? = some (.cell b cs ty)) (hl : cs.size = l * k) (hf : cs.toList = fs) (ho : ∀ v ∈ fs, v.oneCell' = true) :
    St H0 H (σ.set i (.sl (some ⟨b, 0, none⟩) l l ty k fs)) :=
  hs.as i hi fun fp h => ⟨⟨by rw [← hf]; simpa using hl, Nat.le_refl _, ho, .inr ⟨b, cs, rfl, Nat.zero_le _, h.2, hl, fun j v hv => by rw [← hf] at hv; simpa using hv⟩⟩, .inr ⟨b, rfl, h.1⟩⟩
theorem FS.app2 {n0 : Nat} {H : Heap} {p q : Option Addr} {l c n : Nat} {el : TypeId} {k bytes : Nat} {zero : Array Value} {fs gs : List Value} (h : FS n0 H p l c el k fs) (hrow : Go.Sh.rowOf H q (n * k) gs.toArray) (hgl : gs.length = n * k) (hgo : ∀ v ∈ gs, v.oneCell' = true) (hk : 0 < k) (hn : n0 ≤ H.size) (hz : zero.size = k)
    (hb : (l + n) * bytes ≤ 70368744177664) (hm : l + n ≤ 1000000000000) {K : Option Addr → Nat → Nat → Heap → Prop}
    (hK : ∀ p' c' H', FS n0 H' p' (l + n) c' el k (fs ++ gs) → (∀ (b : Nat) (o : Obj), H[b]? = some o → p ≠ some ⟨b, 0, none⟩ → H'[b]? = some o) → (p' = p ∨ p' = some ⟨H.size, 0, none⟩) → K p' (l + n) c' H') : appQ k bytes zero H p l c q n el K := by
  by_cases hle : l + n ≤ c
  · obtain ⟨g1, g2, xs, g3, g4, _⟩ := h.app' (K := fun p' l' c' H' => p' = p → K p' l' c' H') hrow hgl hgo hk hn hz hb hm fun p' c' H' h1 h2 h3 hp => hK p' c' H' h1 h2 (.inl hp)
    refine ⟨g1, g2, xs, g3, fun hle => ?_, fun hlt => by omega⟩
    have := g4 hle
    cases p with
    | none => exact this rfl
    | some a =>
      obtain ⟨cs, T, a1, a2, a3, a4, a5⟩ := this
      exact ⟨cs, T, a1, a2, a3, a4, a5 rfl⟩
  · obtain ⟨g1, g2, xs, g3, _, g4⟩ := h.app' (K := fun p' l' c' H' => p' = some ⟨H.size, 0, none⟩ → K p' l' c' H') hrow hgl hgo hk hn hz hb hm fun p' c' H' h1 h2 h3 hp => hK p' c' H' h1 h2 (.inr hp)
    refine ⟨g1, g2, xs, g3, fun hle' => by omega, fun hlt => ?_⟩
    obtain ⟨ys, b1, b2⟩ := g4 hlt
    exact ⟨ys, b1, fun c' hc' => b2 c' hc' rfl⟩
theorem Rs.sl_at {H : Heap} {p : Option Addr} {l c k : Nat} {el : TypeId} {fs : List Value} {fp : List Nat} (h : (Rs.sl p l c el k fs).at_ H fp) {b : Nat} (hp : p = some ⟨b, 0, none⟩) : fp = [b] := by
 rcases h.2 with ⟨h1, _⟩ | ⟨blk, h1, h2⟩
 ·rw [hp] at h1; cases h1
 ·rw [hp] at h1; cases h1; exact h2
theorem St.slSet (hs : St H0 H σ) {i : Nat} {p p' : Option Addr} {l c l' c' k : Nat} {el : TypeId} {fs fs' : List Value} (hi : σ[i]? = some (.sl p l c el k fs)) (h : FS 0 H' p' l' c' el k fs')
    (hk : ∀ (b : Nat) (o : Obj), H[b]? = some o → p ≠ some ⟨b, 0, none⟩ → H'[b]? = some o) (hp : p' = p ∨ p' = some ⟨H.size, 0, none⟩) : St H0 H' (σ.set i (.sl p' l' c' el k fs')) := by
  refine hs.upd hi fun fp h1 h2 h3 => ?_
  obtain ⟨fp', g1, g2, _, g4⟩ := h.resrc
  refine ⟨fp', g1, g2, fun b hb => ?_, fun b o ho hb => hk b o ho fun he => hb (by rw [Rs.sl_at h1 he]; exact List.mem_singleton.2 rfl)⟩
  have := g4 b hb
  rcases hp with rfl | hp
  · left; rw [Rs.sl_at h1 this]; exact List.mem_singleton.2 rfl
  · rw [this] at hp; cases hp; exact .inr (Nat.le_refl _)
theorem St.appS (hs : St H0 H σ) (i : Nat) {p q : Option Addr} {l c n k bytes : Nat} {el : TypeId} {zero : Array Value} {fs gs : List Value} (hi : σ[i]? = some (.sl p l c el k fs)) (hrow : Go.Sh.rowOf H q (n * k) gs.toArray) (hgl : gs.length = n * k)
    (hgo : ∀ v ∈ gs, v.oneCell' = true) (hk : 0 < k) (hz : zero.size = k) (hb : (l + n) * bytes ≤ 70368744177664) (hm : l + n ≤ 1000000000000) {K : Option Addr → Nat → Nat → Heap → Prop}
    (hK : ∀ p' c' H', St H0 H' (σ.set i (.sl p' (l + n) c' el k (fs ++ gs))) → K p' (l + n) c' H') : appQ k bytes zero H p l c q n el K :=
  (hs.fs i hi).app2 hrow hgl hgo hk (Nat.zero_le _) hz hb hm fun p' c' H' h1 h2 h3 => hK p' c' H' (hs.slSet hi h1 h2 h3)
theorem St.appC (hs : St H0 H σ) (i m : Nat) {p : Option Addr} {b l c n k bytes : Nat} {el ty : TypeId} {zero cs : Array Value} {fs : List Value} (hi : σ[i]? = some (.sl p l c el k fs)) (hm' : σ[m]? = some (.cell b cs ty)) (hgl : cs.size = n * k)
    (hgo : ∀ v ∈ cs.toList, v.oneCell' = true) (hk : 0 < k) (hz : zero.size = k) (hb : (l + n) * bytes ≤ 70368744177664) (hm : l + n ≤ 1000000000000) {K : Option Addr → Nat → Nat → Heap → Prop}
    (hK : ∀ p' c' H', St H0 H' (σ.set i (.sl p' (l + n) c' el k (fs ++ cs.toList))) → K p' (l + n) c' H') : appQ k bytes zero H p l c (some ⟨b, 0, none⟩) n el K :=
  hs.appS i hi (gs := cs.toList) (show Go.Sh.rowOf H (Option.some ⟨b, 0, none⟩) (n * k) cs.toList.toArray from ⟨by simpa using hgl, by simpa using rowIn_whole (hs.block m hm')⟩) (by simpa using hgl) hgo hk hz hb hm hK
theorem St.appR (hs : St H0 H σ) (i : Nat) {p q : Option Addr} {l c n k bytes : Nat} {el el' : TypeId} {zero : Array Value} {fs gs : List Value} (hi : σ[i]? = some (.sl p l c el k fs)) (hr : RS H q n el' k gs) (hk : 0 < k) (hz : zero.size = k)
    (hb : (l + n) * bytes ≤ 70368744177664) (hm : l + n ≤ 1000000000000) {K : Option Addr → Nat → Nat → Heap → Prop}
    (hK : ∀ p' c' H', St H0 H' (σ.set i (.sl p' (l + n) c' el k (fs ++ gs))) → K p' (l + n) c' H') : appQ k bytes zero H p l c q n el K :=
  hs.appS i hi hr.rowOf hr.len hr.one hk hz hb hm hK
theorem IS.rowOf {H : Heap} {p : Option Addr} {l : Nat} {fs : List Value} (h : IS H p l fs) : Go.Sh.rowOf H p (l * 1) fs.toArray := by
 cases p with
 | none =>
  have : fs = [] := List.eq_nil_iff_forall_not_mem.2 fun v hv => by
   obtain ⟨i, hi⟩ := List.getElem?_of_mem hv
   obtain ⟨a, h1, _⟩ := h.get i v hi
   cases h1
  subst this; rfl
 | some a =>
  refine ⟨by simp [h.len], fun j v hv => ?_⟩
  obtain ⟨a', h1, h2⟩ := h.get j v (by simpa using hv)
  cases h1; exact h2
theorem St.appI (hs : St H0 H σ) (i : Nat) {p q : Option Addr} {l c n bytes : Nat} {el : TypeId} {zero : Array Value} {fs gs : List Value} (hi : σ[i]? = some (.sl p l c el 1 fs)) (hr : IS H q n gs) (ho : ∀ v ∈ gs, v.oneCell' = true) (hz : zero.size = 1)
    (hb : (l + n) * bytes ≤ 70368744177664) (hm : l + n ≤ 1000000000000) {K : Option Addr → Nat → Nat → Heap → Prop}
    (hK : ∀ p' c' H', St H0 H' (σ.set i (.sl p' (l + n) c' el 1 (fs ++ gs))) → K p' (l + n) c' H') : appQ 1 bytes zero H p l c q n el K :=
  hs.appS i hi hr.rowOf (by simp [hr.len]) ho (by decide) hz hb hm hK
theorem St.slPut (hs : St H0 H σ) (i : Nat) {b l c k j : Nat} {el : TypeId} {fs : List Value} {v : Value} {f : Heap → Prop} (hi : σ[i]? = some (.sl (some ⟨b, 0, none⟩) l c el k fs)) (hj : j < fs.length) (ho : v.oneCell' = true)
    (hK : ∀ H', St H0 H' (σ.set i (.sl (some ⟨b, 0, none⟩) l c el k (fs.set j v))) → f H') : stAt H ⟨b, j, none⟩ [v] f :=
  (hs.fs i hi).set hj ho fun H' h1 h2 h3 => hK H' (hs.slSet hi h1 (fun b' o ho hne => h2 b' o ho fun he => hne (by rw [he])) (.inl rfl))
theorem St.slSome (hs : St H0 H σ) (i : Nat) {p : Option Addr} {l c k j : Nat} {el : TypeId} {fs : List Value} (hi : σ[i]? = some (.sl p l c el k fs)) (hj : j < fs.length) : ∃ b, p = some ⟨b, 0, none⟩ := by
 obtain ⟨b, h, _⟩ := (hs.rs i hi).cell (List.getElem?_eq_getElem hj)
 exact ⟨b, h⟩
def kints (k : IntKind) (l : List Int) : List Value := l.map (Value.int k)
theorem kints_get {k : IntKind} {l : List Int} {i : Nat} {v : Int} (h : l[i]? = some v) : (kints k l)[i]? = some (Value.int k v) := by simp [kints, h]
theorem kints_len (k : IntKind) (l : List Int) : (kints k l).length = l.length := by simp [kints]
theorem kints_set (k : IntKind) (l : List Int) (i : Nat) (v : Int) : (kints k l).set i (.int k v) = kints k (l.set i v) := by simp [kints]
theorem kints_one (k : IntKind) (l : List Int) : ∀ v ∈ kints k l, v.oneCell' = true := fun v hv => by
 obtain ⟨x, _, rfl⟩ := List.mem_map.1 hv; rfl
theorem IS.rd {H : Heap} {p : Option Addr} {l : Nat} {k : IntKind} {ls : List Int} (h : IS H p l (kints k ls)) {i x : Int} (h0 : 0 ≤ i) (h1 : i < l) (hx : ls[i.toNat]? = some x) {K : Int → Prop} (hK : K x) :
    ∃ a : Addr, p = some a ∧ 0 ≤ i ∧ i < ((l : Nat) : Int) ∧ ∃ v : Int, Sh.cell H (Addr.add a (Int.toNat i * 1)) = some (.int k v) ∧ K v := by
  obtain ⟨a, hp, hc⟩ := h.get _ _ (kints_get hx)
  exact ⟨a, hp, h0, h1, x, by simpa using hc, hK⟩
theorem IS.length {H : Heap} {p : Option Addr} {l : Nat} {k : IntKind} {ls : List Int} (h : IS H p l (kints k ls)) : ls.length = l := by have := h.len; rwa [kints_len] at this
theorem add_add (a : Addr) (i j : Nat) : (a.add i).add j = a.add (i + j) := by
 obtain ⟨b, o, s⟩ := a
 unfold Addr.add
 cases s <;> simp <;> split <;> split <;> simp_all <;> omega
theorem IS.part {H : Heap} {a : Addr} {l : Nat} {fs : List Value} (h : IS H (some a) l fs) {i n : Nat} (hi : i + n ≤ l) : IS H (some (a.add i)) n ((fs.drop i).take n) := by
 refine ⟨by have := h.len; simp; omega, fun j v hv => ?_⟩
 rw [List.getElem?_take] at hv
 split at hv
 ·rw [List.getElem?_drop] at hv
  obtain ⟨a', h1, h2⟩ := h.get _ _ hv
  cases h1
  refine ⟨_, rfl, ?_⟩
  rw [show (a.add i).add j = a.add (i + j) from add_add a i j]
  exact h2
 ·cases hv
theorem upto {n : Nat} {Q : Nat → Prop} (h : ∀ i, i ≤ n → (i < n → Q (i + 1)) → Q i) : ∀ i, i ≤ n → Q i := by
 have : ∀ m i, n - i = m → i ≤ n → Q i := by
  intro m
  induction m with
  | zero => intro i hm hi; exact h i hi fun hlt => by omega
  | succ m ih => intro i hm hi; exact h i hi fun hlt => ih (i + 1) (by omega) (by omega)
 exact fun i hi => this (n - i) i rfl hi
end Go.Sh
namespace Go.Sh
variable {H0 H : Heap} {σ : List Rs}
theorem intsA_size (l : List Int) : (ints l).toArray.size = l.length := by simp [ints]
theorem St.rdA (hs : St H0 H σ) (i : Nat) {b j : Nat} {l : List Int} {ty : TypeId} {x : Int} (hi : σ[i]? = some (.cell b (ints l).toArray ty)) (hx : l[j]? = some x) : Sh.cell H ⟨b, j, none⟩ = some (.int .i64 x) :=
 hs.get i hi (by rw [List.getElem?_toArray]; exact ints_get hx)
theorem St.putA (hs : St H0 H σ) (i : Nat) {b j : Nat} {l : List Int} {ty : TypeId} {x : Int} {f : Heap → Prop} (hi : σ[i]? = some (.cell b (ints l).toArray ty)) (hj : j < l.length)
    (hK : ∀ H', St H0 H' (σ.set i (.cell b (ints (l.set j x)).toArray ty)) → f H') : stAt H ⟨b, j, none⟩ [.int .i64 x] f :=
  hs.put i hi (by rw [intsA_size]; exact hj) rfl fun H' hs' => hK H' (by
    have e : (ints l).toArray.setIfInBounds j (Value.int .i64 x) = (ints (l.set j x)).toArray := by rw [← ints_set]; simp
    rw [← e]; exact hs')
theorem St.putAllA (hs : St H0 H σ) (i : Nat) {b : Nat} {cs : Array Value} {l : List Int} {ty : TypeId} {f : Heap → Prop} (hi : σ[i]? = some (.cell b cs ty)) (hl : l.length = cs.size)
    (hK : ∀ H', St H0 H' (σ.set i (.cell b (ints l).toArray ty)) → f H') : stAt H ⟨b, 0, none⟩ (Array.toList (ints l).toArray) f :=
  hs.putAll i hi (by simpa [ints] using hl) (fun v hv => ints_one l v (by simpa using hv)) fun H' hs' => hK H' (by simpa using hs')
theorem reps_rep (v : Value) : ∀ n, reps n [v] = List.replicate n v
 | 0 => rfl
 | n + 1 => by rw [reps, reps_rep v n, List.replicate_succ]; rfl
theorem repsA (n : Nat) : (reps n (Array.toList #[Value.int .i64 0])).toArray = (ints (List.replicate n 0)).toArray := by
 show (reps n [Value.int .i64 0]).toArray = _
 rw [reps_rep]; simp [ints]
theorem getD_some {α : Type} (a : List α) (d : α) {i : Nat} (h : i < a.length) : a[i]? = some (a.getD i d) := by rw [List.getD_eq_getElem?_getD, List.getElem?_eq_getElem h]; rfl
def fillA (L : List Int) (s : Nat) : List Int := L.take s ++ List.replicate (L.length - s) 0
theorem fillA_len {L : List Int} {s : Nat} (h : s ≤ L.length) : (fillA L s).length = L.length := by unfold fillA; simp; omega
theorem fillA_zero (L : List Int) : fillA L 0 = List.replicate L.length 0 := by simp [fillA]
theorem fillA_all (L : List Int) : fillA L L.length = L := by simp [fillA]
theorem fillA_set {L : List Int} {s : Nat} (h : s < L.length) : (fillA L s).set s (L.getD s 0) = fillA L (s + 1) := by
 unfold fillA
 have ht : L.take (s + 1) = L.take s ++ [L.getD s 0] := by rw [List.take_add_one, getD_some L 0 h]; rfl
 rw [ht, List.set_append_right _ _ (by rw [List.length_take]; omega), List.length_take, Nat.min_eq_left (by omega), Nat.sub_self, show L.length - s = (L.length - (s + 1)) + 1 from by omega, List.replicate_succ, List.set_cons_zero, List.append_assoc]
 rfl
theorem fillA_at {L : List Int} {s : Nat} (h : s < L.length) : (fillA L s)[s]? = some 0 := by
 unfold fillA
 rw [List.getElem?_append_right (by rw [List.length_take]; omega), List.length_take, Nat.min_eq_left (by omega), Nat.sub_self, show L.length - s = (L.length - (s + 1)) + 1 from by omega, List.replicate_succ]
 rfl
theorem fillA_set0 {L : List Int} {s : Nat} (h : s < L.length) : (fillA L s).set s 0 = fillA L s := by
 have h1 := fillA_at h
 obtain ⟨h2, h3⟩ := List.getElem?_eq_some_iff.1 h1
 rw [← h3, List.set_getElem_self]
theorem tab_getD {n : Nat} {f : Nat → Int} {i : Nat} (h : i < n) : ((List.range n).map f).getD i 0 = f i := by simp [List.getD_eq_getElem?_getD, h]
theorem tab_get {n : Nat} {f : Nat → Int} {i : Nat} (h : i < n) : ((List.range n).map f)[i]? = some (f i) := by simp [h]
theorem mul_bd {x y A B : Int} (hx : -A ≤ x ∧ x ≤ A) (hy : -B ≤ y ∧ y ≤ B) : -(A * B) ≤ x * y ∧ x * y ≤ A * B := by
 have h1 : x.natAbs ≤ A.toNat := by omega
 have h2 : y.natAbs ≤ B.toNat := by omega
 have h3 := Nat.mul_le_mul h1 h2
 rw [← Int.natAbs_mul] at h3
 have h4 : ((A.toNat * B.toNat : Nat) : Int) = A * B := by
  rw [Int.natCast_mul, Int.toNat_of_nonneg (by omega), Int.toNat_of_nonneg (by omega)]
 omega
end Go.Sh
namespace Go.Proofs
open Go.Sh
structure M6 where
 a : Int
 b : Int
 c : Int
 d : Int
 e : Int
 f : Int
 deriving DecidableEq
def M6.l (m : M6) : List Int := [m.a, m.b, m.c, m.d, m.e, m.f]
structure LayF where
 id : Int
 kind : Int
 hidden : Bool
 opacity : Int
 mode : Int
 w : Int
 h : Int
 p : List Int
 mask : List Int
 map : M6
 smooth : Bool
 table : Int
 params : List Int
 deriving DecidableEq
inductive Lay where
 | mk (f : LayF) (kids : List Lay)
def Lay.f : Lay → LayF
 | .mk f _ => f
def Lay.kids : Lay → List Lay
 | .mk _ k => k
structure Sl3 where
 p : Option Addr
 l : Nat
 c : Nat
def Sl3.v (s : Sl3) : Value := .slice s.p s.l s.c
def Sl3.nil : Sl3 := ⟨none, 0, 0⟩
inductive T where
 | mk (f : LayF) (P M A K : Sl3) (kids : List T)
def T.f : T → LayF
 | .mk f _ _ _ _ _ => f
def T.K : T → Sl3
 | .mk _ _ _ _ K _ => K
def T.P' : T → Sl3
 | .mk _ P _ _ _ _ => P
def T.M' : T → Sl3
 | .mk _ _ M _ _ _ => M
def T.A' : T → Sl3
 | .mk _ _ _ A _ _ => A
def T.kids : T → List T
 | .mk _ _ _ _ _ k => k
def cellsL (f : LayF) (P M A K : Value) : List Value :=
 [.int .i64 f.id, .int .i64 f.kind, .bool f.hidden, .int .i64 f.opacity, .int .i64 f.mode, .int .i64 f.w, .int .i64 f.h, P, M,
  .int .i64 f.map.a, .int .i64 f.map.b, .int .i64 f.map.c, .int .i64 f.map.d, .int .i64 f.map.e, .int .i64 f.map.f, .bool f.smooth, .int .i64 f.table, A, K]
def cellsT : T → List Value
 | .mk f P M A K _ => cellsL f P.v M.v A.v K.v
def cellsKs (ts : List T) : List Value := (ts.map cellsT).flatten
theorem cellsT_len (t : T) : (cellsT t).length = 19 := by cases t; rfl
theorem cellsKs_len (ts : List T) : (cellsKs ts).length = ts.length * 19 := by
 unfold cellsKs
 induction ts with
 | nil => rfl
 | cons t ts ih => rw [List.map_cons, List.flatten_cons, List.length_append, ih, cellsT_len, List.length_cons]; omega
theorem cellsT_one (t : T) : ∀ v ∈ cellsT t, v.oneCell' = true := by
 cases t with | mk f P M A K ks =>
 show ∀ v ∈ cellsL f P.v M.v A.v K.v, v.oneCell' = true
 unfold cellsL
 simp only [List.forall_mem_cons]
 exact ⟨rfl, rfl, rfl, rfl, rfl, rfl, rfl, rfl, rfl, rfl, rfl, rfl, rfl, rfl, rfl, rfl, rfl, rfl, rfl, fun _ h => by cases h⟩
theorem cellsL_one (f : LayF) (P M A K : Sl3) : ∀ v ∈ cellsL f P.v M.v A.v K.v, v.oneCell' = true := cellsT_one (.mk f P M A K [])
theorem cellsKs_app (a b : List T) : cellsKs (a ++ b) = cellsKs a ++ cellsKs b := by simp [cellsKs]
theorem cellsKs_one (t : T) : cellsKs [t] = cellsT t := by simp [cellsKs]
theorem cellsKs_cons (t : T) (ts : List T) : cellsKs (t :: ts) = cellsT t ++ cellsKs ts := by simp [cellsKs]
theorem cellsKs_get {ts : List T} {i : Nat} {t : T} (h : ts[i]? = some t) {j : Nat} {v : Value} (hv : (cellsT t)[j]? = some v) : (cellsKs ts)[i * 19 + j]? = some v := by
 have hj : j < 19 := by have := (List.getElem?_eq_some_iff.1 hv).1; rw [cellsT_len] at this; exact this
 induction ts generalizing i with
 | nil => simp at h
 | cons x ts ih =>
  rw [cellsKs_cons]
  cases i with
  | zero =>
   simp at h; subst h
   rw [Nat.zero_mul, Nat.zero_add, List.getElem?_append_left (by rw [cellsT_len]; exact hj)]; exact hv
  | succ i =>
   rw [List.getElem?_append_right (by rw [cellsT_len]; omega), cellsT_len, show (i + 1) * 19 + j - 19 = i * 19 + j from by omega]
   exact ih (by simpa using h)
mutual
def layT : T → Lay
 | .mk f _ _ _ _ ks => .mk f (layKs ks)
def layKs : List T → List Lay
 | [] => []
 | t :: ts => layT t :: layKs ts
end
theorem layKs_map (ts : List T) : layKs ts = ts.map layT := by
 induction ts with
 | nil => rfl
 | cons t ts ih => rw [layKs, ih]; rfl
theorem layKs_len (ts : List T) : (layKs ts).length = ts.length := by rw [layKs_map, List.length_map]
theorem layKs_app (a b : List T) : layKs (a ++ b) = layKs a ++ layKs b := by simp [layKs_map]
theorem layT_f (t : T) : (layT t).f = t.f := by cases t; rfl
theorem T.ind {Q : T → Prop} (h : ∀ f P M A K ks, (∀ t ∈ ks, Q t) → Q (.mk f P M A K ks)) : ∀ t, Q t :=
 fun t => T.rec (motive_1 := Q) (motive_2 := fun ts => ∀ t ∈ ts, Q t) (fun f P M A K ks ih => h f P M A K ks ih) (fun _ h => by cases h)
  (fun t ts h1 h2 u hu => by
   rcases List.mem_cons.1 hu with rfl | hu
   ·exact h1
   ·exact h2 u hu) t
theorem Lay.ind {Q : Lay → Prop} (h : ∀ f ks, (∀ t ∈ ks, Q t) → Q (.mk f ks)) : ∀ t, Q t :=
 fun t => Lay.rec (motive_1 := Q) (motive_2 := fun ts => ∀ t ∈ ts, Q t) (fun f ks ih => h f ks ih) (fun _ h => by cases h)
  (fun t ts h1 h2 u hu => by
   rcases List.mem_cons.1 hu with rfl | hu
   ·exact h1
   ·exact h2 u hu) t
def rowsK (H : Heap) (K : Sl3) (ks : List T) : Prop := K.l = ks.length ∧ ∀ (i : Nat) t, ks[i]? = some t → ∃ a, K.p = some a ∧ rowIn H (a.add (i * 19)) (cellsT t).toArray
mutual
def rdT (H : Heap) : T → Prop
 | .mk f P M A K ks => IS H P.p P.l (ints f.p) ∧ IS H M.p M.l (kints .u8 f.mask) ∧ IS H A.p A.l (ints f.params) ∧ rowsK H K ks ∧ rdKs H ks
def rdKs (H : Heap) : List T → Prop
 | [] => True
 | t :: ts => rdT H t ∧ rdKs H ts
end
def grp (H : Heap) (K : Sl3) (ks : List T) : Prop := rowsK H K ks ∧ rdKs H ks
theorem rdKs_iff {H : Heap} : ∀ {ts : List T}, rdKs H ts ↔ ∀ t ∈ ts, rdT H t
 | [] => ⟨fun _ _ h => (by cases h), fun _ => trivial⟩
 | t :: ts => by
  rw [rdKs, rdKs_iff]
  simp only [List.forall_mem_cons]
theorem rowsK.ext {H H' : Heap} {K : Sl3} {ks : List T} (h : rowsK H K ks) (he : Ext H H') : rowsK H' K ks :=
 ⟨h.1, fun i t ht => let ⟨a, h1, h2⟩ := h.2 i t ht; ⟨a, h1, rowAt_ext he h2⟩⟩
theorem rdT.ext {H H' : Heap} (he : Ext H H') : ∀ t, rdT H t → rdT H' t := by
 refine T.ind fun f P M A K ks ih h => ?_
 rw [rdT] at h ⊢
 exact ⟨h.1.ext he, h.2.1.ext he, h.2.2.1.ext he, h.2.2.2.1.ext he, rdKs_iff.2 fun t ht => ih t ht (rdKs_iff.1 h.2.2.2.2 t ht)⟩
theorem grp.ext {H H' : Heap} {K : Sl3} {ks : List T} (h : grp H K ks) (he : Ext H H') : grp H' K ks :=
 ⟨h.1.ext he, rdKs_iff.2 fun t ht => rdT.ext he t (rdKs_iff.1 h.2 t ht)⟩
theorem grp.get {H : Heap} {K : Sl3} {ks : List T} (h : grp H K ks) {i : Nat} {t : T} (ht : ks[i]? = some t) : ∃ a, K.p = some a ∧ rowIn H (a.add (i * 19)) (cellsT t).toArray ∧ rdT H t :=
 let ⟨a, h1, h2⟩ := h.1.2 i t ht
 ⟨a, h1, h2, rdKs_iff.1 h.2 t (List.mem_of_getElem? ht)⟩
theorem grp.nil (H : Heap) : grp H .nil [] := ⟨⟨rfl, fun i t h => by simp at h⟩, trivial⟩
theorem rdT.grp {H : Heap} {t : T} (h : rdT H t) : grp H t.K t.kids := by
 cases t with | mk f P M A K ks =>
 rw [rdT] at h
 exact ⟨h.2.2.2.1, h.2.2.2.2⟩
mutual
def resT : T → List Rs
 | .mk f P M A K ks => .sl P.p P.l P.c 3 1 (ints f.p) :: .sl M.p M.l M.c 5 1 (kints .u8 f.mask) :: .sl A.p A.l A.c 3 1 (ints f.params) :: .sl K.p K.l K.c 61 19 (cellsKs ks) :: resKs ks
def resKs : List T → List Rs
 | [] => []
 | t :: ts => resT t ++ resKs ts
end
def resG (K : Sl3) (ks : List T) : List Rs := .sl K.p K.l K.c 61 19 (cellsKs ks) :: resKs ks
theorem resKs_app (a b : List T) : resKs (a ++ b) = resKs a ++ resKs b := by
 induction a with
 | nil => rfl
 | cons t a ih => rw [List.cons_append, resKs, ih, resKs, List.append_assoc]
theorem resKs_one (t : T) : resKs [t] = resT t := by rw [resKs, resKs, List.append_nil]
theorem resKs_cons (t : T) (ts : List T) : resKs (t :: ts) = resT t ++ resKs ts := by rw [resKs]
theorem resT_mk (f : LayF) (P M A K : Sl3) (ks : List T) : resT (.mk f P M A K ks) = .sl P.p P.l P.c 3 1 (ints f.p) :: .sl M.p M.l M.c 5 1 (kints .u8 f.mask) :: .sl A.p A.l A.c 3 1 (ints f.params) :: resG K ks := by rw [resT]; rfl
end Go.Proofs
namespace Go.Sh
open Go.Proofs
variable {H0 H H' : Heap} {σ τ : List Rs}
theorem RS.rowsK {H : Heap} {K : Sl3} {ks : List T} {el : TypeId} (h : RS H K.p K.l el 19 (cellsKs ks)) : Go.Proofs.rowsK H K ks := by
 have hl : K.l = ks.length := by have := h.len; rw [cellsKs_len] at this; omega
 refine ⟨hl, fun i t ht => ?_⟩
 have hi : i < ks.length := (List.getElem?_eq_some_iff.1 ht).1
 obtain ⟨blk, h1, h2⟩ := h.row (i := i) (by omega) (by decide) (xs := (cellsT t).toArray) fun j v hv => cellsKs_get ht (by simpa using hv)
 exact ⟨_, h1, by rw [add_none, Nat.zero_add]; exact h2⟩
theorem St.rdKs_of : ∀ {ks : List T}, (∀ t ∈ ks, ∀ {σ : List Rs}, St H0 H (resT t ++ σ) → Go.Proofs.rdT H t) → St H0 H (resKs ks ++ σ) → Go.Proofs.rdKs H ks
 | [], _, _ => trivial
 | t :: ts, h, hs => by
  rw [resKs, List.append_assoc] at hs
  exact ⟨h t List.mem_cons_self hs, St.rdKs_of (fun t ht => h t (List.mem_cons_of_mem _ ht)) hs.app.2⟩
theorem St.rdT : ∀ (t : T) {σ : List Rs}, St H0 H (resT t ++ σ) → Go.Proofs.rdT H t := by
 refine T.ind fun f P M A K ks ih σ hs => ?_
 rw [resT] at hs
 rw [Go.Proofs.rdT]
 refine ⟨hs.is 0 rfl, hs.is 1 rfl, hs.is 2 rfl, RS.rowsK (hs.rs 3 rfl), St.rdKs_of (fun t ht _ hs => ih t ht hs) (σ := σ) ?_⟩
 exact hs.drop 4
theorem St.grp {K : Sl3} {ks : List T} (hs : St H0 H (resG K ks ++ σ)) : Go.Proofs.grp H K ks :=
 ⟨RS.rowsK (hs.rs 0 rfl), St.rdKs_of (fun t ht _ hs => St.rdT t hs) (σ := σ) hs.tail⟩
theorem St.callR (hs : St H0 H σ) (ht : St H H' τ) : St H0 H' (σ ++ τ) := (hs.call ht).perm List.perm_append_comm
end Go.Sh
namespace Go.Proofs
open Go.Sh
def Tryz.i0 : TI := ⟨.tuple [], 1, 0, Value.tuple #[]⟩
theorem Tryz.tok0 : TIok Tryz.prog 0 Tryz.i0 := ⟨by kernel_rfl, by kernel_rfl⟩
def Tryz.i3 : TI := ⟨.int .i64, 1, 8, Value.int .i64 0⟩
theorem Tryz.tok3 : TIok Tryz.prog 3 Tryz.i3 := ⟨by kernel_rfl, by kernel_rfl⟩
def Tryz.i4 : TI := ⟨.bool, 1, 1, Value.bool false⟩
theorem Tryz.tok4 : TIok Tryz.prog 4 Tryz.i4 := ⟨by kernel_rfl, by kernel_rfl⟩
def Tryz.i5 : TI := ⟨.int .u8, 1, 1, Value.int .u8 0⟩
theorem Tryz.tok5 : TIok Tryz.prog 5 Tryz.i5 := ⟨by kernel_rfl, by kernel_rfl⟩
def Tryz.i9 : TI := ⟨.str, 1, 16, Value.string ByteArray.empty⟩
theorem Tryz.tok9 : TIok Tryz.prog 9 Tryz.i9 := ⟨by kernel_rfl, by kernel_rfl⟩
def Tryz.i22 : TI := ⟨.sl 49, 1, 24, Value.slice none 0 0⟩
theorem Tryz.tok22 : TIok Tryz.prog 22 Tryz.i22 := ⟨by kernel_rfl, by kernel_rfl⟩
def Tryz.i25 : TI := ⟨.sl 61, 1, 24, Value.slice none 0 0⟩
theorem Tryz.tok25 : TIok Tryz.prog 25 Tryz.i25 := ⟨by kernel_rfl, by kernel_rfl⟩
def Tryz.i27 : TI := ⟨.struct [(0, 3), (1, 3), (2, 3), (3, 25)], 4, 48, Value.agg #[Value.int .i64 0, Value.int .i64 0, Value.int .i64 0, Value.slice none 0 0]⟩
theorem Tryz.tok27 : TIok Tryz.prog 27 Tryz.i27 := ⟨by kernel_rfl, by kernel_rfl⟩
def Tryz.i28 : TI := ⟨.int .i64, 1, 8, Value.int .i64 0⟩
theorem Tryz.tok28 : TIok Tryz.prog 28 Tryz.i28 := ⟨by kernel_rfl, by kernel_rfl⟩
def Tryz.i29 : TI := ⟨.tuple [27, 28], 1, 0, Value.tuple #[Value.agg #[Value.int .i64 0, Value.int .i64 0, Value.int .i64 0, Value.slice none 0 0], Value.int .i64 0]⟩
theorem Tryz.tok29 : TIok Tryz.prog 29 Tryz.i29 := ⟨by kernel_rfl, by kernel_rfl⟩
def Tryz.i31 : TI := ⟨.sl 95, 1, 24, Value.slice none 0 0⟩
theorem Tryz.tok31 : TIok Tryz.prog 31 Tryz.i31 := ⟨by kernel_rfl, by kernel_rfl⟩
def Tryz.i33 : TI := ⟨.struct [(0, 3), (1, 3), (2, 3), (3, 31)], 4, 48, Value.agg #[Value.int .i64 0, Value.int .i64 0, Value.int .i64 0, Value.slice none 0 0]⟩
theorem Tryz.tok33 : TIok Tryz.prog 33 Tryz.i33 := ⟨by kernel_rfl, by kernel_rfl⟩
def Tryz.i34 : TI := ⟨.tuple [33, 3], 1, 0, Value.tuple #[Value.agg #[Value.int .i64 0, Value.int .i64 0, Value.int .i64 0, Value.slice none 0 0], Value.int .i64 0]⟩
theorem Tryz.tok34 : TIok Tryz.prog 34 Tryz.i34 := ⟨by kernel_rfl, by kernel_rfl⟩
def Tryz.i36 : TI := ⟨.ptr 75, 1, 8, Value.pointer none⟩
theorem Tryz.tok36 : TIok Tryz.prog 36 Tryz.i36 := ⟨by kernel_rfl, by kernel_rfl⟩
def Tryz.i38 : TI := ⟨.ptr 41, 1, 8, Value.pointer none⟩
theorem Tryz.tok38 : TIok Tryz.prog 38 Tryz.i38 := ⟨by kernel_rfl, by kernel_rfl⟩
def Tryz.i39 : TI := ⟨.sl 33, 1, 24, Value.slice none 0 0⟩
theorem Tryz.tok39 : TIok Tryz.prog 39 Tryz.i39 := ⟨by kernel_rfl, by kernel_rfl⟩
def Tryz.i41 : TI := ⟨.struct [(0, 33), (4, 39), (5, 39)], 6, 96, Value.agg #[Value.int .i64 0, Value.int .i64 0, Value.int .i64 0, Value.slice none 0 0, Value.slice none 0 0, Value.slice none 0 0]⟩
theorem Tryz.tok41 : TIok Tryz.prog 41 Tryz.i41 := ⟨by kernel_rfl, by kernel_rfl⟩
def Tryz.i42 : TI := ⟨.sl 3, 1, 24, Value.slice none 0 0⟩
theorem Tryz.tok42 : TIok Tryz.prog 42 Tryz.i42 := ⟨by kernel_rfl, by kernel_rfl⟩
def Tryz.i43 : TI := ⟨.sl 99, 1, 24, Value.slice none 0 0⟩
theorem Tryz.tok43 : TIok Tryz.prog 43 Tryz.i43 := ⟨by kernel_rfl, by kernel_rfl⟩
def Tryz.i45 : TI := ⟨.arr 6 3, 6, 48, Value.agg #[Value.int .i64 0, Value.int .i64 0, Value.int .i64 0, Value.int .i64 0, Value.int .i64 0, Value.int .i64 0]⟩
theorem Tryz.tok45 : TIok Tryz.prog 45 Tryz.i45 := ⟨by kernel_rfl, by kernel_rfl⟩
def Tryz.i47 : TI := ⟨.struct [(0, 3), (1, 3), (2, 3), (3, 3), (4, 3), (5, 3), (6, 3), (7, 3), (8, 3), (9, 3), (10, 42), (11, 43), (12, 45), (18, 42)], 19, 200, Value.agg #[Value.int .i64 0, Value.int .i64 0, Value.int .i64 0, Value.int .i64 0, Value.int .i64 0, Value.int .i64 0, Value.int .i64 0, Value.int .i64 0, Value.int .i64 0, Value.int .i64 0, Value.slice none 0 0, Value.slice none 0 0, Value.int .i64 0, Value.int .i64 0, Value.int .i64 0, Value.int .i64 0, Value.int .i64 0, Value.int .i64 0, Value.slice none 0 0]⟩
theorem Tryz.tok47 : TIok Tryz.prog 47 Tryz.i47 := ⟨by kernel_rfl, by kernel_rfl⟩
def Tryz.i49 : TI := ⟨.struct [(0, 3), (1, 47)], 20, 208, Value.agg #[Value.int .i64 0, Value.int .i64 0, Value.int .i64 0, Value.int .i64 0, Value.int .i64 0, Value.int .i64 0, Value.int .i64 0, Value.int .i64 0, Value.int .i64 0, Value.int .i64 0, Value.int .i64 0, Value.slice none 0 0, Value.slice none 0 0, Value.int .i64 0, Value.int .i64 0, Value.int .i64 0, Value.int .i64 0, Value.int .i64 0, Value.int .i64 0, Value.slice none 0 0]⟩
theorem Tryz.tok49 : TIok Tryz.prog 49 Tryz.i49 := ⟨by kernel_rfl, by kernel_rfl⟩
def Tryz.i53 : TI := ⟨.sl 27, 1, 24, Value.slice none 0 0⟩
theorem Tryz.tok53 : TIok Tryz.prog 53 Tryz.i53 := ⟨by kernel_rfl, by kernel_rfl⟩
def Tryz.i55 : TI := ⟨.struct [(0, 27), (4, 53), (5, 53)], 6, 96, Value.agg #[Value.int .i64 0, Value.int .i64 0, Value.int .i64 0, Value.slice none 0 0, Value.slice none 0 0, Value.slice none 0 0]⟩
theorem Tryz.tok55 : TIok Tryz.prog 55 Tryz.i55 := ⟨by kernel_rfl, by kernel_rfl⟩
def Tryz.i58 : TI := ⟨.sl 53, 1, 24, Value.slice none 0 0⟩
theorem Tryz.tok58 : TIok Tryz.prog 58 Tryz.i58 := ⟨by kernel_rfl, by kernel_rfl⟩
def Tryz.i59 : TI := ⟨.sl 5, 1, 24, Value.slice none 0 0⟩
theorem Tryz.tok59 : TIok Tryz.prog 59 Tryz.i59 := ⟨by kernel_rfl, by kernel_rfl⟩
def Tryz.i61 : TI := ⟨.struct [(0, 3), (1, 3), (2, 4), (3, 3), (4, 3), (5, 3), (6, 3), (7, 42), (8, 59), (9, 45), (15, 4), (16, 3), (17, 42), (18, 25)], 19, 216, Value.agg #[Value.int .i64 0, Value.int .i64 0, Value.bool false, Value.int .i64 0, Value.int .i64 0, Value.int .i64 0, Value.int .i64 0, Value.slice none 0 0, Value.slice none 0 0, Value.int .i64 0, Value.int .i64 0, Value.int .i64 0, Value.int .i64 0, Value.int .i64 0, Value.int .i64 0, Value.bool false, Value.int .i64 0, Value.slice none 0 0, Value.slice none 0 0]⟩
theorem Tryz.tok61 : TIok Tryz.prog 61 Tryz.i61 := ⟨by kernel_rfl, by kernel_rfl⟩
def Tryz.i69 : TI := ⟨.sl 47, 1, 24, Value.slice none 0 0⟩
theorem Tryz.tok69 : TIok Tryz.prog 69 Tryz.i69 := ⟨by kernel_rfl, by kernel_rfl⟩
def Tryz.i73 : TI := ⟨.struct [(0, 53)], 1, 24, Value.agg #[Value.slice none 0 0]⟩
theorem Tryz.tok73 : TIok Tryz.prog 73 Tryz.i73 := ⟨by kernel_rfl, by kernel_rfl⟩
def Tryz.i75 : TI := ⟨.struct [(0, 27), (4, 73), (5, 73)], 6, 96, Value.agg #[Value.int .i64 0, Value.int .i64 0, Value.int .i64 0, Value.slice none 0 0, Value.slice none 0 0, Value.slice none 0 0]⟩
theorem Tryz.tok75 : TIok Tryz.prog 75 Tryz.i75 := ⟨by kernel_rfl, by kernel_rfl⟩
def Tryz.i77 : TI := ⟨.sl 100, 1, 24, Value.slice none 0 0⟩
theorem Tryz.tok77 : TIok Tryz.prog 77 Tryz.i77 := ⟨by kernel_rfl, by kernel_rfl⟩
def Tryz.i78 : TI := ⟨.arr 6 3, 6, 48, Value.agg #[Value.int .i64 0, Value.int .i64 0, Value.int .i64 0, Value.int .i64 0, Value.int .i64 0, Value.int .i64 0]⟩
theorem Tryz.tok78 : TIok Tryz.prog 78 Tryz.i78 := ⟨by kernel_rfl, by kernel_rfl⟩
def Tryz.i80 : TI := ⟨.struct [(0, 3), (1, 3), (2, 3), (3, 3), (4, 3), (5, 3), (6, 3), (7, 3), (8, 3), (9, 3), (10, 42), (11, 77), (12, 78), (18, 42)], 19, 200, Value.agg #[Value.int .i64 0, Value.int .i64 0, Value.int .i64 0, Value.int .i64 0, Value.int .i64 0, Value.int .i64 0, Value.int .i64 0, Value.int .i64 0, Value.int .i64 0, Value.int .i64 0, Value.slice none 0 0, Value.slice none 0 0, Value.int .i64 0, Value.int .i64 0, Value.int .i64 0, Value.int .i64 0, Value.int .i64 0, Value.int .i64 0, Value.slice none 0 0]⟩
theorem Tryz.tok80 : TIok Tryz.prog 80 Tryz.i80 := ⟨by kernel_rfl, by kernel_rfl⟩
def Tryz.i85 : TI := ⟨.ptr 73, 1, 8, Value.pointer none⟩
theorem Tryz.tok85 : TIok Tryz.prog 85 Tryz.i85 := ⟨by kernel_rfl, by kernel_rfl⟩
def Tryz.i89 : TI := ⟨.tuple [61, 4], 1, 0, Value.tuple #[Value.agg #[Value.int .i64 0, Value.int .i64 0, Value.bool false, Value.int .i64 0, Value.int .i64 0, Value.int .i64 0, Value.int .i64 0, Value.slice none 0 0, Value.slice none 0 0, Value.int .i64 0, Value.int .i64 0, Value.int .i64 0, Value.int .i64 0, Value.int .i64 0, Value.int .i64 0, Value.bool false, Value.int .i64 0, Value.slice none 0 0, Value.slice none 0 0], Value.bool false]⟩
theorem Tryz.tok89 : TIok Tryz.prog 89 Tryz.i89 := ⟨by kernel_rfl, by kernel_rfl⟩
def Tryz.i92 : TI := ⟨.tuple [31, 31], 1, 0, Value.tuple #[Value.slice none 0 0, Value.slice none 0 0]⟩
theorem Tryz.tok92 : TIok Tryz.prog 92 Tryz.i92 := ⟨by kernel_rfl, by kernel_rfl⟩
def Tryz.i95 : TI := ⟨.struct [(0, 3), (1, 3), (2, 3), (3, 4), (4, 3), (5, 3), (6, 3), (7, 3), (8, 42), (9, 59), (10, 78), (16, 4), (17, 3), (18, 42)], 19, 200, Value.agg #[Value.int .i64 0, Value.int .i64 0, Value.int .i64 0, Value.bool false, Value.int .i64 0, Value.int .i64 0, Value.int .i64 0, Value.int .i64 0, Value.slice none 0 0, Value.slice none 0 0, Value.int .i64 0, Value.int .i64 0, Value.int .i64 0, Value.int .i64 0, Value.int .i64 0, Value.int .i64 0, Value.bool false, Value.int .i64 0, Value.slice none 0 0]⟩
theorem Tryz.tok95 : TIok Tryz.prog 95 Tryz.i95 := ⟨by kernel_rfl, by kernel_rfl⟩
def Tryz.i96 : TI := ⟨.tuple [95, 3], 1, 0, Value.tuple #[Value.agg #[Value.int .i64 0, Value.int .i64 0, Value.int .i64 0, Value.bool false, Value.int .i64 0, Value.int .i64 0, Value.int .i64 0, Value.int .i64 0, Value.slice none 0 0, Value.slice none 0 0, Value.int .i64 0, Value.int .i64 0, Value.int .i64 0, Value.int .i64 0, Value.int .i64 0, Value.int .i64 0, Value.bool false, Value.int .i64 0, Value.slice none 0 0], Value.int .i64 0]⟩
theorem Tryz.tok96 : TIok Tryz.prog 96 Tryz.i96 := ⟨by kernel_rfl, by kernel_rfl⟩
def Tryz.i99 : TI := ⟨.struct [(0, 3), (1, 3)], 2, 16, Value.agg #[Value.int .i64 0, Value.int .i64 0]⟩
theorem Tryz.tok99 : TIok Tryz.prog 99 Tryz.i99 := ⟨by kernel_rfl, by kernel_rfl⟩
def Tryz.i100 : TI := ⟨.struct [(0, 3), (1, 3)], 2, 16, Value.agg #[Value.int .i64 0, Value.int .i64 0]⟩
theorem Tryz.tok100 : TIok Tryz.prog 100 Tryz.i100 := ⟨by kernel_rfl, by kernel_rfl⟩
def Tryz.i102 : TI := ⟨.ptr 61, 1, 8, Value.pointer none⟩
theorem Tryz.tok102 : TIok Tryz.prog 102 Tryz.i102 := ⟨by kernel_rfl, by kernel_rfl⟩
def Tryz.i104 : TI := ⟨.ptr 27, 1, 8, Value.pointer none⟩
theorem Tryz.tok104 : TIok Tryz.prog 104 Tryz.i104 := ⟨by kernel_rfl, by kernel_rfl⟩
def Tryz.i106 : TI := ⟨.struct [(0, 102), (1, 104), (2, 47)], 21, 216, Value.agg #[Value.pointer none, Value.pointer none, Value.int .i64 0, Value.int .i64 0, Value.int .i64 0, Value.int .i64 0, Value.int .i64 0, Value.int .i64 0, Value.int .i64 0, Value.int .i64 0, Value.int .i64 0, Value.int .i64 0, Value.slice none 0 0, Value.slice none 0 0, Value.int .i64 0, Value.int .i64 0, Value.int .i64 0, Value.int .i64 0, Value.int .i64 0, Value.int .i64 0, Value.slice none 0 0]⟩
theorem Tryz.tok106 : TIok Tryz.prog 106 Tryz.i106 := ⟨by kernel_rfl, by kernel_rfl⟩
def Tryz.i107 : TI := ⟨.fn, 1, 8, Value.nilFunc⟩
theorem Tryz.tok107 : TIok Tryz.prog 107 Tryz.i107 := ⟨by kernel_rfl, by kernel_rfl⟩
def Tryz.i108 : TI := ⟨.sl 107, 1, 24, Value.slice none 0 0⟩
theorem Tryz.tok108 : TIok Tryz.prog 108 Tryz.i108 := ⟨by kernel_rfl, by kernel_rfl⟩
def Tryz.i109 : TI := ⟨.tuple [27, 4], 1, 0, Value.tuple #[Value.agg #[Value.int .i64 0, Value.int .i64 0, Value.int .i64 0, Value.slice none 0 0], Value.bool false]⟩
theorem Tryz.tok109 : TIok Tryz.prog 109 Tryz.i109 := ⟨by kernel_rfl, by kernel_rfl⟩
def Tryz.i113 : TI := ⟨.tuple [102, 102, 3], 1, 0, Value.tuple #[Value.pointer none, Value.pointer none, Value.int .i64 0]⟩
theorem Tryz.tok113 : TIok Tryz.prog 113 Tryz.i113 := ⟨by kernel_rfl, by kernel_rfl⟩
def Tryz.i117 : TI := ⟨.tuple [78, 3], 1, 0, Value.tuple #[Value.agg #[Value.int .i64 0, Value.int .i64 0, Value.int .i64 0, Value.int .i64 0, Value.int .i64 0, Value.int .i64 0], Value.int .i64 0]⟩
theorem Tryz.tok117 : TIok Tryz.prog 117 Tryz.i117 := ⟨by kernel_rfl, by kernel_rfl⟩
def Tryz.i119 : TI := ⟨.tuple [42, 4], 1, 0, Value.tuple #[Value.slice none 0 0, Value.bool false]⟩
theorem Tryz.tok119 : TIok Tryz.prog 119 Tryz.i119 := ⟨by kernel_rfl, by kernel_rfl⟩
def Tryz.i122 : TI := ⟨.tuple [102, 28], 1, 0, Value.tuple #[Value.pointer none, Value.int .i64 0]⟩
theorem Tryz.tok122 : TIok Tryz.prog 122 Tryz.i122 := ⟨by kernel_rfl, by kernel_rfl⟩
def Tryz.i127 : TI := ⟨.fn, 1, 8, Value.nilFunc⟩
theorem Tryz.tok127 : TIok Tryz.prog 127 Tryz.i127 := ⟨by kernel_rfl, by kernel_rfl⟩
def Tryz.i128 : TI := ⟨.tuple [59, 28], 1, 0, Value.tuple #[Value.slice none 0 0, Value.int .i64 0]⟩
theorem Tryz.tok128 : TIok Tryz.prog 128 Tryz.i128 := ⟨by kernel_rfl, by kernel_rfl⟩
def Tryz.i130 : TI := ⟨.tuple [45, 28], 1, 0, Value.tuple #[Value.agg #[Value.int .i64 0, Value.int .i64 0, Value.int .i64 0, Value.int .i64 0, Value.int .i64 0, Value.int .i64 0], Value.int .i64 0]⟩
theorem Tryz.tok130 : TIok Tryz.prog 130 Tryz.i130 := ⟨by kernel_rfl, by kernel_rfl⟩
def Tryz.i141 : TI := ⟨.arr 4 3, 4, 32, Value.agg #[Value.int .i64 0, Value.int .i64 0, Value.int .i64 0, Value.int .i64 0]⟩
theorem Tryz.tok141 : TIok Tryz.prog 141 Tryz.i141 := ⟨by kernel_rfl, by kernel_rfl⟩
def Tryz.i150 : TI := ⟨.sl 43, 1, 24, Value.slice none 0 0⟩
theorem Tryz.tok150 : TIok Tryz.prog 150 Tryz.i150 := ⟨by kernel_rfl, by kernel_rfl⟩
def Tryz.i151 : TI := ⟨.cpl .f64, 1, 16, Value.complex .f64 0 0⟩
theorem Tryz.tok151 : TIok Tryz.prog 151 Tryz.i151 := ⟨by kernel_rfl, by kernel_rfl⟩
def Tryz.i152 : TI := ⟨.flt .f64, 1, 8, Value.float .f64 0⟩
theorem Tryz.tok152 : TIok Tryz.prog 152 Tryz.i152 := ⟨by kernel_rfl, by kernel_rfl⟩
def Tryz.tab : Tab := [(0, Tryz.i0), (3, Tryz.i3), (4, Tryz.i4), (5, Tryz.i5), (9, Tryz.i9), (22, Tryz.i22), (25, Tryz.i25), (27, Tryz.i27), (28, Tryz.i28), (29, Tryz.i29), (31, Tryz.i31), (33, Tryz.i33), (34, Tryz.i34), (36, Tryz.i36), (38, Tryz.i38), (39, Tryz.i39), (41, Tryz.i41), (42, Tryz.i42), (43, Tryz.i43), (45, Tryz.i45), (47, Tryz.i47), (49, Tryz.i49), (53, Tryz.i53), (55, Tryz.i55), (58, Tryz.i58), (59, Tryz.i59), (61, Tryz.i61), (69, Tryz.i69), (73, Tryz.i73), (75, Tryz.i75), (77, Tryz.i77), (78, Tryz.i78), (80, Tryz.i80), (85, Tryz.i85), (89, Tryz.i89), (92, Tryz.i92), (95, Tryz.i95), (96, Tryz.i96), (99, Tryz.i99), (100, Tryz.i100), (102, Tryz.i102), (104, Tryz.i104), (106, Tryz.i106), (107, Tryz.i107), (108, Tryz.i108), (109, Tryz.i109), (113, Tryz.i113), (117, Tryz.i117), (119, Tryz.i119), (122, Tryz.i122), (127, Tryz.i127), (128, Tryz.i128), (130, Tryz.i130), (141, Tryz.i141), (150, Tryz.i150), (151, Tryz.i151), (152, Tryz.i152)]
theorem Tryz.tab_ok : TabOk Tryz.prog Tryz.tab := by
 unfold TabOk Tryz.tab
 simp only [List.forall_mem_cons]
 exact ⟨Tryz.tok0, Tryz.tok3, Tryz.tok4, Tryz.tok5, Tryz.tok9, Tryz.tok22, Tryz.tok25, Tryz.tok27, Tryz.tok28, Tryz.tok29, Tryz.tok31, Tryz.tok33, Tryz.tok34, Tryz.tok36, Tryz.tok38, Tryz.tok39, Tryz.tok41, Tryz.tok42, Tryz.tok43, Tryz.tok45, Tryz.tok47, Tryz.tok49, Tryz.tok53, Tryz.tok55, Tryz.tok58, Tryz.tok59, Tryz.tok61, Tryz.tok69, Tryz.tok73, Tryz.tok75, Tryz.tok77, Tryz.tok78, Tryz.tok80, Tryz.tok85, Tryz.tok89, Tryz.tok92, Tryz.tok95, Tryz.tok96, Tryz.tok99, Tryz.tok100, Tryz.tok102, Tryz.tok104, Tryz.tok106, Tryz.tok107, Tryz.tok108, Tryz.tok109, Tryz.tok113, Tryz.tok117, Tryz.tok119, Tryz.tok122, Tryz.tok127, Tryz.tok128, Tryz.tok130, Tryz.tok141, Tryz.tok150, Tryz.tok151, Tryz.tok152, fun _ h => by cases h⟩
abbrev Tryz.C := CallsH Tryz.prog
theorem Tryz.mixed : Tryz.prog.follows .mixedOrders = true := by kernel_rfl
theorem Tryz.cal3 : callable Tryz.prog 3 := ⟨Tryz.f3, Tryz.func3, by kernel_rfl, by kernel_rfl⟩
theorem Tryz.cal5 : callable Tryz.prog 5 := ⟨Tryz.f5, Tryz.func5, by kernel_rfl, by kernel_rfl⟩
theorem Tryz.cal6 : callable Tryz.prog 6 := ⟨Tryz.f6, Tryz.func6, by kernel_rfl, by kernel_rfl⟩
theorem Tryz.cal7 : callable Tryz.prog 7 := ⟨Tryz.f7, Tryz.func7, by kernel_rfl, by kernel_rfl⟩
theorem Tryz.cal8 : callable Tryz.prog 8 := ⟨Tryz.f8, Tryz.func8, by kernel_rfl, by kernel_rfl⟩
theorem Tryz.cal9 : callable Tryz.prog 9 := ⟨Tryz.f9, Tryz.func9, by kernel_rfl, by kernel_rfl⟩
theorem Tryz.cal10 : callable Tryz.prog 10 := ⟨Tryz.f10, Tryz.func10, by kernel_rfl, by kernel_rfl⟩
theorem Tryz.cal11 : callable Tryz.prog 11 := ⟨Tryz.f11, Tryz.func11, by kernel_rfl, by kernel_rfl⟩
theorem Tryz.cal12 : callable Tryz.prog 12 := ⟨Tryz.f12, Tryz.func12, by kernel_rfl, by kernel_rfl⟩
theorem Tryz.cal13 : callable Tryz.prog 13 := ⟨Tryz.f13, Tryz.func13, by kernel_rfl, by kernel_rfl⟩
theorem Tryz.cal14 : callable Tryz.prog 14 := ⟨Tryz.f14, Tryz.func14, by kernel_rfl, by kernel_rfl⟩
theorem Tryz.cal15 : callable Tryz.prog 15 := ⟨Tryz.f15, Tryz.func15, by kernel_rfl, by kernel_rfl⟩
theorem Tryz.cal16 : callable Tryz.prog 16 := ⟨Tryz.f16, Tryz.func16, by kernel_rfl, by kernel_rfl⟩
theorem Tryz.cal17 : callable Tryz.prog 17 := ⟨Tryz.f17, Tryz.func17, by kernel_rfl, by kernel_rfl⟩
theorem Tryz.cal19 : callable Tryz.prog 19 := ⟨Tryz.f19, Tryz.func19, by kernel_rfl, by kernel_rfl⟩
theorem Tryz.cal20 : callable Tryz.prog 20 := ⟨Tryz.f20, Tryz.func20, by kernel_rfl, by kernel_rfl⟩
theorem Tryz.cal21 : callable Tryz.prog 21 := ⟨Tryz.f21, Tryz.func21, by kernel_rfl, by kernel_rfl⟩
theorem Tryz.cal22 : callable Tryz.prog 22 := ⟨Tryz.f22, Tryz.func22, by kernel_rfl, by kernel_rfl⟩
theorem Tryz.cal23 : callable Tryz.prog 23 := ⟨Tryz.f23, Tryz.func23, by kernel_rfl, by kernel_rfl⟩
theorem Tryz.cal24 : callable Tryz.prog 24 := ⟨Tryz.f24, Tryz.func24, by kernel_rfl, by kernel_rfl⟩
theorem Tryz.cal25 : callable Tryz.prog 25 := ⟨Tryz.f25, Tryz.func25, by kernel_rfl, by kernel_rfl⟩
theorem Tryz.cal26 : callable Tryz.prog 26 := ⟨Tryz.f26, Tryz.func26, by kernel_rfl, by kernel_rfl⟩
theorem Tryz.cal27 : callable Tryz.prog 27 := ⟨Tryz.f27, Tryz.func27, by kernel_rfl, by kernel_rfl⟩
theorem Tryz.cal28 : callable Tryz.prog 28 := ⟨Tryz.f28, Tryz.func28, by kernel_rfl, by kernel_rfl⟩
theorem Tryz.cal29 : callable Tryz.prog 29 := ⟨Tryz.f29, Tryz.func29, by kernel_rfl, by kernel_rfl⟩
theorem Tryz.cal30 : callable Tryz.prog 30 := ⟨Tryz.f30, Tryz.func30, by kernel_rfl, by kernel_rfl⟩
theorem Tryz.cal31 : callable Tryz.prog 31 := ⟨Tryz.f31, Tryz.func31, by kernel_rfl, by kernel_rfl⟩
theorem Tryz.cal32 : callable Tryz.prog 32 := ⟨Tryz.f32, Tryz.func32, by kernel_rfl, by kernel_rfl⟩
theorem Tryz.cal33 : callable Tryz.prog 33 := ⟨Tryz.f33, Tryz.func33, by kernel_rfl, by kernel_rfl⟩
theorem Tryz.cal34 : callable Tryz.prog 34 := ⟨Tryz.f34, Tryz.func34, by kernel_rfl, by kernel_rfl⟩
theorem Tryz.cal35 : callable Tryz.prog 35 := ⟨Tryz.f35, Tryz.func35, by kernel_rfl, by kernel_rfl⟩
theorem Tryz.cal36 : callable Tryz.prog 36 := ⟨Tryz.f36, Tryz.func36, by kernel_rfl, by kernel_rfl⟩
theorem Tryz.cal37 : callable Tryz.prog 37 := ⟨Tryz.f37, Tryz.func37, by kernel_rfl, by kernel_rfl⟩
theorem Tryz.cal38 : callable Tryz.prog 38 := ⟨Tryz.f38, Tryz.func38, by kernel_rfl, by kernel_rfl⟩
theorem Tryz.cal39 : callable Tryz.prog 39 := ⟨Tryz.f39, Tryz.func39, by kernel_rfl, by kernel_rfl⟩
theorem Tryz.cal40 : callable Tryz.prog 40 := ⟨Tryz.f40, Tryz.func40, by kernel_rfl, by kernel_rfl⟩
theorem Tryz.cal41 : callable Tryz.prog 41 := ⟨Tryz.f41, Tryz.func41, by kernel_rfl, by kernel_rfl⟩
theorem Tryz.cal42 : callable Tryz.prog 42 := ⟨Tryz.f42, Tryz.func42, by kernel_rfl, by kernel_rfl⟩
theorem Tryz.cal43 : callable Tryz.prog 43 := ⟨Tryz.f43, Tryz.func43, by kernel_rfl, by kernel_rfl⟩
theorem Tryz.cal44 : callable Tryz.prog 44 := ⟨Tryz.f44, Tryz.func44, by kernel_rfl, by kernel_rfl⟩
theorem Tryz.cal45 : callable Tryz.prog 45 := ⟨Tryz.f45, Tryz.func45, by kernel_rfl, by kernel_rfl⟩
theorem Tryz.cal46 : callable Tryz.prog 46 := ⟨Tryz.f46, Tryz.func46, by kernel_rfl, by kernel_rfl⟩
theorem Tryz.cal47 : callable Tryz.prog 47 := ⟨Tryz.f47, Tryz.func47, by kernel_rfl, by kernel_rfl⟩
theorem Tryz.cal48 : callable Tryz.prog 48 := ⟨Tryz.f48, Tryz.func48, by kernel_rfl, by kernel_rfl⟩
theorem Tryz.cal49 : callable Tryz.prog 49 := ⟨Tryz.f49, Tryz.func49, by kernel_rfl, by kernel_rfl⟩
theorem Tryz.cal50 : callable Tryz.prog 50 := ⟨Tryz.f50, Tryz.func50, by kernel_rfl, by kernel_rfl⟩
theorem Tryz.cal51 : callable Tryz.prog 51 := ⟨Tryz.f51, Tryz.func51, by kernel_rfl, by kernel_rfl⟩
theorem Tryz.cal52 : callable Tryz.prog 52 := ⟨Tryz.f52, Tryz.func52, by kernel_rfl, by kernel_rfl⟩
theorem Tryz.cal53 : callable Tryz.prog 53 := ⟨Tryz.f53, Tryz.func53, by kernel_rfl, by kernel_rfl⟩
theorem Tryz.cal54 : callable Tryz.prog 54 := ⟨Tryz.f54, Tryz.func54, by kernel_rfl, by kernel_rfl⟩
theorem Tryz.cal55 : callable Tryz.prog 55 := ⟨Tryz.f55, Tryz.func55, by kernel_rfl, by kernel_rfl⟩
theorem Tryz.cal56 : callable Tryz.prog 56 := ⟨Tryz.f56, Tryz.func56, by kernel_rfl, by kernel_rfl⟩
theorem Tryz.cal57 : callable Tryz.prog 57 := ⟨Tryz.f57, Tryz.func57, by kernel_rfl, by kernel_rfl⟩
theorem Tryz.cal58 : callable Tryz.prog 58 := ⟨Tryz.f58, Tryz.func58, by kernel_rfl, by kernel_rfl⟩
theorem Tryz.cal59 : callable Tryz.prog 59 := ⟨Tryz.f59, Tryz.func59, by kernel_rfl, by kernel_rfl⟩
theorem Tryz.cal60 : callable Tryz.prog 60 := ⟨Tryz.f60, Tryz.func60, by kernel_rfl, by kernel_rfl⟩
theorem Tryz.cal61 : callable Tryz.prog 61 := ⟨Tryz.f61, Tryz.func61, by kernel_rfl, by kernel_rfl⟩
theorem Tryz.cal62 : callable Tryz.prog 62 := ⟨Tryz.f62, Tryz.func62, by kernel_rfl, by kernel_rfl⟩
theorem Tryz.cal63 : callable Tryz.prog 63 := ⟨Tryz.f63, Tryz.func63, by kernel_rfl, by kernel_rfl⟩
theorem Tryz.cal64 : callable Tryz.prog 64 := ⟨Tryz.f64, Tryz.func64, by kernel_rfl, by kernel_rfl⟩
theorem Tryz.cal65 : callable Tryz.prog 65 := ⟨Tryz.f65, Tryz.func65, by kernel_rfl, by kernel_rfl⟩
theorem Tryz.cal66 : callable Tryz.prog 66 := ⟨Tryz.f66, Tryz.func66, by kernel_rfl, by kernel_rfl⟩
theorem Tryz.cal67 : callable Tryz.prog 67 := ⟨Tryz.f67, Tryz.func67, by kernel_rfl, by kernel_rfl⟩
theorem Tryz.cal68 : callable Tryz.prog 68 := ⟨Tryz.f68, Tryz.func68, by kernel_rfl, by kernel_rfl⟩
theorem Tryz.cal69 : callable Tryz.prog 69 := ⟨Tryz.f69, Tryz.func69, by kernel_rfl, by kernel_rfl⟩
theorem Tryz.cal70 : callable Tryz.prog 70 := ⟨Tryz.f70, Tryz.func70, by kernel_rfl, by kernel_rfl⟩
theorem Tryz.cal71 : callable Tryz.prog 71 := ⟨Tryz.f71, Tryz.func71, by kernel_rfl, by kernel_rfl⟩
theorem Tryz.cal72 : callable Tryz.prog 72 := ⟨Tryz.f72, Tryz.func72, by kernel_rfl, by kernel_rfl⟩
theorem Tryz.cal73 : callable Tryz.prog 73 := ⟨Tryz.f73, Tryz.func73, by kernel_rfl, by kernel_rfl⟩
theorem Tryz.cal74 : callable Tryz.prog 74 := ⟨Tryz.f74, Tryz.func74, by kernel_rfl, by kernel_rfl⟩
theorem Tryz.cal75 : callable Tryz.prog 75 := ⟨Tryz.f75, Tryz.func75, by kernel_rfl, by kernel_rfl⟩
theorem Tryz.cal76 : callable Tryz.prog 76 := ⟨Tryz.f76, Tryz.func76, by kernel_rfl, by kernel_rfl⟩
theorem Tryz.cal77 : callable Tryz.prog 77 := ⟨Tryz.f77, Tryz.func77, by kernel_rfl, by kernel_rfl⟩
theorem Tryz.cal78 : callable Tryz.prog 78 := ⟨Tryz.f78, Tryz.func78, by kernel_rfl, by kernel_rfl⟩
theorem Tryz.cal79 : callable Tryz.prog 79 := ⟨Tryz.f79, Tryz.func79, by kernel_rfl, by kernel_rfl⟩
theorem Tryz.cal80 : callable Tryz.prog 80 := ⟨Tryz.f80, Tryz.func80, by kernel_rfl, by kernel_rfl⟩
theorem Tryz.cal81 : callable Tryz.prog 81 := ⟨Tryz.f81, Tryz.func81, by kernel_rfl, by kernel_rfl⟩
theorem Tryz.cal82 : callable Tryz.prog 82 := ⟨Tryz.f82, Tryz.func82, by kernel_rfl, by kernel_rfl⟩
theorem Tryz.cal83 : callable Tryz.prog 83 := ⟨Tryz.f83, Tryz.func83, by kernel_rfl, by kernel_rfl⟩
theorem Tryz.cal84 : callable Tryz.prog 84 := ⟨Tryz.f84, Tryz.func84, by kernel_rfl, by kernel_rfl⟩
theorem Tryz.cal85 : callable Tryz.prog 85 := ⟨Tryz.f85, Tryz.func85, by kernel_rfl, by kernel_rfl⟩
theorem Tryz.cal86 : callable Tryz.prog 86 := ⟨Tryz.f86, Tryz.func86, by kernel_rfl, by kernel_rfl⟩
theorem Tryz.cal87 : callable Tryz.prog 87 := ⟨Tryz.f87, Tryz.func87, by kernel_rfl, by kernel_rfl⟩
theorem Tryz.cal88 : callable Tryz.prog 88 := ⟨Tryz.f88, Tryz.func88, by kernel_rfl, by kernel_rfl⟩
theorem Tryz.cal89 : callable Tryz.prog 89 := ⟨Tryz.f89, Tryz.func89, by kernel_rfl, by kernel_rfl⟩
theorem Tryz.cal90 : callable Tryz.prog 90 := ⟨Tryz.f90, Tryz.func90, by kernel_rfl, by kernel_rfl⟩
theorem Tryz.cal91 : callable Tryz.prog 91 := ⟨Tryz.f91, Tryz.func91, by kernel_rfl, by kernel_rfl⟩
theorem Tryz.cal92 : callable Tryz.prog 92 := ⟨Tryz.f92, Tryz.func92, by kernel_rfl, by kernel_rfl⟩
theorem Tryz.cal93 : callable Tryz.prog 93 := ⟨Tryz.f93, Tryz.func93, by kernel_rfl, by kernel_rfl⟩
theorem Tryz.cal94 : callable Tryz.prog 94 := ⟨Tryz.f94, Tryz.func94, by kernel_rfl, by kernel_rfl⟩
theorem Tryz.cal95 : callable Tryz.prog 95 := ⟨Tryz.f95, Tryz.func95, by kernel_rfl, by kernel_rfl⟩
theorem Tryz.cal96 : callable Tryz.prog 96 := ⟨Tryz.f96, Tryz.func96, by kernel_rfl, by kernel_rfl⟩
theorem Tryz.cal97 : callable Tryz.prog 97 := ⟨Tryz.f97, Tryz.func97, by kernel_rfl, by kernel_rfl⟩
theorem Tryz.cal100 : callable Tryz.prog 100 := ⟨Tryz.f100, Tryz.func100, by kernel_rfl, by kernel_rfl⟩
theorem Tryz.cal101 : callable Tryz.prog 101 := ⟨Tryz.f101, Tryz.func101, by kernel_rfl, by kernel_rfl⟩
theorem Tryz.cal102 : callable Tryz.prog 102 := ⟨Tryz.f102, Tryz.func102, by kernel_rfl, by kernel_rfl⟩
theorem Tryz.cal103 : callable Tryz.prog 103 := ⟨Tryz.f103, Tryz.func103, by kernel_rfl, by kernel_rfl⟩
end Go.Proofs
namespace Go.Proofs
open Go.Sh Go.Sh.Plan
open Go.IntKind (wrap)
open Int (toNat)
def Tryz.S3 (st1p : OA) (st1l st1c : Nat) (H : Heap) (R : Kv) : Prop :=
 Tryz.C 5 #[] H fun r2 H3 => ∃ r4, r2 = .bool r4 ∧ br (!r4)
 (R (.bool false) H3)
 (Tryz.C 6 #[.slice st1p st1l st1c, .int .i64 16] H3 fun r5 H6 => ∃ r7, r5 = .bool r7 ∧ br (!r7)
 (R (.bool true) H6)
 (Tryz.C 7 #[.int .i64 5, .int .i64 5] H6 fun r8 H9 => ∃ r10 r11, r8 = .tuple #[.agg r10, .int .i64 r11] ∧ alc H9 (.cells #[.int .i64 0, .int .i64 0, .int .i64 0, .slice none 0 0] 27) fun b12 H13 => r10.size = 4 ∧ stAt H13 ⟨b12, 0, none⟩ r10.toList fun H14 => Tryz.C 8 #[.int .i64 5, .int .i64 5] H14 fun r15 H16 => ∃ r17 r18, r15 = .tuple #[.agg r17, .int .i64 r18] ∧ alc H16 (.cells #[.int .i64 0, .int .i64 0, .int .i64 0, .slice none 0 0] 33) fun b19 H20 => r17.size = 4 ∧ stAt H20 ⟨b19, 0, none⟩ r17.toList fun H21 => ∃ v22, v22.size = 4 ∧ rowIn H21 ⟨b12, 0, none⟩ v22 ∧ Tryz.C 9 #[.agg v22] H21 fun r23 H24 => ∃ x25, r23 = .pointer x25 ∧ br (Option.isNone x25)
 (R (.bool false) H24)
 (∃ v26, v26.size = 4 ∧ rowIn H24 ⟨b19, 0, none⟩ v26 ∧ v26.size = 4 ∧ 0 + 4 ≤ 6 ∧ alc H24 (.cells (List.toArray (setL [.int .i64 0, .int .i64 0, .int .i64 0, .slice none 0 0, .slice none 0 0, .slice none 0 0] 0 v26.toList)) 41) fun b27 H28 => ∀ X29 : Kl, (∀ (t30 : Int) H31, (br (decide (t30 < (st1l : Int)))
 (∀ J32 : Kl, (∀ H33, (X29 [.int .i64 (wrap .i64 (t30 + 1))] H33) → J32 [] H33) →
 ∃ a34, st1p = some a34 ∧ 0 ≤ t30 ∧ t30 < (st1l : Int) ∧ ∃ v35, v35.size = 20 ∧ rowIn H31 (.add a34 (toNat t30 * 20)) v35 ∧ alc H31 (.cells #[.int .i64 0, .int .i64 0, .int .i64 0, .int .i64 0, .int .i64 0, .int .i64 0, .int .i64 0, .int .i64 0, .int .i64 0, .int .i64 0, .int .i64 0, .slice none 0 0, .slice none 0 0, .int .i64 0, .int .i64 0, .int .i64 0, .int .i64 0, .int .i64 0, .int .i64 0, .slice none 0 0] 49) fun b36 H37 => v35.size = 20 ∧ stAt H37 ⟨b36, 0, none⟩ v35.toList fun H38 => ∃ v39, v39.size = 20 ∧ rowIn H38 ⟨b36, 0, none⟩ v39 ∧ Tryz.C 10 #[.pointer (some ⟨b27, 0, none⟩), .agg v39] H38 fun r40 H41 => ∃ r42, r40 = .int .i64 r42 ∧ ∃ Ki43, cell H41 (.add ⟨b36, 0, none⟩ 0) = some (.int .i64 Ki43) ∧ br (Ki43 == 0)
 (∃ Ed44, Ed44.size = 19 ∧ rowIn H41 (.add ⟨b36, 0, none⟩ 1) Ed44 ∧ Tryz.C 11 #[.pointer x25, .agg Ed44] H41 fun r45 H46 => ∃ r47, r45 = .int .i64 r47 ∧ J32 [] H46)
 (br (Ki43 == 1)
 (Tryz.C 12 #[.pointer x25] H41 fun r48 H49 => ∃ r50, r48 = .int .i64 r50 ∧ J32 [] H49)
 (br (Ki43 == 2)
 (Tryz.C 13 #[.pointer x25] H41 fun r51 H52 => ∃ r53, r51 = .int .i64 r53 ∧ J32 [] H52)
 (J32 [] H41))))
 (Tryz.C 14 #[.pointer x25] H31 fun r54 H55 => ∃ r56, r54 = .agg r56 ∧ alc H55 (.cells #[.int .i64 0, .int .i64 0, .int .i64 0, .slice none 0 0, .slice none 0 0, .slice none 0 0] 55) fun b57 H58 => r56.size = 6 ∧ stAt H58 ⟨b57, 0, none⟩ r56.toList fun H59 => ∃ v60, v60.size = 6 ∧ rowIn H59 ⟨b57, 0, none⟩ v60 ∧ Tryz.C 15 #[.agg v60] H59 fun r61 H62 => ∃ y63, r61 = .pointer y63 ∧ br (Option.isNone y63)
 (R (.bool false) H62)
 (∃ Do64, Do64.size = 4 ∧ rowIn H62 (.add ⟨b57, 0, none⟩ 0) Do64 ∧ Do64.size = 4 ∧ 0 + 4 ≤ 4 ∧ alc H62 (.cells (List.toArray (setL [.int .i64 0, .int .i64 0, .int .i64 0, .slice none 0 0] 0 Do64.toList)) 27) fun b65 H66 => ∃ Pa67p Pa67l Pa67c, cell H66 (.add ⟨b57, 0, none⟩ 4) = some (.slice Pa67p Pa67l Pa67c) ∧ ∃ Fu68p Fu68l Fu68c, cell H66 (.add ⟨b57, 0, none⟩ 5) = some (.slice Fu68p Fu68l Fu68c) ∧ alc H66 (.cells #[.slice (some ⟨b65, 0, none⟩) 1 1, .slice Pa67p Pa67l Pa67c, .slice Fu68p Fu68l Fu68c] 53) fun b69 H70 => ∀ X71 : Kl, (∀ (t72 : Int) H73, (br (decide (t72 < ((3 : Nat) : Int)))
 (∃ a74, (some ⟨b69, 0, none⟩) = some a74 ∧ 0 ≤ t72 ∧ t72 < ((3 : Nat) : Int) ∧ ∃ l75p l75l l75c, cell H73 (.add a74 (toNat t72 * 1)) = some (.slice l75p l75l l75c) ∧ ∀ X76 : Kl, (∀ (t77 : Int) H78, (br (decide (t77 < (l75l : Int)))
 (∃ a79, l75p = some a79 ∧ 0 ≤ t77 ∧ t77 < (l75l : Int) ∧ ∃ v80, v80.size = 4 ∧ rowIn H78 (.add a79 (toNat t77 * 4)) v80 ∧ alc H78 (.cells #[.int .i64 0, .int .i64 0, .int .i64 0, .slice none 0 0] 27) fun b81 H82 => v80.size = 4 ∧ stAt H82 ⟨b81, 0, none⟩ v80.toList fun H83 => ∃ Ki84p Ki84l Ki84c, cell H83 (.add ⟨b81, 0, none⟩ 3) = some (.slice Ki84p Ki84l Ki84c) ∧ ∀ X85 : Kl, (∀ (i86 : Int) H87, (br (decide (i86 < (Ki84l : Int)))
 (∃ Ki88p Ki88l Ki88c, cell H87 (.add ⟨b81, 0, none⟩ 3) = some (.slice Ki88p Ki88l Ki88c) ∧ ∃ a89, Ki88p = some a89 ∧ 0 ≤ i86 ∧ i86 < (Ki88l : Int) ∧ stAt H87 (.add (.add a89 (toNat i86 * 19)) 0) [.int .i64 (-7 : Int)] fun H90 => ∃ Ki91p Ki91l Ki91c, cell H90 (.add ⟨b81, 0, none⟩ 3) = some (.slice Ki91p Ki91l Ki91c) ∧ ∃ a92, Ki91p = some a92 ∧ 0 ≤ i86 ∧ i86 < (Ki91l : Int) ∧ ∃ P93p P93l P93c, cell H90 (.add (.add a92 (toNat i86 * 19)) 7) = some (.slice P93p P93l P93c) ∧ ∀ X94 : Kl, (∀ (k95 : Int) H96, (br (decide (k95 < (P93l : Int)))
 (∃ Ki97p Ki97l Ki97c, cell H96 (.add ⟨b81, 0, none⟩ 3) = some (.slice Ki97p Ki97l Ki97c) ∧ ∃ a98, Ki97p = some a98 ∧ 0 ≤ i86 ∧ i86 < (Ki97l : Int) ∧ ∃ P99p P99l P99c, cell H96 (.add (.add a98 (toNat i86 * 19)) 7) = some (.slice P99p P99l P99c) ∧ ∃ a100, P99p = some a100 ∧ 0 ≤ k95 ∧ k95 < (P99l : Int) ∧ stAt H96 (.add a100 (toNat k95 * 1)) [.int .i64 (-7 : Int)] fun H101 => X94 [.int .i64 (wrap .i64 (k95 + 1))] H101)
 (X85 [.int .i64 (wrap .i64 (i86 + 1))] H96)) → X94 [.int .i64 k95] H96) → X94 [.int .i64 0] H90)
 (X76 [.int .i64 (wrap .i64 (t77 + 1))] H87)) → X85 [.int .i64 i86] H87) → X85 [.int .i64 0] H83)
 (X71 [.int .i64 (wrap .i64 (t72 + 1))] H78)) → X76 [.int .i64 t77] H78) → X76 [.int .i64 0] H73)
 (∃ Pa102p Pa102l Pa102c, cell H73 (.add ⟨b57, 0, none⟩ 4) = some (.slice Pa102p Pa102l Pa102c) ∧ ∀ X103 : Kl, (∀ (i104 : Int) H105, (br (decide (i104 < (Pa102l : Int)))
 (∃ Pa106p Pa106l Pa106c, cell H105 (.add ⟨b57, 0, none⟩ 4) = some (.slice Pa106p Pa106l Pa106c) ∧ ∃ a107, Pa106p = some a107 ∧ 0 ≤ i104 ∧ i104 < (Pa106l : Int) ∧ #[Value.int .i64 0, Value.int .i64 0, Value.int .i64 0, Value.slice none 0 0].size = 4 ∧ stAt H105 (.add a107 (toNat i104 * 4)) (Array.toList #[.int .i64 0, .int .i64 0, .int .i64 0, .slice none 0 0]) fun H108 => X103 [.int .i64 (wrap .i64 (i104 + 1))] H108)
 (Tryz.C 14 #[.pointer x25] H105 fun r109 H110 => ∃ r111, r109 = .agg r111 ∧ Tryz.C 16 #[.pointer (some ⟨b27, 0, none⟩), .agg r111] H110 fun r112 H113 => ∃ r114, r112 = .bool r114 ∧ br r114 (Tryz.C 14 #[.pointer y63] H113 fun r115 H116 => ∃ r117, r115 = .agg r117 ∧ Tryz.C 16 #[.pointer (some ⟨b27, 0, none⟩), .agg r117] H116 fun r118 H119 => ∃ r120, r118 = .bool r120 ∧ R (.bool r120) H119) (R (.bool false) H113))) → X103 [.int .i64 i104] H105) → X103 [.int .i64 0] H73)) → X71 [.int .i64 t72] H73) → X71 [.int .i64 0] H70))) → X29 [.int .i64 t30] H31) → X29 [.int .i64 0] H28)))
def Tryz.p3 : Plan := (tl (tg (tg (tl (tl (tl (tg (tl (two (tl (one (loop [(42, 3)] [7, 8, 40, 41] (tl (two (tl leaf) (two (join [] [7, 8, 40, 41, 42] (one (tl (tl (tl (one (tl (tl (tl (tl (tl (tl leaf)))))))))))) leaf)))))) (tl (tl (tg (two (tl (one (loop [(81, 3)] [7, 8, 11, 12, 79, 80] (tl (two (tl leaf) (two (one (tl (tl (one (loop [(87, 3)] [7, 8, 11, 12, 79, 80, 81, 85, 86] (tl (two (tl leaf) (two (one (tl (tl (one (loop [(94, 3)] [7, 8, 11, 12, 16, 79, 80, 81, 85, 86, 87, 93] (tl (two (tl leaf) (two (one (tl (tl (tl (one (loop [(109, 3)] [7, 8, 11, 12, 16, 17, 79, 80, 81, 85, 86, 87, 93, 94, 108] (tl (two (tl leaf) (two (one (tl leaf)) leaf))))))))) leaf)))))))) leaf)))))))) leaf)))))) (two (tl (one (loop [(127, 3)] [7, 8, 11, 12, 126] (tl (two (tl leaf) (two (one (tl leaf)) leaf)))))) (tl leaf)))))))))))))))
theorem Tryz.s3 {st1p : OA} {st1l st1c : Nat} {H R} (h : Tryz.S3 st1p st1l st1c H R) : Tryz.C 3 #[.slice st1p st1l st1c] H R := vcs Tryz.tab_ok Tryz.mixed Tryz.func3 Tryz.cal3 Tryz.p3 h (by kernel_rfl)
def Tryz.p4 : Plan := (tl (tg (tl (tl (two (join [] [2, 7, 9] g0) (tl (tg (tl (two (tl (one (loop [(11, 36), (55, 3)] [12, 53, 54] (tl (two (tl leaf) (two (one (tl (tl (tl (two (join [(11, 36), (16, 28)] [12, 15, 53, 54, 55] (tl (one (tl (tl (tl (tl (tl (tl (tl (two (tl g0) leaf))))))))))) g0))))) leaf)))))) (tl leaf))))))))))
def Tryz.S5  (H : Heap) (R : Kv) : Prop :=
 Tryz.C 7 #[.int .i64 2, .int .i64 2] H fun r1 H2 => ∃ r3 r4, r1 = .tuple #[.agg r3, .int .i64 r4] ∧ alc H2 (.cells #[.int .i64 0, .int .i64 0, .int .i64 0, .slice none 0 0] 27) fun b5 H6 => r3.size = 4 ∧ stAt H6 ⟨b5, 0, none⟩ r3.toList fun H7 => ∃ v8, v8.size = 4 ∧ rowIn H7 ⟨b5, 0, none⟩ v8 ∧ Tryz.C 9 #[.agg v8] H7 fun r9 H10 => ∃ h11, r9 = .pointer h11 ∧ br (Option.isNone h11)
 (R (.bool false) H10)
 (alc H10 (.cells #[.int .i64 0, .int .i64 0, .int .i64 0, .int .i64 0, .int .i64 0, .int .i64 0, .int .i64 0, .int .i64 0, .int .i64 0, .int .i64 0, .slice none 0 0, .slice none 0 0, .int .i64 0, .int .i64 0, .int .i64 0, .int .i64 0, .int .i64 0, .int .i64 0, .slice none 0 0] 47) fun b12 H13 => #[Value.int .i64 1, Value.int .i64 0, Value.int .i64 0, Value.int .i64 (-1 : Int), Value.int .i64 1, Value.int .i64 0, Value.int .i64 0, Value.int .i64 0, Value.int .i64 0, Value.int .i64 0, Value.slice none 0 0, Value.slice none 0 0, Value.int .i64 0, Value.int .i64 0, Value.int .i64 0, Value.int .i64 0, Value.int .i64 0, Value.int .i64 0, Value.slice none 0 0].size = 19 ∧ stAt H13 ⟨b12, 0, none⟩ (Array.toList #[.int .i64 1, .int .i64 0, .int .i64 0, .int .i64 (-1 : Int), .int .i64 1, .int .i64 0, .int .i64 0, .int .i64 0, .int .i64 0, .int .i64 0, .slice none 0 0, .slice none 0 0, .int .i64 0, .int .i64 0, .int .i64 0, .int .i64 0, .int .i64 0, .int .i64 0, .slice none 0 0]) fun H14 => ∃ v15, v15.size = 19 ∧ rowIn H14 ⟨b12, 0, none⟩ v15 ∧ ∃ v16, v16.size = 19 ∧ rowIn H14 ⟨b12, 0, none⟩ v16 ∧ ∃ v17, v17.size = 19 ∧ rowIn H14 ⟨b12, 0, none⟩ v17 ∧ Tryz.C 11 #[.pointer h11, .agg v15] H14 fun r18 H19 => ∃ a20, r18 = .int .i64 a20 ∧ (Ext H14 H19 ∨ (∃ v47, v47.size = 19 ∧ rowIn H19 ⟨b12, 0, none⟩ v47 ∧ Value.agg v47 = .agg v17) ∧ (∃ v48, v48.size = 19 ∧ rowIn H19 ⟨b12, 0, none⟩ v48 ∧ Value.agg v48 = .agg v16)) ∧ Tryz.C 11 #[.pointer h11, .agg v16] H19 fun r21 H22 => ∃ b23, r21 = .int .i64 b23 ∧ (Ext H19 H22 ∨ (∃ v46, v46.size = 19 ∧ rowIn H22 ⟨b12, 0, none⟩ v46 ∧ Value.agg v46 = .agg v17)) ∧ Tryz.C 12 #[.pointer h11] H22 fun r24 H25 => ∃ c26, r24 = .int .i64 c26 ∧ (Ext H22 H25 ∨ (∃ v45, v45.size = 19 ∧ rowIn H25 ⟨b12, 0, none⟩ v45 ∧ Value.agg v45 = .agg v17)) ∧ Tryz.C 11 #[.pointer h11, .agg v17] H25 fun r27 H28 => ∃ e29, r27 = .int .i64 e29 ∧ Tryz.C 14 #[.pointer h11] H28 fun r30 H31 => ∃ r32, r30 = .agg r32 ∧ alc H31 (.cells #[.int .i64 0, .int .i64 0, .int .i64 0, .slice none 0 0, .slice none 0 0, .slice none 0 0] 55) fun b33 H34 => r32.size = 6 ∧ stAt H34 ⟨b33, 0, none⟩ r32.toList fun H35 => br (a20 == 0) (br (b23 == 0) (br (c26 == 0) (br (e29 == 0) (∃ Pa36p Pa36l Pa36c, cell H35 (.add ⟨b33, 0, none⟩ 4) = some (.slice Pa36p Pa36l Pa36c) ∧ br (((Pa36l : Int) : Int) == 2) (∃ Fu37p Fu37l Fu37c, cell H35 (.add ⟨b33, 0, none⟩ 5) = some (.slice Fu37p Fu37l Fu37c) ∧ br (((Fu37l : Int) : Int) == 0) (∃ Do38, Do38.size = 4 ∧ rowIn H35 (.add ⟨b33, 0, none⟩ 0) Do38 ∧ Tryz.C 19 #[.agg Do38] H35 fun r39 H40 => ∃ r41, r39 = .int .i64 r41 ∧ br (r41 == 2) (Tryz.C 13 #[.pointer h11] H40 fun r42 H43 => ∃ r44, r42 = .int .i64 r44 ∧ R (.bool (r44 == 44)) H43) (R (.bool false) H40)) (R (.bool false) H35)) (R (.bool false) H35)) (R (.bool false) H35)) (R (.bool false) H35)) (R (.bool false) H35)) (R (.bool false) H35))
def Tryz.p5 : Plan := (tl (tl (tl (tg (tl (tl (tl (tl leaf))))))))
theorem Tryz.s5 {_u : Unit} {H R} (h : Tryz.S5  H R) : Tryz.C 5 #[] H R := vcs Tryz.tab_ok Tryz.mixed Tryz.func5 Tryz.cal5 Tryz.p5 h (by kernel_rfl)
def Tryz.S6 (st1p : OA) (st1l st1c : Nat) (mo2 : Int) (H : Heap) (R : Kv) : Prop :=
 ∀ X3 : Kl, (∀ (t4 : Int) H5, (br (decide (t4 < (st1l : Int)))
 (∃ a6, st1p = some a6 ∧ 0 ≤ t4 ∧ t4 < (st1l : Int) ∧ ∃ v7, v7.size = 20 ∧ rowIn H5 (.add a6 (toNat t4 * 20)) v7 ∧ alc H5 (.cells #[.int .i64 0, .int .i64 0, .int .i64 0, .int .i64 0, .int .i64 0, .int .i64 0, .int .i64 0, .int .i64 0, .int .i64 0, .int .i64 0, .int .i64 0, .slice none 0 0, .slice none 0 0, .int .i64 0, .int .i64 0, .int .i64 0, .int .i64 0, .int .i64 0, .int .i64 0, .slice none 0 0] 49) fun b8 H9 => v7.size = 20 ∧ stAt H9 ⟨b8, 0, none⟩ v7.toList fun H10 => ∃ Ed11, Ed11.size = 19 ∧ rowIn H10 (.add ⟨b8, 0, none⟩ 1) Ed11 ∧ Ed11.size = 19 ∧ 0 + 19 ≤ 19 ∧ alc H10 (.cells (List.toArray (setL [.int .i64 0, .int .i64 0, .int .i64 0, .int .i64 0, .int .i64 0, .int .i64 0, .int .i64 0, .int .i64 0, .int .i64 0, .int .i64 0, .slice none 0 0, .slice none 0 0, .int .i64 0, .int .i64 0, .int .i64 0, .int .i64 0, .int .i64 0, .int .i64 0, .slice none 0 0] 0 Ed11.toList)) 47) fun b12 H13 => Tryz.C 20 #[.slice (some ⟨b12, 0, none⟩) 1 1, .int .i64 1] H13 fun r14 H15 => ∃ r16, r14 = .bool r16 ∧ br (!r16)
 (R (.bool false) H15)
 (X3 [.int .i64 (wrap .i64 (t4 + 1))] H15))
 (R (.bool (decide (((st1l : Int) : Int) ≤ mo2))) H5)) → X3 [.int .i64 t4] H5) → X3 [.int .i64 0] H
def Tryz.p6 : Plan := (tl (two (tl (one (loop [(9, 3)] [0, 1, 7, 8] (tl (two (tl leaf) (two (one (tl g0)) leaf)))))) (tl leaf)))
theorem Tryz.s6 {st1p : OA} {st1l st1c : Nat} {mo2 : Int} {H R} (h : Tryz.S6 st1p st1l st1c mo2 H R) : Tryz.C 6 #[.slice st1p st1l st1c, .int .i64 mo2] H R := vcs Tryz.tab_ok Tryz.mixed Tryz.func6 Tryz.cal6 Tryz.p6 h (by kernel_rfl)
def Tryz.S7 (w1 h2 : Int) (H : Heap) (R : Kv) : Prop :=
 alc H (.cells #[.int .i64 0, .int .i64 0, .int .i64 0, .slice none 0 0] 27) fun b3 H4 => ∀ J5 : Kl, (∀ H6, (#[Value.int .i64 w1, Value.int .i64 h2, Value.int .i64 1, Value.slice none 0 0].size = 4 ∧ stAt H6 ⟨b3, 0, none⟩ (Array.toList #[.int .i64 w1, .int .i64 h2, .int .i64 1, .slice none 0 0]) fun H7 => ∃ re8, re8.size = 4 ∧ rowIn H7 ⟨b3, 0, none⟩ re8 ∧ R (.tuple #[.agg re8, .int .i64 0]) H7) → J5 [] H6) →
 br (decide (w1 < 1)) (#[Value.int .i64 0, Value.int .i64 0, Value.int .i64 0, Value.slice none 0 0].size = 4 ∧ stAt H4 ⟨b3, 0, none⟩ (Array.toList #[.int .i64 0, .int .i64 0, .int .i64 0, .slice none 0 0]) fun H9 => ∃ re10, re10.size = 4 ∧ rowIn H9 ⟨b3, 0, none⟩ re10 ∧ R (.tuple #[.agg re10, .int .i64 31]) H9) (br (decide (h2 < 1)) (#[Value.int .i64 0, Value.int .i64 0, Value.int .i64 0, Value.slice none 0 0].size = 4 ∧ stAt H4 ⟨b3, 0, none⟩ (Array.toList #[.int .i64 0, .int .i64 0, .int .i64 0, .slice none 0 0]) fun H11 => ∃ re12, re12.size = 4 ∧ rowIn H11 ⟨b3, 0, none⟩ re12 ∧ R (.tuple #[.agg re12, .int .i64 31]) H11) (br (decide (w1 > 32768)) (#[Value.int .i64 0, Value.int .i64 0, Value.int .i64 0, Value.slice none 0 0].size = 4 ∧ stAt H4 ⟨b3, 0, none⟩ (Array.toList #[.int .i64 0, .int .i64 0, .int .i64 0, .slice none 0 0]) fun H13 => ∃ re14, re14.size = 4 ∧ rowIn H13 ⟨b3, 0, none⟩ re14 ∧ R (.tuple #[.agg re14, .int .i64 31]) H13) (br (decide (h2 > 32768)) (#[Value.int .i64 0, Value.int .i64 0, Value.int .i64 0, Value.slice none 0 0].size = 4 ∧ stAt H4 ⟨b3, 0, none⟩ (Array.toList #[.int .i64 0, .int .i64 0, .int .i64 0, .slice none 0 0]) fun H15 => ∃ re16, re16.size = 4 ∧ rowIn H15 ⟨b3, 0, none⟩ re16 ∧ R (.tuple #[.agg re16, .int .i64 31]) H15) (br (decide (((wrap .i64 (w1 * h2)) : Int) > 4194304))
 (#[Value.int .i64 0, Value.int .i64 0, Value.int .i64 0, Value.slice none 0 0].size = 4 ∧ stAt H4 ⟨b3, 0, none⟩ (Array.toList #[.int .i64 0, .int .i64 0, .int .i64 0, .slice none 0 0]) fun H17 => ∃ re18, re18.size = 4 ∧ rowIn H17 ⟨b3, 0, none⟩ re18 ∧ R (.tuple #[.agg re18, .int .i64 31]) H17)
 (J5 [] H4)))))
def Tryz.p7 : Plan := (tl (two (join [] [0, 1, 4] g0) (tl leaf)))
theorem Tryz.s7 {w1 h2 : Int} {H R} (h : Tryz.S7 w1 h2 H R) : Tryz.C 7 #[.int .i64 w1, .int .i64 h2] H R := vcs Tryz.tab_ok Tryz.mixed Tryz.func7 Tryz.cal7 Tryz.p7 h (by kernel_rfl)
def Tryz.S8 (w1 h2 : Int) (H : Heap) (R : Kv) : Prop :=
 alc H (.cells #[.int .i64 0, .int .i64 0, .int .i64 0, .slice none 0 0] 33) fun b3 H4 => Tryz.C 21 #[.int .i64 w1, .int .i64 h2] H4 fun r5 H6 => ∃ r7, r5 = .bool r7 ∧ br (!r7)
 (#[Value.int .i64 0, Value.int .i64 0, Value.int .i64 0, Value.slice none 0 0].size = 4 ∧ stAt H6 ⟨b3, 0, none⟩ (Array.toList #[.int .i64 0, .int .i64 0, .int .i64 0, .slice none 0 0]) fun H8 => ∃ re9, re9.size = 4 ∧ rowIn H8 ⟨b3, 0, none⟩ re9 ∧ R (.tuple #[.agg re9, .int .i64 31]) H8)
 (#[Value.int .i64 w1, Value.int .i64 h2, Value.int .i64 1, Value.slice none 0 0].size = 4 ∧ stAt H6 ⟨b3, 0, none⟩ (Array.toList #[.int .i64 w1, .int .i64 h2, .int .i64 1, .slice none 0 0]) fun H10 => ∃ re11, re11.size = 4 ∧ rowIn H10 ⟨b3, 0, none⟩ re11 ∧ R (.tuple #[.agg re11, .int .i64 0]) H10)
def Tryz.p8 : Plan := (tl (tg (tl leaf)))
theorem Tryz.s8 {w1 h2 : Int} {H R} (h : Tryz.S8 w1 h2 H R) : Tryz.C 8 #[.int .i64 w1, .int .i64 h2] H R := vcs Tryz.tab_ok Tryz.mixed Tryz.func8 Tryz.cal8 Tryz.p8 h (by kernel_rfl)
def Tryz.S9 (d1 : AV) (H : Heap) (R : Kv) : Prop :=
 alc H (.cells d1 27) fun b2 H3 => ∃ v4, v4.size = 4 ∧ rowIn H3 ⟨b2, 0, none⟩ v4 ∧ Tryz.C 22 #[.agg v4] H3 fun r5 H6 => ∃ r7, r5 = .agg r7 ∧ r7.size = 4 ∧ 0 + 4 ≤ 6 ∧ alc H6 (.cells (List.toArray (setL [.int .i64 0, .int .i64 0, .int .i64 0, .slice none 0 0, .slice none 0 0, .slice none 0 0] 0 r7.toList)) 75) fun b8 H9 => R (.pointer (some ⟨b8, 0, none⟩)) H9
def Tryz.p9 : Plan := (tl (tl leaf))
theorem Tryz.s9 {d1 : AV} {H R} (h : Tryz.S9 d1 H R) : Tryz.C 9 #[.agg d1] H R := vcs Tryz.tab_ok Tryz.mixed Tryz.func9 Tryz.cal9 Tryz.p9 h (by kernel_rfl)
def Tryz.S10 (b1 : OA) (s2 : AV) (H : Heap) (R : Kv) : Prop :=
 alc H (.cells s2 49) fun b3 H4 => ∃ Ki5, cell H4 (.add ⟨b3, 0, none⟩ 0) = some (.int .i64 Ki5) ∧ br (Ki5 == 0)
 (∀ J6 : Kl, (∀ (d7 : Addr) (e8 : Int) H9, (br (e8 == 0)
 (∃ a10, b1 = some a10 ∧ ∃ pa11p pa11l pa11c, cell H9 (.add a10 4) = some (.slice pa11p pa11l pa11c) ∧ ∃ a12, b1 = some a12 ∧ ∃ no13, no13.size = 4 ∧ rowIn H9 (.add a12 0) no13 ∧ ∃ v14, v14.size = 4 ∧ rowIn H9 d7 v14 ∧ (alc H9 (.cells #[] 33) fun b15 H16 => (Ext H9 H16 ∨ (∃ v53, v53.size = 4 ∧ rowIn H16 d7 v53 ∧ Value.agg v53 = .agg v14) ∧ (∃ no54, no54.size = 4 ∧ rowIn H16 (.add a12 0) no54 ∧ Value.agg no54 = .agg no13) ∧ (∃ pa55p pa55l pa55c, cell H16 (.add a10 4) = some (.slice pa55p pa55l pa55c) ∧ Value.slice pa55p pa55l pa55c = .slice pa11p pa11l pa11c)) ∧ (appQ 4 48 #[.int .i64 0, .int .i64 0, .int .i64 0, .slice none 0 0] H16 (some ⟨b15, 0, none⟩) 0 0 pa11p pa11l 33 fun ap17p ap17l ap17c H18 => (Ext H16 H18 ∨ (∃ v33, v33.size = 4 ∧ rowIn H18 d7 v33 ∧ Value.agg v33 = .agg v14) ∧ (∃ no34, no34.size = 4 ∧ rowIn H18 (.add a12 0) no34 ∧ Value.agg no34 = .agg no13)) ∧ no13.size = 4 ∧ 0 + 4 ≤ 4 ∧ alc H18 (.cells (List.toArray (setL [.int .i64 0, .int .i64 0, .int .i64 0, .slice none 0 0] 0 no13.toList)) 33) fun b19 H20 => (Ext H18 H20 ∨ (∃ v32, v32.size = 4 ∧ rowIn H20 d7 v32 ∧ Value.agg v32 = .agg v14)) ∧ appQ 4 48 #[.int .i64 0, .int .i64 0, .int .i64 0, .slice none 0 0] H20 ap17p ap17l ap17c (some ⟨b19, 0, none⟩) 1 33 fun ap21p ap21l ap21c H22 => (Ext H20 H22 ∨ (∃ v31, v31.size = 4 ∧ rowIn H22 d7 v31 ∧ Value.agg v31 = .agg v14)) ∧ ∃ a23, b1 = some a23 ∧ stAt H22 (.add a23 4) [.slice ap21p ap21l ap21c] fun H24 => (Ext H22 H24 ∨ (∃ v30, v30.size = 4 ∧ rowIn H24 d7 v30 ∧ Value.agg v30 = .agg v14)) ∧ ∃ a25, b1 = some a25 ∧ stAt H24 (.add a25 5) [.slice none 0 0] fun H26 => (Ext H24 H26 ∨ (∃ v29, v29.size = 4 ∧ rowIn H26 d7 v29 ∧ Value.agg v29 = .agg v14)) ∧ ∃ a27, b1 = some a27 ∧ v14.size = 4 ∧ stAt H26 (.add a27 0) v14.toList fun H28 => R (.int .i64 e8) H28) ∧ (no13.size = 4 ∧ 0 + 4 ≤ 4 ∧ alc H16 (.cells (List.toArray (setL [.int .i64 0, .int .i64 0, .int .i64 0, .slice none 0 0] 0 no13.toList)) 33) fun b35 H36 => (Ext H16 H36 ∨ (∃ v51, v51.size = 4 ∧ rowIn H36 d7 v51 ∧ Value.agg v51 = .agg v14) ∧ (∃ pa52p pa52l pa52c, cell H36 (.add a10 4) = some (.slice pa52p pa52l pa52c) ∧ Value.slice pa52p pa52l pa52c = .slice pa11p pa11l pa11c)) ∧ appQ 4 48 #[.int .i64 0, .int .i64 0, .int .i64 0, .slice none 0 0] H36 (some ⟨b15, 0, none⟩) 0 0 pa11p pa11l 33 fun ap37p ap37l ap37c H38 => (Ext H36 H38 ∨ (∃ v50, v50.size = 4 ∧ rowIn H38 d7 v50 ∧ Value.agg v50 = .agg v14)) ∧ appQ 4 48 #[.int .i64 0, .int .i64 0, .int .i64 0, .slice none 0 0] H38 ap37p ap37l ap37c (some ⟨b35, 0, none⟩) 1 33 fun ap39p ap39l ap39c H40 => (Ext H38 H40 ∨ (∃ v49, v49.size = 4 ∧ rowIn H40 d7 v49 ∧ Value.agg v49 = .agg v14)) ∧ ∃ a41, b1 = some a41 ∧ stAt H40 (.add a41 4) [.slice ap39p ap39l ap39c] fun H42 => (Ext H40 H42 ∨ (∃ v48, v48.size = 4 ∧ rowIn H42 d7 v48 ∧ Value.agg v48 = .agg v14)) ∧ ∃ a43, b1 = some a43 ∧ stAt H42 (.add a43 5) [.slice none 0 0] fun H44 => (Ext H42 H44 ∨ (∃ v47, v47.size = 4 ∧ rowIn H44 d7 v47 ∧ Value.agg v47 = .agg v14)) ∧ ∃ a45, b1 = some a45 ∧ v14.size = 4 ∧ stAt H44 (.add a45 0) v14.toList fun H46 => R (.int .i64 e8) H46)) ∧ (no13.size = 4 ∧ 0 + 4 ≤ 4 ∧ alc H9 (.cells (List.toArray (setL [.int .i64 0, .int .i64 0, .int .i64 0, .slice none 0 0] 0 no13.toList)) 33) fun b56 H57 => (Ext H9 H57 ∨ (∃ v76, v76.size = 4 ∧ rowIn H57 d7 v76 ∧ Value.agg v76 = .agg v14) ∧ (∃ pa77p pa77l pa77c, cell H57 (.add a10 4) = some (.slice pa77p pa77l pa77c) ∧ Value.slice pa77p pa77l pa77c = .slice pa11p pa11l pa11c)) ∧ alc H57 (.cells #[] 33) fun b58 H59 => (Ext H57 H59 ∨ (∃ v74, v74.size = 4 ∧ rowIn H59 d7 v74 ∧ Value.agg v74 = .agg v14) ∧ (∃ pa75p pa75l pa75c, cell H59 (.add a10 4) = some (.slice pa75p pa75l pa75c) ∧ Value.slice pa75p pa75l pa75c = .slice pa11p pa11l pa11c)) ∧ appQ 4 48 #[.int .i64 0, .int .i64 0, .int .i64 0, .slice none 0 0] H59 (some ⟨b58, 0, none⟩) 0 0 pa11p pa11l 33 fun ap60p ap60l ap60c H61 => (Ext H59 H61 ∨ (∃ v73, v73.size = 4 ∧ rowIn H61 d7 v73 ∧ Value.agg v73 = .agg v14)) ∧ appQ 4 48 #[.int .i64 0, .int .i64 0, .int .i64 0, .slice none 0 0] H61 ap60p ap60l ap60c (some ⟨b56, 0, none⟩) 1 33 fun ap62p ap62l ap62c H63 => (Ext H61 H63 ∨ (∃ v72, v72.size = 4 ∧ rowIn H63 d7 v72 ∧ Value.agg v72 = .agg v14)) ∧ ∃ a64, b1 = some a64 ∧ stAt H63 (.add a64 4) [.slice ap62p ap62l ap62c] fun H65 => (Ext H63 H65 ∨ (∃ v71, v71.size = 4 ∧ rowIn H65 d7 v71 ∧ Value.agg v71 = .agg v14)) ∧ ∃ a66, b1 = some a66 ∧ stAt H65 (.add a66 5) [.slice none 0 0] fun H67 => (Ext H65 H67 ∨ (∃ v70, v70.size = 4 ∧ rowIn H67 d7 v70 ∧ Value.agg v70 = .agg v14)) ∧ ∃ a68, b1 = some a68 ∧ v14.size = 4 ∧ stAt H67 (.add a68 0) v14.toList fun H69 => R (.int .i64 e8) H69))
 (R (.int .i64 e8) H9)) → J6 [.pointer (some d7), .int .i64 e8] H9) →
 ∃ a78, b1 = some a78 ∧ ∃ no79, no79.size = 4 ∧ rowIn H4 (.add a78 0) no79 ∧ ∃ Ed80, Ed80.size = 19 ∧ rowIn H4 (.add ⟨b3, 0, none⟩ 1) Ed80 ∧ (Tryz.C 24 #[.agg Ed80] H4 fun r81 H82 => ∃ r83, r81 = .agg r83 ∧ (Ext H4 H82 ∨ (∃ no99, no99.size = 4 ∧ rowIn H82 (.add a78 0) no99 ∧ Value.agg no99 = .agg no79)) ∧ (Tryz.C 23 #[.agg no79, .agg r83] H82 fun r84 H85 => ∃ r86 r87, r84 = .tuple #[.agg r86, .int .i64 r87] ∧ alc H85 (.cells #[.int .i64 0, .int .i64 0, .int .i64 0, .slice none 0 0] 33) fun b88 H89 => r86.size = 4 ∧ stAt H89 ⟨b88, 0, none⟩ r86.toList fun H90 => J6 [.pointer (some ⟨b88, 0, none⟩), .int .i64 r87] H90) ∧ (alc H82 (.cells #[.int .i64 0, .int .i64 0, .int .i64 0, .slice none 0 0] 33) fun b91 H92 => (Ext H82 H92 ∨ (∃ no98, no98.size = 4 ∧ rowIn H92 (.add a78 0) no98 ∧ Value.agg no98 = .agg no79)) ∧ Tryz.C 23 #[.agg no79, .agg r83] H92 fun r93 H94 => ∃ r95 r96, r93 = .tuple #[.agg r95, .int .i64 r96] ∧ r95.size = 4 ∧ stAt H94 ⟨b91, 0, none⟩ r95.toList fun H97 => J6 [.pointer (some ⟨b91, 0, none⟩), .int .i64 r96] H97)) ∧ (alc H4 (.cells #[.int .i64 0, .int .i64 0, .int .i64 0, .slice none 0 0] 33) fun b100 H101 => (Ext H4 H101 ∨ (∃ Ed111, Ed111.size = 19 ∧ rowIn H101 (.add ⟨b3, 0, none⟩ 1) Ed111 ∧ Value.agg Ed111 = .agg Ed80) ∧ (∃ no112, no112.size = 4 ∧ rowIn H101 (.add a78 0) no112 ∧ Value.agg no112 = .agg no79)) ∧ Tryz.C 24 #[.agg Ed80] H101 fun r102 H103 => ∃ r104, r102 = .agg r104 ∧ (Ext H101 H103 ∨ (∃ no110, no110.size = 4 ∧ rowIn H103 (.add a78 0) no110 ∧ Value.agg no110 = .agg no79)) ∧ Tryz.C 23 #[.agg no79, .agg r104] H103 fun r105 H106 => ∃ r107 r108, r105 = .tuple #[.agg r107, .int .i64 r108] ∧ r107.size = 4 ∧ stAt H106 ⟨b100, 0, none⟩ r107.toList fun H109 => J6 [.pointer (some ⟨b100, 0, none⟩), .int .i64 r108] H109))
 (br (Ki5 == 1)
 (∃ a113, b1 = some a113 ∧ ∃ pa114p pa114l pa114c, cell H4 (.add a113 4) = some (.slice pa114p pa114l pa114c) ∧ br (((pa114l : Int) : Int) == 0)
 (R (.int .i64 44) H4)
 (∀ J115 : Kl, (∀ H116, (∃ a117, b1 = some a117 ∧ ∃ pa118p pa118l pa118c, cell H116 (.add a117 4) = some (.slice pa118p pa118l pa118c) ∧ ∃ a119, pa118p = some a119 ∧ 0 ≤ (wrap .i64 ((pa114l : Int) - 1)) ∧ (wrap .i64 ((pa114l : Int) - 1)) < (pa118l : Int) ∧ ∃ v120, v120.size = 4 ∧ rowIn H116 (.add a119 (toNat (wrap .i64 ((pa114l : Int) - 1)) * 4)) v120 ∧ ∃ a121, b1 = some a121 ∧ ∃ pa122p pa122l pa122c, cell H116 (.add a121 4) = some (.slice pa122p pa122l pa122c) ∧ 0 ≤ (wrap .i64 ((pa114l : Int) - 1)) ∧ (wrap .i64 ((pa114l : Int) - 1)) ≤ (pa122c : Int) ∧ ∃ a123, b1 = some a123 ∧ v120.size = 4 ∧ stAt H116 (.add a123 0) v120.toList fun H124 => ∃ a125, b1 = some a125 ∧ stAt H124 (.add a125 4) [.slice (if pa122c = 0 then pa122p else Option.map (fun x => Addr.add x (0 * 4)) pa122p) ((toNat (wrap .i64 ((pa114l : Int) - 1))) - 0) (pa122c - 0)] fun H126 => R (.int .i64 0) H126) → J115 [] H116) →
 ∃ a127, b1 = some a127 ∧ ∃ fu128p fu128l fu128c, cell H4 (.add a127 5) = some (.slice fu128p fu128l fu128c) ∧ ∃ a129, b1 = some a129 ∧ ∃ no130, no130.size = 4 ∧ rowIn H4 (.add a129 0) no130 ∧ (alc H4 (.cells #[] 33) fun b131 H132 => (Ext H4 H132 ∨ (∃ no151, no151.size = 4 ∧ rowIn H132 (.add a129 0) no151 ∧ Value.agg no151 = .agg no130) ∧ (∃ fu152p fu152l fu152c, cell H132 (.add a127 5) = some (.slice fu152p fu152l fu152c) ∧ Value.slice fu152p fu152l fu152c = .slice fu128p fu128l fu128c)) ∧ (appQ 4 48 #[.int .i64 0, .int .i64 0, .int .i64 0, .slice none 0 0] H132 (some ⟨b131, 0, none⟩) 0 0 fu128p fu128l 33 fun ap133p ap133l ap133c H134 => (Ext H132 H134 ∨ (∃ no141, no141.size = 4 ∧ rowIn H134 (.add a129 0) no141 ∧ Value.agg no141 = .agg no130)) ∧ no130.size = 4 ∧ 0 + 4 ≤ 4 ∧ alc H134 (.cells (List.toArray (setL [.int .i64 0, .int .i64 0, .int .i64 0, .slice none 0 0] 0 no130.toList)) 33) fun b135 H136 => appQ 4 48 #[.int .i64 0, .int .i64 0, .int .i64 0, .slice none 0 0] H136 ap133p ap133l ap133c (some ⟨b135, 0, none⟩) 1 33 fun ap137p ap137l ap137c H138 => ∃ a139, b1 = some a139 ∧ stAt H138 (.add a139 5) [.slice ap137p ap137l ap137c] fun H140 => J115 [] H140) ∧ (no130.size = 4 ∧ 0 + 4 ≤ 4 ∧ alc H132 (.cells (List.toArray (setL [.int .i64 0, .int .i64 0, .int .i64 0, .slice none 0 0] 0 no130.toList)) 33) fun b142 H143 => (Ext H132 H143 ∨ (∃ fu150p fu150l fu150c, cell H143 (.add a127 5) = some (.slice fu150p fu150l fu150c) ∧ Value.slice fu150p fu150l fu150c = .slice fu128p fu128l fu128c)) ∧ appQ 4 48 #[.int .i64 0, .int .i64 0, .int .i64 0, .slice none 0 0] H143 (some ⟨b131, 0, none⟩) 0 0 fu128p fu128l 33 fun ap144p ap144l ap144c H145 => appQ 4 48 #[.int .i64 0, .int .i64 0, .int .i64 0, .slice none 0 0] H145 ap144p ap144l ap144c (some ⟨b142, 0, none⟩) 1 33 fun ap146p ap146l ap146c H147 => ∃ a148, b1 = some a148 ∧ stAt H147 (.add a148 5) [.slice ap146p ap146l ap146c] fun H149 => J115 [] H149)) ∧ (no130.size = 4 ∧ 0 + 4 ≤ 4 ∧ alc H4 (.cells (List.toArray (setL [.int .i64 0, .int .i64 0, .int .i64 0, .slice none 0 0] 0 no130.toList)) 33) fun b153 H154 => (Ext H4 H154 ∨ (∃ fu164p fu164l fu164c, cell H154 (.add a127 5) = some (.slice fu164p fu164l fu164c) ∧ Value.slice fu164p fu164l fu164c = .slice fu128p fu128l fu128c)) ∧ alc H154 (.cells #[] 33) fun b155 H156 => (Ext H154 H156 ∨ (∃ fu163p fu163l fu163c, cell H156 (.add a127 5) = some (.slice fu163p fu163l fu163c) ∧ Value.slice fu163p fu163l fu163c = .slice fu128p fu128l fu128c)) ∧ appQ 4 48 #[.int .i64 0, .int .i64 0, .int .i64 0, .slice none 0 0] H156 (some ⟨b155, 0, none⟩) 0 0 fu128p fu128l 33 fun ap157p ap157l ap157c H158 => appQ 4 48 #[.int .i64 0, .int .i64 0, .int .i64 0, .slice none 0 0] H158 ap157p ap157l ap157c (some ⟨b153, 0, none⟩) 1 33 fun ap159p ap159l ap159c H160 => ∃ a161, b1 = some a161 ∧ stAt H160 (.add a161 5) [.slice ap159p ap159l ap159c] fun H162 => J115 [] H162)))
 (br (Ki5 == 2)
 (∃ a165, b1 = some a165 ∧ ∃ fu166p fu166l fu166c, cell H4 (.add a165 5) = some (.slice fu166p fu166l fu166c) ∧ br (((fu166l : Int) : Int) == 0)
 (R (.int .i64 44) H4)
 (∀ J167 : Kl, (∀ H168, (∃ a169, b1 = some a169 ∧ ∃ fu170p fu170l fu170c, cell H168 (.add a169 5) = some (.slice fu170p fu170l fu170c) ∧ ∃ a171, fu170p = some a171 ∧ 0 ≤ (wrap .i64 ((fu166l : Int) - 1)) ∧ (wrap .i64 ((fu166l : Int) - 1)) < (fu170l : Int) ∧ ∃ v172, v172.size = 4 ∧ rowIn H168 (.add a171 (toNat (wrap .i64 ((fu166l : Int) - 1)) * 4)) v172 ∧ ∃ a173, b1 = some a173 ∧ ∃ fu174p fu174l fu174c, cell H168 (.add a173 5) = some (.slice fu174p fu174l fu174c) ∧ 0 ≤ (wrap .i64 ((fu166l : Int) - 1)) ∧ (wrap .i64 ((fu166l : Int) - 1)) ≤ (fu174c : Int) ∧ ∃ a175, b1 = some a175 ∧ v172.size = 4 ∧ stAt H168 (.add a175 0) v172.toList fun H176 => ∃ a177, b1 = some a177 ∧ stAt H176 (.add a177 5) [.slice (if fu174c = 0 then fu174p else Option.map (fun x => Addr.add x (0 * 4)) fu174p) ((toNat (wrap .i64 ((fu166l : Int) - 1))) - 0) (fu174c - 0)] fun H178 => R (.int .i64 0) H178) → J167 [] H168) →
 ∃ a179, b1 = some a179 ∧ ∃ pa180p pa180l pa180c, cell H4 (.add a179 4) = some (.slice pa180p pa180l pa180c) ∧ ∃ a181, b1 = some a181 ∧ ∃ no182, no182.size = 4 ∧ rowIn H4 (.add a181 0) no182 ∧ (alc H4 (.cells #[] 33) fun b183 H184 => (Ext H4 H184 ∨ (∃ no203, no203.size = 4 ∧ rowIn H184 (.add a181 0) no203 ∧ Value.agg no203 = .agg no182) ∧ (∃ pa204p pa204l pa204c, cell H184 (.add a179 4) = some (.slice pa204p pa204l pa204c) ∧ Value.slice pa204p pa204l pa204c = .slice pa180p pa180l pa180c)) ∧ (appQ 4 48 #[.int .i64 0, .int .i64 0, .int .i64 0, .slice none 0 0] H184 (some ⟨b183, 0, none⟩) 0 0 pa180p pa180l 33 fun ap185p ap185l ap185c H186 => (Ext H184 H186 ∨ (∃ no193, no193.size = 4 ∧ rowIn H186 (.add a181 0) no193 ∧ Value.agg no193 = .agg no182)) ∧ no182.size = 4 ∧ 0 + 4 ≤ 4 ∧ alc H186 (.cells (List.toArray (setL [.int .i64 0, .int .i64 0, .int .i64 0, .slice none 0 0] 0 no182.toList)) 33) fun b187 H188 => appQ 4 48 #[.int .i64 0, .int .i64 0, .int .i64 0, .slice none 0 0] H188 ap185p ap185l ap185c (some ⟨b187, 0, none⟩) 1 33 fun ap189p ap189l ap189c H190 => ∃ a191, b1 = some a191 ∧ stAt H190 (.add a191 4) [.slice ap189p ap189l ap189c] fun H192 => J167 [] H192) ∧ (no182.size = 4 ∧ 0 + 4 ≤ 4 ∧ alc H184 (.cells (List.toArray (setL [.int .i64 0, .int .i64 0, .int .i64 0, .slice none 0 0] 0 no182.toList)) 33) fun b194 H195 => (Ext H184 H195 ∨ (∃ pa202p pa202l pa202c, cell H195 (.add a179 4) = some (.slice pa202p pa202l pa202c) ∧ Value.slice pa202p pa202l pa202c = .slice pa180p pa180l pa180c)) ∧ appQ 4 48 #[.int .i64 0, .int .i64 0, .int .i64 0, .slice none 0 0] H195 (some ⟨b183, 0, none⟩) 0 0 pa180p pa180l 33 fun ap196p ap196l ap196c H197 => appQ 4 48 #[.int .i64 0, .int .i64 0, .int .i64 0, .slice none 0 0] H197 ap196p ap196l ap196c (some ⟨b194, 0, none⟩) 1 33 fun ap198p ap198l ap198c H199 => ∃ a200, b1 = some a200 ∧ stAt H199 (.add a200 4) [.slice ap198p ap198l ap198c] fun H201 => J167 [] H201)) ∧ (no182.size = 4 ∧ 0 + 4 ≤ 4 ∧ alc H4 (.cells (List.toArray (setL [.int .i64 0, .int .i64 0, .int .i64 0, .slice none 0 0] 0 no182.toList)) 33) fun b205 H206 => (Ext H4 H206 ∨ (∃ pa216p pa216l pa216c, cell H206 (.add a179 4) = some (.slice pa216p pa216l pa216c) ∧ Value.slice pa216p pa216l pa216c = .slice pa180p pa180l pa180c)) ∧ alc H206 (.cells #[] 33) fun b207 H208 => (Ext H206 H208 ∨ (∃ pa215p pa215l pa215c, cell H208 (.add a179 4) = some (.slice pa215p pa215l pa215c) ∧ Value.slice pa215p pa215l pa215c = .slice pa180p pa180l pa180c)) ∧ appQ 4 48 #[.int .i64 0, .int .i64 0, .int .i64 0, .slice none 0 0] H208 (some ⟨b207, 0, none⟩) 0 0 pa180p pa180l 33 fun ap209p ap209l ap209c H210 => appQ 4 48 #[.int .i64 0, .int .i64 0, .int .i64 0, .slice none 0 0] H210 ap209p ap209l ap209c (some ⟨b205, 0, none⟩) 1 33 fun ap211p ap211l ap211c H212 => ∃ a213, b1 = some a213 ∧ stAt H212 (.add a213 4) [.slice ap211p ap211l ap211c] fun H214 => J167 [] H214)))
 (R (.int .i64 0) H4)))
def Tryz.p10 : Plan := (tl (two (tl (one (tl (two (two (join [(5, 999999), (6, 3)] [0] leaf) (two (tl (tl leaf)) (tl leaf))) (tl (two (tl (tg (two (join [] [0, 7] leaf) leaf))) (tl (two (tl (tg (two (join [] [0, 8] leaf) leaf))) leaf)))))))) (tl leaf)))
theorem Tryz.s10 {b1 : OA} {s2 : AV} {H R} (h : Tryz.S10 b1 s2 H R) : Tryz.C 10 #[.pointer b1, .agg s2] H R := vcs Tryz.tab_ok Tryz.mixed Tryz.func10 Tryz.cal10 Tryz.p10 h (by kernel_rfl)
def Tryz.S11 (h1 : OA) (e2 : AV) (H : Heap) (R : Kv) : Prop :=
 alc H (.cells e2 47) fun b3 H4 => ∀ J5 : Kl, (∀ (d6 : Addr) (er7 : Int) H8, (br (er7 != 0)
 (R (.int .i64 er7) H8)
 (∃ a9, h1 = some a9 ∧ ∃ a10, h1 = some a10 ∧ ∃ no11, no11.size = 4 ∧ rowIn H8 (.add a10 0) no11 ∧ Tryz.C 26 #[.pointer (some (.add a9 4)), .agg no11] H8 fun r12 H13 => r12 = .tuple #[] ∧ ∃ v14, v14.size = 4 ∧ rowIn H13 d6 v14 ∧ ∃ a15, h1 = some a15 ∧ v14.size = 4 ∧ stAt H13 (.add a15 0) v14.toList fun H16 => ∃ a17, h1 = some a17 ∧ #[Value.slice none 0 0].size = 1 ∧ stAt H16 (.add a17 5) (Array.toList #[.slice none 0 0]) fun H18 => R (.int .i64 0) H18)) → J5 [.pointer (some d6), .int .i64 er7] H8) →
 ∃ a19, h1 = some a19 ∧ ∃ no20, no20.size = 4 ∧ rowIn H4 (.add a19 0) no20 ∧ ∃ v21, v21.size = 19 ∧ rowIn H4 ⟨b3, 0, none⟩ v21 ∧ (Tryz.C 25 #[.agg no20, .agg v21] H4 fun r22 H23 => ∃ r24 r25, r22 = .tuple #[.agg r24, .int .i64 r25] ∧ alc H23 (.cells #[.int .i64 0, .int .i64 0, .int .i64 0, .slice none 0 0] 27) fun b26 H27 => r24.size = 4 ∧ stAt H27 ⟨b26, 0, none⟩ r24.toList fun H28 => J5 [.pointer (some ⟨b26, 0, none⟩), .int .i64 r25] H28) ∧ (alc H4 (.cells #[.int .i64 0, .int .i64 0, .int .i64 0, .slice none 0 0] 27) fun b29 H30 => (Ext H4 H30 ∨ (∃ v36, v36.size = 19 ∧ rowIn H30 ⟨b3, 0, none⟩ v36 ∧ Value.agg v36 = .agg v21) ∧ (∃ no37, no37.size = 4 ∧ rowIn H30 (.add a19 0) no37 ∧ Value.agg no37 = .agg no20)) ∧ Tryz.C 25 #[.agg no20, .agg v21] H30 fun r31 H32 => ∃ r33 r34, r31 = .tuple #[.agg r33, .int .i64 r34] ∧ r33.size = 4 ∧ stAt H32 ⟨b29, 0, none⟩ r33.toList fun H35 => J5 [.pointer (some ⟨b29, 0, none⟩), .int .i64 r34] H35)
def Tryz.p11 : Plan := (tl (two (join [(5, 999999), (6, 28)] [0] leaf) (tg (tl (tl (tl leaf))))))
theorem Tryz.s11 {h1 : OA} {e2 : AV} {H R} (h : Tryz.S11 h1 e2 H R) : Tryz.C 11 #[.pointer h1, .agg e2] H R := vcs Tryz.tab_ok Tryz.mixed Tryz.func11 Tryz.cal11 Tryz.p11 h (by kernel_rfl)
def Tryz.S12 (h1 : OA) (H : Heap) (R : Kv) : Prop :=
 ∃ a2, h1 = some a2 ∧ ∃ a3, h1 = some a3 ∧ Tryz.C 27 #[.pointer h1, .pointer (some (.add a2 4)), .pointer (some (.add a3 5))] H fun r4 H5 => ∃ r6, r4 = .int .i64 r6 ∧ R (.int .i64 r6) H5
def Tryz.p12 : Plan := (tl (tl leaf))
theorem Tryz.s12 {h1 : OA} {H R} (h : Tryz.S12 h1 H R) : Tryz.C 12 #[.pointer h1] H R := vcs Tryz.tab_ok Tryz.mixed Tryz.func12 Tryz.cal12 Tryz.p12 h (by kernel_rfl)
def Tryz.S13 (h1 : OA) (H : Heap) (R : Kv) : Prop :=
 ∃ a2, h1 = some a2 ∧ ∃ a3, h1 = some a3 ∧ Tryz.C 27 #[.pointer h1, .pointer (some (.add a2 5)), .pointer (some (.add a3 4))] H fun r4 H5 => ∃ r6, r4 = .int .i64 r6 ∧ R (.int .i64 r6) H5
def Tryz.p13 : Plan := (tl (tl leaf))
theorem Tryz.s13 {h1 : OA} {H R} (h : Tryz.S13 h1 H R) : Tryz.C 13 #[.pointer h1] H R := vcs Tryz.tab_ok Tryz.mixed Tryz.func13 Tryz.cal13 Tryz.p13 h (by kernel_rfl)
def Tryz.S14 (h1 : OA) (H : Heap) (R : Kv) : Prop :=
 alc H (.cells #[.int .i64 0, .int .i64 0, .int .i64 0, .slice none 0 0, .slice none 0 0, .slice none 0 0] 55) fun b2 H3 => ∃ a4, h1 = some a4 ∧ ∃ no5, no5.size = 4 ∧ rowIn H3 (.add a4 0) no5 ∧ ∃ a6, h1 = some a6 ∧ ∃ li7p li7l li7c, cell H3 (.add (.add a6 4) 0) = some (.slice li7p li7l li7c) ∧ ∃ a8, h1 = some a8 ∧ ∃ li9p li9l li9c, cell H3 (.add (.add a8 5) 0) = some (.slice li9p li9l li9c) ∧ Tryz.C 22 #[.agg no5] H3 fun r10 H11 => ∃ r12, r10 = .agg r12 ∧ (Ext H3 H11 ∨ (∃ li22p li22l li22c, cell H11 (.add (.add a8 5) 0) = some (.slice li22p li22l li22c) ∧ Value.slice li22p li22l li22c = .slice li9p li9l li9c) ∧ (∃ li23p li23l li23c, cell H11 (.add (.add a6 4) 0) = some (.slice li23p li23l li23c) ∧ Value.slice li23p li23l li23c = .slice li7p li7l li7c)) ∧ Tryz.C 28 #[.slice li7p li7l li7c] H11 fun r13 H14 => ∃ r15p r15l r15c, r13 = .slice r15p r15l r15c ∧ (Ext H11 H14 ∨ (∃ li21p li21l li21c, cell H14 (.add (.add a8 5) 0) = some (.slice li21p li21l li21c) ∧ Value.slice li21p li21l li21c = .slice li9p li9l li9c)) ∧ Tryz.C 28 #[.slice li9p li9l li9c] H14 fun r16 H17 => ∃ r18p r18l r18c, r16 = .slice r18p r18l r18c ∧ r12.size = 4 ∧ 0 + 4 ≤ 6 ∧ (List.toArray (List.set (List.set (setL [.int .i64 0, .int .i64 0, .int .i64 0, .slice none 0 0, .slice none 0 0, .slice none 0 0] 0 r12.toList) 4 (.slice r15p r15l r15c)) 5 (.slice r18p r18l r18c))).size = 6 ∧ stAt H17 ⟨b2, 0, none⟩ (Array.toList (List.toArray (List.set (List.set (setL [.int .i64 0, .int .i64 0, .int .i64 0, .slice none 0 0, .slice none 0 0, .slice none 0 0] 0 r12.toList) 4 (.slice r15p r15l r15c)) 5 (.slice r18p r18l r18c)))) fun H19 => ∃ re20, re20.size = 6 ∧ rowIn H19 ⟨b2, 0, none⟩ re20 ∧ R (.agg re20) H19
def Tryz.p14 : Plan := (tl (tl leaf))
theorem Tryz.s14 {h1 : OA} {H R} (h : Tryz.S14 h1 H R) : Tryz.C 14 #[.pointer h1] H R := vcs Tryz.tab_ok Tryz.mixed Tryz.func14 Tryz.cal14 Tryz.p14 h (by kernel_rfl)
def Tryz.S15 (s1 : AV) (H : Heap) (R : Kv) : Prop :=
 alc H (.cells s1 55) fun b2 H3 => ∃ Do4, Do4.size = 4 ∧ rowIn H3 (.add ⟨b2, 0, none⟩ 0) Do4 ∧ ∃ Pa5p Pa5l Pa5c, cell H3 (.add ⟨b2, 0, none⟩ 4) = some (.slice Pa5p Pa5l Pa5c) ∧ ∃ Fu6p Fu6l Fu6c, cell H3 (.add ⟨b2, 0, none⟩ 5) = some (.slice Fu6p Fu6l Fu6c) ∧ Tryz.C 22 #[.agg Do4] H3 fun r7 H8 => ∃ r9, r7 = .agg r9 ∧ (Ext H3 H8 ∨ (∃ Fu19p Fu19l Fu19c, cell H8 (.add ⟨b2, 0, none⟩ 5) = some (.slice Fu19p Fu19l Fu19c) ∧ Value.slice Fu19p Fu19l Fu19c = .slice Fu6p Fu6l Fu6c) ∧ (∃ Pa20p Pa20l Pa20c, cell H8 (.add ⟨b2, 0, none⟩ 4) = some (.slice Pa20p Pa20l Pa20c) ∧ Value.slice Pa20p Pa20l Pa20c = .slice Pa5p Pa5l Pa5c)) ∧ Tryz.C 28 #[.slice Pa5p Pa5l Pa5c] H8 fun r10 H11 => ∃ r12p r12l r12c, r10 = .slice r12p r12l r12c ∧ (Ext H8 H11 ∨ (∃ Fu18p Fu18l Fu18c, cell H11 (.add ⟨b2, 0, none⟩ 5) = some (.slice Fu18p Fu18l Fu18c) ∧ Value.slice Fu18p Fu18l Fu18c = .slice Fu6p Fu6l Fu6c)) ∧ Tryz.C 28 #[.slice Fu6p Fu6l Fu6c] H11 fun r13 H14 => ∃ r15p r15l r15c, r13 = .slice r15p r15l r15c ∧ r9.size = 4 ∧ 0 + 4 ≤ 6 ∧ #[Value.slice r12p r12l r12c].size = 1 ∧ 4 + 1 ≤ 6 ∧ #[Value.slice r15p r15l r15c].size = 1 ∧ 5 + 1 ≤ 6 ∧ alc H14 (.cells (List.toArray (setL (setL (setL [.int .i64 0, .int .i64 0, .int .i64 0, .slice none 0 0, .slice none 0 0, .slice none 0 0] 0 r9.toList) 4 (Array.toList #[.slice r12p r12l r12c])) 5 (Array.toList #[.slice r15p r15l r15c]))) 75) fun b16 H17 => R (.pointer (some ⟨b16, 0, none⟩)) H17
def Tryz.p15 : Plan := (tl (tl leaf))
theorem Tryz.s15 {s1 : AV} {H R} (h : Tryz.S15 s1 H R) : Tryz.C 15 #[.agg s1] H R := vcs Tryz.tab_ok Tryz.mixed Tryz.func15 Tryz.cal15 Tryz.p15 h (by kernel_rfl)
def Tryz.S16 (b1 : OA) (s2 : AV) (H : Heap) (R : Kv) : Prop :=
 alc H (.cells s2 55) fun b3 H4 => ∀ J5 : Kl, (∀ H6, (∃ Pa7p Pa7l Pa7c, cell H6 (.add ⟨b3, 0, none⟩ 4) = some (.slice Pa7p Pa7l Pa7c) ∧ ∀ X8 : Kl, (∀ (i9 : Int) H10, (br (decide (i9 < (Pa7l : Int)))
 (∃ a11, Pa7p = some a11 ∧ 0 ≤ i9 ∧ i9 < (Pa7l : Int) ∧ ∃ v12, v12.size = 4 ∧ rowIn H10 (.add a11 (toNat i9 * 4)) v12 ∧ alc H10 (.cells #[.int .i64 0, .int .i64 0, .int .i64 0, .slice none 0 0] 27) fun b13 H14 => v12.size = 4 ∧ stAt H14 ⟨b13, 0, none⟩ v12.toList fun H15 => ∃ v16, v16.size = 4 ∧ rowIn H15 ⟨b13, 0, none⟩ v16 ∧ ∃ a17, b1 = some a17 ∧ ∃ pa18p pa18l pa18c, cell H15 (.add a17 4) = some (.slice pa18p pa18l pa18c) ∧ ∃ a19, pa18p = some a19 ∧ 0 ≤ i9 ∧ i9 < (pa18l : Int) ∧ ∃ v20, v20.size = 4 ∧ rowIn H15 (.add a19 (toNat i9 * 4)) v20 ∧ Tryz.C 17 #[.agg v16, .agg v20] H15 fun r21 H22 => ∃ r23, r21 = .bool r23 ∧ br (!r23)
 (R (.bool false) H22)
 (X8 [.int .i64 (wrap .i64 (i9 + 1))] H22))
 (∃ Fu24p Fu24l Fu24c, cell H10 (.add ⟨b3, 0, none⟩ 5) = some (.slice Fu24p Fu24l Fu24c) ∧ ∀ X25 : Kl, (∀ (i26 : Int) H27, (br (decide (i26 < (Fu24l : Int)))
 (∃ a28, Fu24p = some a28 ∧ 0 ≤ i26 ∧ i26 < (Fu24l : Int) ∧ ∃ v29, v29.size = 4 ∧ rowIn H27 (.add a28 (toNat i26 * 4)) v29 ∧ alc H27 (.cells #[.int .i64 0, .int .i64 0, .int .i64 0, .slice none 0 0] 27) fun b30 H31 => v29.size = 4 ∧ stAt H31 ⟨b30, 0, none⟩ v29.toList fun H32 => ∃ v33, v33.size = 4 ∧ rowIn H32 ⟨b30, 0, none⟩ v33 ∧ ∃ a34, b1 = some a34 ∧ ∃ fu35p fu35l fu35c, cell H32 (.add a34 5) = some (.slice fu35p fu35l fu35c) ∧ ∃ a36, fu35p = some a36 ∧ 0 ≤ i26 ∧ i26 < (fu35l : Int) ∧ ∃ v37, v37.size = 4 ∧ rowIn H32 (.add a36 (toNat i26 * 4)) v37 ∧ Tryz.C 17 #[.agg v33, .agg v37] H32 fun r38 H39 => ∃ r40, r38 = .bool r40 ∧ br (!r40)
 (R (.bool false) H39)
 (X25 [.int .i64 (wrap .i64 (i26 + 1))] H39))
 (R (.bool true) H27)) → X25 [.int .i64 i26] H27) → X25 [.int .i64 0] H10)) → X8 [.int .i64 i9] H10) → X8 [.int .i64 0] H6) → J5 [] H6) →
 ∃ Do41, Do41.size = 4 ∧ rowIn H4 (.add ⟨b3, 0, none⟩ 0) Do41 ∧ ∃ a42, b1 = some a42 ∧ ∃ no43, no43.size = 4 ∧ rowIn H4 (.add a42 0) no43 ∧ Tryz.C 17 #[.agg Do41, .agg no43] H4 fun r44 H45 => ∃ r46, r44 = .bool r46 ∧ br (!r46) (R (.bool false) H45) (∃ Pa47p Pa47l Pa47c, cell H45 (.add ⟨b3, 0, none⟩ 4) = some (.slice Pa47p Pa47l Pa47c) ∧ ∃ a48, b1 = some a48 ∧ ∃ pa49p pa49l pa49c, cell H45 (.add a48 4) = some (.slice pa49p pa49l pa49c) ∧ br (((Pa47l : Int) : Int) != (pa49l : Int)) (R (.bool false) H45) (∃ Fu50p Fu50l Fu50c, cell H45 (.add ⟨b3, 0, none⟩ 5) = some (.slice Fu50p Fu50l Fu50c) ∧ ∃ a51, b1 = some a51 ∧ ∃ fu52p fu52l fu52c, cell H45 (.add a51 5) = some (.slice fu52p fu52l fu52c) ∧ br (((Fu50l : Int) : Int) != (fu52l : Int))
 (R (.bool false) H45)
 (J5 [] H45)))
def Tryz.p16 : Plan := (tl (two (join [] [0, 3] g0) (two (tl (one (loop [(42, 3)] [0, 3, 40, 41] (tl (two (tl leaf) (two (one (tl g0)) leaf)))))) (two (tl (one (loop [(61, 3)] [0, 59, 60] (tl (two (tl leaf) (two (one (tl g0)) leaf)))))) (tl leaf)))))
theorem Tryz.s16 {b1 : OA} {s2 : AV} {H R} (h : Tryz.S16 b1 s2 H R) : Tryz.C 16 #[.pointer b1, .agg s2] H R := vcs Tryz.tab_ok Tryz.mixed Tryz.func16 Tryz.cal16 Tryz.p16 h (by kernel_rfl)
def Tryz.S17 (a1 b2 : AV) (H : Heap) (R : Kv) : Prop :=
 alc H (.cells a1 27) fun b3 H4 => alc H4 (.cells b2 33) fun b5 H6 => ∃ W7, cell H6 (.add ⟨b3, 0, none⟩ 0) = some (.int .i64 W7) ∧ ∃ W8, cell H6 (.add ⟨b5, 0, none⟩ 0) = some (.int .i64 W8) ∧ br (W7 == W8) (∃ H9, cell H6 (.add ⟨b3, 0, none⟩ 1) = some (.int .i64 H9) ∧ ∃ H10, cell H6 (.add ⟨b5, 0, none⟩ 1) = some (.int .i64 H10) ∧ br (H9 == H10) (∃ Ne11, cell H6 (.add ⟨b3, 0, none⟩ 2) = some (.int .i64 Ne11) ∧ ∃ Ne12, cell H6 (.add ⟨b5, 0, none⟩ 2) = some (.int .i64 Ne12) ∧ br (Ne11 == Ne12) (∃ Ki13p Ki13l Ki13c, cell H6 (.add ⟨b3, 0, none⟩ 3) = some (.slice Ki13p Ki13l Ki13c) ∧ ∃ v14, v14.size = 4 ∧ rowIn H6 ⟨b5, 0, none⟩ v14 ∧ Tryz.C 29 #[.slice Ki13p Ki13l Ki13c, .agg v14, .int .i64 0] H6 fun r15 H16 => ∃ r17, r15 = .bool r17 ∧ R (.bool r17) H16) (R (.bool false) H6)) (R (.bool false) H6)) (R (.bool false) H6)
def Tryz.p17 : Plan := (tl (tl leaf))
theorem Tryz.s17 {a1 b2 : AV} {H R} (h : Tryz.S17 a1 b2 H R) : Tryz.C 17 #[.agg a1, .agg b2] H R := vcs Tryz.tab_ok Tryz.mixed Tryz.func17 Tryz.cal17 Tryz.p17 h (by kernel_rfl)
def Tryz.S19 (d1 : AV) (H : Heap) (R : Kv) : Prop :=
 alc H (.cells d1 27) fun b2 H3 => ∃ Ki4p Ki4l Ki4c, cell H3 (.add ⟨b2, 0, none⟩ 3) = some (.slice Ki4p Ki4l Ki4c) ∧ Tryz.C 30 #[.slice Ki4p Ki4l Ki4c] H3 fun r5 H6 => ∃ r7, r5 = .int .i64 r7 ∧ R (.int .i64 r7) H6
def Tryz.p19 : Plan := (tl (tl leaf))
theorem Tryz.s19 {d1 : AV} {H R} (h : Tryz.S19 d1 H R) : Tryz.C 19 #[.agg d1] H R := vcs Tryz.tab_ok Tryz.mixed Tryz.func19 Tryz.cal19 Tryz.p19 h (by kernel_rfl)
end Go.Proofs
namespace Go.Proofs
open Go.Sh Go.Sh.Plan
open Go.IntKind (wrap)
open Int (toNat)
def Tryz.S20 (li1p : OA) (li1l li1c : Nat) (mo2 : Int) (H : Heap) (R : Kv) : Prop :=
 br (decide (((li1l : Int) : Int) > mo2))
 (R (.bool false) H)
 (∀ X3 : Kl, (∀ (t4 : Int) H5, (br (decide (t4 < (li1l : Int)))
 (∀ J6 : Kl, (∀ H7, (X3 [.int .i64 (wrap .i64 (t4 + 1))] H7) → J6 [] H7) →
 ∃ a8, li1p = some a8 ∧ 0 ≤ t4 ∧ t4 < (li1l : Int) ∧ ∃ v9, v9.size = 19 ∧ rowIn H5 (.add a8 (toNat t4 * 19)) v9 ∧ alc H5 (.cells #[.int .i64 0, .int .i64 0, .int .i64 0, .int .i64 0, .int .i64 0, .int .i64 0, .int .i64 0, .int .i64 0, .int .i64 0, .int .i64 0, .slice none 0 0, .slice none 0 0, .int .i64 0, .int .i64 0, .int .i64 0, .int .i64 0, .int .i64 0, .int .i64 0, .slice none 0 0] 47) fun b10 H11 => v9.size = 19 ∧ stAt H11 ⟨b10, 0, none⟩ v9.toList fun H12 => ∃ P13p P13l P13c, cell H12 (.add ⟨b10, 0, none⟩ 10) = some (.slice P13p P13l P13c) ∧ br (decide (((P13l : Int) : Int) > 600)) (R (.bool false) H12) (∃ Sh14p Sh14l Sh14c, cell H12 (.add ⟨b10, 0, none⟩ 11) = some (.slice Sh14p Sh14l Sh14c) ∧ br (decide (((Sh14l : Int) : Int) > 300)) (R (.bool false) H12) (∃ Pa15p Pa15l Pa15c, cell H12 (.add ⟨b10, 0, none⟩ 18) = some (.slice Pa15p Pa15l Pa15c) ∧ br (decide (((Pa15l : Int) : Int) > 100)) (R (.bool false) H12) (∃ Ki16, cell H12 (.add ⟨b10, 0, none⟩ 0) = some (.int .i64 Ki16) ∧ br (Ki16 == 1) (∃ N17, cell H12 (.add ⟨b10, 0, none⟩ 4) = some (.int .i64 N17) ∧ br (N17 == 0) (∃ W18, cell H12 (.add ⟨b10, 0, none⟩ 8) = some (.int .i64 W18) ∧ ∃ H19, cell H12 (.add ⟨b10, 0, none⟩ 9) = some (.int .i64 H19) ∧ Tryz.C 21 #[.int .i64 W18, .int .i64 H19] H12 fun r20 H21 => ∃ r22, r20 = .bool r22 ∧ br r22 (∃ W23, cell H21 (.add ⟨b10, 0, none⟩ 8) = some (.int .i64 W23) ∧ ∃ H24, cell H21 (.add ⟨b10, 0, none⟩ 9) = some (.int .i64 H24) ∧ br (decide (((wrap .i64 (W23 * H24)) : Int) > 600))
 (R (.bool false) H21)
 (J6 [] H21)) (J6 [] H21)) (J6 [] H12)) (J6 [] H12)))))
 (R (.bool true) H5)) → X3 [.int .i64 t4] H5) → X3 [.int .i64 0] H)
def Tryz.p20 : Plan := (tl (tg (two (tl (one (loop [(13, 3)] [11, 12] (tl (two (tl leaf) (two (join [] [11, 12, 13] (one (tl g0))) leaf)))))) (tl leaf))))
theorem Tryz.s20 {li1p : OA} {li1l li1c : Nat} {mo2 : Int} {H R} (h : Tryz.S20 li1p li1l li1c mo2 H R) : Tryz.C 20 #[.slice li1p li1l li1c, .int .i64 mo2] H R := vcs Tryz.tab_ok Tryz.mixed Tryz.func20 Tryz.cal20 Tryz.p20 h (by kernel_rfl)
def Tryz.S21 (w1 h2 : Int) (H : Heap) (R : Kv) : Prop :=
 br (decide (w1 ≥ 1)) (br (decide (h2 ≥ 1)) (br (decide (w1 ≤ 32768)) (br (decide (h2 ≤ 32768)) (R (.bool (decide (((wrap .i64 (w1 * h2)) : Int) ≤ 4194304))) H) (R (.bool false) H)) (R (.bool false) H)) (R (.bool false) H)) (R (.bool false) H)
def Tryz.p21 : Plan := (tl (tl leaf))
theorem Tryz.s21 {w1 h2 : Int} {H R} (h : Tryz.S21 w1 h2 H R) : Tryz.C 21 #[.int .i64 w1, .int .i64 h2] H R := vcs Tryz.tab_ok Tryz.mixed Tryz.func21 Tryz.cal21 Tryz.p21 h (by kernel_rfl)
def Tryz.S22 (d1 : AV) (H : Heap) (R : Kv) : Prop :=
 alc H (.cells d1 27) fun b2 H3 => alc H3 (.cells #[.int .i64 0, .int .i64 0, .int .i64 0, .slice none 0 0] 27) fun b4 H5 => ∃ W6, cell H5 (.add ⟨b2, 0, none⟩ 0) = some (.int .i64 W6) ∧ ∃ H7, cell H5 (.add ⟨b2, 0, none⟩ 1) = some (.int .i64 H7) ∧ ∃ Ne8, cell H5 (.add ⟨b2, 0, none⟩ 2) = some (.int .i64 Ne8) ∧ alc H5 (.cells #[.int .i64 0, .int .i64 0, .int .i64 0, .slice none 0 0] 27) fun b9 H10 => #[Value.int .i64 W6, Value.int .i64 H7, Value.int .i64 Ne8, Value.slice none 0 0].size = 4 ∧ stAt H10 ⟨b9, 0, none⟩ (Array.toList #[.int .i64 W6, .int .i64 H7, .int .i64 Ne8, .slice none 0 0]) fun H11 => ∃ Ki12p Ki12l Ki12c, cell H11 (.add ⟨b2, 0, none⟩ 3) = some (.slice Ki12p Ki12l Ki12c) ∧ ∀ X13 : Kl, (∀ (t14 : Int) H15, (br (decide (t14 < (Ki12l : Int)))
 (∃ a16, Ki12p = some a16 ∧ 0 ≤ t14 ∧ t14 < (Ki12l : Int) ∧ ∃ v17, v17.size = 19 ∧ rowIn H15 (.add a16 (toNat t14 * 19)) v17 ∧ alc H15 (.cells #[.int .i64 0, .int .i64 0, .bool false, .int .i64 0, .int .i64 0, .int .i64 0, .int .i64 0, .slice none 0 0, .slice none 0 0, .int .i64 0, .int .i64 0, .int .i64 0, .int .i64 0, .int .i64 0, .int .i64 0, .bool false, .int .i64 0, .slice none 0 0, .slice none 0 0] 61) fun b18 H19 => v17.size = 19 ∧ stAt H19 ⟨b18, 0, none⟩ v17.toList fun H20 => ∃ v21, v21.size = 4 ∧ rowIn H20 ⟨b2, 0, none⟩ v21 ∧ ∃ ID22, cell H20 (.add ⟨b18, 0, none⟩ 0) = some (.int .i64 ID22) ∧ Tryz.C 31 #[.agg v21, .int .i64 ID22] H20 fun r23 H24 => ∃ r25 r26, r23 = .tuple #[.agg r25, .bool r26] ∧ alc H24 (.cells #[.int .i64 0, .int .i64 0, .bool false, .int .i64 0, .int .i64 0, .int .i64 0, .int .i64 0, .slice none 0 0, .slice none 0 0, .int .i64 0, .int .i64 0, .int .i64 0, .int .i64 0, .int .i64 0, .int .i64 0, .bool false, .int .i64 0, .slice none 0 0, .slice none 0 0] 61) fun b27 H28 => r25.size = 19 ∧ stAt H28 ⟨b27, 0, none⟩ r25.toList fun H29 => ∃ Ki30p Ki30l Ki30c, cell H29 (.add ⟨b9, 0, none⟩ 3) = some (.slice Ki30p Ki30l Ki30c) ∧ ∃ v31, v31.size = 19 ∧ rowIn H29 ⟨b27, 0, none⟩ v31 ∧ v31.size = 19 ∧ 0 + 19 ≤ 19 ∧ alc H29 (.cells (List.toArray (setL [.int .i64 0, .int .i64 0, .bool false, .int .i64 0, .int .i64 0, .int .i64 0, .int .i64 0, .slice none 0 0, .slice none 0 0, .int .i64 0, .int .i64 0, .int .i64 0, .int .i64 0, .int .i64 0, .int .i64 0, .bool false, .int .i64 0, .slice none 0 0, .slice none 0 0] 0 v31.toList)) 61) fun b32 H33 => appQ 19 216 #[.int .i64 0, .int .i64 0, .bool false, .int .i64 0, .int .i64 0, .int .i64 0, .int .i64 0, .slice none 0 0, .slice none 0 0, .int .i64 0, .int .i64 0, .int .i64 0, .int .i64 0, .int .i64 0, .int .i64 0, .bool false, .int .i64 0, .slice none 0 0, .slice none 0 0] H33 Ki30p Ki30l Ki30c (some ⟨b32, 0, none⟩) 1 61 fun ap34p ap34l ap34c H35 => stAt H35 (.add ⟨b9, 0, none⟩ 3) [.slice ap34p ap34l ap34c] fun H36 => X13 [.int .i64 (wrap .i64 (t14 + 1))] H36)
 (∃ v37, v37.size = 4 ∧ rowIn H15 ⟨b9, 0, none⟩ v37 ∧ v37.size = 4 ∧ stAt H15 ⟨b4, 0, none⟩ v37.toList fun H38 => ∃ re39, re39.size = 4 ∧ rowIn H38 ⟨b4, 0, none⟩ re39 ∧ R (.agg re39) H38)) → X13 [.int .i64 t14] H15) → X13 [.int .i64 0] H11
def Tryz.p22 : Plan := (tl (tl (two (tl (one (loop [(18, 3)] [1, 2, 3, 16, 17] (tl (two (tl leaf) (two (one (tl (tl leaf))) leaf)))))) (tl leaf))))
theorem Tryz.s22 {d1 : AV} {H R} (h : Tryz.S22 d1 H R) : Tryz.C 22 #[.agg d1] H R := vcs Tryz.tab_ok Tryz.mixed Tryz.func22 Tryz.cal22 Tryz.p22 h (by kernel_rfl)
def Tryz.S23 (d1 e2 : AV) (H : Heap) (R : Kv) : Prop :=
 alc H (.cells d1 33) fun b3 H4 => alc H4 (.cells e2 80) fun b5 H6 => alc H6 (.cells #[.int .i64 0, .int .i64 0, .int .i64 0, .slice none 0 0] 33) fun b7 H8 => ∃ Ki9, cell H8 (.add ⟨b5, 0, none⟩ 0) = some (.int .i64 Ki9) ∧ br (Ki9 == 1)
 (∃ v10, v10.size = 4 ∧ rowIn H8 ⟨b3, 0, none⟩ v10 ∧ ∃ v11, v11.size = 19 ∧ rowIn H8 ⟨b5, 0, none⟩ v11 ∧ Tryz.C 32 #[.agg v10, .agg v11] H8 fun r12 H13 => ∃ r14 r15, r12 = .tuple #[.agg r14, .int .i64 r15] ∧ r14.size = 4 ∧ stAt H13 ⟨b7, 0, none⟩ r14.toList fun H16 => ∃ re17, re17.size = 4 ∧ rowIn H16 ⟨b7, 0, none⟩ re17 ∧ R (.tuple #[.agg re17, .int .i64 r15]) H16)
 (br (Ki9 == 2)
 (∃ v18, v18.size = 4 ∧ rowIn H8 ⟨b3, 0, none⟩ v18 ∧ ∃ ID19, cell H8 (.add ⟨b5, 0, none⟩ 1) = some (.int .i64 ID19) ∧ Tryz.C 33 #[.agg v18, .int .i64 ID19] H8 fun r20 H21 => ∃ r22, r20 = .int .i64 r22 ∧ br (decide (r22 < 0))
 (∃ v23, v23.size = 4 ∧ rowIn H21 ⟨b3, 0, none⟩ v23 ∧ v23.size = 4 ∧ stAt H21 ⟨b7, 0, none⟩ v23.toList fun H24 => ∃ re25, re25.size = 4 ∧ rowIn H24 ⟨b7, 0, none⟩ re25 ∧ R (.tuple #[.agg re25, .int .i64 40]) H24)
 (∃ v26, v26.size = 4 ∧ rowIn H21 ⟨b3, 0, none⟩ v26 ∧ ∃ ID27, cell H21 (.add ⟨b5, 0, none⟩ 1) = some (.int .i64 ID27) ∧ Tryz.C 34 #[.agg v26, .int .i64 ID27] H21 fun r28 H29 => ∃ r30p r30l r30c r31p r31l r31c, r28 = .tuple #[.slice r30p r30l r30c, .slice r31p r31l r31c] ∧ stAt H29 (.add ⟨b3, 0, none⟩ 3) [.slice r30p r30l r30c] fun H32 => ∃ v33, v33.size = 4 ∧ rowIn H32 ⟨b3, 0, none⟩ v33 ∧ v33.size = 4 ∧ stAt H32 ⟨b7, 0, none⟩ v33.toList fun H34 => ∃ re35, re35.size = 4 ∧ rowIn H34 ⟨b7, 0, none⟩ re35 ∧ R (.tuple #[.agg re35, .int .i64 0]) H34))
 (br (Ki9 == 3)
 (∃ v36, v36.size = 4 ∧ rowIn H8 ⟨b3, 0, none⟩ v36 ∧ ∃ v37, v37.size = 19 ∧ rowIn H8 ⟨b5, 0, none⟩ v37 ∧ Tryz.C 35 #[.agg v36, .agg v37] H8 fun r38 H39 => ∃ r40 r41, r38 = .tuple #[.agg r40, .int .i64 r41] ∧ r40.size = 4 ∧ stAt H39 ⟨b7, 0, none⟩ r40.toList fun H42 => ∃ re43, re43.size = 4 ∧ rowIn H42 ⟨b7, 0, none⟩ re43 ∧ R (.tuple #[.agg re43, .int .i64 r41]) H42)
 (∀ J44 : Kl, (∀ H45, (∃ v46, v46.size = 4 ∧ rowIn H45 ⟨b3, 0, none⟩ v46 ∧ ∃ ID47, cell H45 (.add ⟨b5, 0, none⟩ 1) = some (.int .i64 ID47) ∧ Tryz.C 33 #[.agg v46, .int .i64 ID47] H45 fun r48 H49 => ∃ i50, r48 = .int .i64 i50 ∧ br (decide (i50 < 0))
 (∃ v51, v51.size = 4 ∧ rowIn H49 ⟨b3, 0, none⟩ v51 ∧ v51.size = 4 ∧ stAt H49 ⟨b7, 0, none⟩ v51.toList fun H52 => ∃ re53, re53.size = 4 ∧ rowIn H52 ⟨b7, 0, none⟩ re53 ∧ R (.tuple #[.agg re53, .int .i64 40]) H52)
 (∀ J54 : Kl, (∀ (l55 : Addr) (f56 : Int) H57, (br (f56 != 0)
 (∃ v58, v58.size = 4 ∧ rowIn H57 ⟨b3, 0, none⟩ v58 ∧ v58.size = 4 ∧ stAt H57 ⟨b7, 0, none⟩ v58.toList fun H59 => ∃ re60, re60.size = 4 ∧ rowIn H59 ⟨b7, 0, none⟩ re60 ∧ R (.tuple #[.agg re60, .int .i64 f56]) H59)
 (alc H57 (.cells #[] 95) fun b61 H62 => ∃ L63p L63l L63c, cell H62 (.add ⟨b3, 0, none⟩ 3) = some (.slice L63p L63l L63c) ∧ appQ 19 200 #[.int .i64 0, .int .i64 0, .int .i64 0, .bool false, .int .i64 0, .int .i64 0, .int .i64 0, .int .i64 0, .slice none 0 0, .slice none 0 0, .int .i64 0, .int .i64 0, .int .i64 0, .int .i64 0, .int .i64 0, .int .i64 0, .bool false, .int .i64 0, .slice none 0 0] H62 (some ⟨b61, 0, none⟩) 0 0 L63p L63l 95 fun ap64p ap64l ap64c H65 => stAt H65 (.add ⟨b3, 0, none⟩ 3) [.slice ap64p ap64l ap64c] fun H66 => ∃ L67p L67l L67c, cell H66 (.add ⟨b3, 0, none⟩ 3) = some (.slice L67p L67l L67c) ∧ ∃ v68, v68.size = 19 ∧ rowIn H66 l55 v68 ∧ ∃ a69, L67p = some a69 ∧ 0 ≤ i50 ∧ i50 < (L67l : Int) ∧ v68.size = 19 ∧ stAt H66 (.add a69 (toNat i50 * 19)) v68.toList fun H70 => ∃ v71, v71.size = 4 ∧ rowIn H70 ⟨b3, 0, none⟩ v71 ∧ v71.size = 4 ∧ stAt H70 ⟨b7, 0, none⟩ v71.toList fun H72 => ∃ re73, re73.size = 4 ∧ rowIn H72 ⟨b7, 0, none⟩ re73 ∧ R (.tuple #[.agg re73, .int .i64 0]) H72)) → J54 [.pointer (some l55), .int .i64 f56] H57) →
 ∃ v74, v74.size = 4 ∧ rowIn H49 ⟨b3, 0, none⟩ v74 ∧ ∃ L75p L75l L75c, cell H49 (.add ⟨b3, 0, none⟩ 3) = some (.slice L75p L75l L75c) ∧ ∃ a76, L75p = some a76 ∧ 0 ≤ i50 ∧ i50 < (L75l : Int) ∧ ∃ v77, v77.size = 19 ∧ rowIn H49 (.add a76 (toNat i50 * 19)) v77 ∧ ∃ v78, v78.size = 19 ∧ rowIn H49 ⟨b5, 0, none⟩ v78 ∧ (Tryz.C 36 #[.agg v74, .agg v77, .agg v78] H49 fun r79 H80 => ∃ r81 r82, r79 = .tuple #[.agg r81, .int .i64 r82] ∧ alc H80 (.cells #[.int .i64 0, .int .i64 0, .int .i64 0, .bool false, .int .i64 0, .int .i64 0, .int .i64 0, .int .i64 0, .slice none 0 0, .slice none 0 0, .int .i64 0, .int .i64 0, .int .i64 0, .int .i64 0, .int .i64 0, .int .i64 0, .bool false, .int .i64 0, .slice none 0 0] 95) fun b83 H84 => r81.size = 19 ∧ stAt H84 ⟨b83, 0, none⟩ r81.toList fun H85 => J54 [.pointer (some ⟨b83, 0, none⟩), .int .i64 r82] H85) ∧ (alc H49 (.cells #[.int .i64 0, .int .i64 0, .int .i64 0, .bool false, .int .i64 0, .int .i64 0, .int .i64 0, .int .i64 0, .slice none 0 0, .slice none 0 0, .int .i64 0, .int .i64 0, .int .i64 0, .int .i64 0, .int .i64 0, .int .i64 0, .bool false, .int .i64 0, .slice none 0 0] 95) fun b86 H87 => (Ext H49 H87 ∨ (∃ v93, v93.size = 19 ∧ rowIn H87 ⟨b5, 0, none⟩ v93 ∧ Value.agg v93 = .agg v78) ∧ (∃ v94, v94.size = 19 ∧ rowIn H87 (.add a76 (toNat i50 * 19)) v94 ∧ Value.agg v94 = .agg v77) ∧ (∃ L95p L95l L95c, cell H87 (.add ⟨b3, 0, none⟩ 3) = some (.slice L95p L95l L95c) ∧ Value.slice L95p L95l L95c = .slice L75p L75l L75c) ∧ (∃ v96, v96.size = 4 ∧ rowIn H87 ⟨b3, 0, none⟩ v96 ∧ Value.agg v96 = .agg v74)) ∧ Tryz.C 36 #[.agg v74, .agg v77, .agg v78] H87 fun r88 H89 => ∃ r90 r91, r88 = .tuple #[.agg r90, .int .i64 r91] ∧ r90.size = 19 ∧ stAt H89 ⟨b86, 0, none⟩ r90.toList fun H92 => J54 [.pointer (some ⟨b86, 0, none⟩), .int .i64 r91] H92))) → J44 [] H45) →
 ∃ Ki97, cell H8 (.add ⟨b5, 0, none⟩ 0) = some (.int .i64 Ki97) ∧ br (decide (Ki97 < 4)) (∃ v98, v98.size = 4 ∧ rowIn H8 ⟨b3, 0, none⟩ v98 ∧ v98.size = 4 ∧ stAt H8 ⟨b7, 0, none⟩ v98.toList fun H99 => ∃ re100, re100.size = 4 ∧ rowIn H99 ⟨b7, 0, none⟩ re100 ∧ R (.tuple #[.agg re100, .int .i64 41]) H99) (∃ Ki101, cell H8 (.add ⟨b5, 0, none⟩ 0) = some (.int .i64 Ki101) ∧ br (decide (Ki101 > 9))
 (∃ v102, v102.size = 4 ∧ rowIn H8 ⟨b3, 0, none⟩ v102 ∧ v102.size = 4 ∧ stAt H8 ⟨b7, 0, none⟩ v102.toList fun H103 => ∃ re104, re104.size = 4 ∧ rowIn H103 ⟨b7, 0, none⟩ re104 ∧ R (.tuple #[.agg re104, .int .i64 41]) H103)
 (J44 [] H8)))))
def Tryz.p23 : Plan := (tl (two (tl (one (tl (two (tl leaf) (tl (two (tg (tl (tl (tl leaf)))) g0)))))) (two (join [] [2, 3, 4] g0) (tl (tg (two (join [(9, 999999), (10, 3)] [2, 4, 8] leaf) (tg (tl (tl (tl leaf))))))))))
theorem Tryz.s23 {d1 e2 : AV} {H R} (h : Tryz.S23 d1 e2 H R) : Tryz.C 23 #[.agg d1, .agg e2] H R := vcs Tryz.tab_ok Tryz.mixed Tryz.func23 Tryz.cal23 Tryz.p23 h (by kernel_rfl)
def Tryz.S24 (e1 : AV) (H : Heap) (R : Kv) : Prop :=
 alc H (.cells e1 47) fun b2 H3 => alc H3 (.cells #[.int .i64 0, .int .i64 0, .int .i64 0, .int .i64 0, .int .i64 0, .int .i64 0, .int .i64 0, .int .i64 0, .int .i64 0, .int .i64 0, .slice none 0 0, .slice none 0 0, .int .i64 0, .int .i64 0, .int .i64 0, .int .i64 0, .int .i64 0, .int .i64 0, .slice none 0 0] 80) fun b4 H5 => ∃ Ki6, cell H5 (.add ⟨b2, 0, none⟩ 0) = some (.int .i64 Ki6) ∧ ∃ ID7, cell H5 (.add ⟨b2, 0, none⟩ 1) = some (.int .i64 ID7) ∧ ∃ To8, cell H5 (.add ⟨b2, 0, none⟩ 2) = some (.int .i64 To8) ∧ ∃ At9, cell H5 (.add ⟨b2, 0, none⟩ 3) = some (.int .i64 At9) ∧ ∃ N10, cell H5 (.add ⟨b2, 0, none⟩ 4) = some (.int .i64 N10) ∧ ∃ M11, cell H5 (.add ⟨b2, 0, none⟩ 5) = some (.int .i64 M11) ∧ ∃ X12, cell H5 (.add ⟨b2, 0, none⟩ 6) = some (.int .i64 X12) ∧ ∃ Y13, cell H5 (.add ⟨b2, 0, none⟩ 7) = some (.int .i64 Y13) ∧ ∃ W14, cell H5 (.add ⟨b2, 0, none⟩ 8) = some (.int .i64 W14) ∧ ∃ H15, cell H5 (.add ⟨b2, 0, none⟩ 9) = some (.int .i64 H15) ∧ ∃ P16p P16l P16c, cell H5 (.add ⟨b2, 0, none⟩ 10) = some (.slice P16p P16l P16c) ∧ ∃ Ma17, Ma17.size = 6 ∧ rowIn H5 (.add ⟨b2, 0, none⟩ 12) Ma17 ∧ ∃ Pa18p Pa18l Pa18c, cell H5 (.add ⟨b2, 0, none⟩ 18) = some (.slice Pa18p Pa18l Pa18c) ∧ Ma17.size = 6 ∧ 12 + 6 ≤ 19 ∧ alc H5 (.cells #[.int .i64 0, .int .i64 0, .int .i64 0, .int .i64 0, .int .i64 0, .int .i64 0, .int .i64 0, .int .i64 0, .int .i64 0, .int .i64 0, .slice none 0 0, .slice none 0 0, .int .i64 0, .int .i64 0, .int .i64 0, .int .i64 0, .int .i64 0, .int .i64 0, .slice none 0 0] 80) fun b19 H20 => (List.toArray (List.set (setL [.int .i64 Ki6, .int .i64 ID7, .int .i64 To8, .int .i64 At9, .int .i64 N10, .int .i64 M11, .int .i64 X12, .int .i64 Y13, .int .i64 W14, .int .i64 H15, .slice P16p P16l P16c, .slice none 0 0, .int .i64 0, .int .i64 0, .int .i64 0, .int .i64 0, .int .i64 0, .int .i64 0, .slice none 0 0] 12 Ma17.toList) 18 (.slice Pa18p Pa18l Pa18c))).size = 19 ∧ stAt H20 ⟨b19, 0, none⟩ (Array.toList (List.toArray (List.set (setL [.int .i64 Ki6, .int .i64 ID7, .int .i64 To8, .int .i64 At9, .int .i64 N10, .int .i64 M11, .int .i64 X12, .int .i64 Y13, .int .i64 W14, .int .i64 H15, .slice P16p P16l P16c, .slice none 0 0, .int .i64 0, .int .i64 0, .int .i64 0, .int .i64 0, .int .i64 0, .int .i64 0, .slice none 0 0] 12 Ma17.toList) 18 (.slice Pa18p Pa18l Pa18c)))) fun H21 => ∃ Sh22p Sh22l Sh22c, cell H21 (.add ⟨b2, 0, none⟩ 11) = some (.slice Sh22p Sh22l Sh22c) ∧ ∀ X23 : Kl, (∀ (t24 : Int) H25, (br (decide (t24 < (Sh22l : Int)))
 (∃ a26, Sh22p = some a26 ∧ 0 ≤ t24 ∧ t24 < (Sh22l : Int) ∧ ∃ v27, v27.size = 2 ∧ rowIn H25 (.add a26 (toNat t24 * 2)) v27 ∧ alc H25 (.cells #[.int .i64 0, .int .i64 0] 99) fun b28 H29 => v27.size = 2 ∧ stAt H29 ⟨b28, 0, none⟩ v27.toList fun H30 => ∃ Sh31p Sh31l Sh31c, cell H30 (.add ⟨b19, 0, none⟩ 11) = some (.slice Sh31p Sh31l Sh31c) ∧ ∃ X32, cell H30 (.add ⟨b28, 0, none⟩ 0) = some (.int .i64 X32) ∧ ∃ Y33, cell H30 (.add ⟨b28, 0, none⟩ 1) = some (.int .i64 Y33) ∧ #[Value.int .i64 X32, Value.int .i64 Y33].size = 2 ∧ 0 + 2 ≤ 2 ∧ alc H30 (.cells (List.toArray (setL [.int .i64 0, .int .i64 0] 0 (Array.toList #[.int .i64 X32, .int .i64 Y33]))) 100) fun b34 H35 => appQ 2 16 #[.int .i64 0, .int .i64 0] H35 Sh31p Sh31l Sh31c (some ⟨b34, 0, none⟩) 1 100 fun ap36p ap36l ap36c H37 => stAt H37 (.add ⟨b19, 0, none⟩ 11) [.slice ap36p ap36l ap36c] fun H38 => X23 [.int .i64 (wrap .i64 (t24 + 1))] H38)
 (∃ v39, v39.size = 19 ∧ rowIn H25 ⟨b19, 0, none⟩ v39 ∧ v39.size = 19 ∧ stAt H25 ⟨b4, 0, none⟩ v39.toList fun H40 => ∃ re41, re41.size = 19 ∧ rowIn H40 ⟨b4, 0, none⟩ re41 ∧ R (.agg re41) H40)) → X23 [.int .i64 t24] H25) → X23 [.int .i64 0] H21
def Tryz.p24 : Plan := (tl (tl (two (tl (one (loop [(36, 3)] [2, 3, 34, 35] (tl (two (tl leaf) (two (one (tl leaf)) leaf)))))) (tl leaf))))
theorem Tryz.s24 {e1 : AV} {H R} (h : Tryz.S24 e1 H R) : Tryz.C 24 #[.agg e1] H R := vcs Tryz.tab_ok Tryz.mixed Tryz.func24 Tryz.cal24 Tryz.p24 h (by kernel_rfl)
def Tryz.S25 (d1 e2 : AV) (H : Heap) (R : Kv) : Prop :=
 alc H (.cells d1 27) fun b3 H4 => alc H4 (.cells e2 47) fun b5 H6 => alc H6 (.cells #[.int .i64 0, .int .i64 0, .int .i64 0, .slice none 0 0] 27) fun b7 H8 => ∀ J9 : Kl, (∀ (ou10 : Addr) H11, (∀ J12 : Kl, (∀ (w13 : Addr) H14, (alc H14 (.cells #[.func (.func 39) #[] #[], .func (.func 40) #[] #[], .func (.func 41) #[] #[], .func (.func 42) #[] #[], .func (.func 43) #[] #[], .func (.func 44) #[] #[], .func (.func 45) #[] #[], .func (.func 46) #[] #[], .func (.func 47) #[] #[]] 107) fun b15 H16 => ∀ J17 : Kl, (∀ H18, (∃ Ki19, cell H18 (.add ⟨b5, 0, none⟩ 0) = some (.int .i64 Ki19) ∧ ∃ a20, (some ⟨b15, 0, none⟩) = some a20 ∧ 0 ≤ (wrap .i64 (Ki19 - 1)) ∧ (wrap .i64 (Ki19 - 1)) < ((9 : Nat) : Int) ∧ ∃ v21g v21x v21y, cell H18 (.add a20 (toNat (wrap .i64 (Ki19 - 1)) * 1)) = some (.func (.func v21g) v21x v21y) ∧ ∃ v22, v22.size = 21 ∧ rowIn H18 w13 v22 ∧ Tryz.C v21g (List.toArray (Array.toList v21x ++ [Value.agg v22] ++ Array.toList v21y)) H18 fun r23 H24 => ∃ e25, r23 = .int .i64 e25 ∧ br (e25 != 0)
 (#[Value.int .i64 0, Value.int .i64 0, Value.int .i64 0, Value.slice none 0 0].size = 4 ∧ stAt H24 ⟨b7, 0, none⟩ (Array.toList #[.int .i64 0, .int .i64 0, .int .i64 0, .slice none 0 0]) fun H26 => ∃ re27, re27.size = 4 ∧ rowIn H26 ⟨b7, 0, none⟩ re27 ∧ R (.tuple #[.agg re27, .int .i64 e25]) H26)
 (∃ ro28, cell H24 (.add w13 0) = some (.pointer ro28) ∧ ∃ a29, ro28 = some a29 ∧ ∃ Ki30p Ki30l Ki30c, cell H24 (.add a29 18) = some (.slice Ki30p Ki30l Ki30c) ∧ stAt H24 (.add ou10 3) [.slice Ki30p Ki30l Ki30c] fun H31 => ∃ v32, v32.size = 4 ∧ rowIn H31 ou10 v32 ∧ v32.size = 4 ∧ stAt H31 ⟨b7, 0, none⟩ v32.toList fun H33 => ∃ re34, re34.size = 4 ∧ rowIn H33 ⟨b7, 0, none⟩ re34 ∧ R (.tuple #[.agg re34, .int .i64 0]) H33)) → J17 [] H18) →
 ∃ Ki35, cell H16 (.add ⟨b5, 0, none⟩ 0) = some (.int .i64 Ki35) ∧ br (decide (Ki35 < 1)) (#[Value.int .i64 0, Value.int .i64 0, Value.int .i64 0, Value.slice none 0 0].size = 4 ∧ stAt H16 ⟨b7, 0, none⟩ (Array.toList #[.int .i64 0, .int .i64 0, .int .i64 0, .slice none 0 0]) fun H36 => ∃ re37, re37.size = 4 ∧ rowIn H36 ⟨b7, 0, none⟩ re37 ∧ R (.tuple #[.agg re37, .int .i64 41]) H36) (∃ Ki38, cell H16 (.add ⟨b5, 0, none⟩ 0) = some (.int .i64 Ki38) ∧ br (decide (Ki38 > ((9 : Nat) : Int)))
 (#[Value.int .i64 0, Value.int .i64 0, Value.int .i64 0, Value.slice none 0 0].size = 4 ∧ stAt H16 ⟨b7, 0, none⟩ (Array.toList #[.int .i64 0, .int .i64 0, .int .i64 0, .slice none 0 0]) fun H39 => ∃ re40, re40.size = 4 ∧ rowIn H39 ⟨b7, 0, none⟩ re40 ∧ R (.tuple #[.agg re40, .int .i64 41]) H39)
 (J17 [] H16))) → J12 [.pointer (some w13)] H14) →
 ∃ v41, v41.size = 19 ∧ rowIn H11 ⟨b5, 0, none⟩ v41 ∧ (Tryz.C 38 #[.pointer (some ou10)] H11 fun r42 H43 => ∃ r44, r42 = .pointer r44 ∧ (Ext H11 H43 ∨ (∃ v49, v49.size = 19 ∧ rowIn H43 ⟨b5, 0, none⟩ v49 ∧ Value.agg v49 = .agg v41)) ∧ v41.size = 19 ∧ 2 + 19 ≤ 21 ∧ alc H43 (.cells #[.pointer none, .pointer none, .int .i64 0, .int .i64 0, .int .i64 0, .int .i64 0, .int .i64 0, .int .i64 0, .int .i64 0, .int .i64 0, .int .i64 0, .int .i64 0, .slice none 0 0, .slice none 0 0, .int .i64 0, .int .i64 0, .int .i64 0, .int .i64 0, .int .i64 0, .int .i64 0, .slice none 0 0] 106) fun b45 H46 => (Ext H43 H46 ∨ (∃ v48, v48.size = 19 ∧ rowIn H46 ⟨b5, 0, none⟩ v48 ∧ Value.agg v48 = .agg v41)) ∧ (List.toArray (setL [.pointer r44, .pointer (some ou10), .int .i64 0, .int .i64 0, .int .i64 0, .int .i64 0, .int .i64 0, .int .i64 0, .int .i64 0, .int .i64 0, .int .i64 0, .int .i64 0, .slice none 0 0, .slice none 0 0, .int .i64 0, .int .i64 0, .int .i64 0, .int .i64 0, .int .i64 0, .int .i64 0, .slice none 0 0] 2 v41.toList)).size = 21 ∧ stAt H46 ⟨b45, 0, none⟩ (Array.toList (List.toArray (setL [.pointer r44, .pointer (some ou10), .int .i64 0, .int .i64 0, .int .i64 0, .int .i64 0, .int .i64 0, .int .i64 0, .int .i64 0, .int .i64 0, .int .i64 0, .int .i64 0, .slice none 0 0, .slice none 0 0, .int .i64 0, .int .i64 0, .int .i64 0, .int .i64 0, .int .i64 0, .int .i64 0, .slice none 0 0] 2 v41.toList))) fun H47 => J12 [.pointer (some ⟨b45, 0, none⟩)] H47) ∧ (alc H11 (.cells #[.pointer none, .pointer none, .int .i64 0, .int .i64 0, .int .i64 0, .int .i64 0, .int .i64 0, .int .i64 0, .int .i64 0, .int .i64 0, .int .i64 0, .int .i64 0, .slice none 0 0, .slice none 0 0, .int .i64 0, .int .i64 0, .int .i64 0, .int .i64 0, .int .i64 0, .int .i64 0, .slice none 0 0] 106) fun b50 H51 => (Ext H11 H51 ∨ (∃ v57, v57.size = 19 ∧ rowIn H51 ⟨b5, 0, none⟩ v57 ∧ Value.agg v57 = .agg v41)) ∧ Tryz.C 38 #[.pointer (some ou10)] H51 fun r52 H53 => ∃ r54, r52 = .pointer r54 ∧ (Ext H51 H53 ∨ (∃ v56, v56.size = 19 ∧ rowIn H53 ⟨b5, 0, none⟩ v56 ∧ Value.agg v56 = .agg v41)) ∧ v41.size = 19 ∧ 2 + 19 ≤ 21 ∧ (List.toArray (setL [.pointer r54, .pointer (some ou10), .int .i64 0, .int .i64 0, .int .i64 0, .int .i64 0, .int .i64 0, .int .i64 0, .int .i64 0, .int .i64 0, .int .i64 0, .int .i64 0, .slice none 0 0, .slice none 0 0, .int .i64 0, .int .i64 0, .int .i64 0, .int .i64 0, .int .i64 0, .int .i64 0, .slice none 0 0] 2 v41.toList)).size = 21 ∧ stAt H53 ⟨b50, 0, none⟩ (Array.toList (List.toArray (setL [.pointer r54, .pointer (some ou10), .int .i64 0, .int .i64 0, .int .i64 0, .int .i64 0, .int .i64 0, .int .i64 0, .int .i64 0, .int .i64 0, .int .i64 0, .int .i64 0, .slice none 0 0, .slice none 0 0, .int .i64 0, .int .i64 0, .int .i64 0, .int .i64 0, .int .i64 0, .int .i64 0, .slice none 0 0] 2 v41.toList))) fun H55 => J12 [.pointer (some ⟨b50, 0, none⟩)] H55)) → J9 [.pointer (some ou10)] H11) →
 ∃ W58, cell H8 (.add ⟨b3, 0, none⟩ 0) = some (.int .i64 W58) ∧ ∃ H59, cell H8 (.add ⟨b3, 0, none⟩ 1) = some (.int .i64 H59) ∧ ∃ Ne60, cell H8 (.add ⟨b3, 0, none⟩ 2) = some (.int .i64 Ne60) ∧ ∃ Ki61p Ki61l Ki61c, cell H8 (.add ⟨b3, 0, none⟩ 3) = some (.slice Ki61p Ki61l Ki61c) ∧ (Tryz.C 37 #[.slice Ki61p Ki61l Ki61c] H8 fun r62 H63 => ∃ r64p r64l r64c, r62 = .slice r64p r64l r64c ∧ (Ext H8 H63 ∨ (∃ Ne71, cell H63 (.add ⟨b3, 0, none⟩ 2) = some (.int .i64 Ne71) ∧ Value.int .i64 Ne71 = .int .i64 Ne60) ∧ (∃ H72, cell H63 (.add ⟨b3, 0, none⟩ 1) = some (.int .i64 H72) ∧ Value.int .i64 H72 = .int .i64 H59) ∧ (∃ W73, cell H63 (.add ⟨b3, 0, none⟩ 0) = some (.int .i64 W73) ∧ Value.int .i64 W73 = .int .i64 W58)) ∧ alc H63 (.cells #[.int .i64 0, .int .i64 0, .int .i64 0, .slice none 0 0] 27) fun b65 H66 => (Ext H63 H66 ∨ (∃ Ne68, cell H66 (.add ⟨b3, 0, none⟩ 2) = some (.int .i64 Ne68) ∧ Value.int .i64 Ne68 = .int .i64 Ne60) ∧ (∃ H69, cell H66 (.add ⟨b3, 0, none⟩ 1) = some (.int .i64 H69) ∧ Value.int .i64 H69 = .int .i64 H59) ∧ (∃ W70, cell H66 (.add ⟨b3, 0, none⟩ 0) = some (.int .i64 W70) ∧ Value.int .i64 W70 = .int .i64 W58)) ∧ #[Value.int .i64 W58, Value.int .i64 H59, Value.int .i64 Ne60, Value.slice r64p r64l r64c].size = 4 ∧ stAt H66 ⟨b65, 0, none⟩ (Array.toList #[.int .i64 W58, .int .i64 H59, .int .i64 Ne60, .slice r64p r64l r64c]) fun H67 => J9 [.pointer (some ⟨b65, 0, none⟩)] H67) ∧ (alc H8 (.cells #[.int .i64 0, .int .i64 0, .int .i64 0, .slice none 0 0] 27) fun b74 H75 => (Ext H8 H75 ∨ (∃ Ki83p Ki83l Ki83c, cell H75 (.add ⟨b3, 0, none⟩ 3) = some (.slice Ki83p Ki83l Ki83c) ∧ Value.slice Ki83p Ki83l Ki83c = .slice Ki61p Ki61l Ki61c) ∧ (∃ Ne84, cell H75 (.add ⟨b3, 0, none⟩ 2) = some (.int .i64 Ne84) ∧ Value.int .i64 Ne84 = .int .i64 Ne60) ∧ (∃ H85, cell H75 (.add ⟨b3, 0, none⟩ 1) = some (.int .i64 H85) ∧ Value.int .i64 H85 = .int .i64 H59) ∧ (∃ W86, cell H75 (.add ⟨b3, 0, none⟩ 0) = some (.int .i64 W86) ∧ Value.int .i64 W86 = .int .i64 W58)) ∧ Tryz.C 37 #[.slice Ki61p Ki61l Ki61c] H75 fun r76 H77 => ∃ r78p r78l r78c, r76 = .slice r78p r78l r78c ∧ (Ext H75 H77 ∨ (∃ Ne80, cell H77 (.add ⟨b3, 0, none⟩ 2) = some (.int .i64 Ne80) ∧ Value.int .i64 Ne80 = .int .i64 Ne60) ∧ (∃ H81, cell H77 (.add ⟨b3, 0, none⟩ 1) = some (.int .i64 H81) ∧ Value.int .i64 H81 = .int .i64 H59) ∧ (∃ W82, cell H77 (.add ⟨b3, 0, none⟩ 0) = some (.int .i64 W82) ∧ Value.int .i64 W82 = .int .i64 W58)) ∧ #[Value.int .i64 W58, Value.int .i64 H59, Value.int .i64 Ne60, Value.slice r78p r78l r78c].size = 4 ∧ stAt H77 ⟨b74, 0, none⟩ (Array.toList #[.int .i64 W58, .int .i64 H59, .int .i64 Ne60, .slice r78p r78l r78c]) fun H79 => J9 [.pointer (some ⟨b74, 0, none⟩)] H79)
def Tryz.p25 : Plan := (tl (two (join [(6, 999999)] [3, 4] leaf) (two (join [(7, 999999)] [3, 4, 6] leaf) (tl (two (join [] [3, 4, 6, 7, 8] g0) (two (tl g0) (tl (tl leaf))))))))
theorem Tryz.s25 {d1 e2 : AV} {H R} (h : Tryz.S25 d1 e2 H R) : Tryz.C 25 #[.agg d1, .agg e2] H R := vcs Tryz.tab_ok Tryz.mixed Tryz.func25 Tryz.cal25 Tryz.p25 h (by kernel_rfl)
def Tryz.S26 (s1 : OA) (d2 : AV) (H : Heap) (R : Kv) : Prop :=
 alc H (.cells d2 27) fun b3 H4 => ∃ a5, s1 = some a5 ∧ ∃ li6p li6l li6c, cell H4 (.add a5 0) = some (.slice li6p li6l li6c) ∧ ∃ v7, v7.size = 4 ∧ rowIn H4 ⟨b3, 0, none⟩ v7 ∧ v7.size = 4 ∧ 0 + 4 ≤ 4 ∧ alc H4 (.cells (List.toArray (setL [.int .i64 0, .int .i64 0, .int .i64 0, .slice none 0 0] 0 v7.toList)) 27) fun b8 H9 => (Ext H4 H9 ∨ (∃ li14p li14l li14c, cell H9 (.add a5 0) = some (.slice li14p li14l li14c) ∧ Value.slice li14p li14l li14c = .slice li6p li6l li6c)) ∧ appQ 4 48 #[.int .i64 0, .int .i64 0, .int .i64 0, .slice none 0 0] H9 li6p li6l li6c (some ⟨b8, 0, none⟩) 1 27 fun ap10p ap10l ap10c H11 => ∃ a12, s1 = some a12 ∧ stAt H11 (.add a12 0) [.slice ap10p ap10l ap10c] fun H13 => R (.tuple #[]) H13
def Tryz.p26 : Plan := (tl leaf)
theorem Tryz.s26 {s1 : OA} {d2 : AV} {H R} (h : Tryz.S26 s1 d2 H R) : Tryz.C 26 #[.pointer s1, .agg d2] H R := vcs Tryz.tab_ok Tryz.mixed Tryz.func26 Tryz.cal26 Tryz.p26 h (by kernel_rfl)
def Tryz.S27 (h1 from_2 to3 : OA) (H : Heap) (R : Kv) : Prop :=
 Tryz.C 48 #[.pointer from_2] H fun r4 H5 => ∃ r6 r7, r4 = .tuple #[.agg r6, .bool r7] ∧ alc H5 (.cells #[.int .i64 0, .int .i64 0, .int .i64 0, .slice none 0 0] 27) fun b8 H9 => r6.size = 4 ∧ stAt H9 ⟨b8, 0, none⟩ r6.toList fun H10 => br (!r7)
 (R (.int .i64 44) H10)
 (∃ a11, h1 = some a11 ∧ ∃ no12, no12.size = 4 ∧ rowIn H10 (.add a11 0) no12 ∧ Tryz.C 26 #[.pointer to3, .agg no12] H10 fun r13 H14 => r13 = .tuple #[] ∧ ∃ v15, v15.size = 4 ∧ rowIn H14 ⟨b8, 0, none⟩ v15 ∧ ∃ a16, h1 = some a16 ∧ v15.size = 4 ∧ stAt H14 (.add a16 0) v15.toList fun H17 => R (.int .i64 0) H17)
def Tryz.p27 : Plan := (tl (tl (tg (tl (tl (tl leaf))))))
theorem Tryz.s27 {h1 from_2 to3 : OA} {H R} (h : Tryz.S27 h1 from_2 to3 H R) : Tryz.C 27 #[.pointer h1, .pointer from_2, .pointer to3] H R := vcs Tryz.tab_ok Tryz.mixed Tryz.func27 Tryz.cal27 Tryz.p27 h (by kernel_rfl)
def Tryz.S28 (li1p : OA) (li1l li1c : Nat) (H : Heap) (R : Kv) : Prop :=
 ∀ X2 : Kl, (∀ (ou3p : OA) (ou3l ou3c : Nat) (t4 : Int) H5, (br (decide (t4 < (li1l : Int)))
 (∃ a6, li1p = some a6 ∧ 0 ≤ t4 ∧ t4 < (li1l : Int) ∧ ∃ v7, v7.size = 4 ∧ rowIn H5 (.add a6 (toNat t4 * 4)) v7 ∧ alc H5 (.cells #[.int .i64 0, .int .i64 0, .int .i64 0, .slice none 0 0] 27) fun b8 H9 => v7.size = 4 ∧ stAt H9 ⟨b8, 0, none⟩ v7.toList fun H10 => ∃ v11, v11.size = 4 ∧ rowIn H10 ⟨b8, 0, none⟩ v11 ∧ Tryz.C 22 #[.agg v11] H10 fun r12 H13 => ∃ r14, r12 = .agg r14 ∧ r14.size = 4 ∧ 0 + 4 ≤ 4 ∧ alc H13 (.cells (List.toArray (setL [.int .i64 0, .int .i64 0, .int .i64 0, .slice none 0 0] 0 r14.toList)) 27) fun b15 H16 => appQ 4 48 #[.int .i64 0, .int .i64 0, .int .i64 0, .slice none 0 0] H16 ou3p ou3l ou3c (some ⟨b15, 0, none⟩) 1 27 fun ou17p ou17l ou17c H18 => X2 [.slice ou17p ou17l ou17c, .int .i64 (wrap .i64 (t4 + 1))] H18)
 (R (.slice ou3p ou3l ou3c) H5)) → X2 [.slice ou3p ou3l ou3c, .int .i64 t4] H5) → X2 [.slice none 0 0, .int .i64 0] H
def Tryz.p28 : Plan := (tl (tl (two (tl (one (loop [(3, 53), (8, 3)] [6, 7] (tl (two (tl leaf) (two (one (tl leaf)) leaf)))))) (tl leaf))))
theorem Tryz.s28 {li1p : OA} {li1l li1c : Nat} {H R} (h : Tryz.S28 li1p li1l li1c H R) : Tryz.C 28 #[.slice li1p li1l li1c] H R := vcs Tryz.tab_ok Tryz.mixed Tryz.func28 Tryz.cal28 Tryz.p28 h (by kernel_rfl)
def Tryz.S29 (li1p : OA) (li1l li1c : Nat) (d2 : AV) (to3 : Int) (H : Heap) (R : Kv) : Prop :=
 alc H (.cells d2 33) fun b4 H5 => ∃ v6, v6.size = 4 ∧ rowIn H5 ⟨b4, 0, none⟩ v6 ∧ Tryz.C 49 #[.agg v6, .int .i64 to3] H5 fun r7 H8 => ∃ k9p k9l k9c, r7 = .slice k9p k9l k9c ∧ br (((li1l : Int) : Int) != (k9l : Int))
 (R (.bool false) H8)
 (∀ X10 : Kl, (∀ (i11 : Int) H12, (br (decide (i11 < (li1l : Int)))
 (∃ a13, li1p = some a13 ∧ 0 ≤ i11 ∧ i11 < (li1l : Int) ∧ ∃ v14, v14.size = 19 ∧ rowIn H12 (.add a13 (toNat i11 * 19)) v14 ∧ alc H12 (.cells #[.int .i64 0, .int .i64 0, .bool false, .int .i64 0, .int .i64 0, .int .i64 0, .int .i64 0, .slice none 0 0, .slice none 0 0, .int .i64 0, .int .i64 0, .int .i64 0, .int .i64 0, .int .i64 0, .int .i64 0, .bool false, .int .i64 0, .slice none 0 0, .slice none 0 0] 61) fun b15 H16 => v14.size = 19 ∧ stAt H16 ⟨b15, 0, none⟩ v14.toList fun H17 => ∃ v18, v18.size = 19 ∧ rowIn H17 ⟨b15, 0, none⟩ v18 ∧ ∃ L19p L19l L19c, cell H17 (.add ⟨b4, 0, none⟩ 3) = some (.slice L19p L19l L19c) ∧ ∃ a20, k9p = some a20 ∧ 0 ≤ i11 ∧ i11 < (k9l : Int) ∧ ∃ v21, cell H17 (.add a20 (toNat i11 * 1)) = some (.int .i64 v21) ∧ ∃ a22, L19p = some a22 ∧ 0 ≤ v21 ∧ v21 < (L19l : Int) ∧ ∃ v23, v23.size = 19 ∧ rowIn H17 (.add a22 (toNat v21 * 19)) v23 ∧ Tryz.C 50 #[.agg v18, .agg v23] H17 fun r24 H25 => ∃ r26, r24 = .bool r26 ∧ br (!r26) (R (.bool false) H25) (∃ Ki27p Ki27l Ki27c, cell H25 (.add ⟨b15, 0, none⟩ 18) = some (.slice Ki27p Ki27l Ki27c) ∧ ∃ v28, v28.size = 4 ∧ rowIn H25 ⟨b4, 0, none⟩ v28 ∧ ∃ ID29, cell H25 (.add ⟨b15, 0, none⟩ 0) = some (.int .i64 ID29) ∧ Tryz.C 29 #[.slice Ki27p Ki27l Ki27c, .agg v28, .int .i64 ID29] H25 fun r30 H31 => ∃ r32, r30 = .bool r32 ∧ br (!r32)
 (R (.bool false) H31)
 (X10 [.int .i64 (wrap .i64 (i11 + 1))] H31)))
 (R (.bool true) H12)) → X10 [.int .i64 i11] H12) → X10 [.int .i64 0] H8)
def Tryz.p29 : Plan := (tl (tl (tg (two (tl (one (loop [(20, 3)] [4, 7, 18, 19] (tl (two (tl leaf) (two (one (tl g0)) leaf)))))) (tl leaf)))))
theorem Tryz.s29 {li1p : OA} {li1l li1c : Nat} {d2 : AV} {to3 : Int} {H R} (h : Tryz.S29 li1p li1l li1c d2 to3 H R) : Tryz.C 29 #[.slice li1p li1l li1c, .agg d2, .int .i64 to3] H R := vcs Tryz.tab_ok Tryz.mixed Tryz.func29 Tryz.cal29 Tryz.p29 h (by kernel_rfl)
def Tryz.S30 (li1p : OA) (li1l li1c : Nat) (H : Heap) (R : Kv) : Prop :=
 ∀ X2 : Kl, (∀ (n3 t4 : Int) H5, (br (decide (t4 < (li1l : Int)))
 (∃ a6, li1p = some a6 ∧ 0 ≤ t4 ∧ t4 < (li1l : Int) ∧ ∃ v7, v7.size = 19 ∧ rowIn H5 (.add a6 (toNat t4 * 19)) v7 ∧ alc H5 (.cells #[.int .i64 0, .int .i64 0, .bool false, .int .i64 0, .int .i64 0, .int .i64 0, .int .i64 0, .slice none 0 0, .slice none 0 0, .int .i64 0, .int .i64 0, .int .i64 0, .int .i64 0, .int .i64 0, .int .i64 0, .bool false, .int .i64 0, .slice none 0 0, .slice none 0 0] 61) fun b8 H9 => v7.size = 19 ∧ stAt H9 ⟨b8, 0, none⟩ v7.toList fun H10 => ∃ Ki11p Ki11l Ki11c, cell H10 (.add ⟨b8, 0, none⟩ 18) = some (.slice Ki11p Ki11l Ki11c) ∧ Tryz.C 30 #[.slice Ki11p Ki11l Ki11c] H10 fun r12 H13 => ∃ r14, r12 = .int .i64 r14 ∧ X2 [.int .i64 (wrap .i64 (n3 + r14)), .int .i64 (wrap .i64 (t4 + 1))] H13)
 (R (.int .i64 n3) H5)) → X2 [.int .i64 n3, .int .i64 t4] H5) → X2 [.int .i64 (li1l : Int), .int .i64 0] H
def Tryz.p30 : Plan := (tl (tl (two (tl (one (loop [(3, 3), (10, 3)] [8, 9] (tl (two (tl leaf) (two (one (tl leaf)) leaf)))))) (tl leaf))))
theorem Tryz.s30 {li1p : OA} {li1l li1c : Nat} {H R} (h : Tryz.S30 li1p li1l li1c H R) : Tryz.C 30 #[.slice li1p li1l li1c] H R := vcs Tryz.tab_ok Tryz.mixed Tryz.func30 Tryz.cal30 Tryz.p30 h (by kernel_rfl)
def Tryz.S31 (d1 : AV) (id2 : Int) (H : Heap) (R : Kv) : Prop :=
 alc H (.cells d1 27) fun b3 H4 => alc H4 (.cells #[.int .i64 0, .int .i64 0, .bool false, .int .i64 0, .int .i64 0, .int .i64 0, .int .i64 0, .slice none 0 0, .slice none 0 0, .int .i64 0, .int .i64 0, .int .i64 0, .int .i64 0, .int .i64 0, .int .i64 0, .bool false, .int .i64 0, .slice none 0 0, .slice none 0 0] 61) fun b5 H6 => Tryz.C 38 #[.pointer (some ⟨b3, 0, none⟩)] H6 fun r7 H8 => ∃ r9, r7 = .pointer r9 ∧ Tryz.C 51 #[.pointer r9, .int .i64 id2] H8 fun r10 H11 => ∃ r12 r13 r14, r10 = .tuple #[.pointer r12, .pointer r13, .int .i64 r14] ∧ br (Option.isNone r12)
 (#[Value.int .i64 0, Value.int .i64 0, Value.bool false, Value.int .i64 0, Value.int .i64 0, Value.int .i64 0, Value.int .i64 0, Value.slice none 0 0, Value.slice none 0 0, Value.int .i64 0, Value.int .i64 0, Value.int .i64 0, Value.int .i64 0, Value.int .i64 0, Value.int .i64 0, Value.bool false, Value.int .i64 0, Value.slice none 0 0, Value.slice none 0 0].size = 19 ∧ stAt H11 ⟨b5, 0, none⟩ (Array.toList #[.int .i64 0, .int .i64 0, .bool false, .int .i64 0, .int .i64 0, .int .i64 0, .int .i64 0, .slice none 0 0, .slice none 0 0, .int .i64 0, .int .i64 0, .int .i64 0, .int .i64 0, .int .i64 0, .int .i64 0, .bool false, .int .i64 0, .slice none 0 0, .slice none 0 0]) fun H15 => ∃ re16, re16.size = 19 ∧ rowIn H15 ⟨b5, 0, none⟩ re16 ∧ R (.tuple #[.agg re16, .bool false]) H15)
 (∃ a17, r12 = some a17 ∧ ∃ v18, v18.size = 19 ∧ rowIn H11 a17 v18 ∧ Tryz.C 52 #[.agg v18] H11 fun r19 H20 => ∃ r21, r19 = .agg r21 ∧ r21.size = 19 ∧ stAt H20 ⟨b5, 0, none⟩ r21.toList fun H22 => ∃ re23, re23.size = 19 ∧ rowIn H22 ⟨b5, 0, none⟩ re23 ∧ R (.tuple #[.agg re23, .bool true]) H22)
def Tryz.p31 : Plan := (tl (tl (tg (tl leaf))))
theorem Tryz.s31 {d1 : AV} {id2 : Int} {H R} (h : Tryz.S31 d1 id2 H R) : Tryz.C 31 #[.agg d1, .int .i64 id2] H R := vcs Tryz.tab_ok Tryz.mixed Tryz.func31 Tryz.cal31 Tryz.p31 h (by kernel_rfl)
def Tryz.S32 (d1 e2 : AV) (H : Heap) (R : Kv) : Prop :=
 alc H (.cells d1 33) fun b3 H4 => alc H4 (.cells e2 80) fun b5 H6 => alc H6 (.cells #[.int .i64 0, .int .i64 0, .int .i64 0, .slice none 0 0] 33) fun b7 H8 => ∀ J9 : Kl, (∀ H10, (∃ Ne11, cell H10 (.add ⟨b3, 0, none⟩ 2) = some (.int .i64 Ne11) ∧ ∃ N12, cell H10 (.add ⟨b5, 0, none⟩ 4) = some (.int .i64 N12) ∧ ∃ To13, cell H10 (.add ⟨b5, 0, none⟩ 2) = some (.int .i64 To13) ∧ #[Value.int .i64 65536, Value.int .i64 0, Value.int .i64 0, Value.int .i64 65536, Value.int .i64 0, Value.int .i64 0].size = 6 ∧ 10 + 6 ≤ 19 ∧ alc H10 (.cells #[.int .i64 0, .int .i64 0, .int .i64 0, .bool false, .int .i64 0, .int .i64 0, .int .i64 0, .int .i64 0, .slice none 0 0, .slice none 0 0, .int .i64 0, .int .i64 0, .int .i64 0, .int .i64 0, .int .i64 0, .int .i64 0, .bool false, .int .i64 0, .slice none 0 0] 95) fun b14 H15 => (List.toArray (List.set (setL [.int .i64 Ne11, .int .i64 N12, .int .i64 To13, .bool false, .int .i64 255, .int .i64 0, .int .i64 0, .int .i64 0, .slice none 0 0, .slice none 0 0, .int .i64 0, .int .i64 0, .int .i64 0, .int .i64 0, .int .i64 0, .int .i64 0, .bool false, .int .i64 0, .slice none 0 0] 10 (Array.toList #[.int .i64 65536, .int .i64 0, .int .i64 0, .int .i64 65536, .int .i64 0, .int .i64 0])) 17 (.int .i64 2))).size = 19 ∧ stAt H15 ⟨b14, 0, none⟩ (Array.toList (List.toArray (List.set (setL [.int .i64 Ne11, .int .i64 N12, .int .i64 To13, .bool false, .int .i64 255, .int .i64 0, .int .i64 0, .int .i64 0, .slice none 0 0, .slice none 0 0, .int .i64 0, .int .i64 0, .int .i64 0, .int .i64 0, .int .i64 0, .int .i64 0, .bool false, .int .i64 0, .slice none 0 0] 10 (Array.toList #[.int .i64 65536, .int .i64 0, .int .i64 0, .int .i64 65536, .int .i64 0, .int .i64 0])) 17 (.int .i64 2)))) fun H16 => ∀ J17 : Kl, (∀ H18, (∃ v19, v19.size = 4 ∧ rowIn H18 ⟨b3, 0, none⟩ v19 ∧ ∃ To20, cell H18 (.add ⟨b5, 0, none⟩ 2) = some (.int .i64 To20) ∧ Tryz.C 53 #[.agg v19, .int .i64 To20] H18 fun r21 H22 => ∃ f23, r21 = .int .i64 f23 ∧ br (f23 != 0)
 (∃ v24, v24.size = 4 ∧ rowIn H22 ⟨b3, 0, none⟩ v24 ∧ v24.size = 4 ∧ stAt H22 ⟨b7, 0, none⟩ v24.toList fun H25 => ∃ re26, re26.size = 4 ∧ rowIn H25 ⟨b7, 0, none⟩ re26 ∧ R (.tuple #[.agg re26, .int .i64 f23]) H25)
 (∃ L27p L27l L27c, cell H22 (.add ⟨b3, 0, none⟩ 3) = some (.slice L27p L27l L27c) ∧ ∃ v28, v28.size = 4 ∧ rowIn H22 ⟨b3, 0, none⟩ v28 ∧ ∃ v29, v29.size = 19 ∧ rowIn H22 ⟨b14, 0, none⟩ v29 ∧ ∃ At30, cell H22 (.add ⟨b5, 0, none⟩ 3) = some (.int .i64 At30) ∧ Tryz.C 54 #[.agg v28, .agg v29, .int .i64 At30] H22 fun r31 H32 => ∃ r33 r34, r31 = .tuple #[.agg r33, .int .i64 r34] ∧ alc H32 (.cells #[.int .i64 0, .int .i64 0, .int .i64 0, .slice none 0 0] 33) fun b35 H36 => r33.size = 4 ∧ stAt H36 ⟨b35, 0, none⟩ r33.toList fun H37 => br (r34 != 0)
 (∃ v38, v38.size = 4 ∧ rowIn H37 ⟨b3, 0, none⟩ v38 ∧ v38.size = 4 ∧ stAt H37 ⟨b7, 0, none⟩ v38.toList fun H39 => ∃ re40, re40.size = 4 ∧ rowIn H39 ⟨b7, 0, none⟩ re40 ∧ R (.tuple #[.agg re40, .int .i64 r34]) H39)
 (∀ J41 : Kl, (∀ H42, (∃ Ne43, cell H42 (.add ⟨b35, 0, none⟩ 2) = some (.int .i64 Ne43) ∧ stAt H42 (.add ⟨b35, 0, none⟩ 2) [.int .i64 (wrap .i64 (Ne43 + 1))] fun H44 => ∃ v45, v45.size = 4 ∧ rowIn H44 ⟨b35, 0, none⟩ v45 ∧ v45.size = 4 ∧ stAt H44 ⟨b7, 0, none⟩ v45.toList fun H46 => ∃ re47, re47.size = 4 ∧ rowIn H46 ⟨b7, 0, none⟩ re47 ∧ R (.tuple #[.agg re47, .int .i64 0]) H46) → J41 [] H42) →
 br (decide (((L27l : Int) : Int) ≥ 4096)) (∃ v48, v48.size = 4 ∧ rowIn H37 ⟨b3, 0, none⟩ v48 ∧ v48.size = 4 ∧ stAt H37 ⟨b7, 0, none⟩ v48.toList fun H49 => ∃ re50, re50.size = 4 ∧ rowIn H49 ⟨b7, 0, none⟩ re50 ∧ R (.tuple #[.agg re50, .int .i64 31]) H49) (∃ v51, v51.size = 4 ∧ rowIn H37 ⟨b3, 0, none⟩ v51 ∧ ∃ To52, cell H37 (.add ⟨b5, 0, none⟩ 2) = some (.int .i64 To52) ∧ Tryz.C 55 #[.agg v51, .int .i64 To52] H37 fun r53 H54 => ∃ r55, r53 = .int .i64 r55 ∧ br (decide (((wrap .i64 (r55 + 1)) : Int) > 64))
 (∃ v56, v56.size = 4 ∧ rowIn H54 ⟨b3, 0, none⟩ v56 ∧ v56.size = 4 ∧ stAt H54 ⟨b7, 0, none⟩ v56.toList fun H57 => ∃ re58, re58.size = 4 ∧ rowIn H57 ⟨b7, 0, none⟩ re58 ∧ R (.tuple #[.agg re58, .int .i64 31]) H57)
 (J41 [] H54))))) → J17 [] H18) →
 ∃ N59, cell H16 (.add ⟨b5, 0, none⟩ 4) = some (.int .i64 N59) ∧ br (N59 == 0)
 (∃ W60, cell H16 (.add ⟨b5, 0, none⟩ 8) = some (.int .i64 W60) ∧ ∃ H61, cell H16 (.add ⟨b5, 0, none⟩ 9) = some (.int .i64 H61) ∧ Tryz.C 21 #[.int .i64 W60, .int .i64 H61] H16 fun r62 H63 => ∃ r64, r62 = .bool r64 ∧ br (!r64)
 (∃ v65, v65.size = 4 ∧ rowIn H63 ⟨b3, 0, none⟩ v65 ∧ v65.size = 4 ∧ stAt H63 ⟨b7, 0, none⟩ v65.toList fun H66 => ∃ re67, re67.size = 4 ∧ rowIn H66 ⟨b7, 0, none⟩ re67 ∧ R (.tuple #[.agg re67, .int .i64 31]) H66)
 (∃ W68, cell H63 (.add ⟨b5, 0, none⟩ 8) = some (.int .i64 W68) ∧ stAt H63 (.add ⟨b14, 0, none⟩ 6) [.int .i64 W68] fun H69 => ∃ H70, cell H69 (.add ⟨b5, 0, none⟩ 9) = some (.int .i64 H70) ∧ stAt H69 (.add ⟨b14, 0, none⟩ 7) [.int .i64 H70] fun H71 => ∃ W72, cell H71 (.add ⟨b5, 0, none⟩ 8) = some (.int .i64 W72) ∧ ∃ H73, cell H71 (.add ⟨b5, 0, none⟩ 9) = some (.int .i64 H73) ∧ 0 ≤ (wrap .i64 (W72 * H73)) ∧ (wrap .i64 (W72 * H73)) ≤ (wrap .i64 (W72 * H73)) ∧ ((8 : Nat) : Int) * (wrap .i64 (W72 * H73)) ≤ 281474976710656 ∧ (wrap .i64 (W72 * H73)) ≤ 281474976710656 ∧ alc H71 (.cells (List.toArray (reps (toNat (wrap .i64 (W72 * H73))) (Array.toList #[.int .i64 0]))) 3) fun b74 H75 => stAt H75 (.add ⟨b14, 0, none⟩ 8) [.slice (some ⟨b74, 0, none⟩) (toNat (wrap .i64 (W72 * H73))) (toNat (wrap .i64 (W72 * H73)))] fun H76 => J17 [] H76))
 (J17 [] H16)) → J9 [] H10) →
 ∃ N77, cell H8 (.add ⟨b5, 0, none⟩ 4) = some (.int .i64 N77) ∧ br (decide (N77 < 0)) (∃ v78, v78.size = 4 ∧ rowIn H8 ⟨b3, 0, none⟩ v78 ∧ v78.size = 4 ∧ stAt H8 ⟨b7, 0, none⟩ v78.toList fun H79 => ∃ re80, re80.size = 4 ∧ rowIn H79 ⟨b7, 0, none⟩ re80 ∧ R (.tuple #[.agg re80, .int .i64 41]) H79) (∃ N81, cell H8 (.add ⟨b5, 0, none⟩ 4) = some (.int .i64 N81) ∧ br (decide (N81 > 2))
 (∃ v82, v82.size = 4 ∧ rowIn H8 ⟨b3, 0, none⟩ v82 ∧ v82.size = 4 ∧ stAt H8 ⟨b7, 0, none⟩ v82.toList fun H83 => ∃ re84, re84.size = 4 ∧ rowIn H83 ⟨b7, 0, none⟩ re84 ∧ R (.tuple #[.agg re84, .int .i64 41]) H83)
 (J9 [] H8))
def Tryz.p32 : Plan := (tl (two (join [] [2, 3, 4] g0) (tl (two (join [] [2, 3, 4, 6] (tl (two (tg (tl (tl leaf))) leaf))) (tl (tg (tl (tl (tg (two (join [] [4, 9] g0) (tl (tl leaf))))))))))))
theorem Tryz.s32 {d1 e2 : AV} {H R} (h : Tryz.S32 d1 e2 H R) : Tryz.C 32 #[.agg d1, .agg e2] H R := vcs Tryz.tab_ok Tryz.mixed Tryz.func32 Tryz.cal32 Tryz.p32 h (by kernel_rfl)
def Tryz.S33 (d1 : AV) (id2 : Int) (H : Heap) (R : Kv) : Prop :=
 alc H (.cells d1 33) fun b3 H4 => ∀ X5 : Kl, (∀ (i6 : Int) H7, (∃ L8p L8l L8c, cell H7 (.add ⟨b3, 0, none⟩ 3) = some (.slice L8p L8l L8c) ∧ br (decide (i6 < (L8l : Int)))
 (∃ L9p L9l L9c, cell H7 (.add ⟨b3, 0, none⟩ 3) = some (.slice L9p L9l L9c) ∧ ∃ a10, L9p = some a10 ∧ 0 ≤ i6 ∧ i6 < (L9l : Int) ∧ ∃ ID11, cell H7 (.add (.add a10 (toNat i6 * 19)) 0) = some (.int .i64 ID11) ∧ br (ID11 == id2)
 (R (.int .i64 i6) H7)
 (X5 [.int .i64 (wrap .i64 (i6 + 1))] H7))
 (R (.int .i64 (-1 : Int)) H7)) → X5 [.int .i64 i6] H7) → X5 [.int .i64 0] H4
def Tryz.p33 : Plan := (tl (two (tl (one (loop [(5, 3)] [1, 2] (two (tl (tl leaf)) (two (one g0) leaf))))) (tl leaf)))
theorem Tryz.s33 {d1 : AV} {id2 : Int} {H R} (h : Tryz.S33 d1 id2 H R) : Tryz.C 33 #[.agg d1, .int .i64 id2] H R := vcs Tryz.tab_ok Tryz.mixed Tryz.func33 Tryz.cal33 Tryz.p33 h (by kernel_rfl)
def Tryz.S34 (d1 : AV) (id2 : Int) (H : Heap) (R : Kv) : Prop :=
 alc H (.cells d1 33) fun b3 H4 => ∀ X5 : Kl, (∀ (ou6p : OA) (ou6l ou6c : Nat) (go7p : OA) (go7l go7c : Nat) (i8 : Int) H9, (∃ L10p L10l L10c, cell H9 (.add ⟨b3, 0, none⟩ 3) = some (.slice L10p L10l L10c) ∧ br (decide (i8 < (L10l : Int)))
 (∃ v11, v11.size = 4 ∧ rowIn H9 ⟨b3, 0, none⟩ v11 ∧ ∃ L12p L12l L12c, cell H9 (.add ⟨b3, 0, none⟩ 3) = some (.slice L12p L12l L12c) ∧ ∃ a13, L12p = some a13 ∧ 0 ≤ i8 ∧ i8 < (L12l : Int) ∧ ∃ ID14, cell H9 (.add (.add a13 (toNat i8 * 19)) 0) = some (.int .i64 ID14) ∧ Tryz.C 56 #[.agg v11, .int .i64 ID14, .int .i64 id2] H9 fun r15 H16 => ∃ r17, r15 = .bool r17 ∧ br r17
 (∃ L18p L18l L18c, cell H16 (.add ⟨b3, 0, none⟩ 3) = some (.slice L18p L18l L18c) ∧ ∃ a19, L18p = some a19 ∧ 0 ≤ i8 ∧ i8 < (L18l : Int) ∧ ∃ v20, v20.size = 19 ∧ rowIn H16 (.add a19 (toNat i8 * 19)) v20 ∧ v20.size = 19 ∧ 0 + 19 ≤ 19 ∧ alc H16 (.cells (List.toArray (setL [.int .i64 0, .int .i64 0, .int .i64 0, .bool false, .int .i64 0, .int .i64 0, .int .i64 0, .int .i64 0, .slice none 0 0, .slice none 0 0, .int .i64 0, .int .i64 0, .int .i64 0, .int .i64 0, .int .i64 0, .int .i64 0, .bool false, .int .i64 0, .slice none 0 0] 0 v20.toList)) 95) fun b21 H22 => appQ 19 200 #[.int .i64 0, .int .i64 0, .int .i64 0, .bool false, .int .i64 0, .int .i64 0, .int .i64 0, .int .i64 0, .slice none 0 0, .slice none 0 0, .int .i64 0, .int .i64 0, .int .i64 0, .int .i64 0, .int .i64 0, .int .i64 0, .bool false, .int .i64 0, .slice none 0 0] H22 go7p go7l go7c (some ⟨b21, 0, none⟩) 1 95 fun go23p go23l go23c H24 => X5 [.slice ou6p ou6l ou6c, .slice go23p go23l go23c, .int .i64 (wrap .i64 (i8 + 1))] H24)
 (∃ L25p L25l L25c, cell H16 (.add ⟨b3, 0, none⟩ 3) = some (.slice L25p L25l L25c) ∧ ∃ a26, L25p = some a26 ∧ 0 ≤ i8 ∧ i8 < (L25l : Int) ∧ ∃ v27, v27.size = 19 ∧ rowIn H16 (.add a26 (toNat i8 * 19)) v27 ∧ v27.size = 19 ∧ 0 + 19 ≤ 19 ∧ alc H16 (.cells (List.toArray (setL [.int .i64 0, .int .i64 0, .int .i64 0, .bool false, .int .i64 0, .int .i64 0, .int .i64 0, .int .i64 0, .slice none 0 0, .slice none 0 0, .int .i64 0, .int .i64 0, .int .i64 0, .int .i64 0, .int .i64 0, .int .i64 0, .bool false, .int .i64 0, .slice none 0 0] 0 v27.toList)) 95) fun b28 H29 => appQ 19 200 #[.int .i64 0, .int .i64 0, .int .i64 0, .bool false, .int .i64 0, .int .i64 0, .int .i64 0, .int .i64 0, .slice none 0 0, .slice none 0 0, .int .i64 0, .int .i64 0, .int .i64 0, .int .i64 0, .int .i64 0, .int .i64 0, .bool false, .int .i64 0, .slice none 0 0] H29 ou6p ou6l ou6c (some ⟨b28, 0, none⟩) 1 95 fun ou30p ou30l ou30c H31 => X5 [.slice ou30p ou30l ou30c, .slice go7p go7l go7c, .int .i64 (wrap .i64 (i8 + 1))] H31))
 (R (.tuple #[.slice ou6p ou6l ou6c, .slice go7p go7l go7c]) H9)) → X5 [.slice ou6p ou6l ou6c, .slice go7p go7l go7c, .int .i64 i8] H9) → X5 [.slice none 0 0, .slice none 0 0, .int .i64 0] H4
def Tryz.p34 : Plan := (tl (tl (tl (two (tl (one (loop [(6, 31), (7, 31), (8, 3)] [1, 2] (two (tl (tl leaf)) (two (one (tl (tl leaf))) leaf))))) (tl leaf)))))
theorem Tryz.s34 {d1 : AV} {id2 : Int} {H R} (h : Tryz.S34 d1 id2 H R) : Tryz.C 34 #[.agg d1, .int .i64 id2] H R := vcs Tryz.tab_ok Tryz.mixed Tryz.func34 Tryz.cal34 Tryz.p34 h (by kernel_rfl)
end Go.Proofs
