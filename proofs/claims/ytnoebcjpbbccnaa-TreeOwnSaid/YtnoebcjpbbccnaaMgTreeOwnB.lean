/-
  OWN WORK. Several texts in one: ShP, ShL, TileW, TileStay, ShS, ShT, ShU, TrA, GTab, GFunA, GFunB, GFunC.
-/
import Derived.Test.YtnoebcjpbbccnaaMgTreeOwnA
import Derived.ProofKit
import Derived.OpenShut
import Derived.Test.YtnoebcjpbbccnaaProg
import Derived.KernelRfl

/-
  OWN WORK. The shallow layer, part 14: words that the printed texts use.
-/
namespace Go.Sh
/-- A test's two ways. -/
def br (t : Bool) (A B : Prop) : Prop := (t = true → A) ∧ (t = false → B)
/-- A new block. -/
def alc (H : Heap) (o : Obj) (K : Nat → Heap → Prop) : Prop := K H.size (H.push o)
end Go.Sh

/-
  OWN WORK. The shallow layer, part 15: lemmas for whoever proves a printed text.
-/
namespace Go.Sh

theorem br_i {t : Bool} {A B : Prop} (h : t = true → A) (h' : t = false → B) : br t A B := ⟨h, h'⟩
theorem br_dec {p : Prop} [Decidable p] {A B : Prop} (h : p → A) (h' : ¬ p → B) : br (decide p) A B := ⟨fun e => h (of_decide_eq_true e), fun e => h' (of_decide_eq_false e)⟩
theorem br_eq {a b : Int} {A B : Prop} (h : a = b → A) (h' : a ≠ b → B) : br (a == b) A B := ⟨fun e => h (by simpa using e), fun e => h' (by simpa using e)⟩
theorem br_ne {a b : Int} {A B : Prop} (h : a ≠ b → A) (h' : a = b → B) : br (a != b) A B := ⟨fun e => h (by simpa using e), fun e => h' (by simpa using e)⟩
theorem br_not {t : Bool} {A B : Prop} (h : t = false → A) (h' : t = true → B) : br (!t) A B := ⟨fun e => h (by simpa using e), fun e => h' (by simpa using e)⟩
theorem br_true {A B : Prop} (h : A) : br true A B := ⟨fun _ => h, fun e => (by cases e)⟩
theorem br_false {A B : Prop} (h : B) : br false A B := ⟨fun e => (by cases e), fun _ => h⟩
theorem br_t {t : Bool} {A B : Prop} (ht : t = true) (h : A) : br t A B := by subst ht; exact br_true h
theorem br_f {t : Bool} {A B : Prop} (ht : t = false) (h : B) : br t A B := by subst ht; exact br_false h
theorem br_y {p : Prop} [Decidable p] {A B : Prop} (hp : p) (h : A) : br (decide p) A B := br_dec (fun _ => h) (fun n => absurd hp n)
theorem br_n {p : Prop} [Decidable p] {A B : Prop} (hp : ¬ p) (h : B) : br (decide p) A B := br_dec (fun y => absurd y hp) (fun _ => h)
theorem br_none {α : Type} {p : Option α} {A B : Prop} (h : p = none → A) (h' : ∀ a, p = some a → B) : br (Option.isNone p) A B := by
  cases p with
  | none => exact br_true (h rfl)
  | some a => exact br_false (h' a rfl)
theorem lt_of_get {H : Heap} {b : Nat} {o : Obj} (h : H[b]? = some o) : b < H.size := (Array.getElem?_eq_some_iff.1 h).1
theorem get_push_self (H : Heap) (o : Obj) : (H.push o)[H.size]? = some o := by simp
theorem get_push {H : Heap} {b : Nat} {o x : Obj} (h : H[b]? = some x) : (H.push o)[b]? = some x := Ext.push H o b x h
theorem get_set_ne {H : Heap} {b r : Nat} {o x : Obj} (hne : r ≠ b) (h : H[b]? = some x) : (H.setIfInBounds r o)[b]? = some x := by
  rw [Array.getElem?_setIfInBounds_ne hne]; exact h
theorem get_set_self {H : Heap} {r : Nat} {o x : Obj} (h : H[r]? = some x) : (H.setIfInBounds r o)[r]? = some o := by
  rw [Array.getElem?_setIfInBounds_self_of_lt (lt_of_get h)]

theorem cell_block {H : Heap} {b i : Nat} {c : Array Value} {t : TypeId} {f : Nat × Nat} (h : H[b]? = some (.cells c t f)) : cell H ⟨b, i, none⟩ = c[i]? := by
  simp [cell, h]
theorem cell_get {H : Heap} {b i : Nat} {c : Array Value} {t : TypeId} {f : Nat × Nat} {v : Value} (h : H[b]? = some (.cells c t f)) (hv : c[i]? = some v) : cell H ⟨b, i, none⟩ = some v := by
  rw [cell_block h]; exact hv

@[simp] theorem add_none (b i n : Nat) : Addr.add ⟨b, i, none⟩ n = ⟨b, i + n, none⟩ := by
  unfold Addr.add; split <;> simp_all

theorem rowIn_block {H : Heap} {b i : Nat} {c cs : Array Value} {t : TypeId} {f : Nat × Nat} (h : H[b]? = some (.cells c t f)) (hc : ∀ j v, cs[j]? = some v → c[i + j]? = some v) :
    rowIn H ⟨b, i, none⟩ cs := by
  intro j v hv
  rw [add_none, cell_block h]
  exact hc j v hv

/-- A whole block is read. -/
theorem rowIn_whole {H : Heap} {b : Nat} {c : Array Value} {t : TypeId} {f : Nat × Nat} (h : H[b]? = some (.cells c t f)) : rowIn H ⟨b, 0, none⟩ c :=
  rowIn_block h fun j v hv => by rw [Nat.zero_add]; exact hv

/-- One cell is written. -/
theorem stAt_one {H : Heap} {b i : Nat} {c : Array Value} {t : TypeId} {v : Value} {f : Heap → Prop} (h : H[b]? = some (.cells c t (0, 0))) (hi : i < c.size) (ho : v.oneCell' = true)
    (hf : f (H.setIfInBounds b (.cells (c.setIfInBounds i v) t (0, 0)))) : stAt H ⟨b, i, none⟩ [v] f := by
  refine ⟨c, t, h, rfl, (by simp; omega), by simpa using ho, ?_⟩
  have : (setL c.toList i [v]).toArray = c.setIfInBounds i v := by
    rw [setL_one (by simpa using hi)]
    apply Array.toList_inj.1
    simp
  simp only [this]
  exact hf

/-- A block is written whole. -/
theorem stAt_whole {H : Heap} {b : Nat} {c : Array Value} {t : TypeId} {vs : List Value} {f : Heap → Prop} (h : H[b]? = some (.cells c t (0, 0))) (hl : vs.length = c.size) (ho : ∀ v ∈ vs, v.oneCell' = true)
    (hf : f (H.setIfInBounds b (.cells vs.toArray t (0, 0)))) : stAt H ⟨b, 0, none⟩ vs f := by
  refine ⟨c, t, h, rfl, by simp; omega, ho, ?_⟩
  have : setL c.toList 0 vs = vs := by simp [setL, hl]
  simp only [this]
  exact hf

theorem wrap_id {n : Int} (h0 : -9223372036854775808 ≤ n) (h1 : n ≤ 9223372036854775807) : IntKind.wrap .i64 n = n := wrap_i64 h0 h1
theorem wrap_u8 {n : Int} (h0 : 0 ≤ n) (h1 : n < 256) : IntKind.wrap .u8 n = n := by
  simp only [IntKind.wrap, IntKind.signed, IntKind.bits]; simp; omega

end Go.Sh

/-
  OWN WORK. From what a call leaves in the heap to what a statement asks of the world.
-/
set_option linter.unusedSimpArgs false
set_option linter.unusedVariables false
namespace Go.Sh
open Go.RowKit

theorem grown_of {W w' : World} (hos : w'.os = W.os) (ho : Out W w') (hx : Ext W.heap w'.heap) : Grown W w' := by
  refine ⟨⟨hos, ho.output, fun i hi => ?_⟩, ho.froz, hx.size⟩
  obtain ⟨o, h⟩ : ∃ o, W.heap[i]? = some o := ⟨_, Array.getElem?_eq_getElem hi⟩
  rw [hx i o h, h]
  cases o with
  | cells c t fr => exact ⟨rfl, rfl, rfl, fun _ _ => rfl⟩
  | map es k => exact .inr ⟨rfl, rfl⟩
  | _ => rfl

end Go.Sh

/-
  OWN WORK. What came in reads as it did; a struct of seven numbers, opened.
-/
set_option linter.unusedVariables false
set_option linter.unusedSimpArgs false
namespace Go.Sh
open Go.RowKit Go.ChangeShapes Go.WideShapes Go.ChangeAt

section
variable {H : Type} {enc : TypeId × Value → H} {P : Program} {W W' : World}

theorem same_of (hx : Ext W.heap W'.heap) {p : MemPlace} (hp : p.block < W.heap.size) : W.sameAt W' p := by
  have h : W'.heap[p.block]? = W.heap[p.block]? := by
    obtain ⟨o, h⟩ : ∃ o, W.heap[p.block]? = some o := ⟨_, Array.getElem?_eq_getElem hp⟩
    rw [hx _ o h, h]
  cases p with
  | cell b o => exact World.cell?_of_block (w := W) h
  | map b => exact h

theorem trodAll_ext (hl : laidOutB P = true) (hx : Ext W.heap W'.heap) {sp : Nat → Bool} : ∀ {ts : List TypeId} {vs : List Value} {ds : List (DataW H)} {ps : List MemPlace}, (ts.all fun t => P.readableRec t && decide (t < P.types.size)) = true →
    DataW.TrodAll enc P W 0 (fun _ => true) true ts vs ds ps → (∀ x ∈ ps, x.block < W.heap.size) → (∀ x ∈ ps, sp x.block = true) → DataW.TrodAll enc P W' 0 sp true ts vs ds ps
  | [], vs, ds, ps, _, h, _, _ => by
    obtain ⟨rfl, rfl, rfl⟩ := trodAll_nil h
    exact trodAll_mk0
  | t :: ts, vs, ds, ps, hr, h, hlt, hs => by
    obtain ⟨v, vs1, d, ds1, a, b, rfl, rfl, rfl, h1, h2⟩ := trodAll_cons h
    simp only [List.all_cons, Bool.and_eq_true, decide_eq_true_eq] at hr
    exact trodAll_cons_mk (WideElems.Trod_stays hl hr.1.1 hr.1.2 h1 (fun x hx' => same_of hx (hlt x (List.mem_append_left _ hx'))) (fun x hx' => hs x (List.mem_append_left _ hx')))
      (trodAll_ext hl hx (by simpa using hr.2) h2 (fun x hx' => hlt x (List.mem_append_right _ hx')) (fun x hx' => hs x (List.mem_append_right _ hx')))

end
end Go.Sh

/-
  OWN WORK. The shallow layer, part 14: slices of elements of any number of cells, told by their cells one behind the other; append.
-/
set_option linter.unusedVariables false
set_option linter.unusedSimpArgs false
namespace Go.Sh

def ints (l : List Int) : List Value := l.map (Value.int .i64)
theorem ints_get {l : List Int} {i : Nat} {v : Int} (h : l[i]? = some v) : (ints l)[i]? = some (Value.int .i64 v) := by simp [ints, h]
theorem ints_len (l : List Int) : (ints l).length = l.length := by simp [ints]
theorem ints_append (a b : List Int) : ints (a ++ b) = ints a ++ ints b := by simp [ints]
theorem ints_set (l : List Int) (i : Nat) (v : Int) : (ints l).set i (.int .i64 v) = ints (l.set i v) := by simp [ints]
theorem ints_one (l : List Int) : ∀ v ∈ ints l, v.oneCell' = true := fun v hv => by
  obtain ⟨x, _, rfl⟩ := List.mem_map.1 hv; rfl

/-- What is read of a slice. -/
structure RS (H : Heap) (p : Option Addr) (l : Nat) (el : TypeId) (k : Nat) (fs : List Value) : Prop where
  len : fs.length = l * k
  one : ∀ v ∈ fs, v.oneCell' = true
  at_ : l = 0 ∨ ∃ blk cs, p = some ⟨blk, 0, none⟩ ∧ H[blk]? = some (.cells cs el) ∧ ∀ (i : Nat) v, fs[i]? = some v → cs[i]? = some v

/-- A slice of one's own: its block is all of its own, from block n0 on. -/
structure FS (n0 : Nat) (H : Heap) (p : Option Addr) (l c : Nat) (el : TypeId) (k : Nat) (fs : List Value) : Prop where
  len : fs.length = l * k
  le : l ≤ c
  one : ∀ v ∈ fs, v.oneCell' = true
  at_ : (p = none ∧ c = 0) ∨ ∃ blk cs, p = some ⟨blk, 0, none⟩ ∧ n0 ≤ blk ∧ H[blk]? = some (.cells cs el) ∧ cs.size = c * k ∧ ∀ (i : Nat) v, fs[i]? = some v → cs[i]? = some v

theorem FS.rs {n0 : Nat} {H : Heap} {p : Option Addr} {l c : Nat} {el : TypeId} {k : Nat} {fs : List Value} (h : FS n0 H p l c el k fs) : RS H p l el k fs := by
  refine ⟨h.len, h.one, ?_⟩
  rcases h.at_ with ⟨_, h2⟩ | ⟨blk, cs, h1, _, h3, _, h5⟩
  · left; have := h.le; omega
  · exact .inr ⟨blk, cs, h1, h3, h5⟩

theorem RS.keep {H H' : Heap} {p : Option Addr} {l : Nat} {el : TypeId} {k : Nat} {fs : List Value} (h : RS H p l el k fs) (hk : ∀ b cs, p = some ⟨b, 0, none⟩ → H[b]? = some (.cells cs el) → H'[b]? = some (.cells cs el)) : RS H' p l el k fs := by
  refine ⟨h.len, h.one, ?_⟩
  rcases h.at_ with h1 | ⟨blk, cs, h1, h3, h5⟩
  · exact .inl h1
  · exact .inr ⟨blk, cs, h1, hk _ _ h1 h3, h5⟩
theorem RS.ext {H H' : Heap} {p : Option Addr} {l : Nat} {el : TypeId} {k : Nat} {fs : List Value} (h : RS H p l el k fs) (he : Ext H H') : RS H' p l el k fs := h.keep fun b cs _ hb => he _ _ hb
theorem FS.keep {n0 : Nat} {H H' : Heap} {p : Option Addr} {l c : Nat} {el : TypeId} {k : Nat} {fs : List Value} (h : FS n0 H p l c el k fs) (hk : ∀ b cs, p = some ⟨b, 0, none⟩ → H[b]? = some (.cells cs el) → H'[b]? = some (.cells cs el)) : FS n0 H' p l c el k fs := by
  refine ⟨h.len, h.le, h.one, ?_⟩
  rcases h.at_ with h1 | ⟨blk, cs, h1, h2, h3, h5⟩
  · exact .inl h1
  · exact .inr ⟨blk, cs, h1, h2, hk _ _ h1 h3, h5⟩
theorem FS.ext {n0 : Nat} {H H' : Heap} {p : Option Addr} {l c : Nat} {el : TypeId} {k : Nat} {fs : List Value} (h : FS n0 H p l c el k fs) (he : Ext H H') : FS n0 H' p l c el k fs := h.keep fun b cs _ hb => he _ _ hb
theorem FS.lower {n0 n1 : Nat} {H : Heap} {p : Option Addr} {l c : Nat} {el : TypeId} {k : Nat} {fs : List Value} (h : FS n0 H p l c el k fs) (hn : n1 ≤ n0) : FS n1 H p l c el k fs := by
  refine ⟨h.len, h.le, h.one, ?_⟩
  rcases h.at_ with h1 | ⟨blk, cs, h1, h2, h3, h5⟩
  · exact .inl h1
  · exact .inr ⟨blk, cs, h1, by omega, h3, h5⟩
theorem FS.nil (n0 : Nat) (H : Heap) (el : TypeId) (k : Nat) : FS n0 H none 0 0 el k [] := ⟨by simp, Nat.le_refl _, by simp, .inl ⟨rfl, rfl⟩⟩
theorem RS.nil (H : Heap) (p : Option Addr) (el : TypeId) (k : Nat) : RS H p 0 el k [] := ⟨by simp, by simp, .inl rfl⟩

theorem FS.whole {n0 : Nat} {H : Heap} {b l k : Nat} {el : TypeId} {cs : Array Value} (hb : n0 ≤ b) (h : H[b]? = some (.cells cs el)) (hs : cs.size = l * k) (ho : ∀ v ∈ cs.toList, v.oneCell' = true) : FS n0 H (some ⟨b, 0, none⟩) l l el k cs.toList :=
  ⟨by simpa using hs, Nat.le_refl _, ho, .inr ⟨b, cs, rfl, hb, h, hs, fun i v hv => by simpa using hv⟩⟩

theorem RS.cell {H : Heap} {p : Option Addr} {l : Nat} {el : TypeId} {k : Nat} {fs : List Value} (h : RS H p l el k fs) {i : Nat} {v : Value} (hv : fs[i]? = some v) : ∃ blk, p = some ⟨blk, 0, none⟩ ∧ Go.Sh.cell H ⟨blk, i, none⟩ = some v := by
  rcases h.at_ with h1 | ⟨blk, cs, h1, h3, h5⟩
  · have := (List.getElem?_eq_some_iff.1 hv).1
    have := h.len
    rw [h1] at this
    omega
  · exact ⟨blk, h1, cell_get h3 (h5 i v hv)⟩
theorem RS.row {H : Heap} {p : Option Addr} {l : Nat} {el : TypeId} {k : Nat} {fs : List Value} (h : RS H p l el k fs) {i : Nat} (hi : i < l) (hk : 0 < k) {xs : Array Value} (hx : ∀ (j : Nat) v, xs[j]? = some v → fs[i * k + j]? = some v) : ∃ blk, p = some ⟨blk, 0, none⟩ ∧ rowIn H ⟨blk, i * k, none⟩ xs := by
  rcases h.at_ with h1 | ⟨blk, cs, h1, h3, h5⟩
  · omega
  · exact ⟨blk, h1, rowIn_block h3 fun j v hv => h5 _ _ (hx j v hv)⟩

/-- A slice that came in, of elements of one cell: it may begin anywhere. -/
structure IS (H : Heap) (p : Option Addr) (l : Nat) (fs : List Value) : Prop where
  len : fs.length = l
  get : ∀ (i : Nat) v, fs[i]? = some v → ∃ a, p = some a ∧ Go.Sh.cell H (a.add i) = some v
theorem IS.ext {H H' : Heap} {p : Option Addr} {l : Nat} {fs : List Value} (h : IS H p l fs) (he : Ext H H') : IS H' p l fs := ⟨h.len, fun i v hv => let ⟨a, h1, h2⟩ := h.get i v hv; ⟨a, h1, he.cell h2⟩⟩
theorem IS.cell {H : Heap} {p : Option Addr} {l : Nat} {fs : List Value} (h : IS H p l fs) {i : Nat} {v : Value} (hv : fs[i]? = some v) : ∃ a, p = some a ∧ Go.Sh.cell H (a.add i) = some v := h.get i v hv
theorem RS.is {H : Heap} {p : Option Addr} {l : Nat} {el : TypeId} {fs : List Value} (h : RS H p l el 1 fs) : IS H p l fs :=
  ⟨by have := h.len; omega, fun i v hv => let ⟨blk, h1, h2⟩ := h.cell hv; ⟨_, h1, by simpa using h2⟩⟩

theorem RS.rowOf {H : Heap} {p : Option Addr} {l : Nat} {el : TypeId} {k : Nat} {fs : List Value} (h : RS H p l el k fs) : rowOf H p (l * k) fs.toArray := by
  rcases h.at_ with h1 | ⟨blk, cs, h1, h3, h5⟩
  · have := h.len
    rw [h1, Nat.zero_mul] at this
    have : fs = [] := List.length_eq_zero_iff.1 this
    subst this
    subst h1
    cases p with
    | none => rfl
    | some a => exact ⟨by simp, fun j v hv => by simp at hv⟩
  · subst h1
    refine ⟨by simp [h.len], rowIn_block h3 fun j v hv => ?_⟩
    rw [Nat.zero_add]
    exact h5 j v (by simpa using hv)

theorem setL_get {c vs : List Value} {i : Nat} (h : i + vs.length ≤ c.length) (j : Nat) : (setL c i vs)[j]? = if i ≤ j ∧ j < i + vs.length then vs[j - i]? else c[j]? := by
  unfold setL
  by_cases h1 : j < i
  · rw [if_neg (by omega), List.append_assoc, List.getElem?_append_left (by simp; omega), List.getElem?_take_of_lt h1]
  · by_cases h2 : j < i + vs.length
    · rw [if_pos ⟨by omega, h2⟩, List.append_assoc, List.getElem?_append_right (by simp; omega), List.getElem?_append_left (by simp; omega)]
      congr 1
      simp; omega
    · rw [if_neg (by omega), List.getElem?_append_right (by simp; omega), List.getElem?_drop]
      congr 1
      simp; omega
theorem setL_len {c vs : List Value} {i : Nat} (h : i + vs.length ≤ c.length) : (setL c i vs).length = c.length := by unfold setL; simp; omega

theorem stAt_some {H : Heap} {b i : Nat} {c : Array Value} {t : TypeId} {vs : List Value} {f : Heap → Prop} (h : H[b]? = some (.cells c t (0, 0))) (hl : i + vs.length ≤ c.size) (ho : ∀ v ∈ vs, v.oneCell' = true)
    (hf : ∀ c' : Array Value, c'.size = c.size → (∀ j : Nat, c'[j]? = if i ≤ j ∧ j < i + vs.length then vs[j - i]? else c[j]?) → f (H.setIfInBounds b (.cells c' t (0, 0)))) : stAt H ⟨b, i, none⟩ vs f := by
  have hl' : i + vs.length ≤ c.toList.length := by simpa using hl
  refine ⟨c, t, h, rfl, hl, ho, ?_⟩
  refine hf (setL c.toList i vs).toArray (by simp [setL_len hl']) fun j => ?_
  rw [List.getElem?_toArray, setL_get hl' j, Array.getElem?_toList (xs := c)]

/-- Append to a slice of one's own, of any stretch that can be read. -/
theorem FS.app' {n0 : Nat} {H : Heap} {p q : Option Addr} {l c n : Nat} {el : TypeId} {k bytes : Nat} {zero : Array Value} {fs gs : List Value} (h : FS n0 H p l c el k fs) (hrow : Go.Sh.rowOf H q (n * k) gs.toArray) (hgl : gs.length = n * k) (hgo : ∀ v ∈ gs, v.oneCell' = true) (hk : 0 < k) (hn : n0 ≤ H.size) (hz : zero.size = k)
    (hb : (l + n) * bytes ≤ 70368744177664) (hm : l + n ≤ 1000000000000) {K : Option Addr → Nat → Nat → Heap → Prop}
    (hK : ∀ p' c' H', FS n0 H' p' (l + n) c' el k (fs ++ gs) → (∀ (b : Nat) (o : Obj), H[b]? = some o → p ≠ some ⟨b, 0, none⟩ → H'[b]? = some o) → H.size ≤ H'.size → K p' (l + n) c' H') : appQ k bytes zero H p l c q n el K := by
  have hfl := h.len
  have hlen : (fs ++ gs).length = (l + n) * k := by rw [List.length_append, hfl, hgl, Nat.add_mul]
  have hone : ∀ v ∈ fs ++ gs, v.oneCell' = true := fun v hv => (List.mem_append.1 hv).elim (h.one v) (hgo v)
  refine ⟨hb, by omega, gs.toArray, hrow, fun hle => ?_, fun hlt => ?_⟩
  · rcases h.at_ with ⟨rfl, hc0⟩ | ⟨blk, cs, rfl, h2, h3, h4, h5⟩
    · refine hK none c H ⟨hlen, hle, hone, .inl ⟨rfl, hc0⟩⟩ (fun b o hb _ => hb) (Nat.le_refl _)
    · simp only [add_none, Nat.zero_add]
      have hcap : (l + n) * k ≤ c * k := Nat.mul_le_mul_right k hle
      rw [Nat.add_mul] at hcap
      refine stAt_some h3 (by show l * k + gs.length ≤ cs.size; omega) (by simpa using hgo) fun c' hc' hg => ?_
      refine hK _ _ _ ⟨hlen, hle, hone, .inr ⟨blk, c', rfl, h2, get_set_self h3, by omega, fun i v hv => ?_⟩⟩ (fun b o hb hne => get_set_ne (fun hh => hne (by rw [hh])) hb) (by simp)
      rw [hg]
      by_cases hi : i < fs.length
      · rw [if_neg (by omega)]
        rw [List.getElem?_append_left hi] at hv
        exact h5 i v hv
      · rw [List.getElem?_append_right (by omega)] at hv
        have hlt := (List.getElem?_eq_some_iff.1 hv).1
        rw [if_pos ⟨by omega, by show i < l * k + gs.length; omega⟩]
        rw [← hfl]
        simpa using hv
  · have hrow : ∃ ys, Go.Sh.rowOf H p (l * k) ys ∧ ys.toList = fs := ⟨fs.toArray, h.rs.rowOf, by simp⟩
    obtain ⟨ys, hy, hvs⟩ := hrow
    refine ⟨ys, hy, fun c' hc' => ?_⟩
    rw [zeroCells_eq _ _ (by omega)]
    have hcap : (l + n) * k ≤ c' * k := Nat.mul_le_mul_right k hc'
    have hys : ys.size = l * k := by rw [← Array.length_toList, hvs, hfl]
    refine hK _ _ _ ⟨hlen, hc', hone, .inr ⟨H.size, _, rfl, hn, get_push_self _ _, ?_, fun i v hv => ?_⟩⟩ (fun b o hb _ => get_push hb) (by simp)
    · simp only [Array.size_append, hys, List.size_toArray, reps_length, Array.length_toList, hz, hgl]
      rw [Nat.sub_mul]
      rw [Nat.add_mul] at hcap ⊢
      omega
    · have hi := (List.getElem?_eq_some_iff.1 hv).1
      rw [Array.getElem?_append_left (by simp [hys, hgl]; rw [hlen, Nat.add_mul] at hi; omega)]
      have : (ys ++ gs.toArray).toList = fs ++ gs := by simp [hvs]
      rw [← Array.getElem?_toList, this]
      exact hv

/-- Append to a slice of one's own. -/
theorem FS.app {n0 : Nat} {H : Heap} {p q : Option Addr} {l c n : Nat} {el : TypeId} {k bytes : Nat} {zero : Array Value} {fs gs : List Value} (h : FS n0 H p l c el k fs) (hs : RS H q n el k gs) (hk : 0 < k) (hn : n0 ≤ H.size) (hz : zero.size = k)
    (hb : (l + n) * bytes ≤ 70368744177664) (hm : l + n ≤ 1000000000000) {K : Option Addr → Nat → Nat → Heap → Prop}
    (hK : ∀ p' c' H', FS n0 H' p' (l + n) c' el k (fs ++ gs) → (∀ (b : Nat) (o : Obj), H[b]? = some o → p ≠ some ⟨b, 0, none⟩ → H'[b]? = some o) → H.size ≤ H'.size → K p' (l + n) c' H') : appQ k bytes zero H p l c q n el K :=
  h.app' hs.rowOf hs.len hs.one hk hn hz hb hm hK

/-- One cell of a slice of one's own is written. -/
theorem FS.set {n0 : Nat} {H : Heap} {b l c : Nat} {el : TypeId} {k : Nat} {fs : List Value} {i : Nat} {v : Value} {f : Heap → Prop} (h : FS n0 H (some ⟨b, 0, none⟩) l c el k fs) (hi : i < fs.length) (ho : v.oneCell' = true)
    (hf : ∀ H', FS n0 H' (some ⟨b, 0, none⟩) l c el k (fs.set i v) → (∀ (b' : Nat) (o : Obj), H[b']? = some o → b' ≠ b → H'[b']? = some o) → H'.size = H.size → f H') : stAt H ⟨b, i, none⟩ [v] f := by
  have hlen := h.len
  rcases h.at_ with ⟨h1, _⟩ | ⟨blk, cs, h1, h2, h3, h4, h5⟩
  · cases h1
  · cases h1
    have hics : i < cs.size := by
      have := h5 i fs[i] (List.getElem?_eq_getElem hi)
      exact (Array.getElem?_eq_some_iff.1 this).1
    refine stAt_one h3 hics ho ?_
    refine hf _ ⟨by simpa using hlen, h.le, fun u hu => ?_, .inr ⟨b, cs.setIfInBounds i v, rfl, h2, get_set_self h3, by simpa using h4, fun j u hu => ?_⟩⟩ (fun b' o hb' hne => get_set_ne (Ne.symm hne) hb') (by simp)
    · rcases List.mem_or_eq_of_mem_set hu with hu | rfl
      · exact h.one u hu
      · exact ho
    · rw [List.getElem?_set] at hu
      rw [Array.getElem?_setIfInBounds]
      by_cases hij : i = j
      · subst hij
        rw [if_pos rfl, if_pos hi] at hu
        rw [if_pos rfl, if_pos hics]
        exact hu
      · rw [if_neg hij] at hu
        rw [if_neg hij]
        exact h5 j u hu

end Go.Sh

/-
  OWN WORK. The shallow layer, part 15: what is one's own, as a list of resources, each on blocks of its own; the rest of the heap is as it was.
-/
set_option linter.unusedVariables false
set_option linter.unusedSimpArgs false
namespace Go.Sh

/-- What stands in a heap, on blocks of its own. -/
structure Rs where
  at_ : Heap → List Nat → Prop
  loc : ∀ {H H' : Heap} {fp : List Nat}, at_ H fp → (∀ b ∈ fp, ∀ o, H[b]? = some o → H'[b]? = some o) → at_ H' fp
  has : ∀ {H : Heap} {fp : List Nat}, at_ H fp → ∀ b ∈ fp, b < H.size

/-- A block whole. -/
def Rs.cell (b : Nat) (cs : Array Value) (ty : TypeId) : Rs where
  at_ H fp := fp = [b] ∧ H[b]? = some (.cells cs ty)
  loc h hk := ⟨h.1, hk _ (by rw [h.1]; exact List.mem_singleton.2 rfl) _ h.2⟩
  has h b hb := by rw [h.1, List.mem_singleton] at hb; subst hb; exact lt_of_get h.2

/-- A slice and the block behind it. -/
def Rs.sl (p : Option Addr) (l c : Nat) (el : TypeId) (k : Nat) (fs : List Value) : Rs where
  at_ H fp := FS 0 H p l c el k fs ∧ ((p = none ∧ fp = []) ∨ ∃ blk, p = some ⟨blk, 0, none⟩ ∧ fp = [blk])
  loc h hk := by
    refine ⟨h.1.keep fun b cs hp hb => hk b ?_ _ hb, h.2⟩
    rcases h.2 with ⟨h1, _⟩ | ⟨blk, h1, h2⟩
    · rw [h1] at hp; cases hp
    · rw [h1] at hp; cases hp; rw [h2]; exact List.mem_singleton.2 rfl
  has h b hb := by
    rcases h.2 with ⟨_, h2⟩ | ⟨blk, h1, h2⟩
    · rw [h2] at hb; cases hb
    · rw [h2, List.mem_singleton] at hb
      subst hb
      rcases h.1.at_ with ⟨h3, _⟩ | ⟨blk', cs, h3, _, h4, _⟩
      · rw [h1] at h3; cases h3
      · rw [h1] at h3; cases h3; exact lt_of_get h4

/-- Both, apart. -/
def Rs.star (r s : Rs) : Rs where
  at_ H fp := ∃ a b, fp = a ++ b ∧ r.at_ H a ∧ s.at_ H b
  loc := fun ⟨a, b, e, h1, h2⟩ hk => ⟨a, b, e, r.loc h1 fun x hx => hk x (by rw [e]; exact List.mem_append_left _ hx), s.loc h2 fun x hx => hk x (by rw [e]; exact List.mem_append_right _ hx)⟩
  has := fun ⟨a, b, e, h1, h2⟩ x hx => by
    rw [e] at hx
    rcases List.mem_append.1 hx with hx | hx
    · exact r.has h1 x hx
    · exact s.has h2 x hx

/-- One of many. -/
def Rs.ex {α : Type} (f : α → Rs) : Rs where
  at_ H fp := ∃ a, (f a).at_ H fp
  loc := fun ⟨a, h⟩ hk => ⟨a, (f a).loc h hk⟩
  has := fun ⟨a, h⟩ => (f a).has h

/-- With a fact. -/
def Rs.pu (q : Prop) (r : Rs) : Rs where
  at_ H fp := q ∧ r.at_ H fp
  loc := fun ⟨a, h⟩ hk => ⟨a, r.loc h hk⟩
  has := fun ⟨a, h⟩ => r.has h

/-- Nothing. -/
def Rs.emp : Rs where
  at_ H fp := fp = []
  loc h _ := h
  has h b hb := by rw [h] at hb; cases hb

/-- How resources lie: each on its own blocks. -/
def Lie (H : Heap) : List Rs → List (List Nat) → Prop
  | [], [] => True
  | r :: σ, fp :: fps => r.at_ H fp ∧ Lie H σ fps
  | _, _ => False

theorem Lie.get {H : Heap} : ∀ {σ : List Rs} {fps : List (List Nat)}, Lie H σ fps → ∀ {i : Nat} {r : Rs}, σ[i]? = some r → ∃ fp, fps[i]? = some fp ∧ r.at_ H fp
  | [], [], _, i, r, h => by simp at h
  | r :: σ, fp :: fps, hl, 0, s, h => by simp at h; subst h; exact ⟨fp, rfl, hl.1⟩
  | r :: σ, fp :: fps, hl, i + 1, s, h => by
    simp only [List.getElem?_cons_succ] at h ⊢
    exact Lie.get hl.2 h
theorem Lie.has {H : Heap} : ∀ {σ : List Rs} {fps : List (List Nat)}, Lie H σ fps → ∀ b ∈ fps.flatten, b < H.size
  | [], [], _, b, hb => by simp at hb
  | r :: σ, fp :: fps, hl, b, hb => by
    simp only [List.flatten_cons, List.mem_append] at hb
    rcases hb with hb | hb
    · exact r.has hl.1 b hb
    · exact Lie.has hl.2 b hb
theorem Lie.loc {H H' : Heap} : ∀ {σ : List Rs} {fps : List (List Nat)}, Lie H σ fps → (∀ b ∈ fps.flatten, ∀ o, H[b]? = some o → H'[b]? = some o) → Lie H' σ fps
  | [], [], _, _ => trivial
  | r :: σ, fp :: fps, hl, hk => by
    simp only [List.flatten_cons, List.mem_append] at hk
    exact ⟨r.loc hl.1 fun b hb => hk b (.inl hb), Lie.loc hl.2 fun b hb => hk b (.inr hb)⟩
/-- One resource is another one behind a step that leaves the others' blocks alone. -/
theorem Lie.set {H H' : Heap} : ∀ {σ : List Rs} {fps : List (List Nat)} {i : Nat} {fp fp' : List Nat} {r' : Rs}, Lie H σ fps → fps.flatten.Nodup → fps[i]? = some fp → r'.at_ H' fp' → fp'.Nodup → (∀ b ∈ fp', b ∈ fp ∨ H.size ≤ b) →
    (∀ b o, H[b]? = some o → b ∉ fp → H'[b]? = some o) → Lie H' (σ.set i r') (fps.set i fp') ∧ (fps.set i fp').flatten.Nodup
  | [], [], i, fp, fp', r', hl, hn, hi, h, hn', hf, hk => by simp at hi
  | r :: σ, g :: fps, 0, fp, fp', r', hl, hn, hi, h, hn', hf, hk => by
    simp at hi; subst hi
    simp only [List.flatten_cons, List.nodup_append] at hn
    refine ⟨⟨h, hl.2.loc fun b hb o ho => hk b o ho fun hg => hn.2.2 b hg b hb rfl⟩, ?_⟩
    simp only [List.set_cons_zero, List.flatten_cons, List.nodup_append]
    refine ⟨hn', hn.2.1, fun a ha b hb hab => ?_⟩
    subst hab
    rcases hf a ha with h1 | h1
    · exact hn.2.2 a h1 a hb rfl
    · have := Lie.has hl.2 a hb; omega
  | r :: σ, g :: fps, i + 1, fp, fp', r', hl, hn, hi, h, hn', hf, hk => by
    simp only [List.getElem?_cons_succ] at hi
    simp only [List.flatten_cons, List.nodup_append] at hn
    obtain ⟨h1, h2⟩ := Lie.set hl.2 hn.2.1 hi h hn' hf hk
    have hmem : ∀ b ∈ fp, b ∈ fps.flatten := fun b hb => List.mem_flatten.2 ⟨fp, List.mem_of_getElem? hi, hb⟩
    refine ⟨⟨r.loc hl.1 fun b hb o ho => hk b o ho fun hg => hn.2.2 b hb b (hmem b hg) rfl, h1⟩, ?_⟩
    simp only [List.set_cons_succ, List.flatten_cons, List.nodup_append]
    refine ⟨hn.1, h2, fun a ha b hb hab => ?_⟩
    subst hab
    obtain ⟨f, hf1, hf2⟩ := List.mem_flatten.1 hb
    rcases List.mem_or_eq_of_mem_set hf1 with hf1 | rfl
    · exact hn.2.2 a ha a (List.mem_flatten.2 ⟨f, hf1, hf2⟩) rfl
    · rcases hf a hf2 with h3 | h3
      · exact hn.2.2 a ha a (hmem a h3) rfl
      · have := r.has hl.1 a ha; omega

/-- Behind H0, which is as it was, the resources σ, each on blocks of its own that H0 hadn't. -/
structure St (H0 H : Heap) (σ : List Rs) : Prop where
  ext : Ext H0 H
  own : ∃ fps, Lie H σ fps ∧ fps.flatten.Nodup ∧ ∀ b ∈ fps.flatten, H0.size ≤ b

theorem St.nil (H : Heap) : St H H [] := ⟨Ext.refl H, [], trivial, by simp, by simp⟩
theorem St.of_ext {H0 H : Heap} (h : Ext H0 H) : St H0 H [] := ⟨h, [], trivial, by simp, by simp⟩

variable {H0 H H' : Heap} {σ τ : List Rs}

theorem nodup_mem : ∀ {fps : List (List Nat)}, fps.flatten.Nodup → ∀ fp ∈ fps, fp.Nodup
  | [], _, fp, h => by cases h
  | g :: r, hn, fp, h => by
    rw [List.flatten_cons, List.nodup_append] at hn
    rcases List.mem_cons.1 h with rfl | h
    · exact hn.1
    · exact nodup_mem hn.2.1 fp h

theorem St.upd (hs : St H0 H σ) {i : Nat} {r r' : Rs} (hi : σ[i]? = some r)
    (h : ∀ fp, r.at_ H fp → fp.Nodup → (∀ b ∈ fp, H0.size ≤ b) → ∃ fp', r'.at_ H' fp' ∧ fp'.Nodup ∧ (∀ b ∈ fp', b ∈ fp ∨ H.size ≤ b) ∧ ∀ b o, H[b]? = some o → b ∉ fp → H'[b]? = some o) : St H0 H' (σ.set i r') := by
  obtain ⟨he, fps, hl, hn, hb⟩ := hs
  obtain ⟨fp, hfp, hat⟩ := hl.get hi
  have hmem : ∀ b ∈ fp, b ∈ fps.flatten := fun b hb => List.mem_flatten.2 ⟨fp, List.mem_of_getElem? hfp, hb⟩
  have hfn : fp.Nodup := nodup_mem hn _ (List.mem_of_getElem? hfp)
  obtain ⟨fp', h1, h2, h3, h4⟩ := h fp hat hfn fun b hb' => hb b (hmem b hb')
  obtain ⟨h5, h6⟩ := hl.set hn hfp h1 h2 h3 h4
  refine ⟨fun b o ho => h4 b o (he b o ho) fun hf => ?_, _, h5, h6, fun b hb' => ?_⟩
  · have := hb b (hmem b hf); have := lt_of_get ho; omega
  · obtain ⟨f, hf1, hf2⟩ := List.mem_flatten.1 hb'
    rcases List.mem_or_eq_of_mem_set hf1 with hf1 | rfl
    · exact hb b (List.mem_flatten.2 ⟨f, hf1, hf2⟩)
    · rcases h3 b hf2 with h7 | h7
      · exact hb b (hmem b h7)
      · have := he.size; omega

/-- The resource is seen otherwise. -/
theorem St.as (hs : St H0 H σ) (i : Nat) {r r' : Rs} (hi : σ[i]? = some r) (h : ∀ fp, r.at_ H fp → r'.at_ H fp) : St H0 H (σ.set i r') :=
  hs.upd hi fun fp h1 h2 _ => ⟨fp, h fp h1, h2, fun b hb => .inl hb, fun b o ho _ => ho⟩

theorem St.step (hs : St H0 H σ) (he : Ext H H') : St H0 H' σ := by
  obtain ⟨h1, fps, hl, hn, hb⟩ := hs
  exact ⟨h1.trans he, fps, hl.loc fun b _ o ho => he b o ho, hn, hb⟩

theorem Lie.append {H : Heap} : ∀ {σ τ : List Rs} {f g : List (List Nat)}, Lie H σ f → Lie H τ g → Lie H (σ ++ τ) (f ++ g)
  | [], _, [], _, _, h => h
  | _ :: _, _, _ :: _, _, h, h' => ⟨h.1, Lie.append h.2 h'⟩
theorem Lie.split {H : Heap} : ∀ {σ τ : List Rs} {f : List (List Nat)}, Lie H (σ ++ τ) f → ∃ a b, f = a ++ b ∧ Lie H σ a ∧ Lie H τ b
  | [], _, f, h => ⟨[], f, rfl, trivial, h⟩
  | r :: σ, τ, [], h => h.elim
  | r :: σ, τ, g :: f, h => let ⟨a, b, e, h1, h2⟩ := Lie.split h.2; ⟨g :: a, b, by rw [e]; rfl, ⟨h.1, h1⟩, h2⟩

/-- Behind a call that leaves what there was as it was. -/
theorem St.call (hs : St H0 H σ) (ht : St H H' τ) : St H0 H' (τ ++ σ) := by
  obtain ⟨h1, fps, hl, hn, hb⟩ := hs
  obtain ⟨h2, gps, hl2, hn2, hb2⟩ := ht
  refine ⟨h1.trans h2, gps ++ fps, hl2.append (hl.loc fun b _ o ho => h2 b o ho), ?_, fun b h => ?_⟩
  · rw [List.flatten_append, List.nodup_append]
    refine ⟨hn2, hn, fun a ha b hb' hab => ?_⟩
    subst hab
    have := hb2 a ha; have := hl.has a hb'; omega
  · rw [List.flatten_append, List.mem_append] at h
    rcases h with h | h
    · have := hb2 b h; have := h1.size; omega
    · exact hb b h

theorem St.perm (hs : St H0 H σ) (hp : σ.Perm τ) : St H0 H τ := by
  obtain ⟨he, fps, hl, hn, hb⟩ := hs
  have : ∀ {σ τ : List Rs}, σ.Perm τ → ∀ fps, Lie H σ fps → ∃ gps, Lie H τ gps ∧ fps.Perm gps := by
    intro σ τ hp
    induction hp with
    | nil => intro fps h; exact ⟨fps, h, List.Perm.refl _⟩
    | cons x _ ih =>
      intro fps h
      match fps, h with
      | f :: fps, h => obtain ⟨g, h1, h2⟩ := ih fps h.2; exact ⟨f :: g, ⟨h.1, h1⟩, h2.cons f⟩
    | swap x y l =>
      intro fps h
      match fps, h with
      | f :: g :: fps, h => exact ⟨g :: f :: fps, ⟨h.2.1, h.1, h.2.2⟩, List.Perm.swap _ _ _⟩
    | trans _ _ ih1 ih2 =>
      intro fps h
      obtain ⟨g, h1, h2⟩ := ih1 fps h
      obtain ⟨k, h3, h4⟩ := ih2 g h1
      exact ⟨k, h3, h2.trans h4⟩
  obtain ⟨gps, h1, h2⟩ := this hp fps hl
  exact ⟨he, gps, h1, (h2.flatten.nodup_iff).1 hn, fun b h => hb b ((h2.flatten.mem_iff).2 h)⟩

theorem St.app (hs : St H0 H (σ ++ τ)) : St H0 H σ ∧ St H0 H τ := by
  obtain ⟨he, fps, hl, hn, hb⟩ := hs
  obtain ⟨a, b, rfl, h1, h2⟩ := hl.split
  rw [List.flatten_append, List.nodup_append] at hn
  rw [List.flatten_append] at hb
  exact ⟨⟨he, a, h1, hn.1, fun x hx => hb x (List.mem_append_left _ hx)⟩, ⟨he, b, h2, hn.2.1, fun x hx => hb x (List.mem_append_right _ hx)⟩⟩
theorem St.tail {r : Rs} (hs : St H0 H (r :: σ)) : St H0 H σ := (St.app (σ := [r]) hs).2
theorem St.drop (hs : St H0 H σ) (n : Nat) : St H0 H (σ.drop n) := by
  rw [← List.take_append_drop n σ] at hs
  exact hs.app.2
theorem St.take (hs : St H0 H σ) (n : Nat) : St H0 H (σ.take n) := by
  rw [← List.take_append_drop n σ] at hs
  exact hs.app.1
theorem St.swap {r s : Rs} (hs : St H0 H (r :: s :: σ)) : St H0 H (s :: r :: σ) := hs.perm (List.Perm.swap _ _ _)
/-- The resource at a place comes to the front. -/
theorem St.front (hs : St H0 H σ) (i : Nat) {r : Rs} (hi : σ[i]? = some r) : St H0 H (r :: σ.eraseIdx i) := by
  refine hs.perm ?_
  have : ∀ (l : List Rs) (i : Nat), l[i]? = some r → l.Perm (r :: l.eraseIdx i) := by
    intro l
    induction l with
    | nil => intro i h; simp at h
    | cons x l ih =>
      intro i h
      cases i with
      | zero => simp at h; subst h; exact List.Perm.refl _
      | succ i => exact ((ih i (by simpa using h)).cons x).trans (List.Perm.swap _ _ _)
  exact this σ i hi
/-- And goes back, changed. -/
theorem St.back {r r' : Rs} {i : Nat} (hi : σ[i]? = some r) (hs : St H0 H (r' :: σ.eraseIdx i)) : St H0 H (σ.set i r') := by
  refine hs.perm ?_
  have : ∀ (l : List Rs) (i : Nat), l[i]? = some r → (r' :: l.eraseIdx i).Perm (l.set i r') := by
    intro l
    induction l with
    | nil => intro i h; simp at h
    | cons x l ih =>
      intro i h
      cases i with
      | zero => exact List.Perm.refl _
      | succ i => exact (List.Perm.swap _ _ _).trans ((ih i (by simpa using h)).cons x)
  exact this σ i hi
theorem St.del (hs : St H0 H σ) (i : Nat) : St H0 H (σ.eraseIdx i) := by
  rcases Nat.lt_or_ge i σ.length with h | h
  · exact (hs.front i (List.getElem?_eq_getElem h)).tail
  · rw [List.eraseIdx_of_length_le h]; exact hs
theorem St.cat {r s : Rs} (hs : St H0 H (r :: s :: σ)) : St H0 H (.star r s :: σ) := by
  obtain ⟨he, fps, hl, hn, hb⟩ := hs
  match fps, hl with
  | f :: g :: fps, hl => exact ⟨he, (f ++ g) :: fps, ⟨⟨f, g, rfl, hl.1, hl.2.1⟩, hl.2.2⟩, by simpa using hn, fun b h => hb b (by simpa using h)⟩
theorem St.cut {r s : Rs} (hs : St H0 H (.star r s :: σ)) : St H0 H (r :: s :: σ) := by
  obtain ⟨he, fps, hl, hn, hb⟩ := hs
  match fps, hl with
  | _ :: fps, ⟨⟨f, g, rfl, h1, h2⟩, h3⟩ => exact ⟨he, f :: g :: fps, ⟨h1, h2, h3⟩, by simpa using hn, fun b h => hb b (by simpa using h)⟩
theorem St.unex {α : Type} {f : α → Rs} (hs : St H0 H (.ex f :: σ)) : ∃ a, St H0 H (f a :: σ) := by
  obtain ⟨he, fps, hl, hn, hb⟩ := hs
  match fps, hl with
  | g :: fps, ⟨⟨a, h1⟩, h3⟩ => exact ⟨a, he, g :: fps, ⟨h1, h3⟩, hn, hb⟩
theorem St.inex {α : Type} {f : α → Rs} (a : α) (hs : St H0 H (f a :: σ)) : St H0 H (.ex f :: σ) := by
  obtain ⟨he, fps, hl, hn, hb⟩ := hs
  match fps, hl with
  | g :: fps, ⟨h1, h3⟩ => exact ⟨he, g :: fps, ⟨⟨a, h1⟩, h3⟩, hn, hb⟩
theorem St.fact {q : Prop} {r : Rs} (hs : St H0 H (.pu q r :: σ)) : q ∧ St H0 H (r :: σ) := by
  obtain ⟨he, fps, hl, hn, hb⟩ := hs
  match fps, hl with
  | g :: fps, ⟨⟨a, h1⟩, h3⟩ => exact ⟨a, he, g :: fps, ⟨h1, h3⟩, hn, hb⟩
theorem St.with {q : Prop} {r : Rs} (hq : q) (hs : St H0 H (r :: σ)) : St H0 H (.pu q r :: σ) := by
  obtain ⟨he, fps, hl, hn, hb⟩ := hs
  match fps, hl with
  | g :: fps, ⟨h1, h3⟩ => exact ⟨he, g :: fps, ⟨⟨hq, h1⟩, h3⟩, hn, hb⟩
/-- Something new. -/
theorem St.new (hs : St H0 H σ) {r : Rs} {fp : List Nat} (he : Ext H H') (h : r.at_ H' fp) (hn : fp.Nodup) (hb : ∀ b ∈ fp, H.size ≤ b) : St H0 H' (r :: σ) :=
  St.call (τ := [r]) hs ⟨he, [fp], ⟨h, trivial⟩, by simpa using hn, by simpa using hb⟩

theorem St.block (hs : St H0 H σ) (i : Nat) {b : Nat} {cs : Array Value} {ty : TypeId} (hi : σ[i]? = some (.cell b cs ty)) : H[b]? = some (.cells cs ty) := by
  obtain ⟨_, fps, hl, _⟩ := hs
  obtain ⟨fp, _, h⟩ := hl.get hi
  exact h.2
theorem St.get (hs : St H0 H σ) (i : Nat) {b j : Nat} {cs : Array Value} {ty : TypeId} {v : Value} (hi : σ[i]? = some (.cell b cs ty)) (hj : cs[j]? = some v) : Sh.cell H ⟨b, j, none⟩ = some v :=
  cell_get (hs.block i hi) hj
theorem St.alc (hs : St H0 H σ) {cs : Array Value} {ty : TypeId} {K : Nat → Heap → Prop} (hK : ∀ b H', St H0 H' (.cell b cs ty :: σ) → K b H') : Sh.alc H (.cells cs ty) K :=
  hK _ _ (hs.new (Ext.push _ _) (fp := [H.size]) ⟨rfl, get_push_self _ _⟩ (by simp) (by simp))
theorem St.alcE (hs : St H0 H σ) {cs : Array Value} {ty : TypeId} {K : Nat → Heap → Prop} (hK : ∀ b H', Ext H H' → St H0 H' (.cell b cs ty :: σ) → K b H') : Sh.alc H (.cells cs ty) K :=
  hK _ _ (Ext.push _ _) (hs.new (Ext.push _ _) (fp := [H.size]) ⟨rfl, get_push_self _ _⟩ (by simp) (by simp))
theorem St.put (hs : St H0 H σ) (i : Nat) {b j : Nat} {cs : Array Value} {ty : TypeId} {v : Value} {f : Heap → Prop} (hi : σ[i]? = some (.cell b cs ty)) (hj : j < cs.size) (ho : v.oneCell' = true)
    (hK : ∀ H', St H0 H' (σ.set i (.cell b (cs.setIfInBounds j v) ty)) → f H') : stAt H ⟨b, j, none⟩ [v] f :=
  stAt_one (hs.block i hi) hj ho (hK _ (hs.upd hi fun fp h1 _ _ => ⟨[b], ⟨rfl, get_set_self h1.2⟩, by simp, fun x hx => .inl (h1.1 ▸ hx), fun x o ho hx => get_set_ne (fun he => hx (by rw [h1.1, he]; exact List.mem_singleton.2 rfl)) ho⟩))
theorem St.putAll (hs : St H0 H σ) (i : Nat) {b : Nat} {cs : Array Value} {ty : TypeId} {vs : List Value} {f : Heap → Prop} (hi : σ[i]? = some (.cell b cs ty)) (hl : vs.length = cs.size) (ho : ∀ v ∈ vs, v.oneCell' = true)
    (hK : ∀ H', St H0 H' (σ.set i (.cell b vs.toArray ty)) → f H') : stAt H ⟨b, 0, none⟩ vs f :=
  stAt_whole (hs.block i hi) hl ho (hK _ (hs.upd hi fun fp h1 _ _ => ⟨[b], ⟨rfl, get_set_self h1.2⟩, by simp, fun x hx => .inl (h1.1 ▸ hx), fun x o ho hx => get_set_ne (fun he => hx (by rw [h1.1, he]; exact List.mem_singleton.2 rfl)) ho⟩))
/-- Some cells of a block in a row. -/
theorem St.putRow (hs : St H0 H σ) (i : Nat) {b j : Nat} {cs : Array Value} {ty : TypeId} {vs : List Value} {f : Heap → Prop} (hi : σ[i]? = some (.cell b cs ty)) (hl : j + vs.length ≤ cs.size) (ho : ∀ v ∈ vs, v.oneCell' = true)
    (hK : ∀ H', St H0 H' (σ.set i (.cell b (setL cs.toList j vs).toArray ty)) → f H') : stAt H ⟨b, j, none⟩ vs f :=
  ⟨cs, ty, hs.block i hi, rfl, hl, ho, hK _ (hs.upd hi fun fp h1 _ _ => ⟨[b], ⟨rfl, get_set_self h1.2⟩, by simp, fun x hx => .inl (h1.1 ▸ hx), fun x o ho hx => get_set_ne (fun he => hx (by rw [h1.1]; exact List.mem_singleton.2 he.symm)) ho⟩)⟩

theorem St.fs (hs : St H0 H σ) (i : Nat) {p : Option Addr} {l c k : Nat} {el : TypeId} {fs : List Value} (hi : σ[i]? = some (.sl p l c el k fs)) : FS 0 H p l c el k fs := by
  obtain ⟨_, fps, hl, _⟩ := hs
  obtain ⟨fp, _, h⟩ := hl.get hi
  exact h.1
theorem St.rs (hs : St H0 H σ) (i : Nat) {p : Option Addr} {l c k : Nat} {el : TypeId} {fs : List Value} (hi : σ[i]? = some (.sl p l c el k fs)) : RS H p l el k fs := (hs.fs i hi).rs
theorem St.is (hs : St H0 H σ) (i : Nat) {p : Option Addr} {l c : Nat} {el : TypeId} {fs : List Value} (hi : σ[i]? = some (.sl p l c el 1 fs)) : IS H p l fs := (hs.rs i hi).is

theorem FS.resrc {n0 : Nat} {H : Heap} {p : Option Addr} {l c k : Nat} {el : TypeId} {fs : List Value} (h : FS n0 H p l c el k fs) : ∃ fp, (Rs.sl p l c el k fs).at_ H fp ∧ fp.Nodup ∧ (∀ b ∈ fp, n0 ≤ b) ∧ ∀ b ∈ fp, p = some ⟨b, 0, none⟩ := by
  rcases h.at_ with ⟨h1, h2⟩ | ⟨blk, cs, h1, h2, h3, h4, h5⟩
  · exact ⟨[], ⟨h.lower (Nat.zero_le _), .inl ⟨h1, rfl⟩⟩, by simp, by simp, by simp⟩
  · exact ⟨[blk], ⟨h.lower (Nat.zero_le _), .inr ⟨blk, h1, rfl⟩⟩, by simp, by simpa using h2, by simpa using h1⟩
/-- A slice of one's own that a call has made. -/
theorem St.newSl (hs : St H0 H σ) {p : Option Addr} {l c k : Nat} {el : TypeId} {fs : List Value} (he : Ext H H') (h : FS H.size H' p l c el k fs) : St H0 H' (.sl p l c el k fs :: σ) := by
  obtain ⟨fp, h1, h2, h3, _⟩ := h.resrc
  exact hs.new he h1 h2 h3
theorem St.nilSl (hs : St H0 H σ) (el : TypeId) (k : Nat) : St H0 H (.sl none 0 0 el k [] :: σ) := hs.newSl (Ext.refl _) (FS.nil _ _ _ _)
/-- A whole block seen as a slice. -/
theorem St.toSl (hs : St H0 H σ) (i : Nat) {b l k : Nat} {cs : Array Value} {ty : TypeId} {fs : List Value} (hi : σ[i]? = some (.cell b cs ty)) (hl : cs.size = l * k) (hf : cs.toList = fs) (ho : ∀ v ∈ fs, v.oneCell' = true) :
    St H0 H (σ.set i (.sl (some ⟨b, 0, none⟩) l l ty k fs)) :=
  hs.as i hi fun fp h => ⟨⟨by rw [← hf]; simpa using hl, Nat.le_refl _, ho, .inr ⟨b, cs, rfl, Nat.zero_le _, h.2, hl, fun j v hv => by rw [← hf] at hv; simpa using hv⟩⟩, .inr ⟨b, rfl, h.1⟩⟩

theorem FS.app2 {n0 : Nat} {H : Heap} {p q : Option Addr} {l c n : Nat} {el : TypeId} {k bytes : Nat} {zero : Array Value} {fs gs : List Value} (h : FS n0 H p l c el k fs) (hrow : Go.Sh.rowOf H q (n * k) gs.toArray) (hgl : gs.length = n * k) (hgo : ∀ v ∈ gs, v.oneCell' = true) (hk : 0 < k) (hn : n0 ≤ H.size) (hz : zero.size = k)
    (hb : (l + n) * bytes ≤ 70368744177664) (hm : l + n ≤ 1000000000000) {K : Option Addr → Nat → Nat → Heap → Prop}
    (hK : ∀ p' c' H', FS n0 H' p' (l + n) c' el k (fs ++ gs) → (∀ (b : Nat) (o : Obj), H[b]? = some o → p ≠ some ⟨b, 0, none⟩ → H'[b]? = some o) → (p' = p ∨ p' = some ⟨H.size, 0, none⟩) → K p' (l + n) c' H') : appQ k bytes zero H p l c q n el K := by
  by_cases hle : l + n ≤ c
  · obtain ⟨g1, g2, xs, g3, g4, _⟩ := h.app' (K := fun p' l' c' H' => p' = p → K p' l' c' H') hrow hgl hgo hk hn hz hb hm fun p' c' H' h1 h2 h3 hp => hK p' c' H' h1 h2 (.inl hp)
    refine ⟨g1, g2, xs, g3, fun hle => ?_, fun hlt => by omega⟩
    have := g4 hle
    cases p with
    | none => exact this rfl
    | some a =>
      obtain ⟨cs, T, a1, a2, a3, a4, a5⟩ := this
      exact ⟨cs, T, a1, a2, a3, a4, a5 rfl⟩
  · obtain ⟨g1, g2, xs, g3, _, g4⟩ := h.app' (K := fun p' l' c' H' => p' = some ⟨H.size, 0, none⟩ → K p' l' c' H') hrow hgl hgo hk hn hz hb hm fun p' c' H' h1 h2 h3 hp => hK p' c' H' h1 h2 (.inr hp)
    refine ⟨g1, g2, xs, g3, fun hle' => by omega, fun hlt => ?_⟩
    obtain ⟨ys, b1, b2⟩ := g4 hlt
    exact ⟨ys, b1, fun c' hc' => b2 c' hc' rfl⟩

theorem Rs.sl_at {H : Heap} {p : Option Addr} {l c k : Nat} {el : TypeId} {fs : List Value} {fp : List Nat} (h : (Rs.sl p l c el k fs).at_ H fp) {b : Nat} (hp : p = some ⟨b, 0, none⟩) : fp = [b] := by
  rcases h.2 with ⟨h1, _⟩ | ⟨blk, h1, h2⟩
  · rw [hp] at h1; cases h1
  · rw [hp] at h1; cases h1; exact h2

theorem St.slSet (hs : St H0 H σ) {i : Nat} {p p' : Option Addr} {l c l' c' k : Nat} {el : TypeId} {fs fs' : List Value} (hi : σ[i]? = some (.sl p l c el k fs)) (h : FS 0 H' p' l' c' el k fs')
    (hk : ∀ (b : Nat) (o : Obj), H[b]? = some o → p ≠ some ⟨b, 0, none⟩ → H'[b]? = some o) (hp : p' = p ∨ p' = some ⟨H.size, 0, none⟩) : St H0 H' (σ.set i (.sl p' l' c' el k fs')) := by
  refine hs.upd hi fun fp h1 h2 h3 => ?_
  obtain ⟨fp', g1, g2, _, g4⟩ := h.resrc
  refine ⟨fp', g1, g2, fun b hb => ?_, fun b o ho hb => hk b o ho fun he => hb (by rw [Rs.sl_at h1 he]; exact List.mem_singleton.2 rfl)⟩
  have := g4 b hb
  rcases hp with rfl | hp
  · left; rw [Rs.sl_at h1 this]; exact List.mem_singleton.2 rfl
  · rw [this] at hp; cases hp; exact .inr (Nat.le_refl _)

/-- Append to a slice of one's own, of any stretch that can be read. -/
theorem St.appS (hs : St H0 H σ) (i : Nat) {p q : Option Addr} {l c n k bytes : Nat} {el : TypeId} {zero : Array Value} {fs gs : List Value} (hi : σ[i]? = some (.sl p l c el k fs)) (hrow : Go.Sh.rowOf H q (n * k) gs.toArray) (hgl : gs.length = n * k)
    (hgo : ∀ v ∈ gs, v.oneCell' = true) (hk : 0 < k) (hz : zero.size = k) (hb : (l + n) * bytes ≤ 70368744177664) (hm : l + n ≤ 1000000000000) {K : Option Addr → Nat → Nat → Heap → Prop}
    (hK : ∀ p' c' H', St H0 H' (σ.set i (.sl p' (l + n) c' el k (fs ++ gs))) → K p' (l + n) c' H') : appQ k bytes zero H p l c q n el K :=
  (hs.fs i hi).app2 hrow hgl hgo hk (Nat.zero_le _) hz hb hm fun p' c' H' h1 h2 h3 => hK p' c' H' (hs.slSet hi h1 h2 h3)
/-- Append of what a new block holds (one element, or some). -/
theorem St.appC (hs : St H0 H σ) (i m : Nat) {p : Option Addr} {b l c n k bytes : Nat} {el ty : TypeId} {zero cs : Array Value} {fs : List Value} (hi : σ[i]? = some (.sl p l c el k fs)) (hm' : σ[m]? = some (.cell b cs ty)) (hgl : cs.size = n * k)
    (hgo : ∀ v ∈ cs.toList, v.oneCell' = true) (hk : 0 < k) (hz : zero.size = k) (hb : (l + n) * bytes ≤ 70368744177664) (hm : l + n ≤ 1000000000000) {K : Option Addr → Nat → Nat → Heap → Prop}
    (hK : ∀ p' c' H', St H0 H' (σ.set i (.sl p' (l + n) c' el k (fs ++ cs.toList))) → K p' (l + n) c' H') : appQ k bytes zero H p l c (some ⟨b, 0, none⟩) n el K :=
  hs.appS i hi (gs := cs.toList) (show Go.Sh.rowOf H (Option.some ⟨b, 0, none⟩) (n * k) cs.toList.toArray from ⟨by simpa using hgl, by simpa using rowIn_whole (hs.block m hm')⟩) (by simpa using hgl) hgo hk hz hb hm hK
theorem IS.rowOf {H : Heap} {p : Option Addr} {l : Nat} {fs : List Value} (h : IS H p l fs) : Go.Sh.rowOf H p (l * 1) fs.toArray := by
  cases p with
  | none =>
    have : fs = [] := List.eq_nil_iff_forall_not_mem.2 fun v hv => by
      obtain ⟨i, hi⟩ := List.getElem?_of_mem hv
      obtain ⟨a, h1, _⟩ := h.get i v hi
      cases h1
    subst this; rfl
  | some a =>
    refine ⟨by simp [h.len], fun j v hv => ?_⟩
    obtain ⟨a', h1, h2⟩ := h.get j v (by simpa using hv)
    cases h1; exact h2
theorem St.appI (hs : St H0 H σ) (i : Nat) {p q : Option Addr} {l c n bytes : Nat} {el : TypeId} {zero : Array Value} {fs gs : List Value} (hi : σ[i]? = some (.sl p l c el 1 fs)) (hr : IS H q n gs) (ho : ∀ v ∈ gs, v.oneCell' = true) (hz : zero.size = 1)
    (hb : (l + n) * bytes ≤ 70368744177664) (hm : l + n ≤ 1000000000000) {K : Option Addr → Nat → Nat → Heap → Prop}
    (hK : ∀ p' c' H', St H0 H' (σ.set i (.sl p' (l + n) c' el 1 (fs ++ gs))) → K p' (l + n) c' H') : appQ 1 bytes zero H p l c q n el K :=
  hs.appS i hi hr.rowOf (by simp [hr.len]) ho (by decide) hz hb hm hK

/-- One cell of a slice of one's own is written. -/
theorem St.slPut (hs : St H0 H σ) (i : Nat) {b l c k j : Nat} {el : TypeId} {fs : List Value} {v : Value} {f : Heap → Prop} (hi : σ[i]? = some (.sl (some ⟨b, 0, none⟩) l c el k fs)) (hj : j < fs.length) (ho : v.oneCell' = true)
    (hK : ∀ H', St H0 H' (σ.set i (.sl (some ⟨b, 0, none⟩) l c el k (fs.set j v))) → f H') : stAt H ⟨b, j, none⟩ [v] f :=
  (hs.fs i hi).set hj ho fun H' h1 h2 h3 => hK H' (hs.slSet hi h1 (fun b' o ho hne => h2 b' o ho fun he => hne (by rw [he])) (.inl rfl))
/-- A slice that holds something has a block. -/
theorem St.slSome (hs : St H0 H σ) (i : Nat) {p : Option Addr} {l c k j : Nat} {el : TypeId} {fs : List Value} (hi : σ[i]? = some (.sl p l c el k fs)) (hj : j < fs.length) : ∃ b, p = some ⟨b, 0, none⟩ := by
  obtain ⟨b, h, _⟩ := (hs.rs i hi).cell (List.getElem?_eq_getElem hj)
  exact ⟨b, h⟩

def kints (k : IntKind) (l : List Int) : List Value := l.map (Value.int k)
theorem kints_get {k : IntKind} {l : List Int} {i : Nat} {v : Int} (h : l[i]? = some v) : (kints k l)[i]? = some (Value.int k v) := by simp [kints, h]
theorem kints_len (k : IntKind) (l : List Int) : (kints k l).length = l.length := by simp [kints]
theorem kints_set (k : IntKind) (l : List Int) (i : Nat) (v : Int) : (kints k l).set i (.int k v) = kints k (l.set i v) := by simp [kints]
theorem kints_one (k : IntKind) (l : List Int) : ∀ v ∈ kints k l, v.oneCell' = true := fun v hv => by
  obtain ⟨x, _, rfl⟩ := List.mem_map.1 hv; rfl
/-- The element at a place is read. -/
theorem IS.rd {H : Heap} {p : Option Addr} {l : Nat} {k : IntKind} {ls : List Int} (h : IS H p l (kints k ls)) {i x : Int} (h0 : 0 ≤ i) (h1 : i < l) (hx : ls[i.toNat]? = some x) {K : Int → Prop} (hK : K x) :
    ∃ a : Addr, p = some a ∧ 0 ≤ i ∧ i < ((l : Nat) : Int) ∧ ∃ v : Int, Sh.cell H (Addr.add a (Int.toNat i * 1)) = some (.int k v) ∧ K v := by
  obtain ⟨a, hp, hc⟩ := h.get _ _ (kints_get hx)
  exact ⟨a, hp, h0, h1, x, by simpa using hc, hK⟩
theorem IS.length {H : Heap} {p : Option Addr} {l : Nat} {k : IntKind} {ls : List Int} (h : IS H p l (kints k ls)) : ls.length = l := by have := h.len; rwa [kints_len] at this
theorem add_add (a : Addr) (i j : Nat) : (a.add i).add j = a.add (i + j) := by
  obtain ⟨b, o, s⟩ := a
  unfold Addr.add
  cases s <;> simp <;> split <;> split <;> simp_all <;> omega
/-- Part of a slice that came in. -/
theorem IS.part {H : Heap} {a : Addr} {l : Nat} {fs : List Value} (h : IS H (some a) l fs) {i n : Nat} (hi : i + n ≤ l) : IS H (some (a.add i)) n ((fs.drop i).take n) := by
  refine ⟨by have := h.len; simp; omega, fun j v hv => ?_⟩
  rw [List.getElem?_take] at hv
  split at hv
  · rw [List.getElem?_drop] at hv
    obtain ⟨a', h1, h2⟩ := h.get _ _ hv
    cases h1
    refine ⟨_, rfl, ?_⟩
    rw [show (a.add i).add j = a.add (i + j) from add_add a i j]
    exact h2
  · cases hv

/-- Going up to n. -/
theorem upto {n : Nat} {Q : Nat → Prop} (h : ∀ i, i ≤ n → (i < n → Q (i + 1)) → Q i) : ∀ i, i ≤ n → Q i := by
  have : ∀ m i, n - i = m → i ≤ n → Q i := by
    intro m
    induction m with
    | zero => intro i hm hi; exact h i hi fun hlt => by omega
    | succ m ih => intro i hm hi; exact h i hi fun hlt => ih (i + 1) (by omega) (by omega)
  exact fun i hi => this (n - i) i rfl hi
end Go.Sh

/-
  OWN WORK. The shallow layer, part 16: blocks of numbers (Go's arrays), filled one by one; sums.
-/
set_option linter.unusedVariables false
set_option linter.unusedSimpArgs false
namespace Go.Sh
variable {H0 H : Heap} {σ : List Rs}

theorem intsA_size (l : List Int) : (ints l).toArray.size = l.length := by simp [ints]

/-- A number of an array is read. -/
theorem St.rdA (hs : St H0 H σ) (i : Nat) {b j : Nat} {l : List Int} {ty : TypeId} {x : Int} (hi : σ[i]? = some (.cell b (ints l).toArray ty)) (hx : l[j]? = some x) : Sh.cell H ⟨b, j, none⟩ = some (.int .i64 x) :=
  hs.get i hi (by rw [List.getElem?_toArray]; exact ints_get hx)
/-- A number of an array is written. -/
theorem St.putA (hs : St H0 H σ) (i : Nat) {b j : Nat} {l : List Int} {ty : TypeId} {x : Int} {f : Heap → Prop} (hi : σ[i]? = some (.cell b (ints l).toArray ty)) (hj : j < l.length)
    (hK : ∀ H', St H0 H' (σ.set i (.cell b (ints (l.set j x)).toArray ty)) → f H') : stAt H ⟨b, j, none⟩ [.int .i64 x] f :=
  hs.put i hi (by rw [intsA_size]; exact hj) rfl fun H' hs' => hK H' (by
    have e : (ints l).toArray.setIfInBounds j (Value.int .i64 x) = (ints (l.set j x)).toArray := by rw [← ints_set]; simp
    rw [← e]; exact hs')
/-- An array is written whole. -/
theorem St.putAllA (hs : St H0 H σ) (i : Nat) {b : Nat} {cs : Array Value} {l : List Int} {ty : TypeId} {f : Heap → Prop} (hi : σ[i]? = some (.cell b cs ty)) (hl : l.length = cs.size)
    (hK : ∀ H', St H0 H' (σ.set i (.cell b (ints l).toArray ty)) → f H') : stAt H ⟨b, 0, none⟩ (Array.toList (ints l).toArray) f :=
  hs.putAll i hi (by simpa [ints] using hl) (fun v hv => ints_one l v (by simpa using hv)) fun H' hs' => hK H' (by simpa using hs')

theorem reps_rep (v : Value) : ∀ n, reps n [v] = List.replicate n v
  | 0 => rfl
  | n + 1 => by rw [reps, reps_rep v n, List.replicate_succ]; rfl
theorem repsA (n : Nat) : (reps n (Array.toList #[Value.int .i64 0])).toArray = (ints (List.replicate n 0)).toArray := by
  show (reps n [Value.int .i64 0]).toArray = _
  rw [reps_rep]; simp [ints]
theorem getD_some {α : Type} (a : List α) (d : α) {i : Nat} (h : i < a.length) : a[i]? = some (a.getD i d) := by rw [List.getD_eq_getElem?_getD, List.getElem?_eq_getElem h]; rfl
/-- Filled up to s. -/
def fillA (L : List Int) (s : Nat) : List Int := L.take s ++ List.replicate (L.length - s) 0
theorem fillA_len {L : List Int} {s : Nat} (h : s ≤ L.length) : (fillA L s).length = L.length := by unfold fillA; simp; omega
theorem fillA_zero (L : List Int) : fillA L 0 = List.replicate L.length 0 := by simp [fillA]
theorem fillA_all (L : List Int) : fillA L L.length = L := by simp [fillA]
theorem fillA_set {L : List Int} {s : Nat} (h : s < L.length) : (fillA L s).set s (L.getD s 0) = fillA L (s + 1) := by
  unfold fillA
  have ht : L.take (s + 1) = L.take s ++ [L.getD s 0] := by rw [List.take_add_one, getD_some L 0 h]; rfl
  rw [ht, List.set_append_right _ _ (by rw [List.length_take]; omega), List.length_take, Nat.min_eq_left (by omega), Nat.sub_self, show L.length - s = (L.length - (s + 1)) + 1 from by omega, List.replicate_succ, List.set_cons_zero, List.append_assoc]
  rfl
theorem fillA_at {L : List Int} {s : Nat} (h : s < L.length) : (fillA L s)[s]? = some 0 := by
  unfold fillA
  rw [List.getElem?_append_right (by rw [List.length_take]; omega), List.length_take, Nat.min_eq_left (by omega), Nat.sub_self, show L.length - s = (L.length - (s + 1)) + 1 from by omega, List.replicate_succ]
  rfl
theorem fillA_set0 {L : List Int} {s : Nat} (h : s < L.length) : (fillA L s).set s 0 = fillA L s := by
  have h1 := fillA_at h
  obtain ⟨h2, h3⟩ := List.getElem?_eq_some_iff.1 h1
  rw [← h3, List.set_getElem_self]
theorem tab_getD {n : Nat} {f : Nat → Int} {i : Nat} (h : i < n) : ((List.range n).map f).getD i 0 = f i := by simp [List.getD_eq_getElem?_getD, h]
theorem tab_get {n : Nat} {f : Nat → Int} {i : Nat} (h : i < n) : ((List.range n).map f)[i]? = some (f i) := by simp [h]
theorem mul_bd {x y A B : Int} (hx : -A ≤ x ∧ x ≤ A) (hy : -B ≤ y ∧ y ≤ B) : -(A * B) ≤ x * y ∧ x * y ≤ A * B := by
  have h1 : x.natAbs ≤ A.toNat := by omega
  have h2 : y.natAbs ≤ B.toNat := by omega
  have h3 := Nat.mul_le_mul h1 h2
  rw [← Int.natAbs_mul] at h3
  have h4 : ((A.toNat * B.toNat : Nat) : Int) = A * B := by
    rw [Int.natCast_mul, Int.toNat_of_nonneg (by omega), Int.toNat_of_nonneg (by omega)]
  omega
end Go.Sh

/-
  OWN WORK. Layers, plain, and how they lie in a heap: to be read, and as one's own.
-/
set_option linter.unusedVariables false
set_option linter.unusedSimpArgs false
namespace Go.Proofs
open Go.Sh

structure M6 where
  a : Int
  b : Int
  c : Int
  d : Int
  e : Int
  f : Int
  deriving DecidableEq
def M6.l (m : M6) : List Int := [m.a, m.b, m.c, m.d, m.e, m.f]

/-- What a layer has, but for its kids. -/
structure LayF where
  id : Int
  kind : Int
  hidden : Bool
  opacity : Int
  mode : Int
  w : Int
  h : Int
  p : List Int
  mask : List Int
  map : M6
  smooth : Bool
  table : Int
  params : List Int
  deriving DecidableEq

inductive Lay where
  | mk (f : LayF) (kids : List Lay)
def Lay.f : Lay → LayF
  | .mk f _ => f
def Lay.kids : Lay → List Lay
  | .mk _ k => k

structure Sl3 where
  p : Option Addr
  l : Nat
  c : Nat
def Sl3.v (s : Sl3) : Value := .slice s.p s.l s.c
def Sl3.nil : Sl3 := ⟨none, 0, 0⟩

/-- A layer with its slices. -/
inductive T where
  | mk (f : LayF) (P M A K : Sl3) (kids : List T)
def T.f : T → LayF
  | .mk f _ _ _ _ _ => f
def T.K : T → Sl3
  | .mk _ _ _ _ K _ => K
def T.P' : T → Sl3
  | .mk _ P _ _ _ _ => P
def T.M' : T → Sl3
  | .mk _ _ M _ _ _ => M
def T.A' : T → Sl3
  | .mk _ _ _ A _ _ => A
def T.kids : T → List T
  | .mk _ _ _ _ _ k => k

/-- A layer's cells. -/
def cellsL (f : LayF) (P M A K : Value) : List Value :=
  [.int .i64 f.id, .int .i64 f.kind, .bool f.hidden, .int .i64 f.opacity, .int .i64 f.mode, .int .i64 f.w, .int .i64 f.h, P, M,
   .int .i64 f.map.a, .int .i64 f.map.b, .int .i64 f.map.c, .int .i64 f.map.d, .int .i64 f.map.e, .int .i64 f.map.f, .bool f.smooth, .int .i64 f.table, A, K]
def cellsT : T → List Value
  | .mk f P M A K _ => cellsL f P.v M.v A.v K.v
def cellsKs (ts : List T) : List Value := (ts.map cellsT).flatten

theorem cellsT_len (t : T) : (cellsT t).length = 19 := by cases t; rfl
theorem cellsKs_len (ts : List T) : (cellsKs ts).length = ts.length * 19 := by
  unfold cellsKs
  induction ts with
  | nil => rfl
  | cons t ts ih => rw [List.map_cons, List.flatten_cons, List.length_append, ih, cellsT_len, List.length_cons]; omega
theorem cellsT_one (t : T) : ∀ v ∈ cellsT t, v.oneCell' = true := by
  cases t with | mk f P M A K ks =>
  show ∀ v ∈ cellsL f P.v M.v A.v K.v, v.oneCell' = true
  unfold cellsL
  simp only [List.forall_mem_cons]
  exact ⟨rfl, rfl, rfl, rfl, rfl, rfl, rfl, rfl, rfl, rfl, rfl, rfl, rfl, rfl, rfl, rfl, rfl, rfl, rfl, fun _ h => by cases h⟩
theorem cellsL_one (f : LayF) (P M A K : Sl3) : ∀ v ∈ cellsL f P.v M.v A.v K.v, v.oneCell' = true := cellsT_one (.mk f P M A K [])
theorem cellsKs_app (a b : List T) : cellsKs (a ++ b) = cellsKs a ++ cellsKs b := by simp [cellsKs]
theorem cellsKs_one (t : T) : cellsKs [t] = cellsT t := by simp [cellsKs]
theorem cellsKs_cons (t : T) (ts : List T) : cellsKs (t :: ts) = cellsT t ++ cellsKs ts := by simp [cellsKs]
theorem cellsKs_get {ts : List T} {i : Nat} {t : T} (h : ts[i]? = some t) {j : Nat} {v : Value} (hv : (cellsT t)[j]? = some v) : (cellsKs ts)[i * 19 + j]? = some v := by
  have hj : j < 19 := by have := (List.getElem?_eq_some_iff.1 hv).1; rw [cellsT_len] at this; exact this
  induction ts generalizing i with
  | nil => simp at h
  | cons x ts ih =>
    rw [cellsKs_cons]
    cases i with
    | zero =>
      simp at h; subst h
      rw [Nat.zero_mul, Nat.zero_add, List.getElem?_append_left (by rw [cellsT_len]; exact hj)]; exact hv
    | succ i =>
      rw [List.getElem?_append_right (by rw [cellsT_len]; omega), cellsT_len, show (i + 1) * 19 + j - 19 = i * 19 + j from by omega]
      exact ih (by simpa using h)

mutual
def layT : T → Lay
  | .mk f _ _ _ _ ks => .mk f (layKs ks)
def layKs : List T → List Lay
  | [] => []
  | t :: ts => layT t :: layKs ts
end
theorem layKs_map (ts : List T) : layKs ts = ts.map layT := by
  induction ts with
  | nil => rfl
  | cons t ts ih => rw [layKs, ih]; rfl
theorem layKs_len (ts : List T) : (layKs ts).length = ts.length := by rw [layKs_map, List.length_map]
theorem layKs_app (a b : List T) : layKs (a ++ b) = layKs a ++ layKs b := by simp [layKs_map]
theorem layT_f (t : T) : (layT t).f = t.f := by cases t; rfl

/-- By the kids. -/
theorem T.ind {Q : T → Prop} (h : ∀ f P M A K ks, (∀ t ∈ ks, Q t) → Q (.mk f P M A K ks)) : ∀ t, Q t :=
  fun t => T.rec (motive_1 := Q) (motive_2 := fun ts => ∀ t ∈ ts, Q t) (fun f P M A K ks ih => h f P M A K ks ih) (fun _ h => by cases h)
    (fun t ts h1 h2 u hu => by
      rcases List.mem_cons.1 hu with rfl | hu
      · exact h1
      · exact h2 u hu) t
theorem Lay.ind {Q : Lay → Prop} (h : ∀ f ks, (∀ t ∈ ks, Q t) → Q (.mk f ks)) : ∀ t, Q t :=
  fun t => Lay.rec (motive_1 := Q) (motive_2 := fun ts => ∀ t ∈ ts, Q t) (fun f ks ih => h f ks ih) (fun _ h => by cases h)
    (fun t ts h1 h2 u hu => by
      rcases List.mem_cons.1 hu with rfl | hu
      · exact h1
      · exact h2 u hu) t

/-- The rows of a group's kids. -/
def rowsK (H : Heap) (K : Sl3) (ks : List T) : Prop := K.l = ks.length ∧ ∀ (i : Nat) t, ks[i]? = some t → ∃ a, K.p = some a ∧ rowIn H (a.add (i * 19)) (cellsT t).toArray
mutual
def rdT (H : Heap) : T → Prop
  | .mk f P M A K ks => IS H P.p P.l (ints f.p) ∧ IS H M.p M.l (kints .u8 f.mask) ∧ IS H A.p A.l (ints f.params) ∧ rowsK H K ks ∧ rdKs H ks
def rdKs (H : Heap) : List T → Prop
  | [] => True
  | t :: ts => rdT H t ∧ rdKs H ts
end
/-- A group's kids can be read. -/
def grp (H : Heap) (K : Sl3) (ks : List T) : Prop := rowsK H K ks ∧ rdKs H ks

theorem rdKs_iff {H : Heap} : ∀ {ts : List T}, rdKs H ts ↔ ∀ t ∈ ts, rdT H t
  | [] => ⟨fun _ _ h => (by cases h), fun _ => trivial⟩
  | t :: ts => by
    rw [rdKs, rdKs_iff]
    simp only [List.forall_mem_cons]
theorem rowsK.ext {H H' : Heap} {K : Sl3} {ks : List T} (h : rowsK H K ks) (he : Ext H H') : rowsK H' K ks :=
  ⟨h.1, fun i t ht => let ⟨a, h1, h2⟩ := h.2 i t ht; ⟨a, h1, rowAt_ext he h2⟩⟩
theorem rdT.ext {H H' : Heap} (he : Ext H H') : ∀ t, rdT H t → rdT H' t := by
  refine T.ind fun f P M A K ks ih h => ?_
  rw [rdT] at h ⊢
  exact ⟨h.1.ext he, h.2.1.ext he, h.2.2.1.ext he, h.2.2.2.1.ext he, rdKs_iff.2 fun t ht => ih t ht (rdKs_iff.1 h.2.2.2.2 t ht)⟩
theorem grp.ext {H H' : Heap} {K : Sl3} {ks : List T} (h : grp H K ks) (he : Ext H H') : grp H' K ks :=
  ⟨h.1.ext he, rdKs_iff.2 fun t ht => rdT.ext he t (rdKs_iff.1 h.2 t ht)⟩
theorem grp.get {H : Heap} {K : Sl3} {ks : List T} (h : grp H K ks) {i : Nat} {t : T} (ht : ks[i]? = some t) : ∃ a, K.p = some a ∧ rowIn H (a.add (i * 19)) (cellsT t).toArray ∧ rdT H t :=
  let ⟨a, h1, h2⟩ := h.1.2 i t ht
  ⟨a, h1, h2, rdKs_iff.1 h.2 t (List.mem_of_getElem? ht)⟩
theorem grp.nil (H : Heap) : grp H .nil [] := ⟨⟨rfl, fun i t h => by simp at h⟩, trivial⟩
theorem rdT.grp {H : Heap} {t : T} (h : rdT H t) : grp H t.K t.kids := by
  cases t with | mk f P M A K ks =>
  rw [rdT] at h
  exact ⟨h.2.2.2.1, h.2.2.2.2⟩

mutual
def resT : T → List Rs
  | .mk f P M A K ks => .sl P.p P.l P.c 3 1 (ints f.p) :: .sl M.p M.l M.c 5 1 (kints .u8 f.mask) :: .sl A.p A.l A.c 3 1 (ints f.params) :: .sl K.p K.l K.c 58 19 (cellsKs ks) :: resKs ks
def resKs : List T → List Rs
  | [] => []
  | t :: ts => resT t ++ resKs ts
end
def resG (K : Sl3) (ks : List T) : List Rs := .sl K.p K.l K.c 58 19 (cellsKs ks) :: resKs ks
theorem resKs_app (a b : List T) : resKs (a ++ b) = resKs a ++ resKs b := by
  induction a with
  | nil => rfl
  | cons t a ih => rw [List.cons_append, resKs, ih, resKs, List.append_assoc]
theorem resKs_one (t : T) : resKs [t] = resT t := by rw [resKs, resKs, List.append_nil]
theorem resKs_cons (t : T) (ts : List T) : resKs (t :: ts) = resT t ++ resKs ts := by rw [resKs]
theorem resT_mk (f : LayF) (P M A K : Sl3) (ks : List T) : resT (.mk f P M A K ks) = .sl P.p P.l P.c 3 1 (ints f.p) :: .sl M.p M.l M.c 5 1 (kints .u8 f.mask) :: .sl A.p A.l A.c 3 1 (ints f.params) :: resG K ks := by rw [resT]; rfl

end Go.Proofs
namespace Go.Sh
open Go.Proofs
variable {H0 H H' : Heap} {σ τ : List Rs}

theorem RS.rowsK {H : Heap} {K : Sl3} {ks : List T} {el : TypeId} (h : RS H K.p K.l el 19 (cellsKs ks)) : Go.Proofs.rowsK H K ks := by
  have hl : K.l = ks.length := by have := h.len; rw [cellsKs_len] at this; omega
  refine ⟨hl, fun i t ht => ?_⟩
  have hi : i < ks.length := (List.getElem?_eq_some_iff.1 ht).1
  obtain ⟨blk, h1, h2⟩ := h.row (i := i) (by omega) (by decide) (xs := (cellsT t).toArray) fun j v hv => cellsKs_get ht (by simpa using hv)
  exact ⟨_, h1, by rw [add_none, Nat.zero_add]; exact h2⟩
theorem St.rdKs_of : ∀ {ks : List T}, (∀ t ∈ ks, ∀ {σ : List Rs}, St H0 H (resT t ++ σ) → Go.Proofs.rdT H t) → St H0 H (resKs ks ++ σ) → Go.Proofs.rdKs H ks
  | [], _, _ => trivial
  | t :: ts, h, hs => by
    rw [resKs, List.append_assoc] at hs
    exact ⟨h t List.mem_cons_self hs, St.rdKs_of (fun t ht => h t (List.mem_cons_of_mem _ ht)) hs.app.2⟩
theorem St.rdT : ∀ (t : T) {σ : List Rs}, St H0 H (resT t ++ σ) → Go.Proofs.rdT H t := by
  refine T.ind fun f P M A K ks ih σ hs => ?_
  rw [resT] at hs
  rw [Go.Proofs.rdT]
  refine ⟨hs.is 0 rfl, hs.is 1 rfl, hs.is 2 rfl, RS.rowsK (hs.rs 3 rfl), St.rdKs_of (fun t ht _ hs => ih t ht hs) (σ := σ) ?_⟩
  exact hs.drop 4
theorem St.grp {K : Sl3} {ks : List T} (hs : St H0 H (resG K ks ++ σ)) : Go.Proofs.grp H K ks :=
  ⟨RS.rowsK (hs.rs 0 rfl), St.rdKs_of (fun t ht _ hs => St.rdT t hs) (σ := σ) hs.tail⟩
/-- Behind a call: what is new comes last. -/
theorem St.callR (hs : St H0 H σ) (ht : St H H' τ) : St H0 H' (σ ++ τ) := (hs.call ht).perm List.perm_append_comm
end Go.Sh

/-
  Printed by a program of mine (gen.py): the types that the functions of this seat look at, and the functions that have bodies.
-/
namespace Go.Proofs
open Go.Sh
def Try.i0 : TI := ⟨.tuple [], 1, 0, Value.tuple #[]⟩
theorem Try.tok0 : TIok Try.prog 0 Try.i0 := ⟨by kernel_rfl, by kernel_rfl⟩
def Try.i3 : TI := ⟨.int .i64, 1, 8, Value.int .i64 0⟩
theorem Try.tok3 : TIok Try.prog 3 Try.i3 := ⟨by kernel_rfl, by kernel_rfl⟩
def Try.i4 : TI := ⟨.bool, 1, 1, Value.bool false⟩
theorem Try.tok4 : TIok Try.prog 4 Try.i4 := ⟨by kernel_rfl, by kernel_rfl⟩
def Try.i5 : TI := ⟨.int .u8, 1, 1, Value.int .u8 0⟩
theorem Try.tok5 : TIok Try.prog 5 Try.i5 := ⟨by kernel_rfl, by kernel_rfl⟩
def Try.i9 : TI := ⟨.str, 1, 16, Value.string ByteArray.empty⟩
theorem Try.tok9 : TIok Try.prog 9 Try.i9 := ⟨by kernel_rfl, by kernel_rfl⟩
def Try.i22 : TI := ⟨.sl 43, 1, 24, Value.slice none 0 0⟩
theorem Try.tok22 : TIok Try.prog 22 Try.i22 := ⟨by kernel_rfl, by kernel_rfl⟩
def Try.i24 : TI := ⟨.sl 58, 1, 24, Value.slice none 0 0⟩
theorem Try.tok24 : TIok Try.prog 24 Try.i24 := ⟨by kernel_rfl, by kernel_rfl⟩
def Try.i26 : TI := ⟨.struct [(0, 3), (1, 3), (2, 3), (3, 24)], 4, 48, Value.agg #[Value.int .i64 0, Value.int .i64 0, Value.int .i64 0, Value.slice none 0 0]⟩
theorem Try.tok26 : TIok Try.prog 26 Try.i26 := ⟨by kernel_rfl, by kernel_rfl⟩
def Try.i27 : TI := ⟨.int .i64, 1, 8, Value.int .i64 0⟩
theorem Try.tok27 : TIok Try.prog 27 Try.i27 := ⟨by kernel_rfl, by kernel_rfl⟩
def Try.i28 : TI := ⟨.tuple [26, 27], 1, 0, Value.tuple #[Value.agg #[Value.int .i64 0, Value.int .i64 0, Value.int .i64 0, Value.slice none 0 0], Value.int .i64 0]⟩
theorem Try.tok28 : TIok Try.prog 28 Try.i28 := ⟨by kernel_rfl, by kernel_rfl⟩
def Try.i30 : TI := ⟨.sl 66, 1, 24, Value.slice none 0 0⟩
theorem Try.tok30 : TIok Try.prog 30 Try.i30 := ⟨by kernel_rfl, by kernel_rfl⟩
def Try.i32 : TI := ⟨.struct [(0, 3), (1, 3), (2, 3), (3, 30)], 4, 48, Value.agg #[Value.int .i64 0, Value.int .i64 0, Value.int .i64 0, Value.slice none 0 0]⟩
theorem Try.tok32 : TIok Try.prog 32 Try.i32 := ⟨by kernel_rfl, by kernel_rfl⟩
def Try.i33 : TI := ⟨.tuple [32, 3], 1, 0, Value.tuple #[Value.agg #[Value.int .i64 0, Value.int .i64 0, Value.int .i64 0, Value.slice none 0 0], Value.int .i64 0]⟩
theorem Try.tok33 : TIok Try.prog 33 Try.i33 := ⟨by kernel_rfl, by kernel_rfl⟩
def Try.i35 : TI := ⟨.tuple [26, 32, 4], 1, 0, Value.tuple #[Value.agg #[Value.int .i64 0, Value.int .i64 0, Value.int .i64 0, Value.slice none 0 0], Value.agg #[Value.int .i64 0, Value.int .i64 0, Value.int .i64 0, Value.slice none 0 0], Value.bool false]⟩
theorem Try.tok35 : TIok Try.prog 35 Try.i35 := ⟨by kernel_rfl, by kernel_rfl⟩
def Try.i38 : TI := ⟨.sl 3, 1, 24, Value.slice none 0 0⟩
theorem Try.tok38 : TIok Try.prog 38 Try.i38 := ⟨by kernel_rfl, by kernel_rfl⟩
def Try.i39 : TI := ⟨.sl 79, 1, 24, Value.slice none 0 0⟩
theorem Try.tok39 : TIok Try.prog 39 Try.i39 := ⟨by kernel_rfl, by kernel_rfl⟩
def Try.i41 : TI := ⟨.arr 6 3, 6, 48, Value.agg #[Value.int .i64 0, Value.int .i64 0, Value.int .i64 0, Value.int .i64 0, Value.int .i64 0, Value.int .i64 0]⟩
theorem Try.tok41 : TIok Try.prog 41 Try.i41 := ⟨by kernel_rfl, by kernel_rfl⟩
def Try.i43 : TI := ⟨.struct [(0, 3), (1, 3), (2, 3), (3, 3), (4, 3), (5, 3), (6, 3), (7, 3), (8, 3), (9, 3), (10, 38), (11, 39), (12, 41), (18, 38)], 19, 200, Value.agg #[Value.int .i64 0, Value.int .i64 0, Value.int .i64 0, Value.int .i64 0, Value.int .i64 0, Value.int .i64 0, Value.int .i64 0, Value.int .i64 0, Value.int .i64 0, Value.int .i64 0, Value.slice none 0 0, Value.slice none 0 0, Value.int .i64 0, Value.int .i64 0, Value.int .i64 0, Value.int .i64 0, Value.int .i64 0, Value.int .i64 0, Value.slice none 0 0]⟩
theorem Try.tok43 : TIok Try.prog 43 Try.i43 := ⟨by kernel_rfl, by kernel_rfl⟩
def Try.i45 : TI := ⟨.sl 80, 1, 24, Value.slice none 0 0⟩
theorem Try.tok45 : TIok Try.prog 45 Try.i45 := ⟨by kernel_rfl, by kernel_rfl⟩
def Try.i46 : TI := ⟨.arr 6 3, 6, 48, Value.agg #[Value.int .i64 0, Value.int .i64 0, Value.int .i64 0, Value.int .i64 0, Value.int .i64 0, Value.int .i64 0]⟩
theorem Try.tok46 : TIok Try.prog 46 Try.i46 := ⟨by kernel_rfl, by kernel_rfl⟩
def Try.i48 : TI := ⟨.struct [(0, 3), (1, 3), (2, 3), (3, 3), (4, 3), (5, 3), (6, 3), (7, 3), (8, 3), (9, 3), (10, 38), (11, 45), (12, 46), (18, 38)], 19, 200, Value.agg #[Value.int .i64 0, Value.int .i64 0, Value.int .i64 0, Value.int .i64 0, Value.int .i64 0, Value.int .i64 0, Value.int .i64 0, Value.int .i64 0, Value.int .i64 0, Value.int .i64 0, Value.slice none 0 0, Value.slice none 0 0, Value.int .i64 0, Value.int .i64 0, Value.int .i64 0, Value.int .i64 0, Value.int .i64 0, Value.int .i64 0, Value.slice none 0 0]⟩
theorem Try.tok48 : TIok Try.prog 48 Try.i48 := ⟨by kernel_rfl, by kernel_rfl⟩
def Try.i56 : TI := ⟨.sl 5, 1, 24, Value.slice none 0 0⟩
theorem Try.tok56 : TIok Try.prog 56 Try.i56 := ⟨by kernel_rfl, by kernel_rfl⟩
def Try.i58 : TI := ⟨.struct [(0, 3), (1, 3), (2, 4), (3, 3), (4, 3), (5, 3), (6, 3), (7, 38), (8, 56), (9, 41), (15, 4), (16, 3), (17, 38), (18, 24)], 19, 216, Value.agg #[Value.int .i64 0, Value.int .i64 0, Value.bool false, Value.int .i64 0, Value.int .i64 0, Value.int .i64 0, Value.int .i64 0, Value.slice none 0 0, Value.slice none 0 0, Value.int .i64 0, Value.int .i64 0, Value.int .i64 0, Value.int .i64 0, Value.int .i64 0, Value.int .i64 0, Value.bool false, Value.int .i64 0, Value.slice none 0 0, Value.slice none 0 0]⟩
theorem Try.tok58 : TIok Try.prog 58 Try.i58 := ⟨by kernel_rfl, by kernel_rfl⟩
def Try.i59 : TI := ⟨.tuple [58, 4], 1, 0, Value.tuple #[Value.agg #[Value.int .i64 0, Value.int .i64 0, Value.bool false, Value.int .i64 0, Value.int .i64 0, Value.int .i64 0, Value.int .i64 0, Value.slice none 0 0, Value.slice none 0 0, Value.int .i64 0, Value.int .i64 0, Value.int .i64 0, Value.int .i64 0, Value.int .i64 0, Value.int .i64 0, Value.bool false, Value.int .i64 0, Value.slice none 0 0, Value.slice none 0 0], Value.bool false]⟩
theorem Try.tok59 : TIok Try.prog 59 Try.i59 := ⟨by kernel_rfl, by kernel_rfl⟩
def Try.i61 : TI := ⟨.tuple [3, 3, 4], 1, 0, Value.tuple #[Value.int .i64 0, Value.int .i64 0, Value.bool false]⟩
theorem Try.tok61 : TIok Try.prog 61 Try.i61 := ⟨by kernel_rfl, by kernel_rfl⟩
def Try.i66 : TI := ⟨.struct [(0, 3), (1, 3), (2, 3), (3, 4), (4, 3), (5, 3), (6, 3), (7, 3), (8, 38), (9, 56), (10, 46), (16, 4), (17, 3), (18, 38)], 19, 200, Value.agg #[Value.int .i64 0, Value.int .i64 0, Value.int .i64 0, Value.bool false, Value.int .i64 0, Value.int .i64 0, Value.int .i64 0, Value.int .i64 0, Value.slice none 0 0, Value.slice none 0 0, Value.int .i64 0, Value.int .i64 0, Value.int .i64 0, Value.int .i64 0, Value.int .i64 0, Value.int .i64 0, Value.bool false, Value.int .i64 0, Value.slice none 0 0]⟩
theorem Try.tok66 : TIok Try.prog 66 Try.i66 := ⟨by kernel_rfl, by kernel_rfl⟩
def Try.i70 : TI := ⟨.tuple [32, 4], 1, 0, Value.tuple #[Value.agg #[Value.int .i64 0, Value.int .i64 0, Value.int .i64 0, Value.slice none 0 0], Value.bool false]⟩
theorem Try.tok70 : TIok Try.prog 70 Try.i70 := ⟨by kernel_rfl, by kernel_rfl⟩
def Try.i74 : TI := ⟨.tuple [30, 30], 1, 0, Value.tuple #[Value.slice none 0 0, Value.slice none 0 0]⟩
theorem Try.tok74 : TIok Try.prog 74 Try.i74 := ⟨by kernel_rfl, by kernel_rfl⟩
def Try.i76 : TI := ⟨.tuple [66, 3], 1, 0, Value.tuple #[Value.agg #[Value.int .i64 0, Value.int .i64 0, Value.int .i64 0, Value.bool false, Value.int .i64 0, Value.int .i64 0, Value.int .i64 0, Value.int .i64 0, Value.slice none 0 0, Value.slice none 0 0, Value.int .i64 0, Value.int .i64 0, Value.int .i64 0, Value.int .i64 0, Value.int .i64 0, Value.int .i64 0, Value.bool false, Value.int .i64 0, Value.slice none 0 0], Value.int .i64 0]⟩
theorem Try.tok76 : TIok Try.prog 76 Try.i76 := ⟨by kernel_rfl, by kernel_rfl⟩
def Try.i79 : TI := ⟨.struct [(0, 3), (1, 3)], 2, 16, Value.agg #[Value.int .i64 0, Value.int .i64 0]⟩
theorem Try.tok79 : TIok Try.prog 79 Try.i79 := ⟨by kernel_rfl, by kernel_rfl⟩
def Try.i80 : TI := ⟨.struct [(0, 3), (1, 3)], 2, 16, Value.agg #[Value.int .i64 0, Value.int .i64 0]⟩
theorem Try.tok80 : TIok Try.prog 80 Try.i80 := ⟨by kernel_rfl, by kernel_rfl⟩
def Try.i82 : TI := ⟨.ptr 58, 1, 8, Value.pointer none⟩
theorem Try.tok82 : TIok Try.prog 82 Try.i82 := ⟨by kernel_rfl, by kernel_rfl⟩
def Try.i84 : TI := ⟨.ptr 26, 1, 8, Value.pointer none⟩
theorem Try.tok84 : TIok Try.prog 84 Try.i84 := ⟨by kernel_rfl, by kernel_rfl⟩
def Try.i86 : TI := ⟨.struct [(0, 82), (1, 84), (2, 43)], 21, 216, Value.agg #[Value.pointer none, Value.pointer none, Value.int .i64 0, Value.int .i64 0, Value.int .i64 0, Value.int .i64 0, Value.int .i64 0, Value.int .i64 0, Value.int .i64 0, Value.int .i64 0, Value.int .i64 0, Value.int .i64 0, Value.slice none 0 0, Value.slice none 0 0, Value.int .i64 0, Value.int .i64 0, Value.int .i64 0, Value.int .i64 0, Value.int .i64 0, Value.int .i64 0, Value.slice none 0 0]⟩
theorem Try.tok86 : TIok Try.prog 86 Try.i86 := ⟨by kernel_rfl, by kernel_rfl⟩
def Try.i87 : TI := ⟨.fn, 1, 8, Value.nilFunc⟩
theorem Try.tok87 : TIok Try.prog 87 Try.i87 := ⟨by kernel_rfl, by kernel_rfl⟩
def Try.i89 : TI := ⟨.sl 87, 1, 24, Value.slice none 0 0⟩
theorem Try.tok89 : TIok Try.prog 89 Try.i89 := ⟨by kernel_rfl, by kernel_rfl⟩
def Try.i91 : TI := ⟨.tuple [82, 82, 3], 1, 0, Value.tuple #[Value.pointer none, Value.pointer none, Value.int .i64 0]⟩
theorem Try.tok91 : TIok Try.prog 91 Try.i91 := ⟨by kernel_rfl, by kernel_rfl⟩
def Try.i97 : TI := ⟨.fn, 1, 8, Value.nilFunc⟩
theorem Try.tok97 : TIok Try.prog 97 Try.i97 := ⟨by kernel_rfl, by kernel_rfl⟩
def Try.i98 : TI := ⟨.tuple [30, 4], 1, 0, Value.tuple #[Value.slice none 0 0, Value.bool false]⟩
theorem Try.tok98 : TIok Try.prog 98 Try.i98 := ⟨by kernel_rfl, by kernel_rfl⟩
def Try.i100 : TI := ⟨.map 3 4, 1, 8, Value.map none⟩
theorem Try.tok100 : TIok Try.prog 100 Try.i100 := ⟨by kernel_rfl, by kernel_rfl⟩
def Try.i103 : TI := ⟨.fn, 1, 8, Value.nilFunc⟩
theorem Try.tok103 : TIok Try.prog 103 Try.i103 := ⟨by kernel_rfl, by kernel_rfl⟩
def Try.i106 : TI := ⟨.tuple [46, 3], 1, 0, Value.tuple #[Value.agg #[Value.int .i64 0, Value.int .i64 0, Value.int .i64 0, Value.int .i64 0, Value.int .i64 0, Value.int .i64 0], Value.int .i64 0]⟩
theorem Try.tok106 : TIok Try.prog 106 Try.i106 := ⟨by kernel_rfl, by kernel_rfl⟩
def Try.i108 : TI := ⟨.tuple [38, 4], 1, 0, Value.tuple #[Value.slice none 0 0, Value.bool false]⟩
theorem Try.tok108 : TIok Try.prog 108 Try.i108 := ⟨by kernel_rfl, by kernel_rfl⟩
def Try.i111 : TI := ⟨.tuple [82, 27], 1, 0, Value.tuple #[Value.pointer none, Value.int .i64 0]⟩
theorem Try.tok111 : TIok Try.prog 111 Try.i111 := ⟨by kernel_rfl, by kernel_rfl⟩
def Try.i116 : TI := ⟨.fn, 1, 8, Value.nilFunc⟩
theorem Try.tok116 : TIok Try.prog 116 Try.i116 := ⟨by kernel_rfl, by kernel_rfl⟩
def Try.i117 : TI := ⟨.tuple [56, 27], 1, 0, Value.tuple #[Value.slice none 0 0, Value.int .i64 0]⟩
theorem Try.tok117 : TIok Try.prog 117 Try.i117 := ⟨by kernel_rfl, by kernel_rfl⟩
def Try.i119 : TI := ⟨.tuple [41, 27], 1, 0, Value.tuple #[Value.agg #[Value.int .i64 0, Value.int .i64 0, Value.int .i64 0, Value.int .i64 0, Value.int .i64 0, Value.int .i64 0], Value.int .i64 0]⟩
theorem Try.tok119 : TIok Try.prog 119 Try.i119 := ⟨by kernel_rfl, by kernel_rfl⟩
def Try.i131 : TI := ⟨.arr 4 3, 4, 32, Value.agg #[Value.int .i64 0, Value.int .i64 0, Value.int .i64 0, Value.int .i64 0]⟩
theorem Try.tok131 : TIok Try.prog 131 Try.i131 := ⟨by kernel_rfl, by kernel_rfl⟩
def Try.i140 : TI := ⟨.sl 39, 1, 24, Value.slice none 0 0⟩
theorem Try.tok140 : TIok Try.prog 140 Try.i140 := ⟨by kernel_rfl, by kernel_rfl⟩
def Try.i141 : TI := ⟨.cpl .f64, 1, 16, Value.complex .f64 0 0⟩
theorem Try.tok141 : TIok Try.prog 141 Try.i141 := ⟨by kernel_rfl, by kernel_rfl⟩
def Try.i142 : TI := ⟨.flt .f64, 1, 8, Value.float .f64 0⟩
theorem Try.tok142 : TIok Try.prog 142 Try.i142 := ⟨by kernel_rfl, by kernel_rfl⟩
def Try.tab : Tab := [(0, Try.i0), (3, Try.i3), (4, Try.i4), (5, Try.i5), (9, Try.i9), (22, Try.i22), (24, Try.i24), (26, Try.i26), (27, Try.i27), (28, Try.i28), (30, Try.i30), (32, Try.i32), (33, Try.i33), (35, Try.i35), (38, Try.i38), (39, Try.i39), (41, Try.i41), (43, Try.i43), (45, Try.i45), (46, Try.i46), (48, Try.i48), (56, Try.i56), (58, Try.i58), (59, Try.i59), (61, Try.i61), (66, Try.i66), (70, Try.i70), (74, Try.i74), (76, Try.i76), (79, Try.i79), (80, Try.i80), (82, Try.i82), (84, Try.i84), (86, Try.i86), (87, Try.i87), (89, Try.i89), (91, Try.i91), (97, Try.i97), (98, Try.i98), (100, Try.i100), (103, Try.i103), (106, Try.i106), (108, Try.i108), (111, Try.i111), (116, Try.i116), (117, Try.i117), (119, Try.i119), (131, Try.i131), (140, Try.i140), (141, Try.i141), (142, Try.i142)]
theorem Try.tab_ok : TabOk Try.prog Try.tab := by
  unfold TabOk Try.tab
  simp only [List.forall_mem_cons]
  exact ⟨Try.tok0, Try.tok3, Try.tok4, Try.tok5, Try.tok9, Try.tok22, Try.tok24, Try.tok26, Try.tok27, Try.tok28, Try.tok30, Try.tok32, Try.tok33, Try.tok35, Try.tok38, Try.tok39, Try.tok41, Try.tok43, Try.tok45, Try.tok46, Try.tok48, Try.tok56, Try.tok58, Try.tok59, Try.tok61, Try.tok66, Try.tok70, Try.tok74, Try.tok76, Try.tok79, Try.tok80, Try.tok82, Try.tok84, Try.tok86, Try.tok87, Try.tok89, Try.tok91, Try.tok97, Try.tok98, Try.tok100, Try.tok103, Try.tok106, Try.tok108, Try.tok111, Try.tok116, Try.tok117, Try.tok119, Try.tok131, Try.tok140, Try.tok141, Try.tok142, fun _ h => by cases h⟩
theorem Try.mixed : Try.prog.follows .mixedOrders = true := by kernel_rfl
theorem Try.cal4 : callable Try.prog 4 := ⟨Try.f4, Try.func4, by kernel_rfl, by kernel_rfl⟩
theorem Try.cal12 : callable Try.prog 12 := ⟨Try.f12, Try.func12, by kernel_rfl, by kernel_rfl⟩
theorem Try.cal13 : callable Try.prog 13 := ⟨Try.f13, Try.func13, by kernel_rfl, by kernel_rfl⟩
theorem Try.cal14 : callable Try.prog 14 := ⟨Try.f14, Try.func14, by kernel_rfl, by kernel_rfl⟩
theorem Try.cal15 : callable Try.prog 15 := ⟨Try.f15, Try.func15, by kernel_rfl, by kernel_rfl⟩
theorem Try.cal16 : callable Try.prog 16 := ⟨Try.f16, Try.func16, by kernel_rfl, by kernel_rfl⟩
theorem Try.cal17 : callable Try.prog 17 := ⟨Try.f17, Try.func17, by kernel_rfl, by kernel_rfl⟩
theorem Try.cal18 : callable Try.prog 18 := ⟨Try.f18, Try.func18, by kernel_rfl, by kernel_rfl⟩
theorem Try.cal19 : callable Try.prog 19 := ⟨Try.f19, Try.func19, by kernel_rfl, by kernel_rfl⟩
theorem Try.cal20 : callable Try.prog 20 := ⟨Try.f20, Try.func20, by kernel_rfl, by kernel_rfl⟩
theorem Try.cal21 : callable Try.prog 21 := ⟨Try.f21, Try.func21, by kernel_rfl, by kernel_rfl⟩
theorem Try.cal23 : callable Try.prog 23 := ⟨Try.f23, Try.func23, by kernel_rfl, by kernel_rfl⟩
theorem Try.cal24 : callable Try.prog 24 := ⟨Try.f24, Try.func24, by kernel_rfl, by kernel_rfl⟩
theorem Try.cal25 : callable Try.prog 25 := ⟨Try.f25, Try.func25, by kernel_rfl, by kernel_rfl⟩
theorem Try.cal26 : callable Try.prog 26 := ⟨Try.f26, Try.func26, by kernel_rfl, by kernel_rfl⟩
theorem Try.cal27 : callable Try.prog 27 := ⟨Try.f27, Try.func27, by kernel_rfl, by kernel_rfl⟩
theorem Try.cal28 : callable Try.prog 28 := ⟨Try.f28, Try.func28, by kernel_rfl, by kernel_rfl⟩
theorem Try.cal29 : callable Try.prog 29 := ⟨Try.f29, Try.func29, by kernel_rfl, by kernel_rfl⟩
theorem Try.cal34 : callable Try.prog 34 := ⟨Try.f34, Try.func34, by kernel_rfl, by kernel_rfl⟩
theorem Try.cal35 : callable Try.prog 35 := ⟨Try.f35, Try.func35, by kernel_rfl, by kernel_rfl⟩
theorem Try.cal36 : callable Try.prog 36 := ⟨Try.f36, Try.func36, by kernel_rfl, by kernel_rfl⟩
theorem Try.cal37 : callable Try.prog 37 := ⟨Try.f37, Try.func37, by kernel_rfl, by kernel_rfl⟩
theorem Try.cal38 : callable Try.prog 38 := ⟨Try.f38, Try.func38, by kernel_rfl, by kernel_rfl⟩
theorem Try.cal39 : callable Try.prog 39 := ⟨Try.f39, Try.func39, by kernel_rfl, by kernel_rfl⟩
theorem Try.cal40 : callable Try.prog 40 := ⟨Try.f40, Try.func40, by kernel_rfl, by kernel_rfl⟩
theorem Try.cal41 : callable Try.prog 41 := ⟨Try.f41, Try.func41, by kernel_rfl, by kernel_rfl⟩
theorem Try.cal42 : callable Try.prog 42 := ⟨Try.f42, Try.func42, by kernel_rfl, by kernel_rfl⟩
theorem Try.cal43 : callable Try.prog 43 := ⟨Try.f43, Try.func43, by kernel_rfl, by kernel_rfl⟩
theorem Try.cal44 : callable Try.prog 44 := ⟨Try.f44, Try.func44, by kernel_rfl, by kernel_rfl⟩
theorem Try.cal45 : callable Try.prog 45 := ⟨Try.f45, Try.func45, by kernel_rfl, by kernel_rfl⟩
theorem Try.cal46 : callable Try.prog 46 := ⟨Try.f46, Try.func46, by kernel_rfl, by kernel_rfl⟩
theorem Try.cal47 : callable Try.prog 47 := ⟨Try.f47, Try.func47, by kernel_rfl, by kernel_rfl⟩
theorem Try.cal48 : callable Try.prog 48 := ⟨Try.f48, Try.func48, by kernel_rfl, by kernel_rfl⟩
theorem Try.cal49 : callable Try.prog 49 := ⟨Try.f49, Try.func49, by kernel_rfl, by kernel_rfl⟩
theorem Try.cal50 : callable Try.prog 50 := ⟨Try.f50, Try.func50, by kernel_rfl, by kernel_rfl⟩
theorem Try.cal51 : callable Try.prog 51 := ⟨Try.f51, Try.func51, by kernel_rfl, by kernel_rfl⟩
theorem Try.cal52 : callable Try.prog 52 := ⟨Try.f52, Try.func52, by kernel_rfl, by kernel_rfl⟩
theorem Try.cal53 : callable Try.prog 53 := ⟨Try.f53, Try.func53, by kernel_rfl, by kernel_rfl⟩
theorem Try.cal54 : callable Try.prog 54 := ⟨Try.f54, Try.func54, by kernel_rfl, by kernel_rfl⟩
theorem Try.cal55 : callable Try.prog 55 := ⟨Try.f55, Try.func55, by kernel_rfl, by kernel_rfl⟩
theorem Try.cal56 : callable Try.prog 56 := ⟨Try.f56, Try.func56, by kernel_rfl, by kernel_rfl⟩
theorem Try.cal64 : callable Try.prog 64 := ⟨Try.f64, Try.func64, by kernel_rfl, by kernel_rfl⟩
theorem Try.cal65 : callable Try.prog 65 := ⟨Try.f65, Try.func65, by kernel_rfl, by kernel_rfl⟩
theorem Try.cal66 : callable Try.prog 66 := ⟨Try.f66, Try.func66, by kernel_rfl, by kernel_rfl⟩
theorem Try.cal67 : callable Try.prog 67 := ⟨Try.f67, Try.func67, by kernel_rfl, by kernel_rfl⟩
theorem Try.cal68 : callable Try.prog 68 := ⟨Try.f68, Try.func68, by kernel_rfl, by kernel_rfl⟩
theorem Try.cal69 : callable Try.prog 69 := ⟨Try.f69, Try.func69, by kernel_rfl, by kernel_rfl⟩
theorem Try.cal70 : callable Try.prog 70 := ⟨Try.f70, Try.func70, by kernel_rfl, by kernel_rfl⟩
theorem Try.cal71 : callable Try.prog 71 := ⟨Try.f71, Try.func71, by kernel_rfl, by kernel_rfl⟩
theorem Try.cal72 : callable Try.prog 72 := ⟨Try.f72, Try.func72, by kernel_rfl, by kernel_rfl⟩
theorem Try.cal73 : callable Try.prog 73 := ⟨Try.f73, Try.func73, by kernel_rfl, by kernel_rfl⟩
theorem Try.cal74 : callable Try.prog 74 := ⟨Try.f74, Try.func74, by kernel_rfl, by kernel_rfl⟩
theorem Try.cal75 : callable Try.prog 75 := ⟨Try.f75, Try.func75, by kernel_rfl, by kernel_rfl⟩
theorem Try.cal76 : callable Try.prog 76 := ⟨Try.f76, Try.func76, by kernel_rfl, by kernel_rfl⟩
theorem Try.cal77 : callable Try.prog 77 := ⟨Try.f77, Try.func77, by kernel_rfl, by kernel_rfl⟩
theorem Try.cal78 : callable Try.prog 78 := ⟨Try.f78, Try.func78, by kernel_rfl, by kernel_rfl⟩
theorem Try.cal79 : callable Try.prog 79 := ⟨Try.f79, Try.func79, by kernel_rfl, by kernel_rfl⟩
theorem Try.cal80 : callable Try.prog 80 := ⟨Try.f80, Try.func80, by kernel_rfl, by kernel_rfl⟩
theorem Try.cal81 : callable Try.prog 81 := ⟨Try.f81, Try.func81, by kernel_rfl, by kernel_rfl⟩
theorem Try.cal82 : callable Try.prog 82 := ⟨Try.f82, Try.func82, by kernel_rfl, by kernel_rfl⟩
theorem Try.cal83 : callable Try.prog 83 := ⟨Try.f83, Try.func83, by kernel_rfl, by kernel_rfl⟩
theorem Try.cal89 : callable Try.prog 89 := ⟨Try.f89, Try.func89, by kernel_rfl, by kernel_rfl⟩
theorem Try.cal90 : callable Try.prog 90 := ⟨Try.f90, Try.func90, by kernel_rfl, by kernel_rfl⟩
theorem Try.cal91 : callable Try.prog 91 := ⟨Try.f91, Try.func91, by kernel_rfl, by kernel_rfl⟩
theorem Try.cal92 : callable Try.prog 92 := ⟨Try.f92, Try.func92, by kernel_rfl, by kernel_rfl⟩
theorem Try.cal93 : callable Try.prog 93 := ⟨Try.f93, Try.func93, by kernel_rfl, by kernel_rfl⟩
theorem Try.cal94 : callable Try.prog 94 := ⟨Try.f94, Try.func94, by kernel_rfl, by kernel_rfl⟩
theorem Try.cal95 : callable Try.prog 95 := ⟨Try.f95, Try.func95, by kernel_rfl, by kernel_rfl⟩
theorem Try.cal96 : callable Try.prog 96 := ⟨Try.f96, Try.func96, by kernel_rfl, by kernel_rfl⟩
theorem Try.cal97 : callable Try.prog 97 := ⟨Try.f97, Try.func97, by kernel_rfl, by kernel_rfl⟩
theorem Try.cal98 : callable Try.prog 98 := ⟨Try.f98, Try.func98, by kernel_rfl, by kernel_rfl⟩
theorem Try.cal99 : callable Try.prog 99 := ⟨Try.f99, Try.func99, by kernel_rfl, by kernel_rfl⟩
theorem Try.cal100 : callable Try.prog 100 := ⟨Try.f100, Try.func100, by kernel_rfl, by kernel_rfl⟩
theorem Try.cal101 : callable Try.prog 101 := ⟨Try.f101, Try.func101, by kernel_rfl, by kernel_rfl⟩
theorem Try.cal102 : callable Try.prog 102 := ⟨Try.f102, Try.func102, by kernel_rfl, by kernel_rfl⟩
theorem Try.cal103 : callable Try.prog 103 := ⟨Try.f103, Try.func103, by kernel_rfl, by kernel_rfl⟩
theorem Try.cal104 : callable Try.prog 104 := ⟨Try.f104, Try.func104, by kernel_rfl, by kernel_rfl⟩
theorem Try.cal105 : callable Try.prog 105 := ⟨Try.f105, Try.func105, by kernel_rfl, by kernel_rfl⟩
theorem Try.cal106 : callable Try.prog 106 := ⟨Try.f106, Try.func106, by kernel_rfl, by kernel_rfl⟩
theorem Try.cal107 : callable Try.prog 107 := ⟨Try.f107, Try.func107, by kernel_rfl, by kernel_rfl⟩
theorem Try.cal108 : callable Try.prog 108 := ⟨Try.f108, Try.func108, by kernel_rfl, by kernel_rfl⟩
theorem Try.cal109 : callable Try.prog 109 := ⟨Try.f109, Try.func109, by kernel_rfl, by kernel_rfl⟩
theorem Try.cal112 : callable Try.prog 112 := ⟨Try.f112, Try.func112, by kernel_rfl, by kernel_rfl⟩
theorem Try.cal113 : callable Try.prog 113 := ⟨Try.f113, Try.func113, by kernel_rfl, by kernel_rfl⟩
theorem Try.cal114 : callable Try.prog 114 := ⟨Try.f114, Try.func114, by kernel_rfl, by kernel_rfl⟩
theorem Try.cal115 : callable Try.prog 115 := ⟨Try.f115, Try.func115, by kernel_rfl, by kernel_rfl⟩
end Go.Proofs

/-
  Printed by a program of mine (gen.py): each function, over heaps; and that what is said of it is said of its call.
-/
set_option linter.unusedVariables false
set_option maxRecDepth 100000
namespace Go.Proofs
open Go.Sh

def Try.p3 : Plan := (Plan.two Plan.leaf (Plan.two (Plan.two Plan.leaf (Plan.two (Plan.two Plan.leaf Plan.leaf) Plan.leaf)) (Plan.two Plan.leaf (Plan.two Plan.leaf (Plan.two (Plan.two Plan.leaf (Plan.two (Plan.two Plan.leaf Plan.leaf) Plan.leaf)) (Plan.two Plan.leaf (Plan.two (Plan.join [] [2, 11, 12] (Plan.two Plan.leaf (Plan.two (Plan.two Plan.leaf Plan.leaf) Plan.leaf))) (Plan.two (Plan.two Plan.leaf (Plan.one (Plan.loop [(53, 3)] [11, 12, 51, 52] (Plan.two Plan.leaf (Plan.two (Plan.two Plan.leaf Plan.leaf) (Plan.two (Plan.join [] [11, 12, 51, 52, 53] (Plan.one (Plan.two Plan.leaf (Plan.two (Plan.join [(16, 999999), (17, 3)] [11, 12, 15, 51, 52, 53] Plan.leaf) (Plan.two Plan.leaf (Plan.two (Plan.two Plan.leaf (Plan.two (Plan.two Plan.leaf Plan.leaf) Plan.leaf)) (Plan.two (Plan.two Plan.leaf (Plan.two (Plan.two (Plan.two Plan.leaf (Plan.two (Plan.two Plan.leaf Plan.leaf) Plan.leaf)) Plan.leaf) Plan.leaf)) (Plan.two (Plan.two Plan.leaf (Plan.two (Plan.two Plan.leaf Plan.leaf) Plan.leaf)) Plan.leaf)))))))) Plan.leaf)))))) (Plan.two Plan.leaf Plan.leaf)))))))))
/-- scumble/scumblelaw11.TreeOwn -/
def Try.S4 (edits1p : Option Addr) (edits1l : Nat) (edits1c : Nat) (last2 : Array Value) (H : Heap) (R : Value → Heap → Prop) : Prop :=
 alc H (.cells last2 43) fun b3 H_4 => CallsH Try.prog 12 #[] H_4 fun r5 H_6 => ∃ r7 : Bool, r5 = Value.bool r7 ∧ br (!r7)
 (R (Value.bool false) H_6)
 (CallsH Try.prog 15 #[Value.int .i64 (8 : Int), Value.int .i64 (8 : Int)] H_6 fun r8 H_9 => ∃ r10 : Array Value, ∃ r11 : Array Value, ∃ r12 : Bool, r8 = Value.tuple #[Value.agg r10, Value.agg r11, Value.bool r12] ∧ alc H_9 (.cells #[Value.int .i64 0, Value.int .i64 0, Value.int .i64 0, Value.slice none 0 0] 26) fun b13 H_14 => alc H_14 (.cells #[Value.int .i64 0, Value.int .i64 0, Value.int .i64 0, Value.slice none 0 0] 32) fun b15 H_16 => r10.size = 4 ∧ stAt H_16 ⟨b13, 0, none⟩ (Array.toList r10) fun H_17 => r11.size = 4 ∧ stAt H_17 ⟨b15, 0, none⟩ (Array.toList r11) fun H_18 => ∀ J_19 : List Value → Heap → Prop, (∀ H_20 : Heap, (∀ X_21 : List Value → Heap → Prop, (∀ t22 : Int, ∀ H_23 : Heap, (br (decide ((t22 : Int) < ((edits1l : Nat) : Int)))
 (∃ a24 : Addr, edits1p = some a24 ∧ 0 ≤ t22 ∧ t22 < ((edits1l : Nat) : Int) ∧ ∃ v25 : Array Value, v25.size = 19 ∧ rowIn H_23 (Addr.add a24 (Int.toNat t22 * 19)) v25 ∧ alc H_23 (.cells #[Value.int .i64 0, Value.int .i64 0, Value.int .i64 0, Value.int .i64 0, Value.int .i64 0, Value.int .i64 0, Value.int .i64 0, Value.int .i64 0, Value.int .i64 0, Value.int .i64 0, Value.slice none 0 0, Value.slice none 0 0, Value.int .i64 0, Value.int .i64 0, Value.int .i64 0, Value.int .i64 0, Value.int .i64 0, Value.int .i64 0, Value.slice none 0 0] 43) fun b26 H_27 => v25.size = 19 ∧ stAt H_27 ⟨b26, 0, none⟩ (Array.toList v25) fun H_28 => ∀ J_29 : List Value → Heap → Prop, (∀ H_30 : Heap, (∃ v31 : Array Value, v31.size = 4 ∧ rowIn H_30 ⟨b15, 0, none⟩ v31 ∧ ∃ v32 : Array Value, v32.size = 19 ∧ rowIn H_30 ⟨b26, 0, none⟩ v32 ∧ CallsH Try.prog 18 #[Value.agg v32] H_30 fun r33 H_34 => ∃ r35 : Array Value, r33 = Value.agg r35 ∧ (Ext H_30 H_34 ∨ (∃ v41 : Array Value, v41.size = 4 ∧ rowIn H_34 ⟨b15, 0, none⟩ v41 ∧ Value.agg v41 = Value.agg v31)) ∧ CallsH Try.prog 17 #[Value.agg v31, Value.agg r35] H_34 fun r36 H_37 => ∃ r38 : Array Value, ∃ r39 : Int, r36 = Value.tuple #[Value.agg r38, Value.int .i64 r39] ∧ r38.size = 4 ∧ stAt H_37 ⟨b15, 0, none⟩ (Array.toList r38) fun H_40 => X_21 [Value.int .i64 (IntKind.wrap .i64 (t22 + (1 : Int)))] H_40) → J_29 [] H_30) →
 ∃ v42 : Array Value, v42.size = 4 ∧ rowIn H_28 ⟨b13, 0, none⟩ v42 ∧ ∃ v43 : Array Value, v43.size = 19 ∧ rowIn H_28 ⟨b26, 0, none⟩ v43 ∧ CallsH Try.prog 19 #[Value.agg v42, Value.agg v43] H_28 fun r44 H_45 => ∃ r46 : Array Value, ∃ r47 : Int, r44 = Value.tuple #[Value.agg r46, Value.int .i64 r47] ∧ alc H_45 (.cells #[Value.int .i64 0, Value.int .i64 0, Value.int .i64 0, Value.slice none 0 0] 26) fun b48 H_49 => r46.size = 4 ∧ stAt H_49 ⟨b48, 0, none⟩ (Array.toList r46) fun H_50 => br ((r47 : Int) == (0 : Int))
 (∃ v51 : Array Value, v51.size = 4 ∧ rowIn H_50 ⟨b48, 0, none⟩ v51 ∧ v51.size = 4 ∧ stAt H_50 ⟨b13, 0, none⟩ (Array.toList v51) fun H_52 => J_29 [] H_52)
 (J_29 [] H_50))
 (∃ v53 : Array Value, v53.size = 19 ∧ rowIn H_23 ⟨b3, 0, none⟩ v53 ∧ alc H_23 (.cells #[Value.int .i64 0, Value.int .i64 0, Value.int .i64 0, Value.int .i64 0, Value.int .i64 0, Value.int .i64 0, Value.int .i64 0, Value.int .i64 0, Value.int .i64 0, Value.int .i64 0, Value.slice none 0 0, Value.slice none 0 0, Value.int .i64 0, Value.int .i64 0, Value.int .i64 0, Value.int .i64 0, Value.int .i64 0, Value.int .i64 0, Value.slice none 0 0] 43) fun b54 H_55 => v53.size = 19 ∧ stAt H_55 ⟨b54, 0, none⟩ (Array.toList v53) fun H_56 => ∀ J_57 : List Value → Heap → Prop, (∀ H_58 : Heap, (∃ v59 : Array Value, v59.size = 4 ∧ rowIn H_58 ⟨b13, 0, none⟩ v59 ∧ ∃ v60 : Array Value, v60.size = 19 ∧ rowIn H_58 ⟨b54, 0, none⟩ v60 ∧ CallsH Try.prog 19 #[Value.agg v59, Value.agg v60] H_58 fun r61 H_62 => ∃ r63 : Array Value, ∃ r64 : Int, r61 = Value.tuple #[Value.agg r63, Value.int .i64 r64] ∧ alc H_62 (.cells #[Value.int .i64 0, Value.int .i64 0, Value.int .i64 0, Value.slice none 0 0] 26) fun b65 H_66 => r63.size = 4 ∧ stAt H_66 ⟨b65, 0, none⟩ (Array.toList r63) fun H_67 => ∀ J_68 : List Value → Heap → Prop, (∀ next69 : Addr, ∀ f70 : Int, ∀ H_71 : Heap, (br ((r64 : Int) != f70)
 (R (Value.bool false) H_71)
 (∃ P_72p : Option Addr, ∃ P_72l : Nat, ∃ P_72c : Nat, cell H_71 (Addr.add ⟨b54, 0, none⟩ 10) = some (Value.slice P_72p P_72l P_72c) ∧ ∀ X_73 : List Value → Heap → Prop, (∀ i74 : Int, ∀ H_75 : Heap, (br (decide ((i74 : Int) < ((P_72l : Nat) : Int)))
 (∃ P_76p : Option Addr, ∃ P_76l : Nat, ∃ P_76c : Nat, cell H_75 (Addr.add ⟨b54, 0, none⟩ 10) = some (Value.slice P_76p P_76l P_76c) ∧ ∃ a77 : Addr, P_76p = some a77 ∧ 0 ≤ i74 ∧ i74 < ((P_76l : Nat) : Int) ∧ stAt H_75 (Addr.add a77 (Int.toNat i74 * 1)) [Value.int .i64 (1 : Int)] fun H_78 => X_73 [Value.int .i64 (IntKind.wrap .i64 (i74 + (1 : Int)))] H_78)
 (∃ Params79p : Option Addr, ∃ Params79l : Nat, ∃ Params79c : Nat, cell H_75 (Addr.add ⟨b54, 0, none⟩ 18) = some (Value.slice Params79p Params79l Params79c) ∧ ∀ X_80 : List Value → Heap → Prop, (∀ i81 : Int, ∀ H_82 : Heap, (br (decide ((i81 : Int) < ((Params79l : Nat) : Int)))
 (∃ Params83p : Option Addr, ∃ Params83l : Nat, ∃ Params83c : Nat, cell H_82 (Addr.add ⟨b54, 0, none⟩ 18) = some (Value.slice Params83p Params83l Params83c) ∧ ∃ a84 : Addr, Params83p = some a84 ∧ 0 ≤ i81 ∧ i81 < ((Params83l : Nat) : Int) ∧ stAt H_82 (Addr.add a84 (Int.toNat i81 * 1)) [Value.int .i64 (1 : Int)] fun H_85 => X_80 [Value.int .i64 (IntKind.wrap .i64 (i81 + (1 : Int)))] H_85)
 (br ((r64 : Int) != (0 : Int))
 (R (Value.bool true) H_82)
 (∃ Kids86p : Option Addr, ∃ Kids86l : Nat, ∃ Kids86c : Nat, cell H_82 (Addr.add ⟨b65, 0, none⟩ 3) = some (Value.slice Kids86p Kids86l Kids86c) ∧ CallsH Try.prog 21 #[Value.slice Kids86p Kids86l Kids86c] H_82 fun r87 H_88 => r87 = Value.tuple #[] ∧ ∃ v89 : Array Value, v89.size = 4 ∧ rowIn H_88 ⟨b13, 0, none⟩ v89 ∧ ∃ v90 : Array Value, v90.size = 4 ∧ rowIn H_88 ⟨b15, 0, none⟩ v90 ∧ CallsH Try.prog 20 #[Value.agg v89, Value.agg v90] H_88 fun r91 H_92 => ∃ r93 : Bool, r91 = Value.bool r93 ∧ br (!r93)
 (R (Value.bool false) H_92)
 (∃ v94 : Array Value, v94.size = 4 ∧ rowIn H_92 ⟨b13, 0, none⟩ v94 ∧ ∃ v95 : Array Value, v95.size = 19 ∧ rowIn H_92 ⟨b3, 0, none⟩ v95 ∧ CallsH Try.prog 19 #[Value.agg v94, Value.agg v95] H_92 fun r96 H_97 => ∃ r98 : Array Value, ∃ r99 : Int, r96 = Value.tuple #[Value.agg r98, Value.int .i64 r99] ∧ alc H_97 (.cells #[Value.int .i64 0, Value.int .i64 0, Value.int .i64 0, Value.slice none 0 0] 26) fun b100 H_101 => r98.size = 4 ∧ stAt H_101 ⟨b100, 0, none⟩ (Array.toList r98) fun H_102 => ∃ Kids103p : Option Addr, ∃ Kids103l : Nat, ∃ Kids103c : Nat, cell H_102 (Addr.add ⟨b13, 0, none⟩ 3) = some (Value.slice Kids103p Kids103l Kids103c) ∧ CallsH Try.prog 21 #[Value.slice Kids103p Kids103l Kids103c] H_102 fun r104 H_105 => r104 = Value.tuple #[] ∧ ∃ v106 : Array Value, v106.size = 4 ∧ rowIn H_105 ⟨b100, 0, none⟩ v106 ∧ ∃ v107 : Array Value, v107.size = 4 ∧ rowIn H_105 next69 v107 ∧ CallsH Try.prog 20 #[Value.agg v106, Value.agg v107] H_105 fun r108 H_109 => ∃ r110 : Bool, r108 = Value.bool r110 ∧ R (Value.bool r110) H_109)))) → X_80 [Value.int .i64 i81] H_82) → X_80 [Value.int .i64 (0 : Int)] H_75)) → X_73 [Value.int .i64 i74] H_75) → X_73 [Value.int .i64 (0 : Int)] H_71)) → J_68 [Value.pointer (some next69), Value.int .i64 f70] H_71) →
 ∃ v111 : Array Value, v111.size = 4 ∧ rowIn H_67 ⟨b15, 0, none⟩ v111 ∧ ∃ v112 : Array Value, v112.size = 19 ∧ rowIn H_67 ⟨b3, 0, none⟩ v112 ∧ (CallsH Try.prog 18 #[Value.agg v112] H_67 fun r113 H_114 => ∃ r115 : Array Value, r113 = Value.agg r115 ∧ (Ext H_67 H_114 ∨ (∃ v131 : Array Value, v131.size = 4 ∧ rowIn H_114 ⟨b15, 0, none⟩ v131 ∧ Value.agg v131 = Value.agg v111)) ∧ (CallsH Try.prog 17 #[Value.agg v111, Value.agg r115] H_114 fun r116 H_117 => ∃ r118 : Array Value, ∃ r119 : Int, r116 = Value.tuple #[Value.agg r118, Value.int .i64 r119] ∧ alc H_117 (.cells #[Value.int .i64 0, Value.int .i64 0, Value.int .i64 0, Value.slice none 0 0] 32) fun b120 H_121 => r118.size = 4 ∧ stAt H_121 ⟨b120, 0, none⟩ (Array.toList r118) fun H_122 => J_68 [Value.pointer (some ⟨b120, 0, none⟩), Value.int .i64 r119] H_122) ∧ (alc H_114 (.cells #[Value.int .i64 0, Value.int .i64 0, Value.int .i64 0, Value.slice none 0 0] 32) fun b123 H_124 => (Ext H_114 H_124 ∨ (∃ v130 : Array Value, v130.size = 4 ∧ rowIn H_124 ⟨b15, 0, none⟩ v130 ∧ Value.agg v130 = Value.agg v111)) ∧ CallsH Try.prog 17 #[Value.agg v111, Value.agg r115] H_124 fun r125 H_126 => ∃ r127 : Array Value, ∃ r128 : Int, r125 = Value.tuple #[Value.agg r127, Value.int .i64 r128] ∧ r127.size = 4 ∧ stAt H_126 ⟨b123, 0, none⟩ (Array.toList r127) fun H_129 => J_68 [Value.pointer (some ⟨b123, 0, none⟩), Value.int .i64 r128] H_129)) ∧ (alc H_67 (.cells #[Value.int .i64 0, Value.int .i64 0, Value.int .i64 0, Value.slice none 0 0] 32) fun b132 H_133 => (Ext H_67 H_133 ∨ (∃ v143 : Array Value, v143.size = 19 ∧ rowIn H_133 ⟨b3, 0, none⟩ v143 ∧ Value.agg v143 = Value.agg v112) ∧ (∃ v144 : Array Value, v144.size = 4 ∧ rowIn H_133 ⟨b15, 0, none⟩ v144 ∧ Value.agg v144 = Value.agg v111)) ∧ CallsH Try.prog 18 #[Value.agg v112] H_133 fun r134 H_135 => ∃ r136 : Array Value, r134 = Value.agg r136 ∧ (Ext H_133 H_135 ∨ (∃ v142 : Array Value, v142.size = 4 ∧ rowIn H_135 ⟨b15, 0, none⟩ v142 ∧ Value.agg v142 = Value.agg v111)) ∧ CallsH Try.prog 17 #[Value.agg v111, Value.agg r136] H_135 fun r137 H_138 => ∃ r139 : Array Value, ∃ r140 : Int, r137 = Value.tuple #[Value.agg r139, Value.int .i64 r140] ∧ r139.size = 4 ∧ stAt H_138 ⟨b132, 0, none⟩ (Array.toList r139) fun H_141 => J_68 [Value.pointer (some ⟨b132, 0, none⟩), Value.int .i64 r140] H_141)) → J_57 [] H_58) →
 ∃ P_145p : Option Addr, ∃ P_145l : Nat, ∃ P_145c : Nat, cell H_56 (Addr.add ⟨b3, 0, none⟩ 10) = some (Value.slice P_145p P_145l P_145c) ∧ ∃ Params146p : Option Addr, ∃ Params146l : Nat, ∃ Params146c : Nat, cell H_56 (Addr.add ⟨b3, 0, none⟩ 18) = some (Value.slice Params146p Params146l Params146c) ∧ (alc H_56 (.cells #[] 3) fun b147 H_148 => (Ext H_56 H_148 ∨ (∃ Params170p : Option Addr, ∃ Params170l : Nat, ∃ Params170c : Nat, cell H_148 (Addr.add ⟨b3, 0, none⟩ 18) = some (Value.slice Params170p Params170l Params170c) ∧ Value.slice Params170p Params170l Params170c = Value.slice Params146p Params146l Params146c) ∧ (∃ P_171p : Option Addr, ∃ P_171l : Nat, ∃ P_171c : Nat, cell H_148 (Addr.add ⟨b3, 0, none⟩ 10) = some (Value.slice P_171p P_171l P_171c) ∧ Value.slice P_171p P_171l P_171c = Value.slice P_145p P_145l P_145c)) ∧ (appQ 1 8 #[Value.int .i64 0] H_148 (some ⟨b147, 0, none⟩) 0 0 P_145p P_145l 3 fun app149p app149l app149c H_150 => (Ext H_148 H_150 ∨ (∃ Params158p : Option Addr, ∃ Params158l : Nat, ∃ Params158c : Nat, cell H_150 (Addr.add ⟨b3, 0, none⟩ 18) = some (Value.slice Params158p Params158l Params158c) ∧ Value.slice Params158p Params158l Params158c = Value.slice Params146p Params146l Params146c)) ∧ alc H_150 (.cells #[] 3) fun b151 H_152 => (Ext H_150 H_152 ∨ (∃ Params157p : Option Addr, ∃ Params157l : Nat, ∃ Params157c : Nat, cell H_152 (Addr.add ⟨b3, 0, none⟩ 18) = some (Value.slice Params157p Params157l Params157c) ∧ Value.slice Params157p Params157l Params157c = Value.slice Params146p Params146l Params146c)) ∧ appQ 1 8 #[Value.int .i64 0] H_152 (some ⟨b151, 0, none⟩) 0 0 Params146p Params146l 3 fun app153p app153l app153c H_154 => stAt H_154 (Addr.add ⟨b54, 0, none⟩ 10) [Value.slice app149p app149l app149c] fun H_155 => stAt H_155 (Addr.add ⟨b54, 0, none⟩ 18) [Value.slice app153p app153l app153c] fun H_156 => J_57 [] H_156) ∧ (alc H_148 (.cells #[] 3) fun b159 H_160 => (Ext H_148 H_160 ∨ (∃ Params168p : Option Addr, ∃ Params168l : Nat, ∃ Params168c : Nat, cell H_160 (Addr.add ⟨b3, 0, none⟩ 18) = some (Value.slice Params168p Params168l Params168c) ∧ Value.slice Params168p Params168l Params168c = Value.slice Params146p Params146l Params146c) ∧ (∃ P_169p : Option Addr, ∃ P_169l : Nat, ∃ P_169c : Nat, cell H_160 (Addr.add ⟨b3, 0, none⟩ 10) = some (Value.slice P_169p P_169l P_169c) ∧ Value.slice P_169p P_169l P_169c = Value.slice P_145p P_145l P_145c)) ∧ appQ 1 8 #[Value.int .i64 0] H_160 (some ⟨b147, 0, none⟩) 0 0 P_145p P_145l 3 fun app161p app161l app161c H_162 => (Ext H_160 H_162 ∨ (∃ Params167p : Option Addr, ∃ Params167l : Nat, ∃ Params167c : Nat, cell H_162 (Addr.add ⟨b3, 0, none⟩ 18) = some (Value.slice Params167p Params167l Params167c) ∧ Value.slice Params167p Params167l Params167c = Value.slice Params146p Params146l Params146c)) ∧ appQ 1 8 #[Value.int .i64 0] H_162 (some ⟨b159, 0, none⟩) 0 0 Params146p Params146l 3 fun app163p app163l app163c H_164 => stAt H_164 (Addr.add ⟨b54, 0, none⟩ 10) [Value.slice app161p app161l app161c] fun H_165 => stAt H_165 (Addr.add ⟨b54, 0, none⟩ 18) [Value.slice app163p app163l app163c] fun H_166 => J_57 [] H_166)) ∧ (alc H_56 (.cells #[] 3) fun b172 H_173 => (Ext H_56 H_173 ∨ (∃ Params185p : Option Addr, ∃ Params185l : Nat, ∃ Params185c : Nat, cell H_173 (Addr.add ⟨b3, 0, none⟩ 18) = some (Value.slice Params185p Params185l Params185c) ∧ Value.slice Params185p Params185l Params185c = Value.slice Params146p Params146l Params146c) ∧ (∃ P_186p : Option Addr, ∃ P_186l : Nat, ∃ P_186c : Nat, cell H_173 (Addr.add ⟨b3, 0, none⟩ 10) = some (Value.slice P_186p P_186l P_186c) ∧ Value.slice P_186p P_186l P_186c = Value.slice P_145p P_145l P_145c)) ∧ alc H_173 (.cells #[] 3) fun b174 H_175 => (Ext H_173 H_175 ∨ (∃ Params183p : Option Addr, ∃ Params183l : Nat, ∃ Params183c : Nat, cell H_175 (Addr.add ⟨b3, 0, none⟩ 18) = some (Value.slice Params183p Params183l Params183c) ∧ Value.slice Params183p Params183l Params183c = Value.slice Params146p Params146l Params146c) ∧ (∃ P_184p : Option Addr, ∃ P_184l : Nat, ∃ P_184c : Nat, cell H_175 (Addr.add ⟨b3, 0, none⟩ 10) = some (Value.slice P_184p P_184l P_184c) ∧ Value.slice P_184p P_184l P_184c = Value.slice P_145p P_145l P_145c)) ∧ appQ 1 8 #[Value.int .i64 0] H_175 (some ⟨b174, 0, none⟩) 0 0 P_145p P_145l 3 fun app176p app176l app176c H_177 => (Ext H_175 H_177 ∨ (∃ Params182p : Option Addr, ∃ Params182l : Nat, ∃ Params182c : Nat, cell H_177 (Addr.add ⟨b3, 0, none⟩ 18) = some (Value.slice Params182p Params182l Params182c) ∧ Value.slice Params182p Params182l Params182c = Value.slice Params146p Params146l Params146c)) ∧ appQ 1 8 #[Value.int .i64 0] H_177 (some ⟨b172, 0, none⟩) 0 0 Params146p Params146l 3 fun app178p app178l app178c H_179 => stAt H_179 (Addr.add ⟨b54, 0, none⟩ 10) [Value.slice app176p app176l app176c] fun H_180 => stAt H_180 (Addr.add ⟨b54, 0, none⟩ 18) [Value.slice app178p app178l app178c] fun H_181 => J_57 [] H_181))) → X_21 [Value.int .i64 t22] H_23) → X_21 [Value.int .i64 (0 : Int)] H_20) → J_19 [] H_20) →
 CallsH Try.prog 16 #[Value.slice edits1p edits1l edits1c, Value.int .i64 (20 : Int)] H_18 fun r187 H_188 => ∃ r189 : Bool, r187 = Value.bool r189 ∧ br (!r189) (R (Value.bool true) H_188) (∃ v190 : Array Value, v190.size = 19 ∧ rowIn H_188 ⟨b3, 0, none⟩ v190 ∧ v190.size = 19 ∧ 0 + 19 ≤ 19 ∧ alc H_188 (.cells (List.toArray (setL [Value.int .i64 0, Value.int .i64 0, Value.int .i64 0, Value.int .i64 0, Value.int .i64 0, Value.int .i64 0, Value.int .i64 0, Value.int .i64 0, Value.int .i64 0, Value.int .i64 0, Value.slice none 0 0, Value.slice none 0 0, Value.int .i64 0, Value.int .i64 0, Value.int .i64 0, Value.int .i64 0, Value.int .i64 0, Value.int .i64 0, Value.slice none 0 0] 0 (Array.toList v190))) 43) fun b191 H_192 => CallsH Try.prog 16 #[Value.slice (some ⟨b191, 0, none⟩) 1 1, Value.int .i64 (1 : Int)] H_192 fun r193 H_194 => ∃ r195 : Bool, r193 = Value.bool r195 ∧ br (!r195)
 (R (Value.bool true) H_194)
 (J_19 [] H_194)))
def Try.p4 : Plan := (Plan.two Plan.leaf (Plan.two (Plan.two Plan.leaf (Plan.two (Plan.two Plan.leaf Plan.leaf) Plan.leaf)) (Plan.two Plan.leaf (Plan.two (Plan.join [] [0, 3, 5, 6] (Plan.two Plan.leaf (Plan.two (Plan.two Plan.leaf Plan.leaf) Plan.leaf))) (Plan.two (Plan.two Plan.leaf (Plan.one (Plan.loop [(39, 3)] [3, 5, 6, 37, 38] (Plan.two Plan.leaf (Plan.two (Plan.two Plan.leaf Plan.leaf) (Plan.two (Plan.one (Plan.two Plan.leaf (Plan.two (Plan.join [] [3, 5, 6, 9, 37, 38, 39] (Plan.two Plan.leaf (Plan.two Plan.leaf (Plan.two Plan.leaf Plan.leaf)))) Plan.leaf))) Plan.leaf)))))) (Plan.two Plan.leaf (Plan.two (Plan.join [] [3, 5, 6, 12] Plan.leaf) (Plan.two Plan.leaf (Plan.two (Plan.join [(15, 999999), (16, 3)] [3, 5, 6, 12, 13, 14] Plan.leaf) (Plan.two (Plan.two Plan.leaf (Plan.two (Plan.two Plan.leaf Plan.leaf) Plan.leaf)) (Plan.two (Plan.two Plan.leaf (Plan.one (Plan.loop [(90, 3)] [3, 5, 6, 12, 13, 14, 15, 89] (Plan.two Plan.leaf (Plan.two (Plan.two Plan.leaf Plan.leaf) (Plan.two (Plan.one (Plan.two Plan.leaf Plan.leaf)) Plan.leaf)))))) (Plan.two (Plan.two Plan.leaf (Plan.one (Plan.loop [(101, 3)] [3, 5, 6, 12, 13, 14, 15, 100] (Plan.two Plan.leaf (Plan.two (Plan.two Plan.leaf Plan.leaf) (Plan.two (Plan.one (Plan.two Plan.leaf Plan.leaf)) Plan.leaf)))))) (Plan.two (Plan.two Plan.leaf (Plan.two (Plan.two Plan.leaf Plan.leaf) Plan.leaf)) (Plan.two Plan.leaf (Plan.two (Plan.two Plan.leaf (Plan.two (Plan.two Plan.leaf Plan.leaf) Plan.leaf)) (Plan.two Plan.leaf (Plan.two Plan.leaf (Plan.two Plan.leaf Plan.leaf))))))))))))))))))
theorem Try.s4 {edits1p : Option Addr} {edits1l : Nat} {edits1c : Nat} {last2 : Array Value} {H : Heap} {R : Value → Heap → Prop} (h : Try.S4 edits1p edits1l edits1c last2 H R) : CallsH Try.prog 4 #[Value.slice edits1p edits1l edits1c, Value.agg last2] H R :=
  vcFun_sound Try.tab_ok Try.mixed Try.func4 Try.cal4 (p := Try.p4) (args := [Value.slice edits1p edits1l edits1c, Value.agg last2]) (Eq.mp (by kernel_rfl : Try.S4 edits1p edits1l edits1c last2 H R = vcFun Try.prog Try.tab Try.f4 Try.p4 [Value.slice edits1p edits1l edits1c, Value.agg last2] H R) h)

def Try.p5 : Plan := (Plan.two Plan.leaf (Plan.two (Plan.two Plan.leaf (Plan.two (Plan.two Plan.leaf Plan.leaf) Plan.leaf)) (Plan.two (Plan.join [] [0, 1] (Plan.two Plan.leaf (Plan.two (Plan.two Plan.leaf Plan.leaf) Plan.leaf))) (Plan.two Plan.leaf (Plan.two (Plan.two Plan.leaf (Plan.one (Plan.loop [(7, 3)] [0, 1, 5] (Plan.two (Plan.two Plan.leaf (Plan.two Plan.leaf Plan.leaf)) (Plan.two (Plan.join [] [0, 1, 5, 7] (Plan.one (Plan.two Plan.leaf (Plan.two (Plan.join [] [0, 1, 5, 7, 8, 9] (Plan.two Plan.leaf (Plan.two (Plan.two Plan.leaf Plan.leaf) Plan.leaf))) (Plan.two (Plan.two Plan.leaf (Plan.two (Plan.two Plan.leaf Plan.leaf) Plan.leaf)) (Plan.two Plan.leaf (Plan.two Plan.leaf Plan.leaf))))))) Plan.leaf))))) (Plan.two Plan.leaf (Plan.two Plan.leaf (Plan.two (Plan.two Plan.leaf (Plan.one (Plan.loop [(12, 3)] [1, 5, 10, 11] (Plan.two (Plan.two Plan.leaf (Plan.two Plan.leaf Plan.leaf)) (Plan.two (Plan.one (Plan.two Plan.leaf (Plan.two (Plan.join [(13, 3)] [1, 5, 10, 11, 12] (Plan.two Plan.leaf (Plan.two Plan.leaf Plan.leaf))) (Plan.two Plan.leaf (Plan.two (Plan.two Plan.leaf (Plan.two (Plan.two Plan.leaf Plan.leaf) Plan.leaf)) Plan.leaf))))) Plan.leaf))))) (Plan.two Plan.leaf (Plan.two (Plan.two Plan.leaf (Plan.two (Plan.two Plan.leaf Plan.leaf) Plan.leaf)) (Plan.two Plan.leaf Plan.leaf)))))))))))
def Try.p9 : Plan := (Plan.two Plan.leaf (Plan.two (Plan.two Plan.leaf (Plan.two (Plan.two Plan.leaf Plan.leaf) Plan.leaf)) (Plan.two Plan.leaf (Plan.two (Plan.join [] [2, 7] (Plan.two Plan.leaf (Plan.two (Plan.two Plan.leaf Plan.leaf) Plan.leaf))) (Plan.two (Plan.two Plan.leaf (Plan.one (Plan.loop [(32, 3)] [7, 30, 31] (Plan.two Plan.leaf (Plan.two (Plan.two Plan.leaf Plan.leaf) (Plan.two (Plan.one (Plan.two Plan.leaf (Plan.two (Plan.two Plan.leaf (Plan.two Plan.leaf (Plan.two Plan.leaf Plan.leaf))) (Plan.two Plan.leaf (Plan.two (Plan.two Plan.leaf Plan.leaf) Plan.leaf))))) Plan.leaf)))))) (Plan.two Plan.leaf Plan.leaf))))))
end Go.Proofs

/-
  Printed by a program of mine (gen.py): each function, over heaps; and that what is said of it is said of its call.
-/
set_option linter.unusedVariables false
set_option maxRecDepth 100000
namespace Go.Proofs
open Go.Sh

/-- scumble/scumblelaw11.anchor -/
def Try.S12  (H : Heap) (R : Value → Heap → Prop) : Prop :=
 CallsH Try.prog 13 #[Value.int .i64 (4 : Int), Value.int .i64 (4 : Int)] H fun r1 H_2 => ∃ r3 : Array Value, ∃ r4 : Int, r1 = Value.tuple #[Value.agg r3, Value.int .i64 r4] ∧ alc H_2 (.cells #[Value.int .i64 0, Value.int .i64 0, Value.int .i64 0, Value.slice none 0 0] 26) fun b5 H_6 => r3.size = 4 ∧ stAt H_6 ⟨b5, 0, none⟩ (Array.toList r3) fun H_7 => br ((r4 : Int) != (0 : Int))
 (R (Value.bool false) H_7)
 (∃ v8 : Array Value, v8.size = 4 ∧ rowIn H_7 ⟨b5, 0, none⟩ v8 ∧ CallsH Try.prog 19 #[Value.agg v8, Value.agg #[Value.int .i64 (1 : Int), Value.int .i64 0, Value.int .i64 0, Value.int .i64 (-1 : Int), Value.int .i64 (0 : Int), Value.int .i64 0, Value.int .i64 0, Value.int .i64 0, Value.int .i64 (4 : Int), Value.int .i64 (4 : Int), Value.slice none 0 0, Value.slice none 0 0, Value.int .i64 0, Value.int .i64 0, Value.int .i64 0, Value.int .i64 0, Value.int .i64 0, Value.int .i64 0, Value.slice none 0 0]] H_7 fun r9 H_10 => ∃ r11 : Array Value, ∃ r12 : Int, r9 = Value.tuple #[Value.agg r11, Value.int .i64 r12] ∧ r11.size = 4 ∧ stAt H_10 ⟨b5, 0, none⟩ (Array.toList r11) fun H_13 => ∃ v14 : Array Value, v14.size = 4 ∧ rowIn H_13 ⟨b5, 0, none⟩ v14 ∧ CallsH Try.prog 19 #[Value.agg v14, Value.agg #[Value.int .i64 (1 : Int), Value.int .i64 0, Value.int .i64 0, Value.int .i64 (0 : Int), Value.int .i64 (1 : Int), Value.int .i64 0, Value.int .i64 0, Value.int .i64 0, Value.int .i64 0, Value.int .i64 0, Value.slice none 0 0, Value.slice none 0 0, Value.int .i64 0, Value.int .i64 0, Value.int .i64 0, Value.int .i64 0, Value.int .i64 0, Value.int .i64 0, Value.slice none 0 0]] H_13 fun r15 H_16 => ∃ r17 : Array Value, ∃ r18 : Int, r15 = Value.tuple #[Value.agg r17, Value.int .i64 r18] ∧ r17.size = 4 ∧ stAt H_16 ⟨b5, 0, none⟩ (Array.toList r17) fun H_19 => ∃ v20 : Array Value, v20.size = 4 ∧ rowIn H_19 ⟨b5, 0, none⟩ v20 ∧ CallsH Try.prog 19 #[Value.agg v20, Value.agg #[Value.int .i64 (3 : Int), Value.int .i64 (1 : Int), Value.int .i64 (2 : Int), Value.int .i64 (-1 : Int), Value.int .i64 0, Value.int .i64 0, Value.int .i64 0, Value.int .i64 0, Value.int .i64 0, Value.int .i64 0, Value.slice none 0 0, Value.slice none 0 0, Value.int .i64 0, Value.int .i64 0, Value.int .i64 0, Value.int .i64 0, Value.int .i64 0, Value.int .i64 0, Value.slice none 0 0]] H_19 fun r21 H_22 => ∃ r23 : Array Value, ∃ r24 : Int, r21 = Value.tuple #[Value.agg r23, Value.int .i64 r24] ∧ alc H_22 (.cells #[Value.int .i64 0, Value.int .i64 0, Value.int .i64 0, Value.slice none 0 0] 26) fun b25 H_26 => r23.size = 4 ∧ stAt H_26 ⟨b25, 0, none⟩ (Array.toList r23) fun H_27 => ∃ v28 : Array Value, v28.size = 4 ∧ rowIn H_27 ⟨b25, 0, none⟩ v28 ∧ CallsH Try.prog 19 #[Value.agg v28, Value.agg #[Value.int .i64 (3 : Int), Value.int .i64 (2 : Int), Value.int .i64 (2 : Int), Value.int .i64 0, Value.int .i64 0, Value.int .i64 0, Value.int .i64 0, Value.int .i64 0, Value.int .i64 0, Value.int .i64 0, Value.slice none 0 0, Value.slice none 0 0, Value.int .i64 0, Value.int .i64 0, Value.int .i64 0, Value.int .i64 0, Value.int .i64 0, Value.int .i64 0, Value.slice none 0 0]] H_27 fun r29 H_30 => ∃ r31 : Array Value, ∃ r32 : Int, r29 = Value.tuple #[Value.agg r31, Value.int .i64 r32] ∧ alc H_30 (.cells #[Value.int .i64 0, Value.int .i64 0, Value.int .i64 0, Value.slice none 0 0] 26) fun b33 H_34 => r31.size = 4 ∧ stAt H_34 ⟨b33, 0, none⟩ (Array.toList r31) fun H_35 => ∃ v36 : Array Value, v36.size = 4 ∧ rowIn H_35 ⟨b25, 0, none⟩ v36 ∧ CallsH Try.prog 23 #[Value.agg v36, Value.int .i64 (1 : Int)] H_35 fun r37 H_38 => ∃ r39 : Int, ∃ r40 : Int, ∃ r41 : Bool, r37 = Value.tuple #[Value.int .i64 r39, Value.int .i64 r40, Value.bool r41] ∧ br ((r12 : Int) == (0 : Int)) (br ((r18 : Int) == (0 : Int)) (br ((r24 : Int) == (0 : Int)) (br ((r32 : Int) == (42 : Int)) (br r41 (br ((r39 : Int) == (2 : Int)) (∃ v42 : Array Value, v42.size = 4 ∧ rowIn H_38 ⟨b25, 0, none⟩ v42 ∧ CallsH Try.prog 25 #[Value.agg v42] H_38 fun r43 H_44 => ∃ r45 : Int, r43 = Value.int .i64 r45 ∧ br ((r45 : Int) == (2 : Int)) (∃ v46 : Array Value, v46.size = 4 ∧ rowIn H_44 ⟨b25, 0, none⟩ v46 ∧ CallsH Try.prog 26 #[Value.agg v46] H_44 fun r47 H_48 => ∃ r49 : Int, r47 = Value.int .i64 r49 ∧ br ((r49 : Int) == (2 : Int)) (∃ v50 : Array Value, v50.size = 4 ∧ rowIn H_48 ⟨b5, 0, none⟩ v50 ∧ CallsH Try.prog 26 #[Value.agg v50] H_48 fun r51 H_52 => ∃ r53 : Int, r51 = Value.int .i64 r53 ∧ R (Value.bool ((r53 : Int) == (1 : Int))) H_52) (R (Value.bool false) H_48)) (R (Value.bool false) H_44)) (R (Value.bool false) H_38)) (R (Value.bool false) H_38)) (R (Value.bool false) H_38)) (R (Value.bool false) H_38)) (R (Value.bool false) H_38)) (R (Value.bool false) H_38))
def Try.p12 : Plan := (Plan.two Plan.leaf (Plan.two Plan.leaf (Plan.two (Plan.two Plan.leaf (Plan.two (Plan.two Plan.leaf Plan.leaf) Plan.leaf)) (Plan.two Plan.leaf (Plan.two Plan.leaf (Plan.two Plan.leaf (Plan.two Plan.leaf (Plan.two Plan.leaf (Plan.two Plan.leaf Plan.leaf)))))))))
theorem Try.s12 {_u : Unit} {H : Heap} {R : Value → Heap → Prop} (h : Try.S12  H R) : CallsH Try.prog 12 #[] H R :=
  vcFun_sound Try.tab_ok Try.mixed Try.func12 Try.cal12 (p := Try.p12) (args := []) (Eq.mp (by kernel_rfl : Try.S12  H R = vcFun Try.prog Try.tab Try.f12 Try.p12 [] H R) h)

/-- scumble/tree.New -/
def Try.S13 (w1 : Int) (h2 : Int) (H : Heap) (R : Value → Heap → Prop) : Prop :=
 alc H (.cells #[Value.int .i64 0, Value.int .i64 0, Value.int .i64 0, Value.slice none 0 0] 26) fun b3 H_4 => ∀ J_5 : List Value → Heap → Prop, (∀ H_6 : Heap, (#[Value.int .i64 w1, Value.int .i64 h2, Value.int .i64 (1 : Int), Value.slice none 0 0].size = 4 ∧ stAt H_6 ⟨b3, 0, none⟩ (Array.toList #[Value.int .i64 w1, Value.int .i64 h2, Value.int .i64 (1 : Int), Value.slice none 0 0]) fun H_7 => ∃ res8 : Array Value, res8.size = 4 ∧ rowIn H_7 ⟨b3, 0, none⟩ res8 ∧ R (Value.tuple #[Value.agg res8, Value.int .i64 (0 : Int)]) H_7) → J_5 [] H_6) →
 br (decide ((w1 : Int) < (1 : Int))) (#[Value.int .i64 0, Value.int .i64 0, Value.int .i64 0, Value.slice none 0 0].size = 4 ∧ stAt H_4 ⟨b3, 0, none⟩ (Array.toList #[Value.int .i64 0, Value.int .i64 0, Value.int .i64 0, Value.slice none 0 0]) fun H_9 => ∃ res10 : Array Value, res10.size = 4 ∧ rowIn H_9 ⟨b3, 0, none⟩ res10 ∧ R (Value.tuple #[Value.agg res10, Value.int .i64 (31 : Int)]) H_9) (br (decide ((h2 : Int) < (1 : Int))) (#[Value.int .i64 0, Value.int .i64 0, Value.int .i64 0, Value.slice none 0 0].size = 4 ∧ stAt H_4 ⟨b3, 0, none⟩ (Array.toList #[Value.int .i64 0, Value.int .i64 0, Value.int .i64 0, Value.slice none 0 0]) fun H_11 => ∃ res12 : Array Value, res12.size = 4 ∧ rowIn H_11 ⟨b3, 0, none⟩ res12 ∧ R (Value.tuple #[Value.agg res12, Value.int .i64 (31 : Int)]) H_11) (br (decide ((w1 : Int) > (32768 : Int))) (#[Value.int .i64 0, Value.int .i64 0, Value.int .i64 0, Value.slice none 0 0].size = 4 ∧ stAt H_4 ⟨b3, 0, none⟩ (Array.toList #[Value.int .i64 0, Value.int .i64 0, Value.int .i64 0, Value.slice none 0 0]) fun H_13 => ∃ res14 : Array Value, res14.size = 4 ∧ rowIn H_13 ⟨b3, 0, none⟩ res14 ∧ R (Value.tuple #[Value.agg res14, Value.int .i64 (31 : Int)]) H_13) (br (decide ((h2 : Int) > (32768 : Int))) (#[Value.int .i64 0, Value.int .i64 0, Value.int .i64 0, Value.slice none 0 0].size = 4 ∧ stAt H_4 ⟨b3, 0, none⟩ (Array.toList #[Value.int .i64 0, Value.int .i64 0, Value.int .i64 0, Value.slice none 0 0]) fun H_15 => ∃ res16 : Array Value, res16.size = 4 ∧ rowIn H_15 ⟨b3, 0, none⟩ res16 ∧ R (Value.tuple #[Value.agg res16, Value.int .i64 (31 : Int)]) H_15) (br (decide (((IntKind.wrap .i64 (w1 * h2)) : Int) > (4194304 : Int)))
 (#[Value.int .i64 0, Value.int .i64 0, Value.int .i64 0, Value.slice none 0 0].size = 4 ∧ stAt H_4 ⟨b3, 0, none⟩ (Array.toList #[Value.int .i64 0, Value.int .i64 0, Value.int .i64 0, Value.slice none 0 0]) fun H_17 => ∃ res18 : Array Value, res18.size = 4 ∧ rowIn H_17 ⟨b3, 0, none⟩ res18 ∧ R (Value.tuple #[Value.agg res18, Value.int .i64 (31 : Int)]) H_17)
 (J_5 [] H_4)))))
def Try.p13 : Plan := (Plan.two Plan.leaf (Plan.two (Plan.join [] [0, 1, 4] (Plan.two Plan.leaf (Plan.two (Plan.two Plan.leaf Plan.leaf) Plan.leaf))) (Plan.two Plan.leaf Plan.leaf)))
theorem Try.s13 {w1 : Int} {h2 : Int} {H : Heap} {R : Value → Heap → Prop} (h : Try.S13 w1 h2 H R) : CallsH Try.prog 13 #[Value.int .i64 w1, Value.int .i64 h2] H R :=
  vcFun_sound Try.tab_ok Try.mixed Try.func13 Try.cal13 (p := Try.p13) (args := [Value.int .i64 w1, Value.int .i64 h2]) (Eq.mp (by kernel_rfl : Try.S13 w1 h2 H R = vcFun Try.prog Try.tab Try.f13 Try.p13 [Value.int .i64 w1, Value.int .i64 h2] H R) h)

/-- scumble/scumbleref11.New -/
def Try.S14 (w1 : Int) (h2 : Int) (H : Heap) (R : Value → Heap → Prop) : Prop :=
 alc H (.cells #[Value.int .i64 0, Value.int .i64 0, Value.int .i64 0, Value.slice none 0 0] 32) fun b3 H_4 => CallsH Try.prog 34 #[Value.int .i64 w1, Value.int .i64 h2] H_4 fun r5 H_6 => ∃ r7 : Bool, r5 = Value.bool r7 ∧ br (!r7)
 (#[Value.int .i64 0, Value.int .i64 0, Value.int .i64 0, Value.slice none 0 0].size = 4 ∧ stAt H_6 ⟨b3, 0, none⟩ (Array.toList #[Value.int .i64 0, Value.int .i64 0, Value.int .i64 0, Value.slice none 0 0]) fun H_8 => ∃ res9 : Array Value, res9.size = 4 ∧ rowIn H_8 ⟨b3, 0, none⟩ res9 ∧ R (Value.tuple #[Value.agg res9, Value.int .i64 (31 : Int)]) H_8)
 (#[Value.int .i64 w1, Value.int .i64 h2, Value.int .i64 (1 : Int), Value.slice none 0 0].size = 4 ∧ stAt H_6 ⟨b3, 0, none⟩ (Array.toList #[Value.int .i64 w1, Value.int .i64 h2, Value.int .i64 (1 : Int), Value.slice none 0 0]) fun H_10 => ∃ res11 : Array Value, res11.size = 4 ∧ rowIn H_10 ⟨b3, 0, none⟩ res11 ∧ R (Value.tuple #[Value.agg res11, Value.int .i64 (0 : Int)]) H_10)
def Try.p14 : Plan := (Plan.two Plan.leaf (Plan.two (Plan.two Plan.leaf (Plan.two (Plan.two Plan.leaf Plan.leaf) Plan.leaf)) (Plan.two Plan.leaf Plan.leaf)))
theorem Try.s14 {w1 : Int} {h2 : Int} {H : Heap} {R : Value → Heap → Prop} (h : Try.S14 w1 h2 H R) : CallsH Try.prog 14 #[Value.int .i64 w1, Value.int .i64 h2] H R :=
  vcFun_sound Try.tab_ok Try.mixed Try.func14 Try.cal14 (p := Try.p14) (args := [Value.int .i64 w1, Value.int .i64 h2]) (Eq.mp (by kernel_rfl : Try.S14 w1 h2 H R = vcFun Try.prog Try.tab Try.f14 Try.p14 [Value.int .i64 w1, Value.int .i64 h2] H R) h)

/-- scumble/scumblelaw11.begun -/
def Try.S15 (w1 : Int) (h2 : Int) (H : Heap) (R : Value → Heap → Prop) : Prop :=
 alc H (.cells #[Value.int .i64 0, Value.int .i64 0, Value.int .i64 0, Value.slice none 0 0] 26) fun b3 H_4 => alc H_4 (.cells #[Value.int .i64 0, Value.int .i64 0, Value.int .i64 0, Value.slice none 0 0] 32) fun b5 H_6 => CallsH Try.prog 13 #[Value.int .i64 w1, Value.int .i64 h2] H_6 fun r7 H_8 => ∃ r9 : Array Value, ∃ r10 : Int, r7 = Value.tuple #[Value.agg r9, Value.int .i64 r10] ∧ alc H_8 (.cells #[Value.int .i64 0, Value.int .i64 0, Value.int .i64 0, Value.slice none 0 0] 26) fun b11 H_12 => r9.size = 4 ∧ stAt H_12 ⟨b11, 0, none⟩ (Array.toList r9) fun H_13 => CallsH Try.prog 14 #[Value.int .i64 w1, Value.int .i64 h2] H_13 fun r14 H_15 => ∃ r16 : Array Value, ∃ r17 : Int, r14 = Value.tuple #[Value.agg r16, Value.int .i64 r17] ∧ alc H_15 (.cells #[Value.int .i64 0, Value.int .i64 0, Value.int .i64 0, Value.slice none 0 0] 32) fun b18 H_19 => r16.size = 4 ∧ stAt H_19 ⟨b18, 0, none⟩ (Array.toList r16) fun H_20 => ∃ v21 : Array Value, v21.size = 4 ∧ rowIn H_20 ⟨b11, 0, none⟩ v21 ∧ ∃ v22 : Array Value, v22.size = 4 ∧ rowIn H_20 ⟨b18, 0, none⟩ v22 ∧ br ((r10 : Int) == (0 : Int)) (br ((r17 : Int) == (0 : Int)) (br (decide ((w1 : Int) ≤ (24 : Int))) (v21.size = 4 ∧ stAt H_20 ⟨b3, 0, none⟩ (Array.toList v21) fun H_23 => (Ext H_20 H_23 ∨ (∃ v27 : Array Value, v27.size = 4 ∧ rowIn H_23 ⟨b18, 0, none⟩ v27 ∧ Value.agg v27 = Value.agg v22)) ∧ v22.size = 4 ∧ stAt H_23 ⟨b5, 0, none⟩ (Array.toList v22) fun H_24 => ∃ res25 : Array Value, res25.size = 4 ∧ rowIn H_24 ⟨b3, 0, none⟩ res25 ∧ ∃ res26 : Array Value, res26.size = 4 ∧ rowIn H_24 ⟨b5, 0, none⟩ res26 ∧ R (Value.tuple #[Value.agg res25, Value.agg res26, Value.bool (decide ((h2 : Int) ≤ (24 : Int)))]) H_24) (v21.size = 4 ∧ stAt H_20 ⟨b3, 0, none⟩ (Array.toList v21) fun H_28 => (Ext H_20 H_28 ∨ (∃ v32 : Array Value, v32.size = 4 ∧ rowIn H_28 ⟨b18, 0, none⟩ v32 ∧ Value.agg v32 = Value.agg v22)) ∧ v22.size = 4 ∧ stAt H_28 ⟨b5, 0, none⟩ (Array.toList v22) fun H_29 => ∃ res30 : Array Value, res30.size = 4 ∧ rowIn H_29 ⟨b3, 0, none⟩ res30 ∧ ∃ res31 : Array Value, res31.size = 4 ∧ rowIn H_29 ⟨b5, 0, none⟩ res31 ∧ R (Value.tuple #[Value.agg res30, Value.agg res31, Value.bool false]) H_29)) (v21.size = 4 ∧ stAt H_20 ⟨b3, 0, none⟩ (Array.toList v21) fun H_33 => (Ext H_20 H_33 ∨ (∃ v37 : Array Value, v37.size = 4 ∧ rowIn H_33 ⟨b18, 0, none⟩ v37 ∧ Value.agg v37 = Value.agg v22)) ∧ v22.size = 4 ∧ stAt H_33 ⟨b5, 0, none⟩ (Array.toList v22) fun H_34 => ∃ res35 : Array Value, res35.size = 4 ∧ rowIn H_34 ⟨b3, 0, none⟩ res35 ∧ ∃ res36 : Array Value, res36.size = 4 ∧ rowIn H_34 ⟨b5, 0, none⟩ res36 ∧ R (Value.tuple #[Value.agg res35, Value.agg res36, Value.bool false]) H_34)) (v21.size = 4 ∧ stAt H_20 ⟨b3, 0, none⟩ (Array.toList v21) fun H_38 => (Ext H_20 H_38 ∨ (∃ v42 : Array Value, v42.size = 4 ∧ rowIn H_38 ⟨b18, 0, none⟩ v42 ∧ Value.agg v42 = Value.agg v22)) ∧ v22.size = 4 ∧ stAt H_38 ⟨b5, 0, none⟩ (Array.toList v22) fun H_39 => ∃ res40 : Array Value, res40.size = 4 ∧ rowIn H_39 ⟨b3, 0, none⟩ res40 ∧ ∃ res41 : Array Value, res41.size = 4 ∧ rowIn H_39 ⟨b5, 0, none⟩ res41 ∧ R (Value.tuple #[Value.agg res40, Value.agg res41, Value.bool false]) H_39)
def Try.p15 : Plan := (Plan.two Plan.leaf (Plan.two Plan.leaf (Plan.two Plan.leaf (Plan.two Plan.leaf Plan.leaf))))
theorem Try.s15 {w1 : Int} {h2 : Int} {H : Heap} {R : Value → Heap → Prop} (h : Try.S15 w1 h2 H R) : CallsH Try.prog 15 #[Value.int .i64 w1, Value.int .i64 h2] H R :=
  vcFun_sound Try.tab_ok Try.mixed Try.func15 Try.cal15 (p := Try.p15) (args := [Value.int .i64 w1, Value.int .i64 h2]) (Eq.mp (by kernel_rfl : Try.S15 w1 h2 H R = vcFun Try.prog Try.tab Try.f15 Try.p15 [Value.int .i64 w1, Value.int .i64 h2] H R) h)

/-- scumble/scumblemade.Small -/
def Try.S16 (list1p : Option Addr) (list1l : Nat) (list1c : Nat) (most2 : Int) (H : Heap) (R : Value → Heap → Prop) : Prop :=
 br (decide ((((list1l : Nat) : Int) : Int) > most2))
 (R (Value.bool false) H)
 (∀ X_3 : List Value → Heap → Prop, (∀ t4 : Int, ∀ H_5 : Heap, (br (decide ((t4 : Int) < ((list1l : Nat) : Int)))
 (∀ J_6 : List Value → Heap → Prop, (∀ H_7 : Heap, (X_3 [Value.int .i64 (IntKind.wrap .i64 (t4 + (1 : Int)))] H_7) → J_6 [] H_7) →
 ∃ a8 : Addr, list1p = some a8 ∧ 0 ≤ t4 ∧ t4 < ((list1l : Nat) : Int) ∧ ∃ v9 : Array Value, v9.size = 19 ∧ rowIn H_5 (Addr.add a8 (Int.toNat t4 * 19)) v9 ∧ alc H_5 (.cells #[Value.int .i64 0, Value.int .i64 0, Value.int .i64 0, Value.int .i64 0, Value.int .i64 0, Value.int .i64 0, Value.int .i64 0, Value.int .i64 0, Value.int .i64 0, Value.int .i64 0, Value.slice none 0 0, Value.slice none 0 0, Value.int .i64 0, Value.int .i64 0, Value.int .i64 0, Value.int .i64 0, Value.int .i64 0, Value.int .i64 0, Value.slice none 0 0] 43) fun b10 H_11 => v9.size = 19 ∧ stAt H_11 ⟨b10, 0, none⟩ (Array.toList v9) fun H_12 => ∃ P_13p : Option Addr, ∃ P_13l : Nat, ∃ P_13c : Nat, cell H_12 (Addr.add ⟨b10, 0, none⟩ 10) = some (Value.slice P_13p P_13l P_13c) ∧ br (decide ((((P_13l : Nat) : Int) : Int) > (600 : Int))) (R (Value.bool false) H_12) (∃ Shape14p : Option Addr, ∃ Shape14l : Nat, ∃ Shape14c : Nat, cell H_12 (Addr.add ⟨b10, 0, none⟩ 11) = some (Value.slice Shape14p Shape14l Shape14c) ∧ br (decide ((((Shape14l : Nat) : Int) : Int) > (300 : Int))) (R (Value.bool false) H_12) (∃ Params15p : Option Addr, ∃ Params15l : Nat, ∃ Params15c : Nat, cell H_12 (Addr.add ⟨b10, 0, none⟩ 18) = some (Value.slice Params15p Params15l Params15c) ∧ br (decide ((((Params15l : Nat) : Int) : Int) > (100 : Int))) (R (Value.bool false) H_12) (∃ Kind16 : Int, cell H_12 (Addr.add ⟨b10, 0, none⟩ 0) = some (Value.int .i64 Kind16) ∧ br ((Kind16 : Int) == (1 : Int)) (∃ N17 : Int, cell H_12 (Addr.add ⟨b10, 0, none⟩ 4) = some (Value.int .i64 N17) ∧ br ((N17 : Int) == (0 : Int)) (∃ W18 : Int, cell H_12 (Addr.add ⟨b10, 0, none⟩ 8) = some (Value.int .i64 W18) ∧ ∃ H_19 : Int, cell H_12 (Addr.add ⟨b10, 0, none⟩ 9) = some (Value.int .i64 H_19) ∧ CallsH Try.prog 34 #[Value.int .i64 W18, Value.int .i64 H_19] H_12 fun r20 H_21 => ∃ r22 : Bool, r20 = Value.bool r22 ∧ br r22 (∃ W23 : Int, cell H_21 (Addr.add ⟨b10, 0, none⟩ 8) = some (Value.int .i64 W23) ∧ ∃ H_24 : Int, cell H_21 (Addr.add ⟨b10, 0, none⟩ 9) = some (Value.int .i64 H_24) ∧ br (decide (((IntKind.wrap .i64 (W23 * H_24)) : Int) > (600 : Int)))
 (R (Value.bool false) H_21)
 (J_6 [] H_21)) (J_6 [] H_21)) (J_6 [] H_12)) (J_6 [] H_12)))))
 (R (Value.bool true) H_5)) → X_3 [Value.int .i64 t4] H_5) → X_3 [Value.int .i64 (0 : Int)] H)
def Try.p16 : Plan := (Plan.two Plan.leaf (Plan.two (Plan.two Plan.leaf (Plan.two (Plan.two Plan.leaf Plan.leaf) Plan.leaf)) (Plan.two (Plan.two Plan.leaf (Plan.one (Plan.loop [(13, 3)] [11, 12] (Plan.two Plan.leaf (Plan.two (Plan.two Plan.leaf Plan.leaf) (Plan.two (Plan.join [] [11, 12, 13] (Plan.one (Plan.two Plan.leaf (Plan.two Plan.leaf (Plan.two (Plan.two Plan.leaf Plan.leaf) Plan.leaf))))) Plan.leaf)))))) (Plan.two Plan.leaf Plan.leaf))))
theorem Try.s16 {list1p : Option Addr} {list1l : Nat} {list1c : Nat} {most2 : Int} {H : Heap} {R : Value → Heap → Prop} (h : Try.S16 list1p list1l list1c most2 H R) : CallsH Try.prog 16 #[Value.slice list1p list1l list1c, Value.int .i64 most2] H R :=
  vcFun_sound Try.tab_ok Try.mixed Try.func16 Try.cal16 (p := Try.p16) (args := [Value.slice list1p list1l list1c, Value.int .i64 most2]) (Eq.mp (by kernel_rfl : Try.S16 list1p list1l list1c most2 H R = vcFun Try.prog Try.tab Try.f16 Try.p16 [Value.slice list1p list1l list1c, Value.int .i64 most2] H R) h)

/-- (scumble/scumbleref11.Doc).Do -/
def Try.S17 (d1 : Array Value) (e2 : Array Value) (H : Heap) (R : Value → Heap → Prop) : Prop :=
 alc H (.cells d1 32) fun b3 H_4 => alc H_4 (.cells e2 48) fun b5 H_6 => alc H_6 (.cells #[Value.int .i64 0, Value.int .i64 0, Value.int .i64 0, Value.slice none 0 0] 32) fun b7 H_8 => ∃ Kind9 : Int, cell H_8 (Addr.add ⟨b5, 0, none⟩ 0) = some (Value.int .i64 Kind9) ∧ br ((Kind9 : Int) == (1 : Int))
 (∃ v10 : Array Value, v10.size = 4 ∧ rowIn H_8 ⟨b3, 0, none⟩ v10 ∧ ∃ v11 : Array Value, v11.size = 19 ∧ rowIn H_8 ⟨b5, 0, none⟩ v11 ∧ CallsH Try.prog 35 #[Value.agg v10, Value.agg v11] H_8 fun r12 H_13 => ∃ r14 : Array Value, ∃ r15 : Int, r12 = Value.tuple #[Value.agg r14, Value.int .i64 r15] ∧ r14.size = 4 ∧ stAt H_13 ⟨b7, 0, none⟩ (Array.toList r14) fun H_16 => ∃ res17 : Array Value, res17.size = 4 ∧ rowIn H_16 ⟨b7, 0, none⟩ res17 ∧ R (Value.tuple #[Value.agg res17, Value.int .i64 r15]) H_16)
 (br ((Kind9 : Int) == (2 : Int))
 (∃ v18 : Array Value, v18.size = 4 ∧ rowIn H_8 ⟨b3, 0, none⟩ v18 ∧ ∃ ID19 : Int, cell H_8 (Addr.add ⟨b5, 0, none⟩ 1) = some (Value.int .i64 ID19) ∧ CallsH Try.prog 24 #[Value.agg v18, Value.int .i64 ID19] H_8 fun r20 H_21 => ∃ r22 : Int, r20 = Value.int .i64 r22 ∧ br (decide ((r22 : Int) < (0 : Int)))
 (∃ v23 : Array Value, v23.size = 4 ∧ rowIn H_21 ⟨b3, 0, none⟩ v23 ∧ v23.size = 4 ∧ stAt H_21 ⟨b7, 0, none⟩ (Array.toList v23) fun H_24 => ∃ res25 : Array Value, res25.size = 4 ∧ rowIn H_24 ⟨b7, 0, none⟩ res25 ∧ R (Value.tuple #[Value.agg res25, Value.int .i64 (40 : Int)]) H_24)
 (∃ v26 : Array Value, v26.size = 4 ∧ rowIn H_21 ⟨b3, 0, none⟩ v26 ∧ ∃ ID27 : Int, cell H_21 (Addr.add ⟨b5, 0, none⟩ 1) = some (Value.int .i64 ID27) ∧ CallsH Try.prog 36 #[Value.agg v26, Value.int .i64 ID27] H_21 fun r28 H_29 => ∃ r30p : Option Addr, ∃ r30l : Nat, ∃ r30c : Nat, ∃ r31p : Option Addr, ∃ r31l : Nat, ∃ r31c : Nat, r28 = Value.tuple #[Value.slice r30p r30l r30c, Value.slice r31p r31l r31c] ∧ stAt H_29 (Addr.add ⟨b3, 0, none⟩ 3) [Value.slice r30p r30l r30c] fun H_32 => ∃ v33 : Array Value, v33.size = 4 ∧ rowIn H_32 ⟨b3, 0, none⟩ v33 ∧ v33.size = 4 ∧ stAt H_32 ⟨b7, 0, none⟩ (Array.toList v33) fun H_34 => ∃ res35 : Array Value, res35.size = 4 ∧ rowIn H_34 ⟨b7, 0, none⟩ res35 ∧ R (Value.tuple #[Value.agg res35, Value.int .i64 (0 : Int)]) H_34))
 (br ((Kind9 : Int) == (3 : Int))
 (∃ v36 : Array Value, v36.size = 4 ∧ rowIn H_8 ⟨b3, 0, none⟩ v36 ∧ ∃ v37 : Array Value, v37.size = 19 ∧ rowIn H_8 ⟨b5, 0, none⟩ v37 ∧ CallsH Try.prog 37 #[Value.agg v36, Value.agg v37] H_8 fun r38 H_39 => ∃ r40 : Array Value, ∃ r41 : Int, r38 = Value.tuple #[Value.agg r40, Value.int .i64 r41] ∧ r40.size = 4 ∧ stAt H_39 ⟨b7, 0, none⟩ (Array.toList r40) fun H_42 => ∃ res43 : Array Value, res43.size = 4 ∧ rowIn H_42 ⟨b7, 0, none⟩ res43 ∧ R (Value.tuple #[Value.agg res43, Value.int .i64 r41]) H_42)
 (∀ J_44 : List Value → Heap → Prop, (∀ H_45 : Heap, (∃ v46 : Array Value, v46.size = 4 ∧ rowIn H_45 ⟨b3, 0, none⟩ v46 ∧ ∃ ID47 : Int, cell H_45 (Addr.add ⟨b5, 0, none⟩ 1) = some (Value.int .i64 ID47) ∧ CallsH Try.prog 24 #[Value.agg v46, Value.int .i64 ID47] H_45 fun r48 H_49 => ∃ i50 : Int, r48 = Value.int .i64 i50 ∧ br (decide ((i50 : Int) < (0 : Int)))
 (∃ v51 : Array Value, v51.size = 4 ∧ rowIn H_49 ⟨b3, 0, none⟩ v51 ∧ v51.size = 4 ∧ stAt H_49 ⟨b7, 0, none⟩ (Array.toList v51) fun H_52 => ∃ res53 : Array Value, res53.size = 4 ∧ rowIn H_52 ⟨b7, 0, none⟩ res53 ∧ R (Value.tuple #[Value.agg res53, Value.int .i64 (40 : Int)]) H_52)
 (∀ J_54 : List Value → Heap → Prop, (∀ l55 : Addr, ∀ f56 : Int, ∀ H_57 : Heap, (br ((f56 : Int) != (0 : Int))
 (∃ v58 : Array Value, v58.size = 4 ∧ rowIn H_57 ⟨b3, 0, none⟩ v58 ∧ v58.size = 4 ∧ stAt H_57 ⟨b7, 0, none⟩ (Array.toList v58) fun H_59 => ∃ res60 : Array Value, res60.size = 4 ∧ rowIn H_59 ⟨b7, 0, none⟩ res60 ∧ R (Value.tuple #[Value.agg res60, Value.int .i64 f56]) H_59)
 (alc H_57 (.cells #[] 66) fun b61 H_62 => ∃ L63p : Option Addr, ∃ L63l : Nat, ∃ L63c : Nat, cell H_62 (Addr.add ⟨b3, 0, none⟩ 3) = some (Value.slice L63p L63l L63c) ∧ appQ 19 200 #[Value.int .i64 0, Value.int .i64 0, Value.int .i64 0, Value.bool false, Value.int .i64 0, Value.int .i64 0, Value.int .i64 0, Value.int .i64 0, Value.slice none 0 0, Value.slice none 0 0, Value.int .i64 0, Value.int .i64 0, Value.int .i64 0, Value.int .i64 0, Value.int .i64 0, Value.int .i64 0, Value.bool false, Value.int .i64 0, Value.slice none 0 0] H_62 (some ⟨b61, 0, none⟩) 0 0 L63p L63l 66 fun app64p app64l app64c H_65 => stAt H_65 (Addr.add ⟨b3, 0, none⟩ 3) [Value.slice app64p app64l app64c] fun H_66 => ∃ L67p : Option Addr, ∃ L67l : Nat, ∃ L67c : Nat, cell H_66 (Addr.add ⟨b3, 0, none⟩ 3) = some (Value.slice L67p L67l L67c) ∧ ∃ v68 : Array Value, v68.size = 19 ∧ rowIn H_66 l55 v68 ∧ ∃ a69 : Addr, L67p = some a69 ∧ 0 ≤ i50 ∧ i50 < ((L67l : Nat) : Int) ∧ v68.size = 19 ∧ stAt H_66 (Addr.add a69 (Int.toNat i50 * 19)) (Array.toList v68) fun H_70 => ∃ v71 : Array Value, v71.size = 4 ∧ rowIn H_70 ⟨b3, 0, none⟩ v71 ∧ v71.size = 4 ∧ stAt H_70 ⟨b7, 0, none⟩ (Array.toList v71) fun H_72 => ∃ res73 : Array Value, res73.size = 4 ∧ rowIn H_72 ⟨b7, 0, none⟩ res73 ∧ R (Value.tuple #[Value.agg res73, Value.int .i64 (0 : Int)]) H_72)) → J_54 [Value.pointer (some l55), Value.int .i64 f56] H_57) →
 ∃ v74 : Array Value, v74.size = 4 ∧ rowIn H_49 ⟨b3, 0, none⟩ v74 ∧ ∃ L75p : Option Addr, ∃ L75l : Nat, ∃ L75c : Nat, cell H_49 (Addr.add ⟨b3, 0, none⟩ 3) = some (Value.slice L75p L75l L75c) ∧ ∃ a76 : Addr, L75p = some a76 ∧ 0 ≤ i50 ∧ i50 < ((L75l : Nat) : Int) ∧ ∃ v77 : Array Value, v77.size = 19 ∧ rowIn H_49 (Addr.add a76 (Int.toNat i50 * 19)) v77 ∧ ∃ v78 : Array Value, v78.size = 19 ∧ rowIn H_49 ⟨b5, 0, none⟩ v78 ∧ (CallsH Try.prog 38 #[Value.agg v74, Value.agg v77, Value.agg v78] H_49 fun r79 H_80 => ∃ r81 : Array Value, ∃ r82 : Int, r79 = Value.tuple #[Value.agg r81, Value.int .i64 r82] ∧ alc H_80 (.cells #[Value.int .i64 0, Value.int .i64 0, Value.int .i64 0, Value.bool false, Value.int .i64 0, Value.int .i64 0, Value.int .i64 0, Value.int .i64 0, Value.slice none 0 0, Value.slice none 0 0, Value.int .i64 0, Value.int .i64 0, Value.int .i64 0, Value.int .i64 0, Value.int .i64 0, Value.int .i64 0, Value.bool false, Value.int .i64 0, Value.slice none 0 0] 66) fun b83 H_84 => r81.size = 19 ∧ stAt H_84 ⟨b83, 0, none⟩ (Array.toList r81) fun H_85 => J_54 [Value.pointer (some ⟨b83, 0, none⟩), Value.int .i64 r82] H_85) ∧ (alc H_49 (.cells #[Value.int .i64 0, Value.int .i64 0, Value.int .i64 0, Value.bool false, Value.int .i64 0, Value.int .i64 0, Value.int .i64 0, Value.int .i64 0, Value.slice none 0 0, Value.slice none 0 0, Value.int .i64 0, Value.int .i64 0, Value.int .i64 0, Value.int .i64 0, Value.int .i64 0, Value.int .i64 0, Value.bool false, Value.int .i64 0, Value.slice none 0 0] 66) fun b86 H_87 => (Ext H_49 H_87 ∨ (∃ v93 : Array Value, v93.size = 19 ∧ rowIn H_87 ⟨b5, 0, none⟩ v93 ∧ Value.agg v93 = Value.agg v78) ∧ (∃ v94 : Array Value, v94.size = 19 ∧ rowIn H_87 (Addr.add a76 (Int.toNat i50 * 19)) v94 ∧ Value.agg v94 = Value.agg v77) ∧ (∃ L95p : Option Addr, ∃ L95l : Nat, ∃ L95c : Nat, cell H_87 (Addr.add ⟨b3, 0, none⟩ 3) = some (Value.slice L95p L95l L95c) ∧ Value.slice L95p L95l L95c = Value.slice L75p L75l L75c) ∧ (∃ v96 : Array Value, v96.size = 4 ∧ rowIn H_87 ⟨b3, 0, none⟩ v96 ∧ Value.agg v96 = Value.agg v74)) ∧ CallsH Try.prog 38 #[Value.agg v74, Value.agg v77, Value.agg v78] H_87 fun r88 H_89 => ∃ r90 : Array Value, ∃ r91 : Int, r88 = Value.tuple #[Value.agg r90, Value.int .i64 r91] ∧ r90.size = 19 ∧ stAt H_89 ⟨b86, 0, none⟩ (Array.toList r90) fun H_92 => J_54 [Value.pointer (some ⟨b86, 0, none⟩), Value.int .i64 r91] H_92))) → J_44 [] H_45) →
 ∃ Kind97 : Int, cell H_8 (Addr.add ⟨b5, 0, none⟩ 0) = some (Value.int .i64 Kind97) ∧ br (decide ((Kind97 : Int) < (4 : Int))) (∃ v98 : Array Value, v98.size = 4 ∧ rowIn H_8 ⟨b3, 0, none⟩ v98 ∧ v98.size = 4 ∧ stAt H_8 ⟨b7, 0, none⟩ (Array.toList v98) fun H_99 => ∃ res100 : Array Value, res100.size = 4 ∧ rowIn H_99 ⟨b7, 0, none⟩ res100 ∧ R (Value.tuple #[Value.agg res100, Value.int .i64 (41 : Int)]) H_99) (∃ Kind101 : Int, cell H_8 (Addr.add ⟨b5, 0, none⟩ 0) = some (Value.int .i64 Kind101) ∧ br (decide ((Kind101 : Int) > (9 : Int)))
 (∃ v102 : Array Value, v102.size = 4 ∧ rowIn H_8 ⟨b3, 0, none⟩ v102 ∧ v102.size = 4 ∧ stAt H_8 ⟨b7, 0, none⟩ (Array.toList v102) fun H_103 => ∃ res104 : Array Value, res104.size = 4 ∧ rowIn H_103 ⟨b7, 0, none⟩ res104 ∧ R (Value.tuple #[Value.agg res104, Value.int .i64 (41 : Int)]) H_103)
 (J_44 [] H_8)))))
def Try.p17 : Plan := (Plan.two Plan.leaf (Plan.two (Plan.two Plan.leaf (Plan.one (Plan.two Plan.leaf (Plan.two (Plan.two Plan.leaf Plan.leaf) (Plan.two Plan.leaf (Plan.two (Plan.two (Plan.two Plan.leaf (Plan.two (Plan.two Plan.leaf Plan.leaf) Plan.leaf)) (Plan.two Plan.leaf (Plan.two Plan.leaf (Plan.two Plan.leaf Plan.leaf)))) (Plan.two Plan.leaf (Plan.two (Plan.two Plan.leaf Plan.leaf) Plan.leaf)))))))) (Plan.two (Plan.join [] [2, 3, 4] (Plan.two Plan.leaf (Plan.two (Plan.two Plan.leaf Plan.leaf) Plan.leaf))) (Plan.two Plan.leaf (Plan.two (Plan.two Plan.leaf (Plan.two (Plan.two Plan.leaf Plan.leaf) Plan.leaf)) (Plan.two (Plan.join [(9, 999999), (10, 3)] [2, 4, 8] Plan.leaf) (Plan.two (Plan.two Plan.leaf (Plan.two (Plan.two Plan.leaf Plan.leaf) Plan.leaf)) (Plan.two Plan.leaf (Plan.two Plan.leaf (Plan.two Plan.leaf Plan.leaf))))))))))
theorem Try.s17 {d1 : Array Value} {e2 : Array Value} {H : Heap} {R : Value → Heap → Prop} (h : Try.S17 d1 e2 H R) : CallsH Try.prog 17 #[Value.agg d1, Value.agg e2] H R :=
  vcFun_sound Try.tab_ok Try.mixed Try.func17 Try.cal17 (p := Try.p17) (args := [Value.agg d1, Value.agg e2]) (Eq.mp (by kernel_rfl : Try.S17 d1 e2 H R = vcFun Try.prog Try.tab Try.f17 Try.p17 [Value.agg d1, Value.agg e2] H R) h)

/-- scumble/scumblemade.Edit -/
def Try.S18 (e1 : Array Value) (H : Heap) (R : Value → Heap → Prop) : Prop :=
 alc H (.cells e1 43) fun b2 H_3 => alc H_3 (.cells #[Value.int .i64 0, Value.int .i64 0, Value.int .i64 0, Value.int .i64 0, Value.int .i64 0, Value.int .i64 0, Value.int .i64 0, Value.int .i64 0, Value.int .i64 0, Value.int .i64 0, Value.slice none 0 0, Value.slice none 0 0, Value.int .i64 0, Value.int .i64 0, Value.int .i64 0, Value.int .i64 0, Value.int .i64 0, Value.int .i64 0, Value.slice none 0 0] 48) fun b4 H_5 => ∃ Kind6 : Int, cell H_5 (Addr.add ⟨b2, 0, none⟩ 0) = some (Value.int .i64 Kind6) ∧ ∃ ID7 : Int, cell H_5 (Addr.add ⟨b2, 0, none⟩ 1) = some (Value.int .i64 ID7) ∧ ∃ To8 : Int, cell H_5 (Addr.add ⟨b2, 0, none⟩ 2) = some (Value.int .i64 To8) ∧ ∃ At9 : Int, cell H_5 (Addr.add ⟨b2, 0, none⟩ 3) = some (Value.int .i64 At9) ∧ ∃ N10 : Int, cell H_5 (Addr.add ⟨b2, 0, none⟩ 4) = some (Value.int .i64 N10) ∧ ∃ M11 : Int, cell H_5 (Addr.add ⟨b2, 0, none⟩ 5) = some (Value.int .i64 M11) ∧ ∃ X_12 : Int, cell H_5 (Addr.add ⟨b2, 0, none⟩ 6) = some (Value.int .i64 X_12) ∧ ∃ Y13 : Int, cell H_5 (Addr.add ⟨b2, 0, none⟩ 7) = some (Value.int .i64 Y13) ∧ ∃ W14 : Int, cell H_5 (Addr.add ⟨b2, 0, none⟩ 8) = some (Value.int .i64 W14) ∧ ∃ H_15 : Int, cell H_5 (Addr.add ⟨b2, 0, none⟩ 9) = some (Value.int .i64 H_15) ∧ ∃ P_16p : Option Addr, ∃ P_16l : Nat, ∃ P_16c : Nat, cell H_5 (Addr.add ⟨b2, 0, none⟩ 10) = some (Value.slice P_16p P_16l P_16c) ∧ ∃ Map17 : Array Value, Map17.size = 6 ∧ rowIn H_5 (Addr.add ⟨b2, 0, none⟩ 12) Map17 ∧ ∃ Params18p : Option Addr, ∃ Params18l : Nat, ∃ Params18c : Nat, cell H_5 (Addr.add ⟨b2, 0, none⟩ 18) = some (Value.slice Params18p Params18l Params18c) ∧ Map17.size = 6 ∧ 12 + 6 ≤ 19 ∧ alc H_5 (.cells #[Value.int .i64 0, Value.int .i64 0, Value.int .i64 0, Value.int .i64 0, Value.int .i64 0, Value.int .i64 0, Value.int .i64 0, Value.int .i64 0, Value.int .i64 0, Value.int .i64 0, Value.slice none 0 0, Value.slice none 0 0, Value.int .i64 0, Value.int .i64 0, Value.int .i64 0, Value.int .i64 0, Value.int .i64 0, Value.int .i64 0, Value.slice none 0 0] 48) fun b19 H_20 => (List.toArray (List.set (setL [Value.int .i64 Kind6, Value.int .i64 ID7, Value.int .i64 To8, Value.int .i64 At9, Value.int .i64 N10, Value.int .i64 M11, Value.int .i64 X_12, Value.int .i64 Y13, Value.int .i64 W14, Value.int .i64 H_15, Value.slice P_16p P_16l P_16c, Value.slice none 0 0, Value.int .i64 0, Value.int .i64 0, Value.int .i64 0, Value.int .i64 0, Value.int .i64 0, Value.int .i64 0, Value.slice none 0 0] 12 (Array.toList Map17)) 18 (Value.slice Params18p Params18l Params18c))).size = 19 ∧ stAt H_20 ⟨b19, 0, none⟩ (Array.toList (List.toArray (List.set (setL [Value.int .i64 Kind6, Value.int .i64 ID7, Value.int .i64 To8, Value.int .i64 At9, Value.int .i64 N10, Value.int .i64 M11, Value.int .i64 X_12, Value.int .i64 Y13, Value.int .i64 W14, Value.int .i64 H_15, Value.slice P_16p P_16l P_16c, Value.slice none 0 0, Value.int .i64 0, Value.int .i64 0, Value.int .i64 0, Value.int .i64 0, Value.int .i64 0, Value.int .i64 0, Value.slice none 0 0] 12 (Array.toList Map17)) 18 (Value.slice Params18p Params18l Params18c)))) fun H_21 => ∃ Shape22p : Option Addr, ∃ Shape22l : Nat, ∃ Shape22c : Nat, cell H_21 (Addr.add ⟨b2, 0, none⟩ 11) = some (Value.slice Shape22p Shape22l Shape22c) ∧ ∀ X_23 : List Value → Heap → Prop, (∀ t24 : Int, ∀ H_25 : Heap, (br (decide ((t24 : Int) < ((Shape22l : Nat) : Int)))
 (∃ a26 : Addr, Shape22p = some a26 ∧ 0 ≤ t24 ∧ t24 < ((Shape22l : Nat) : Int) ∧ ∃ v27 : Array Value, v27.size = 2 ∧ rowIn H_25 (Addr.add a26 (Int.toNat t24 * 2)) v27 ∧ alc H_25 (.cells #[Value.int .i64 0, Value.int .i64 0] 79) fun b28 H_29 => v27.size = 2 ∧ stAt H_29 ⟨b28, 0, none⟩ (Array.toList v27) fun H_30 => ∃ Shape31p : Option Addr, ∃ Shape31l : Nat, ∃ Shape31c : Nat, cell H_30 (Addr.add ⟨b19, 0, none⟩ 11) = some (Value.slice Shape31p Shape31l Shape31c) ∧ ∃ X_32 : Int, cell H_30 (Addr.add ⟨b28, 0, none⟩ 0) = some (Value.int .i64 X_32) ∧ ∃ Y33 : Int, cell H_30 (Addr.add ⟨b28, 0, none⟩ 1) = some (Value.int .i64 Y33) ∧ #[Value.int .i64 X_32, Value.int .i64 Y33].size = 2 ∧ 0 + 2 ≤ 2 ∧ alc H_30 (.cells (List.toArray (setL [Value.int .i64 0, Value.int .i64 0] 0 (Array.toList #[Value.int .i64 X_32, Value.int .i64 Y33]))) 80) fun b34 H_35 => appQ 2 16 #[Value.int .i64 0, Value.int .i64 0] H_35 Shape31p Shape31l Shape31c (some ⟨b34, 0, none⟩) 1 80 fun app36p app36l app36c H_37 => stAt H_37 (Addr.add ⟨b19, 0, none⟩ 11) [Value.slice app36p app36l app36c] fun H_38 => X_23 [Value.int .i64 (IntKind.wrap .i64 (t24 + (1 : Int)))] H_38)
 (∃ v39 : Array Value, v39.size = 19 ∧ rowIn H_25 ⟨b19, 0, none⟩ v39 ∧ v39.size = 19 ∧ stAt H_25 ⟨b4, 0, none⟩ (Array.toList v39) fun H_40 => ∃ res41 : Array Value, res41.size = 19 ∧ rowIn H_40 ⟨b4, 0, none⟩ res41 ∧ R (Value.agg res41) H_40)) → X_23 [Value.int .i64 t24] H_25) → X_23 [Value.int .i64 (0 : Int)] H_21
def Try.p18 : Plan := (Plan.two Plan.leaf (Plan.two Plan.leaf (Plan.two (Plan.two Plan.leaf (Plan.one (Plan.loop [(36, 3)] [2, 3, 34, 35] (Plan.two Plan.leaf (Plan.two (Plan.two Plan.leaf Plan.leaf) (Plan.two (Plan.one (Plan.two Plan.leaf Plan.leaf)) Plan.leaf)))))) (Plan.two Plan.leaf Plan.leaf))))
theorem Try.s18 {e1 : Array Value} {H : Heap} {R : Value → Heap → Prop} (h : Try.S18 e1 H R) : CallsH Try.prog 18 #[Value.agg e1] H R :=
  vcFun_sound Try.tab_ok Try.mixed Try.func18 Try.cal18 (p := Try.p18) (args := [Value.agg e1]) (Eq.mp (by kernel_rfl : Try.S18 e1 H R = vcFun Try.prog Try.tab Try.f18 Try.p18 [Value.agg e1] H R) h)

/-- (scumble/tree.Doc).Do -/
def Try.S19 (d1 : Array Value) (e2 : Array Value) (H : Heap) (R : Value → Heap → Prop) : Prop :=
 alc H (.cells d1 26) fun b3 H_4 => alc H_4 (.cells e2 43) fun b5 H_6 => alc H_6 (.cells #[Value.int .i64 0, Value.int .i64 0, Value.int .i64 0, Value.slice none 0 0] 26) fun b7 H_8 => ∀ J_9 : List Value → Heap → Prop, (∀ out10 : Addr, ∀ H_11 : Heap, (∀ J_12 : List Value → Heap → Prop, (∀ w13 : Addr, ∀ H_14 : Heap, (alc H_14 (.cells #[Value.func (.func 41) #[] #[], Value.func (.func 42) #[] #[], Value.func (.func 43) #[] #[], Value.func (.func 44) #[] #[], Value.func (.func 45) #[] #[], Value.func (.func 46) #[] #[], Value.func (.func 47) #[] #[], Value.func (.func 48) #[] #[], Value.func (.func 49) #[] #[]] 87) fun b15 H_16 => ∀ J_17 : List Value → Heap → Prop, (∀ H_18 : Heap, (∃ Kind19 : Int, cell H_18 (Addr.add ⟨b5, 0, none⟩ 0) = some (Value.int .i64 Kind19) ∧ ∃ a20 : Addr, (some ⟨b15, 0, none⟩) = some a20 ∧ 0 ≤ (IntKind.wrap .i64 (Kind19 - (1 : Int))) ∧ (IntKind.wrap .i64 (Kind19 - (1 : Int))) < ((9 : Nat) : Int) ∧ ∃ v21g : Nat, ∃ v21x : Array Value, ∃ v21y : Array Value, cell H_18 (Addr.add a20 (Int.toNat (IntKind.wrap .i64 (Kind19 - (1 : Int))) * 1)) = some (Value.func (.func v21g) v21x v21y) ∧ ∃ v22 : Array Value, v22.size = 21 ∧ rowIn H_18 w13 v22 ∧ CallsH Try.prog v21g (List.toArray (Array.toList v21x ++ [Value.agg v22] ++ Array.toList v21y)) H_18 fun r23 H_24 => ∃ e25 : Int, r23 = Value.int .i64 e25 ∧ br ((e25 : Int) != (0 : Int))
 (#[Value.int .i64 0, Value.int .i64 0, Value.int .i64 0, Value.slice none 0 0].size = 4 ∧ stAt H_24 ⟨b7, 0, none⟩ (Array.toList #[Value.int .i64 0, Value.int .i64 0, Value.int .i64 0, Value.slice none 0 0]) fun H_26 => ∃ res27 : Array Value, res27.size = 4 ∧ rowIn H_26 ⟨b7, 0, none⟩ res27 ∧ R (Value.tuple #[Value.agg res27, Value.int .i64 e25]) H_26)
 (∃ root28 : Option Addr, cell H_24 (Addr.add w13 0) = some (Value.pointer root28) ∧ ∃ a29 : Addr, root28 = some a29 ∧ ∃ Kids30p : Option Addr, ∃ Kids30l : Nat, ∃ Kids30c : Nat, cell H_24 (Addr.add a29 18) = some (Value.slice Kids30p Kids30l Kids30c) ∧ stAt H_24 (Addr.add out10 3) [Value.slice Kids30p Kids30l Kids30c] fun H_31 => ∃ v32 : Array Value, v32.size = 4 ∧ rowIn H_31 out10 v32 ∧ v32.size = 4 ∧ stAt H_31 ⟨b7, 0, none⟩ (Array.toList v32) fun H_33 => ∃ res34 : Array Value, res34.size = 4 ∧ rowIn H_33 ⟨b7, 0, none⟩ res34 ∧ R (Value.tuple #[Value.agg res34, Value.int .i64 (0 : Int)]) H_33)) → J_17 [] H_18) →
 ∃ Kind35 : Int, cell H_16 (Addr.add ⟨b5, 0, none⟩ 0) = some (Value.int .i64 Kind35) ∧ br (decide ((Kind35 : Int) < (1 : Int))) (#[Value.int .i64 0, Value.int .i64 0, Value.int .i64 0, Value.slice none 0 0].size = 4 ∧ stAt H_16 ⟨b7, 0, none⟩ (Array.toList #[Value.int .i64 0, Value.int .i64 0, Value.int .i64 0, Value.slice none 0 0]) fun H_36 => ∃ res37 : Array Value, res37.size = 4 ∧ rowIn H_36 ⟨b7, 0, none⟩ res37 ∧ R (Value.tuple #[Value.agg res37, Value.int .i64 (41 : Int)]) H_36) (∃ Kind38 : Int, cell H_16 (Addr.add ⟨b5, 0, none⟩ 0) = some (Value.int .i64 Kind38) ∧ br (decide ((Kind38 : Int) > ((9 : Nat) : Int)))
 (#[Value.int .i64 0, Value.int .i64 0, Value.int .i64 0, Value.slice none 0 0].size = 4 ∧ stAt H_16 ⟨b7, 0, none⟩ (Array.toList #[Value.int .i64 0, Value.int .i64 0, Value.int .i64 0, Value.slice none 0 0]) fun H_39 => ∃ res40 : Array Value, res40.size = 4 ∧ rowIn H_39 ⟨b7, 0, none⟩ res40 ∧ R (Value.tuple #[Value.agg res40, Value.int .i64 (41 : Int)]) H_39)
 (J_17 [] H_16))) → J_12 [Value.pointer (some w13)] H_14) →
 ∃ v41 : Array Value, v41.size = 19 ∧ rowIn H_11 ⟨b5, 0, none⟩ v41 ∧ (CallsH Try.prog 40 #[Value.pointer (some out10)] H_11 fun r42 H_43 => ∃ r44 : Option Addr, r42 = Value.pointer r44 ∧ (Ext H_11 H_43 ∨ (∃ v49 : Array Value, v49.size = 19 ∧ rowIn H_43 ⟨b5, 0, none⟩ v49 ∧ Value.agg v49 = Value.agg v41)) ∧ v41.size = 19 ∧ 2 + 19 ≤ 21 ∧ alc H_43 (.cells #[Value.pointer none, Value.pointer none, Value.int .i64 0, Value.int .i64 0, Value.int .i64 0, Value.int .i64 0, Value.int .i64 0, Value.int .i64 0, Value.int .i64 0, Value.int .i64 0, Value.int .i64 0, Value.int .i64 0, Value.slice none 0 0, Value.slice none 0 0, Value.int .i64 0, Value.int .i64 0, Value.int .i64 0, Value.int .i64 0, Value.int .i64 0, Value.int .i64 0, Value.slice none 0 0] 86) fun b45 H_46 => (Ext H_43 H_46 ∨ (∃ v48 : Array Value, v48.size = 19 ∧ rowIn H_46 ⟨b5, 0, none⟩ v48 ∧ Value.agg v48 = Value.agg v41)) ∧ (List.toArray (setL [Value.pointer r44, Value.pointer (some out10), Value.int .i64 0, Value.int .i64 0, Value.int .i64 0, Value.int .i64 0, Value.int .i64 0, Value.int .i64 0, Value.int .i64 0, Value.int .i64 0, Value.int .i64 0, Value.int .i64 0, Value.slice none 0 0, Value.slice none 0 0, Value.int .i64 0, Value.int .i64 0, Value.int .i64 0, Value.int .i64 0, Value.int .i64 0, Value.int .i64 0, Value.slice none 0 0] 2 (Array.toList v41))).size = 21 ∧ stAt H_46 ⟨b45, 0, none⟩ (Array.toList (List.toArray (setL [Value.pointer r44, Value.pointer (some out10), Value.int .i64 0, Value.int .i64 0, Value.int .i64 0, Value.int .i64 0, Value.int .i64 0, Value.int .i64 0, Value.int .i64 0, Value.int .i64 0, Value.int .i64 0, Value.int .i64 0, Value.slice none 0 0, Value.slice none 0 0, Value.int .i64 0, Value.int .i64 0, Value.int .i64 0, Value.int .i64 0, Value.int .i64 0, Value.int .i64 0, Value.slice none 0 0] 2 (Array.toList v41)))) fun H_47 => J_12 [Value.pointer (some ⟨b45, 0, none⟩)] H_47) ∧ (alc H_11 (.cells #[Value.pointer none, Value.pointer none, Value.int .i64 0, Value.int .i64 0, Value.int .i64 0, Value.int .i64 0, Value.int .i64 0, Value.int .i64 0, Value.int .i64 0, Value.int .i64 0, Value.int .i64 0, Value.int .i64 0, Value.slice none 0 0, Value.slice none 0 0, Value.int .i64 0, Value.int .i64 0, Value.int .i64 0, Value.int .i64 0, Value.int .i64 0, Value.int .i64 0, Value.slice none 0 0] 86) fun b50 H_51 => (Ext H_11 H_51 ∨ (∃ v57 : Array Value, v57.size = 19 ∧ rowIn H_51 ⟨b5, 0, none⟩ v57 ∧ Value.agg v57 = Value.agg v41)) ∧ CallsH Try.prog 40 #[Value.pointer (some out10)] H_51 fun r52 H_53 => ∃ r54 : Option Addr, r52 = Value.pointer r54 ∧ (Ext H_51 H_53 ∨ (∃ v56 : Array Value, v56.size = 19 ∧ rowIn H_53 ⟨b5, 0, none⟩ v56 ∧ Value.agg v56 = Value.agg v41)) ∧ v41.size = 19 ∧ 2 + 19 ≤ 21 ∧ (List.toArray (setL [Value.pointer r54, Value.pointer (some out10), Value.int .i64 0, Value.int .i64 0, Value.int .i64 0, Value.int .i64 0, Value.int .i64 0, Value.int .i64 0, Value.int .i64 0, Value.int .i64 0, Value.int .i64 0, Value.int .i64 0, Value.slice none 0 0, Value.slice none 0 0, Value.int .i64 0, Value.int .i64 0, Value.int .i64 0, Value.int .i64 0, Value.int .i64 0, Value.int .i64 0, Value.slice none 0 0] 2 (Array.toList v41))).size = 21 ∧ stAt H_53 ⟨b50, 0, none⟩ (Array.toList (List.toArray (setL [Value.pointer r54, Value.pointer (some out10), Value.int .i64 0, Value.int .i64 0, Value.int .i64 0, Value.int .i64 0, Value.int .i64 0, Value.int .i64 0, Value.int .i64 0, Value.int .i64 0, Value.int .i64 0, Value.int .i64 0, Value.slice none 0 0, Value.slice none 0 0, Value.int .i64 0, Value.int .i64 0, Value.int .i64 0, Value.int .i64 0, Value.int .i64 0, Value.int .i64 0, Value.slice none 0 0] 2 (Array.toList v41)))) fun H_55 => J_12 [Value.pointer (some ⟨b50, 0, none⟩)] H_55)) → J_9 [Value.pointer (some out10)] H_11) →
 ∃ W58 : Int, cell H_8 (Addr.add ⟨b3, 0, none⟩ 0) = some (Value.int .i64 W58) ∧ ∃ H_59 : Int, cell H_8 (Addr.add ⟨b3, 0, none⟩ 1) = some (Value.int .i64 H_59) ∧ ∃ Next60 : Int, cell H_8 (Addr.add ⟨b3, 0, none⟩ 2) = some (Value.int .i64 Next60) ∧ ∃ Kids61p : Option Addr, ∃ Kids61l : Nat, ∃ Kids61c : Nat, cell H_8 (Addr.add ⟨b3, 0, none⟩ 3) = some (Value.slice Kids61p Kids61l Kids61c) ∧ (CallsH Try.prog 39 #[Value.slice Kids61p Kids61l Kids61c] H_8 fun r62 H_63 => ∃ r64p : Option Addr, ∃ r64l : Nat, ∃ r64c : Nat, r62 = Value.slice r64p r64l r64c ∧ (Ext H_8 H_63 ∨ (∃ Next71 : Int, cell H_63 (Addr.add ⟨b3, 0, none⟩ 2) = some (Value.int .i64 Next71) ∧ Value.int .i64 Next71 = Value.int .i64 Next60) ∧ (∃ H_72 : Int, cell H_63 (Addr.add ⟨b3, 0, none⟩ 1) = some (Value.int .i64 H_72) ∧ Value.int .i64 H_72 = Value.int .i64 H_59) ∧ (∃ W73 : Int, cell H_63 (Addr.add ⟨b3, 0, none⟩ 0) = some (Value.int .i64 W73) ∧ Value.int .i64 W73 = Value.int .i64 W58)) ∧ alc H_63 (.cells #[Value.int .i64 0, Value.int .i64 0, Value.int .i64 0, Value.slice none 0 0] 26) fun b65 H_66 => (Ext H_63 H_66 ∨ (∃ Next68 : Int, cell H_66 (Addr.add ⟨b3, 0, none⟩ 2) = some (Value.int .i64 Next68) ∧ Value.int .i64 Next68 = Value.int .i64 Next60) ∧ (∃ H_69 : Int, cell H_66 (Addr.add ⟨b3, 0, none⟩ 1) = some (Value.int .i64 H_69) ∧ Value.int .i64 H_69 = Value.int .i64 H_59) ∧ (∃ W70 : Int, cell H_66 (Addr.add ⟨b3, 0, none⟩ 0) = some (Value.int .i64 W70) ∧ Value.int .i64 W70 = Value.int .i64 W58)) ∧ #[Value.int .i64 W58, Value.int .i64 H_59, Value.int .i64 Next60, Value.slice r64p r64l r64c].size = 4 ∧ stAt H_66 ⟨b65, 0, none⟩ (Array.toList #[Value.int .i64 W58, Value.int .i64 H_59, Value.int .i64 Next60, Value.slice r64p r64l r64c]) fun H_67 => J_9 [Value.pointer (some ⟨b65, 0, none⟩)] H_67) ∧ (alc H_8 (.cells #[Value.int .i64 0, Value.int .i64 0, Value.int .i64 0, Value.slice none 0 0] 26) fun b74 H_75 => (Ext H_8 H_75 ∨ (∃ Kids83p : Option Addr, ∃ Kids83l : Nat, ∃ Kids83c : Nat, cell H_75 (Addr.add ⟨b3, 0, none⟩ 3) = some (Value.slice Kids83p Kids83l Kids83c) ∧ Value.slice Kids83p Kids83l Kids83c = Value.slice Kids61p Kids61l Kids61c) ∧ (∃ Next84 : Int, cell H_75 (Addr.add ⟨b3, 0, none⟩ 2) = some (Value.int .i64 Next84) ∧ Value.int .i64 Next84 = Value.int .i64 Next60) ∧ (∃ H_85 : Int, cell H_75 (Addr.add ⟨b3, 0, none⟩ 1) = some (Value.int .i64 H_85) ∧ Value.int .i64 H_85 = Value.int .i64 H_59) ∧ (∃ W86 : Int, cell H_75 (Addr.add ⟨b3, 0, none⟩ 0) = some (Value.int .i64 W86) ∧ Value.int .i64 W86 = Value.int .i64 W58)) ∧ CallsH Try.prog 39 #[Value.slice Kids61p Kids61l Kids61c] H_75 fun r76 H_77 => ∃ r78p : Option Addr, ∃ r78l : Nat, ∃ r78c : Nat, r76 = Value.slice r78p r78l r78c ∧ (Ext H_75 H_77 ∨ (∃ Next80 : Int, cell H_77 (Addr.add ⟨b3, 0, none⟩ 2) = some (Value.int .i64 Next80) ∧ Value.int .i64 Next80 = Value.int .i64 Next60) ∧ (∃ H_81 : Int, cell H_77 (Addr.add ⟨b3, 0, none⟩ 1) = some (Value.int .i64 H_81) ∧ Value.int .i64 H_81 = Value.int .i64 H_59) ∧ (∃ W82 : Int, cell H_77 (Addr.add ⟨b3, 0, none⟩ 0) = some (Value.int .i64 W82) ∧ Value.int .i64 W82 = Value.int .i64 W58)) ∧ #[Value.int .i64 W58, Value.int .i64 H_59, Value.int .i64 Next60, Value.slice r78p r78l r78c].size = 4 ∧ stAt H_77 ⟨b74, 0, none⟩ (Array.toList #[Value.int .i64 W58, Value.int .i64 H_59, Value.int .i64 Next60, Value.slice r78p r78l r78c]) fun H_79 => J_9 [Value.pointer (some ⟨b74, 0, none⟩)] H_79)
def Try.p19 : Plan := (Plan.two Plan.leaf (Plan.two (Plan.join [(6, 999999)] [3, 4] Plan.leaf) (Plan.two (Plan.join [(7, 999999)] [3, 4, 6] Plan.leaf) (Plan.two Plan.leaf (Plan.two (Plan.join [] [3, 4, 6, 7, 8] (Plan.two Plan.leaf (Plan.two (Plan.two Plan.leaf Plan.leaf) Plan.leaf))) (Plan.two (Plan.two Plan.leaf (Plan.two Plan.leaf (Plan.two (Plan.two Plan.leaf Plan.leaf) Plan.leaf))) (Plan.two Plan.leaf (Plan.two Plan.leaf Plan.leaf))))))))
theorem Try.s19 {d1 : Array Value} {e2 : Array Value} {H : Heap} {R : Value → Heap → Prop} (h : Try.S19 d1 e2 H R) : CallsH Try.prog 19 #[Value.agg d1, Value.agg e2] H R :=
  vcFun_sound Try.tab_ok Try.mixed Try.func19 Try.cal19 (p := Try.p19) (args := [Value.agg d1, Value.agg e2]) (Eq.mp (by kernel_rfl : Try.S19 d1 e2 H R = vcFun Try.prog Try.tab Try.f19 Try.p19 [Value.agg d1, Value.agg e2] H R) h)

/-- scumble/scumblemade.Like -/
def Try.S20 (a1 : Array Value) (b2 : Array Value) (H : Heap) (R : Value → Heap → Prop) : Prop :=
 alc H (.cells a1 26) fun b3 H_4 => alc H_4 (.cells b2 32) fun b5 H_6 => ∃ W7 : Int, cell H_6 (Addr.add ⟨b3, 0, none⟩ 0) = some (Value.int .i64 W7) ∧ ∃ W8 : Int, cell H_6 (Addr.add ⟨b5, 0, none⟩ 0) = some (Value.int .i64 W8) ∧ br ((W7 : Int) == W8) (∃ H_9 : Int, cell H_6 (Addr.add ⟨b3, 0, none⟩ 1) = some (Value.int .i64 H_9) ∧ ∃ H_10 : Int, cell H_6 (Addr.add ⟨b5, 0, none⟩ 1) = some (Value.int .i64 H_10) ∧ br ((H_9 : Int) == H_10) (∃ Next11 : Int, cell H_6 (Addr.add ⟨b3, 0, none⟩ 2) = some (Value.int .i64 Next11) ∧ ∃ Next12 : Int, cell H_6 (Addr.add ⟨b5, 0, none⟩ 2) = some (Value.int .i64 Next12) ∧ br ((Next11 : Int) == Next12) (∃ Kids13p : Option Addr, ∃ Kids13l : Nat, ∃ Kids13c : Nat, cell H_6 (Addr.add ⟨b3, 0, none⟩ 3) = some (Value.slice Kids13p Kids13l Kids13c) ∧ ∃ v14 : Array Value, v14.size = 4 ∧ rowIn H_6 ⟨b5, 0, none⟩ v14 ∧ CallsH Try.prog 50 #[Value.slice Kids13p Kids13l Kids13c, Value.agg v14, Value.int .i64 (0 : Int)] H_6 fun r15 H_16 => ∃ r17 : Bool, r15 = Value.bool r17 ∧ R (Value.bool r17) H_16) (R (Value.bool false) H_6)) (R (Value.bool false) H_6)) (R (Value.bool false) H_6)
def Try.p20 : Plan := (Plan.two Plan.leaf (Plan.two Plan.leaf Plan.leaf))
theorem Try.s20 {a1 : Array Value} {b2 : Array Value} {H : Heap} {R : Value → Heap → Prop} (h : Try.S20 a1 b2 H R) : CallsH Try.prog 20 #[Value.agg a1, Value.agg b2] H R :=
  vcFun_sound Try.tab_ok Try.mixed Try.func20 Try.cal20 (p := Try.p20) (args := [Value.agg a1, Value.agg b2]) (Eq.mp (by kernel_rfl : Try.S20 a1 b2 H R = vcFun Try.prog Try.tab Try.f20 Try.p20 [Value.agg a1, Value.agg b2] H R) h)

end Go.Proofs

/-
  Printed by a program of mine (gen.py): each function, over heaps; and that what is said of it is said of its call.
-/
set_option linter.unusedVariables false
set_option maxRecDepth 100000
namespace Go.Proofs
open Go.Sh

/-- scumble/scumblelaw11.spoil -/
def Try.S21 (list1p : Option Addr) (list1l : Nat) (list1c : Nat) (H : Heap) (R : Value → Heap → Prop) : Prop :=
 ∀ X_2 : List Value → Heap → Prop, (∀ i3 : Int, ∀ H_4 : Heap, (br (decide ((i3 : Int) < ((list1l : Nat) : Int)))
 (∃ a5 : Addr, list1p = some a5 ∧ 0 ≤ i3 ∧ i3 < ((list1l : Nat) : Int) ∧ ∃ a6 : Addr, (some (Addr.add a5 (Int.toNat i3 * 19))) = some a6 ∧ ∃ P_7p : Option Addr, ∃ P_7l : Nat, ∃ P_7c : Nat, cell H_4 (Addr.add a6 7) = some (Value.slice P_7p P_7l P_7c) ∧ ∀ X_8 : List Value → Heap → Prop, (∀ k9 : Int, ∀ H_10 : Heap, (br (decide ((k9 : Int) < ((P_7l : Nat) : Int)))
 (∃ a11 : Addr, (some (Addr.add a5 (Int.toNat i3 * 19))) = some a11 ∧ ∃ P_12p : Option Addr, ∃ P_12l : Nat, ∃ P_12c : Nat, cell H_10 (Addr.add a11 7) = some (Value.slice P_12p P_12l P_12c) ∧ ∃ a13 : Addr, P_12p = some a13 ∧ 0 ≤ k9 ∧ k9 < ((P_12l : Nat) : Int) ∧ ∃ v14 : Int, cell H_10 (Addr.add a13 (Int.toNat k9 * 1)) = some (Value.int .i64 v14) ∧ ∃ a15 : Addr, P_12p = some a15 ∧ 0 ≤ k9 ∧ k9 < ((P_12l : Nat) : Int) ∧ stAt H_10 (Addr.add a15 (Int.toNat k9 * 1)) [Value.int .i64 (xorI .i64 v14 (255 : Int))] fun H_16 => X_8 [Value.int .i64 (IntKind.wrap .i64 (k9 + (1 : Int)))] H_16)
 (∃ a17 : Addr, (some (Addr.add a5 (Int.toNat i3 * 19))) = some a17 ∧ ∃ Mask18p : Option Addr, ∃ Mask18l : Nat, ∃ Mask18c : Nat, cell H_10 (Addr.add a17 8) = some (Value.slice Mask18p Mask18l Mask18c) ∧ ∀ X_19 : List Value → Heap → Prop, (∀ k20 : Int, ∀ H_21 : Heap, (br (decide ((k20 : Int) < ((Mask18l : Nat) : Int)))
 (∃ a22 : Addr, (some (Addr.add a5 (Int.toNat i3 * 19))) = some a22 ∧ ∃ Mask23p : Option Addr, ∃ Mask23l : Nat, ∃ Mask23c : Nat, cell H_21 (Addr.add a22 8) = some (Value.slice Mask23p Mask23l Mask23c) ∧ ∃ a24 : Addr, Mask23p = some a24 ∧ 0 ≤ k20 ∧ k20 < ((Mask23l : Nat) : Int) ∧ ∃ v25 : Int, cell H_21 (Addr.add a24 (Int.toNat k20 * 1)) = some (Value.int .u8 v25) ∧ ∃ a26 : Addr, Mask23p = some a26 ∧ 0 ≤ k20 ∧ k20 < ((Mask23l : Nat) : Int) ∧ stAt H_21 (Addr.add a26 (Int.toNat k20 * 1)) [Value.int .u8 (xorI .u8 v25 (255 : Int))] fun H_27 => X_19 [Value.int .i64 (IntKind.wrap .i64 (k20 + (1 : Int)))] H_27)
 (∃ a28 : Addr, (some (Addr.add a5 (Int.toNat i3 * 19))) = some a28 ∧ ∃ Params29p : Option Addr, ∃ Params29l : Nat, ∃ Params29c : Nat, cell H_21 (Addr.add a28 17) = some (Value.slice Params29p Params29l Params29c) ∧ ∀ X_30 : List Value → Heap → Prop, (∀ k31 : Int, ∀ H_32 : Heap, (br (decide ((k31 : Int) < ((Params29l : Nat) : Int)))
 (∃ a33 : Addr, (some (Addr.add a5 (Int.toNat i3 * 19))) = some a33 ∧ ∃ Params34p : Option Addr, ∃ Params34l : Nat, ∃ Params34c : Nat, cell H_32 (Addr.add a33 17) = some (Value.slice Params34p Params34l Params34c) ∧ ∃ a35 : Addr, Params34p = some a35 ∧ 0 ≤ k31 ∧ k31 < ((Params34l : Nat) : Int) ∧ ∃ v36 : Int, cell H_32 (Addr.add a35 (Int.toNat k31 * 1)) = some (Value.int .i64 v36) ∧ ∃ a37 : Addr, Params34p = some a37 ∧ 0 ≤ k31 ∧ k31 < ((Params34l : Nat) : Int) ∧ stAt H_32 (Addr.add a37 (Int.toNat k31 * 1)) [Value.int .i64 (xorI .i64 v36 (255 : Int))] fun H_38 => X_30 [Value.int .i64 (IntKind.wrap .i64 (k31 + (1 : Int)))] H_38)
 (∃ a39 : Addr, (some (Addr.add a5 (Int.toNat i3 * 19))) = some a39 ∧ ∃ Kids40p : Option Addr, ∃ Kids40l : Nat, ∃ Kids40c : Nat, cell H_32 (Addr.add a39 18) = some (Value.slice Kids40p Kids40l Kids40c) ∧ CallsH Try.prog 21 #[Value.slice Kids40p Kids40l Kids40c] H_32 fun r41 H_42 => r41 = Value.tuple #[] ∧ ∃ a43 : Addr, (some (Addr.add a5 (Int.toNat i3 * 19))) = some a43 ∧ stAt H_42 (Addr.add a43 0) [Value.int .i64 (-5 : Int)] fun H_44 => X_2 [Value.int .i64 (IntKind.wrap .i64 (i3 + (1 : Int)))] H_44)) → X_30 [Value.int .i64 k31] H_32) → X_30 [Value.int .i64 (0 : Int)] H_21)) → X_19 [Value.int .i64 k20] H_21) → X_19 [Value.int .i64 (0 : Int)] H_10)) → X_8 [Value.int .i64 k9] H_10) → X_8 [Value.int .i64 (0 : Int)] H_4)
 (R (Value.tuple #[]) H_4)) → X_2 [Value.int .i64 i3] H_4) → X_2 [Value.int .i64 (0 : Int)] H
def Try.p21 : Plan := (Plan.two Plan.leaf (Plan.one (Plan.loop [(9, 3)] [0, 8] (Plan.two Plan.leaf (Plan.two (Plan.two Plan.leaf Plan.leaf) (Plan.two (Plan.one (Plan.two Plan.leaf (Plan.two Plan.leaf (Plan.two (Plan.two Plan.leaf (Plan.one (Plan.loop [(20, 3)] [0, 3, 8, 9, 19] (Plan.two Plan.leaf (Plan.two (Plan.two Plan.leaf Plan.leaf) (Plan.two (Plan.one (Plan.two Plan.leaf Plan.leaf)) Plan.leaf)))))) (Plan.two (Plan.two Plan.leaf (Plan.one (Plan.loop [(38, 3)] [0, 3, 8, 9, 37] (Plan.two Plan.leaf (Plan.two (Plan.two Plan.leaf Plan.leaf) (Plan.two (Plan.one (Plan.two Plan.leaf Plan.leaf)) Plan.leaf)))))) (Plan.two (Plan.two Plan.leaf (Plan.one (Plan.loop [(56, 3)] [0, 3, 8, 9, 55] (Plan.two Plan.leaf (Plan.two (Plan.two Plan.leaf Plan.leaf) (Plan.two (Plan.one (Plan.two Plan.leaf Plan.leaf)) Plan.leaf)))))) (Plan.two Plan.leaf Plan.leaf))))))) Plan.leaf))))))
theorem Try.s21 {list1p : Option Addr} {list1l : Nat} {list1c : Nat} {H : Heap} {R : Value → Heap → Prop} (h : Try.S21 list1p list1l list1c H R) : CallsH Try.prog 21 #[Value.slice list1p list1l list1c] H R :=
  vcFun_sound Try.tab_ok Try.mixed Try.func21 Try.cal21 (p := Try.p21) (args := [Value.slice list1p list1l list1c]) (Eq.mp (by kernel_rfl : Try.S21 list1p list1l list1c H R = vcFun Try.prog Try.tab Try.f21 Try.p21 [Value.slice list1p list1l list1c] H R) h)

/-- (scumble/tree.Doc).Parent -/
def Try.S23 (d1 : Array Value) (id2 : Int) (H : Heap) (R : Value → Heap → Prop) : Prop :=
 alc H (.cells d1 26) fun b3 H_4 => CallsH Try.prog 40 #[Value.pointer (some ⟨b3, 0, none⟩)] H_4 fun r5 H_6 => ∃ r7 : Option Addr, r5 = Value.pointer r7 ∧ CallsH Try.prog 51 #[Value.pointer r7, Value.int .i64 id2] H_6 fun r8 H_9 => ∃ r10 : Option Addr, ∃ r11 : Option Addr, ∃ r12 : Int, r8 = Value.tuple #[Value.pointer r10, Value.pointer r11, Value.int .i64 r12] ∧ br (Option.isNone r10)
 (R (Value.tuple #[Value.int .i64 (0 : Int), Value.int .i64 (0 : Int), Value.bool false]) H_9)
 (∃ a13 : Addr, r11 = some a13 ∧ ∃ ID14 : Int, cell H_9 (Addr.add a13 0) = some (Value.int .i64 ID14) ∧ R (Value.tuple #[Value.int .i64 ID14, Value.int .i64 r12, Value.bool true]) H_9)
def Try.p23 : Plan := (Plan.two Plan.leaf (Plan.two Plan.leaf (Plan.two (Plan.two Plan.leaf (Plan.two (Plan.two Plan.leaf Plan.leaf) Plan.leaf)) (Plan.two Plan.leaf Plan.leaf))))
theorem Try.s23 {d1 : Array Value} {id2 : Int} {H : Heap} {R : Value → Heap → Prop} (h : Try.S23 d1 id2 H R) : CallsH Try.prog 23 #[Value.agg d1, Value.int .i64 id2] H R :=
  vcFun_sound Try.tab_ok Try.mixed Try.func23 Try.cal23 (p := Try.p23) (args := [Value.agg d1, Value.int .i64 id2]) (Eq.mp (by kernel_rfl : Try.S23 d1 id2 H R = vcFun Try.prog Try.tab Try.f23 Try.p23 [Value.agg d1, Value.int .i64 id2] H R) h)

/-- (scumble/scumbleref11.Doc).Find -/
def Try.S24 (d1 : Array Value) (id2 : Int) (H : Heap) (R : Value → Heap → Prop) : Prop :=
 alc H (.cells d1 32) fun b3 H_4 => ∀ X_5 : List Value → Heap → Prop, (∀ i6 : Int, ∀ H_7 : Heap, (∃ L8p : Option Addr, ∃ L8l : Nat, ∃ L8c : Nat, cell H_7 (Addr.add ⟨b3, 0, none⟩ 3) = some (Value.slice L8p L8l L8c) ∧ br (decide ((i6 : Int) < ((L8l : Nat) : Int)))
 (∃ L9p : Option Addr, ∃ L9l : Nat, ∃ L9c : Nat, cell H_7 (Addr.add ⟨b3, 0, none⟩ 3) = some (Value.slice L9p L9l L9c) ∧ ∃ a10 : Addr, L9p = some a10 ∧ 0 ≤ i6 ∧ i6 < ((L9l : Nat) : Int) ∧ ∃ ID11 : Int, cell H_7 (Addr.add (Addr.add a10 (Int.toNat i6 * 19)) 0) = some (Value.int .i64 ID11) ∧ br ((ID11 : Int) == id2)
 (R (Value.int .i64 i6) H_7)
 (X_5 [Value.int .i64 (IntKind.wrap .i64 (i6 + (1 : Int)))] H_7))
 (R (Value.int .i64 (-1 : Int)) H_7)) → X_5 [Value.int .i64 i6] H_7) → X_5 [Value.int .i64 (0 : Int)] H_4
def Try.p24 : Plan := (Plan.two Plan.leaf (Plan.two (Plan.two Plan.leaf (Plan.one (Plan.loop [(5, 3)] [1, 2] (Plan.two (Plan.two Plan.leaf (Plan.two Plan.leaf Plan.leaf)) (Plan.two (Plan.one (Plan.two Plan.leaf (Plan.two (Plan.two Plan.leaf Plan.leaf) Plan.leaf))) Plan.leaf))))) (Plan.two Plan.leaf Plan.leaf)))
theorem Try.s24 {d1 : Array Value} {id2 : Int} {H : Heap} {R : Value → Heap → Prop} (h : Try.S24 d1 id2 H R) : CallsH Try.prog 24 #[Value.agg d1, Value.int .i64 id2] H R :=
  vcFun_sound Try.tab_ok Try.mixed Try.func24 Try.cal24 (p := Try.p24) (args := [Value.agg d1, Value.int .i64 id2]) (Eq.mp (by kernel_rfl : Try.S24 d1 id2 H R = vcFun Try.prog Try.tab Try.f24 Try.p24 [Value.agg d1, Value.int .i64 id2] H R) h)

/-- (scumble/tree.Doc).Count -/
def Try.S25 (d1 : Array Value) (H : Heap) (R : Value → Heap → Prop) : Prop :=
 alc H (.cells d1 26) fun b2 H_3 => ∃ Kids4p : Option Addr, ∃ Kids4l : Nat, ∃ Kids4c : Nat, cell H_3 (Addr.add ⟨b2, 0, none⟩ 3) = some (Value.slice Kids4p Kids4l Kids4c) ∧ CallsH Try.prog 53 #[Value.slice Kids4p Kids4l Kids4c] H_3 fun r5 H_6 => ∃ r7 : Int, r5 = Value.int .i64 r7 ∧ R (Value.int .i64 r7) H_6
def Try.p25 : Plan := (Plan.two Plan.leaf (Plan.two Plan.leaf Plan.leaf))
theorem Try.s25 {d1 : Array Value} {H : Heap} {R : Value → Heap → Prop} (h : Try.S25 d1 H R) : CallsH Try.prog 25 #[Value.agg d1] H R :=
  vcFun_sound Try.tab_ok Try.mixed Try.func25 Try.cal25 (p := Try.p25) (args := [Value.agg d1]) (Eq.mp (by kernel_rfl : Try.S25 d1 H R = vcFun Try.prog Try.tab Try.f25 Try.p25 [Value.agg d1] H R) h)

/-- (scumble/tree.Doc).Depth -/
def Try.S26 (d1 : Array Value) (H : Heap) (R : Value → Heap → Prop) : Prop :=
 alc H (.cells d1 26) fun b2 H_3 => ∃ Kids4p : Option Addr, ∃ Kids4l : Nat, ∃ Kids4c : Nat, cell H_3 (Addr.add ⟨b2, 0, none⟩ 3) = some (Value.slice Kids4p Kids4l Kids4c) ∧ CallsH Try.prog 54 #[Value.slice Kids4p Kids4l Kids4c] H_3 fun r5 H_6 => ∃ r7 : Int, r5 = Value.int .i64 r7 ∧ R (Value.int .i64 r7) H_6
def Try.p26 : Plan := (Plan.two Plan.leaf (Plan.two Plan.leaf Plan.leaf))
theorem Try.s26 {d1 : Array Value} {H : Heap} {R : Value → Heap → Prop} (h : Try.S26 d1 H R) : CallsH Try.prog 26 #[Value.agg d1] H R :=
  vcFun_sound Try.tab_ok Try.mixed Try.func26 Try.cal26 (p := Try.p26) (args := [Value.agg d1]) (Eq.mp (by kernel_rfl : Try.S26 d1 H R = vcFun Try.prog Try.tab Try.f26 Try.p26 [Value.agg d1] H R) h)

/-- (scumble/scumbleref11.Doc).Depth -/
def Try.S27 (d1 : Array Value) (H : Heap) (R : Value → Heap → Prop) : Prop :=
 alc H (.cells d1 32) fun b2 H_3 => ∀ X_4 : List Value → Heap → Prop, (∀ most5 : Int, ∀ i6 : Int, ∀ H_7 : Heap, (∃ L8p : Option Addr, ∃ L8l : Nat, ∃ L8c : Nat, cell H_7 (Addr.add ⟨b2, 0, none⟩ 3) = some (Value.slice L8p L8l L8c) ∧ br (decide ((i6 : Int) < ((L8l : Nat) : Int)))
 (∃ v9 : Array Value, v9.size = 4 ∧ rowIn H_7 ⟨b2, 0, none⟩ v9 ∧ ∃ L10p : Option Addr, ∃ L10l : Nat, ∃ L10c : Nat, cell H_7 (Addr.add ⟨b2, 0, none⟩ 3) = some (Value.slice L10p L10l L10c) ∧ ∃ a11 : Addr, L10p = some a11 ∧ 0 ≤ i6 ∧ i6 < ((L10l : Nat) : Int) ∧ ∃ ID12 : Int, cell H_7 (Addr.add (Addr.add a11 (Int.toNat i6 * 19)) 0) = some (Value.int .i64 ID12) ∧ CallsH Try.prog 55 #[Value.agg v9, Value.int .i64 ID12] H_7 fun r13 H_14 => ∃ n15 : Int, r13 = Value.int .i64 n15 ∧ br (decide ((n15 : Int) > most5))
 (X_4 [Value.int .i64 n15, Value.int .i64 (IntKind.wrap .i64 (i6 + (1 : Int)))] H_14)
 (X_4 [Value.int .i64 most5, Value.int .i64 (IntKind.wrap .i64 (i6 + (1 : Int)))] H_14))
 (R (Value.int .i64 most5) H_7)) → X_4 [Value.int .i64 most5, Value.int .i64 i6] H_7) → X_4 [Value.int .i64 (0 : Int), Value.int .i64 (0 : Int)] H_3
def Try.p27 : Plan := (Plan.two Plan.leaf (Plan.two Plan.leaf (Plan.two (Plan.two Plan.leaf (Plan.one (Plan.loop [(3, 3), (4, 3)] [1] (Plan.two (Plan.two Plan.leaf (Plan.two Plan.leaf Plan.leaf)) (Plan.two (Plan.one (Plan.two Plan.leaf (Plan.two Plan.leaf (Plan.two Plan.leaf Plan.leaf)))) Plan.leaf))))) (Plan.two Plan.leaf Plan.leaf))))
theorem Try.s27 {d1 : Array Value} {H : Heap} {R : Value → Heap → Prop} (h : Try.S27 d1 H R) : CallsH Try.prog 27 #[Value.agg d1] H R :=
  vcFun_sound Try.tab_ok Try.mixed Try.func27 Try.cal27 (p := Try.p27) (args := [Value.agg d1]) (Eq.mp (by kernel_rfl : Try.S27 d1 H R = vcFun Try.prog Try.tab Try.f27 Try.p27 [Value.agg d1] H R) h)

/-- scumble/scumblemade.LikeLayer -/
def Try.S28 (a1 : Array Value) (b2 : Array Value) (H : Heap) (R : Value → Heap → Prop) : Prop :=
 alc H (.cells a1 58) fun b3 H_4 => alc H_4 (.cells b2 66) fun b5 H_6 => ∀ J_7 : List Value → Heap → Prop, (∀ H_8 : Heap, (∃ P_9p : Option Addr, ∃ P_9l : Nat, ∃ P_9c : Nat, cell H_8 (Addr.add ⟨b3, 0, none⟩ 7) = some (Value.slice P_9p P_9l P_9c) ∧ ∃ P_10p : Option Addr, ∃ P_10l : Nat, ∃ P_10c : Nat, cell H_8 (Addr.add ⟨b5, 0, none⟩ 8) = some (Value.slice P_10p P_10l P_10c) ∧ CallsH Try.prog 56 #[Value.slice P_9p P_9l P_9c, Value.slice P_10p P_10l P_10c] H_8 fun r11 H_12 => ∃ r13 : Bool, r11 = Value.bool r13 ∧ br r13 (∃ Mask14p : Option Addr, ∃ Mask14l : Nat, ∃ Mask14c : Nat, cell H_12 (Addr.add ⟨b3, 0, none⟩ 8) = some (Value.slice Mask14p Mask14l Mask14c) ∧ ∃ bs15 : List Int, bsOf H_12 Mask14p Mask14l bs15 ∧ ∃ Mask16p : Option Addr, ∃ Mask16l : Nat, ∃ Mask16c : Nat, cell H_12 (Addr.add ⟨b5, 0, none⟩ 9) = some (Value.slice Mask16p Mask16l Mask16c) ∧ ∃ bs17 : List Int, bsOf H_12 Mask16p Mask16l bs17 ∧ br (((textOf bs15) : ByteArray) == (textOf bs17)) (∃ Params18p : Option Addr, ∃ Params18l : Nat, ∃ Params18c : Nat, cell H_12 (Addr.add ⟨b3, 0, none⟩ 17) = some (Value.slice Params18p Params18l Params18c) ∧ ∃ Params19p : Option Addr, ∃ Params19l : Nat, ∃ Params19c : Nat, cell H_12 (Addr.add ⟨b5, 0, none⟩ 18) = some (Value.slice Params19p Params19l Params19c) ∧ CallsH Try.prog 56 #[Value.slice Params18p Params18l Params18c, Value.slice Params19p Params19l Params19c] H_12 fun r20 H_21 => ∃ r22 : Bool, r20 = Value.bool r22 ∧ R (Value.bool r22) H_21) (R (Value.bool false) H_12)) (R (Value.bool false) H_12)) → J_7 [] H_8) →
 ∃ ID23 : Int, cell H_6 (Addr.add ⟨b3, 0, none⟩ 0) = some (Value.int .i64 ID23) ∧ ∃ ID24 : Int, cell H_6 (Addr.add ⟨b5, 0, none⟩ 0) = some (Value.int .i64 ID24) ∧ br ((ID23 : Int) != ID24) (R (Value.bool false) H_6) (∃ Kind25 : Int, cell H_6 (Addr.add ⟨b3, 0, none⟩ 1) = some (Value.int .i64 Kind25) ∧ ∃ Kind26 : Int, cell H_6 (Addr.add ⟨b5, 0, none⟩ 1) = some (Value.int .i64 Kind26) ∧ br ((Kind25 : Int) != Kind26) (R (Value.bool false) H_6) (∃ Hidden27 : Bool, cell H_6 (Addr.add ⟨b3, 0, none⟩ 2) = some (Value.bool Hidden27) ∧ ∃ Hidden28 : Bool, cell H_6 (Addr.add ⟨b5, 0, none⟩ 3) = some (Value.bool Hidden28) ∧ br (!(Hidden27 == Hidden28)) (R (Value.bool false) H_6) (∃ Opacity29 : Int, cell H_6 (Addr.add ⟨b3, 0, none⟩ 3) = some (Value.int .i64 Opacity29) ∧ ∃ Opacity30 : Int, cell H_6 (Addr.add ⟨b5, 0, none⟩ 4) = some (Value.int .i64 Opacity30) ∧ br ((Opacity29 : Int) != Opacity30) (R (Value.bool false) H_6) (∃ Mode31 : Int, cell H_6 (Addr.add ⟨b3, 0, none⟩ 4) = some (Value.int .i64 Mode31) ∧ ∃ Mode32 : Int, cell H_6 (Addr.add ⟨b5, 0, none⟩ 5) = some (Value.int .i64 Mode32) ∧ br ((Mode31 : Int) != Mode32) (R (Value.bool false) H_6) (∃ W33 : Int, cell H_6 (Addr.add ⟨b3, 0, none⟩ 5) = some (Value.int .i64 W33) ∧ ∃ W34 : Int, cell H_6 (Addr.add ⟨b5, 0, none⟩ 6) = some (Value.int .i64 W34) ∧ br ((W33 : Int) != W34) (R (Value.bool false) H_6) (∃ H_35 : Int, cell H_6 (Addr.add ⟨b3, 0, none⟩ 6) = some (Value.int .i64 H_35) ∧ ∃ H_36 : Int, cell H_6 (Addr.add ⟨b5, 0, none⟩ 7) = some (Value.int .i64 H_36) ∧ br ((H_35 : Int) != H_36) (R (Value.bool false) H_6) (∃ Map37 : Array Value, Map37.size = 6 ∧ rowIn H_6 (Addr.add ⟨b3, 0, none⟩ 9) Map37 ∧ ∃ Map38 : Array Value, Map38.size = 6 ∧ rowIn H_6 (Addr.add ⟨b5, 0, none⟩ 10) Map38 ∧ (1 = 1 ∧ ∃ as_39 bs40 : List Int, as_39.length = 6 ∧ bs40.length = 6 ∧ Map37 = (as_39.map (Value.int .i64)).toArray ∧ Map38 = (bs40.map (Value.int .i64)).toArray ∧ br (!(decide (as_39 = bs40))) (R (Value.bool false) H_6) (∃ Smooth41 : Bool, cell H_6 (Addr.add ⟨b3, 0, none⟩ 15) = some (Value.bool Smooth41) ∧ ∃ Smooth42 : Bool, cell H_6 (Addr.add ⟨b5, 0, none⟩ 16) = some (Value.bool Smooth42) ∧ br (!(Smooth41 == Smooth42)) (R (Value.bool false) H_6) (∃ Table43 : Int, cell H_6 (Addr.add ⟨b3, 0, none⟩ 16) = some (Value.int .i64 Table43) ∧ ∃ Table44 : Int, cell H_6 (Addr.add ⟨b5, 0, none⟩ 17) = some (Value.int .i64 Table44) ∧ br ((Table43 : Int) != Table44)
 (R (Value.bool false) H_6)
 (J_7 [] H_6)))))))))))
def Try.p28 : Plan := (Plan.two Plan.leaf (Plan.two (Plan.join [] [2, 3] (Plan.two Plan.leaf (Plan.two (Plan.two Plan.leaf Plan.leaf) Plan.leaf))) (Plan.two Plan.leaf Plan.leaf)))
theorem Try.s28 {a1 : Array Value} {b2 : Array Value} {H : Heap} {R : Value → Heap → Prop} (h : Try.S28 a1 b2 H R) : CallsH Try.prog 28 #[Value.agg a1, Value.agg b2] H R :=
  vcFun_sound Try.tab_ok Try.mixed Try.func28 Try.cal28 (p := Try.p28) (args := [Value.agg a1, Value.agg b2]) (Eq.mp (by kernel_rfl : Try.S28 a1 b2 H R = vcFun Try.prog Try.tab Try.f28 Try.p28 [Value.agg a1, Value.agg b2] H R) h)

/-- (scumble/scumbleref11.Doc).Kids -/
def Try.S29 (d1 : Array Value) (to2 : Int) (H : Heap) (R : Value → Heap → Prop) : Prop :=
 alc H (.cells d1 32) fun b3 H_4 => ∀ X_5 : List Value → Heap → Prop, (∀ out6p : Option Addr, ∀ out6l : Nat, ∀ out6c : Nat, ∀ i7 : Int, ∀ H_8 : Heap, (∃ L9p : Option Addr, ∃ L9l : Nat, ∃ L9c : Nat, cell H_8 (Addr.add ⟨b3, 0, none⟩ 3) = some (Value.slice L9p L9l L9c) ∧ br (decide ((i7 : Int) < ((L9l : Nat) : Int)))
 (∃ L10p : Option Addr, ∃ L10l : Nat, ∃ L10c : Nat, cell H_8 (Addr.add ⟨b3, 0, none⟩ 3) = some (Value.slice L10p L10l L10c) ∧ ∃ a11 : Addr, L10p = some a11 ∧ 0 ≤ i7 ∧ i7 < ((L10l : Nat) : Int) ∧ ∃ To12 : Int, cell H_8 (Addr.add (Addr.add a11 (Int.toNat i7 * 19)) 2) = some (Value.int .i64 To12) ∧ br ((To12 : Int) == to2)
 (alc H_8 (.cells #[Value.int .i64 i7] 3) fun b13 H_14 => appQ 1 8 #[Value.int .i64 0] H_14 out6p out6l out6c (some ⟨b13, 0, none⟩) 1 3 fun out15p out15l out15c H_16 => X_5 [Value.slice out15p out15l out15c, Value.int .i64 (IntKind.wrap .i64 (i7 + (1 : Int)))] H_16)
 (X_5 [Value.slice out6p out6l out6c, Value.int .i64 (IntKind.wrap .i64 (i7 + (1 : Int)))] H_8))
 (R (Value.slice out6p out6l out6c) H_8)) → X_5 [Value.slice out6p out6l out6c, Value.int .i64 i7] H_8) → X_5 [Value.slice none 0 0, Value.int .i64 (0 : Int)] H_4
def Try.p29 : Plan := (Plan.two Plan.leaf (Plan.two Plan.leaf (Plan.two (Plan.two Plan.leaf (Plan.one (Plan.loop [(5, 38), (6, 3)] [1, 2] (Plan.two (Plan.two Plan.leaf (Plan.two Plan.leaf Plan.leaf)) (Plan.two (Plan.one (Plan.two Plan.leaf (Plan.two Plan.leaf Plan.leaf))) Plan.leaf))))) (Plan.two Plan.leaf Plan.leaf))))
theorem Try.s29 {d1 : Array Value} {to2 : Int} {H : Heap} {R : Value → Heap → Prop} (h : Try.S29 d1 to2 H R) : CallsH Try.prog 29 #[Value.agg d1, Value.int .i64 to2] H R :=
  vcFun_sound Try.tab_ok Try.mixed Try.func29 Try.cal29 (p := Try.p29) (args := [Value.agg d1, Value.int .i64 to2]) (Eq.mp (by kernel_rfl : Try.S29 d1 to2 H R = vcFun Try.prog Try.tab Try.f29 Try.p29 [Value.agg d1, Value.int .i64 to2] H R) h)

/-- scumble/scumbleref11.Sized -/
def Try.S34 (w1 : Int) (h2 : Int) (H : Heap) (R : Value → Heap → Prop) : Prop :=
 br (decide ((w1 : Int) ≥ (1 : Int))) (br (decide ((h2 : Int) ≥ (1 : Int))) (br (decide ((w1 : Int) ≤ (32768 : Int))) (br (decide ((h2 : Int) ≤ (32768 : Int))) (R (Value.bool (decide (((IntKind.wrap .i64 (w1 * h2)) : Int) ≤ (4194304 : Int)))) H) (R (Value.bool false) H)) (R (Value.bool false) H)) (R (Value.bool false) H)) (R (Value.bool false) H)
def Try.p34 : Plan := (Plan.two Plan.leaf (Plan.two Plan.leaf Plan.leaf))
theorem Try.s34 {w1 : Int} {h2 : Int} {H : Heap} {R : Value → Heap → Prop} (h : Try.S34 w1 h2 H R) : CallsH Try.prog 34 #[Value.int .i64 w1, Value.int .i64 h2] H R :=
  vcFun_sound Try.tab_ok Try.mixed Try.func34 Try.cal34 (p := Try.p34) (args := [Value.int .i64 w1, Value.int .i64 h2]) (Eq.mp (by kernel_rfl : Try.S34 w1 h2 H R = vcFun Try.prog Try.tab Try.f34 Try.p34 [Value.int .i64 w1, Value.int .i64 h2] H R) h)

/-- (scumble/scumbleref11.Doc).add -/
def Try.S35 (d1 : Array Value) (e2 : Array Value) (H : Heap) (R : Value → Heap → Prop) : Prop :=
 alc H (.cells d1 32) fun b3 H_4 => alc H_4 (.cells e2 48) fun b5 H_6 => alc H_6 (.cells #[Value.int .i64 0, Value.int .i64 0, Value.int .i64 0, Value.slice none 0 0] 32) fun b7 H_8 => ∀ J_9 : List Value → Heap → Prop, (∀ H_10 : Heap, (∃ Next11 : Int, cell H_10 (Addr.add ⟨b3, 0, none⟩ 2) = some (Value.int .i64 Next11) ∧ ∃ N12 : Int, cell H_10 (Addr.add ⟨b5, 0, none⟩ 4) = some (Value.int .i64 N12) ∧ ∃ To13 : Int, cell H_10 (Addr.add ⟨b5, 0, none⟩ 2) = some (Value.int .i64 To13) ∧ #[Value.int .i64 (65536 : Int), Value.int .i64 (0 : Int), Value.int .i64 (0 : Int), Value.int .i64 (65536 : Int), Value.int .i64 (0 : Int), Value.int .i64 (0 : Int)].size = 6 ∧ 10 + 6 ≤ 19 ∧ alc H_10 (.cells #[Value.int .i64 0, Value.int .i64 0, Value.int .i64 0, Value.bool false, Value.int .i64 0, Value.int .i64 0, Value.int .i64 0, Value.int .i64 0, Value.slice none 0 0, Value.slice none 0 0, Value.int .i64 0, Value.int .i64 0, Value.int .i64 0, Value.int .i64 0, Value.int .i64 0, Value.int .i64 0, Value.bool false, Value.int .i64 0, Value.slice none 0 0] 66) fun b14 H_15 => (List.toArray (List.set (setL [Value.int .i64 Next11, Value.int .i64 N12, Value.int .i64 To13, Value.bool false, Value.int .i64 (255 : Int), Value.int .i64 0, Value.int .i64 0, Value.int .i64 0, Value.slice none 0 0, Value.slice none 0 0, Value.int .i64 0, Value.int .i64 0, Value.int .i64 0, Value.int .i64 0, Value.int .i64 0, Value.int .i64 0, Value.bool false, Value.int .i64 0, Value.slice none 0 0] 10 (Array.toList #[Value.int .i64 (65536 : Int), Value.int .i64 (0 : Int), Value.int .i64 (0 : Int), Value.int .i64 (65536 : Int), Value.int .i64 (0 : Int), Value.int .i64 (0 : Int)])) 17 (Value.int .i64 (2 : Int)))).size = 19 ∧ stAt H_15 ⟨b14, 0, none⟩ (Array.toList (List.toArray (List.set (setL [Value.int .i64 Next11, Value.int .i64 N12, Value.int .i64 To13, Value.bool false, Value.int .i64 (255 : Int), Value.int .i64 0, Value.int .i64 0, Value.int .i64 0, Value.slice none 0 0, Value.slice none 0 0, Value.int .i64 0, Value.int .i64 0, Value.int .i64 0, Value.int .i64 0, Value.int .i64 0, Value.int .i64 0, Value.bool false, Value.int .i64 0, Value.slice none 0 0] 10 (Array.toList #[Value.int .i64 (65536 : Int), Value.int .i64 (0 : Int), Value.int .i64 (0 : Int), Value.int .i64 (65536 : Int), Value.int .i64 (0 : Int), Value.int .i64 (0 : Int)])) 17 (Value.int .i64 (2 : Int))))) fun H_16 => ∀ J_17 : List Value → Heap → Prop, (∀ H_18 : Heap, (∃ v19 : Array Value, v19.size = 4 ∧ rowIn H_18 ⟨b3, 0, none⟩ v19 ∧ ∃ To20 : Int, cell H_18 (Addr.add ⟨b5, 0, none⟩ 2) = some (Value.int .i64 To20) ∧ CallsH Try.prog 64 #[Value.agg v19, Value.int .i64 To20] H_18 fun r21 H_22 => ∃ f23 : Int, r21 = Value.int .i64 f23 ∧ br ((f23 : Int) != (0 : Int))
 (∃ v24 : Array Value, v24.size = 4 ∧ rowIn H_22 ⟨b3, 0, none⟩ v24 ∧ v24.size = 4 ∧ stAt H_22 ⟨b7, 0, none⟩ (Array.toList v24) fun H_25 => ∃ res26 : Array Value, res26.size = 4 ∧ rowIn H_25 ⟨b7, 0, none⟩ res26 ∧ R (Value.tuple #[Value.agg res26, Value.int .i64 f23]) H_25)
 (∃ L27p : Option Addr, ∃ L27l : Nat, ∃ L27c : Nat, cell H_22 (Addr.add ⟨b3, 0, none⟩ 3) = some (Value.slice L27p L27l L27c) ∧ ∃ v28 : Array Value, v28.size = 4 ∧ rowIn H_22 ⟨b3, 0, none⟩ v28 ∧ ∃ v29 : Array Value, v29.size = 19 ∧ rowIn H_22 ⟨b14, 0, none⟩ v29 ∧ ∃ At30 : Int, cell H_22 (Addr.add ⟨b5, 0, none⟩ 3) = some (Value.int .i64 At30) ∧ CallsH Try.prog 65 #[Value.agg v28, Value.agg v29, Value.int .i64 At30] H_22 fun r31 H_32 => ∃ r33 : Array Value, ∃ r34 : Int, r31 = Value.tuple #[Value.agg r33, Value.int .i64 r34] ∧ alc H_32 (.cells #[Value.int .i64 0, Value.int .i64 0, Value.int .i64 0, Value.slice none 0 0] 32) fun b35 H_36 => r33.size = 4 ∧ stAt H_36 ⟨b35, 0, none⟩ (Array.toList r33) fun H_37 => br ((r34 : Int) != (0 : Int))
 (∃ v38 : Array Value, v38.size = 4 ∧ rowIn H_37 ⟨b3, 0, none⟩ v38 ∧ v38.size = 4 ∧ stAt H_37 ⟨b7, 0, none⟩ (Array.toList v38) fun H_39 => ∃ res40 : Array Value, res40.size = 4 ∧ rowIn H_39 ⟨b7, 0, none⟩ res40 ∧ R (Value.tuple #[Value.agg res40, Value.int .i64 r34]) H_39)
 (∀ J_41 : List Value → Heap → Prop, (∀ H_42 : Heap, (∃ Next43 : Int, cell H_42 (Addr.add ⟨b35, 0, none⟩ 2) = some (Value.int .i64 Next43) ∧ stAt H_42 (Addr.add ⟨b35, 0, none⟩ 2) [Value.int .i64 (IntKind.wrap .i64 (Next43 + (1 : Int)))] fun H_44 => ∃ v45 : Array Value, v45.size = 4 ∧ rowIn H_44 ⟨b35, 0, none⟩ v45 ∧ v45.size = 4 ∧ stAt H_44 ⟨b7, 0, none⟩ (Array.toList v45) fun H_46 => ∃ res47 : Array Value, res47.size = 4 ∧ rowIn H_46 ⟨b7, 0, none⟩ res47 ∧ R (Value.tuple #[Value.agg res47, Value.int .i64 (0 : Int)]) H_46) → J_41 [] H_42) →
 br (decide ((((L27l : Nat) : Int) : Int) ≥ (4096 : Int))) (∃ v48 : Array Value, v48.size = 4 ∧ rowIn H_37 ⟨b3, 0, none⟩ v48 ∧ v48.size = 4 ∧ stAt H_37 ⟨b7, 0, none⟩ (Array.toList v48) fun H_49 => ∃ res50 : Array Value, res50.size = 4 ∧ rowIn H_49 ⟨b7, 0, none⟩ res50 ∧ R (Value.tuple #[Value.agg res50, Value.int .i64 (31 : Int)]) H_49) (∃ v51 : Array Value, v51.size = 4 ∧ rowIn H_37 ⟨b3, 0, none⟩ v51 ∧ ∃ To52 : Int, cell H_37 (Addr.add ⟨b5, 0, none⟩ 2) = some (Value.int .i64 To52) ∧ CallsH Try.prog 55 #[Value.agg v51, Value.int .i64 To52] H_37 fun r53 H_54 => ∃ r55 : Int, r53 = Value.int .i64 r55 ∧ br (decide (((IntKind.wrap .i64 (r55 + (1 : Int))) : Int) > (64 : Int)))
 (∃ v56 : Array Value, v56.size = 4 ∧ rowIn H_54 ⟨b3, 0, none⟩ v56 ∧ v56.size = 4 ∧ stAt H_54 ⟨b7, 0, none⟩ (Array.toList v56) fun H_57 => ∃ res58 : Array Value, res58.size = 4 ∧ rowIn H_57 ⟨b7, 0, none⟩ res58 ∧ R (Value.tuple #[Value.agg res58, Value.int .i64 (31 : Int)]) H_57)
 (J_41 [] H_54))))) → J_17 [] H_18) →
 ∃ N59 : Int, cell H_16 (Addr.add ⟨b5, 0, none⟩ 4) = some (Value.int .i64 N59) ∧ br ((N59 : Int) == (0 : Int))
 (∃ W60 : Int, cell H_16 (Addr.add ⟨b5, 0, none⟩ 8) = some (Value.int .i64 W60) ∧ ∃ H_61 : Int, cell H_16 (Addr.add ⟨b5, 0, none⟩ 9) = some (Value.int .i64 H_61) ∧ CallsH Try.prog 34 #[Value.int .i64 W60, Value.int .i64 H_61] H_16 fun r62 H_63 => ∃ r64 : Bool, r62 = Value.bool r64 ∧ br (!r64)
 (∃ v65 : Array Value, v65.size = 4 ∧ rowIn H_63 ⟨b3, 0, none⟩ v65 ∧ v65.size = 4 ∧ stAt H_63 ⟨b7, 0, none⟩ (Array.toList v65) fun H_66 => ∃ res67 : Array Value, res67.size = 4 ∧ rowIn H_66 ⟨b7, 0, none⟩ res67 ∧ R (Value.tuple #[Value.agg res67, Value.int .i64 (31 : Int)]) H_66)
 (∃ W68 : Int, cell H_63 (Addr.add ⟨b5, 0, none⟩ 8) = some (Value.int .i64 W68) ∧ stAt H_63 (Addr.add ⟨b14, 0, none⟩ 6) [Value.int .i64 W68] fun H_69 => ∃ H_70 : Int, cell H_69 (Addr.add ⟨b5, 0, none⟩ 9) = some (Value.int .i64 H_70) ∧ stAt H_69 (Addr.add ⟨b14, 0, none⟩ 7) [Value.int .i64 H_70] fun H_71 => ∃ W72 : Int, cell H_71 (Addr.add ⟨b5, 0, none⟩ 8) = some (Value.int .i64 W72) ∧ ∃ H_73 : Int, cell H_71 (Addr.add ⟨b5, 0, none⟩ 9) = some (Value.int .i64 H_73) ∧ 0 ≤ (IntKind.wrap .i64 (W72 * H_73)) ∧ (IntKind.wrap .i64 (W72 * H_73)) ≤ (IntKind.wrap .i64 (W72 * H_73)) ∧ ((8 : Nat) : Int) * (IntKind.wrap .i64 (W72 * H_73)) ≤ 281474976710656 ∧ (IntKind.wrap .i64 (W72 * H_73)) ≤ 281474976710656 ∧ alc H_71 (.cells (List.toArray (reps (Int.toNat (IntKind.wrap .i64 (W72 * H_73))) (Array.toList #[Value.int .i64 0]))) 3) fun b74 H_75 => stAt H_75 (Addr.add ⟨b14, 0, none⟩ 8) [Value.slice (some ⟨b74, 0, none⟩) (Int.toNat (IntKind.wrap .i64 (W72 * H_73))) (Int.toNat (IntKind.wrap .i64 (W72 * H_73)))] fun H_76 => J_17 [] H_76))
 (J_17 [] H_16)) → J_9 [] H_10) →
 ∃ N77 : Int, cell H_8 (Addr.add ⟨b5, 0, none⟩ 4) = some (Value.int .i64 N77) ∧ br (decide ((N77 : Int) < (0 : Int))) (∃ v78 : Array Value, v78.size = 4 ∧ rowIn H_8 ⟨b3, 0, none⟩ v78 ∧ v78.size = 4 ∧ stAt H_8 ⟨b7, 0, none⟩ (Array.toList v78) fun H_79 => ∃ res80 : Array Value, res80.size = 4 ∧ rowIn H_79 ⟨b7, 0, none⟩ res80 ∧ R (Value.tuple #[Value.agg res80, Value.int .i64 (41 : Int)]) H_79) (∃ N81 : Int, cell H_8 (Addr.add ⟨b5, 0, none⟩ 4) = some (Value.int .i64 N81) ∧ br (decide ((N81 : Int) > (2 : Int)))
 (∃ v82 : Array Value, v82.size = 4 ∧ rowIn H_8 ⟨b3, 0, none⟩ v82 ∧ v82.size = 4 ∧ stAt H_8 ⟨b7, 0, none⟩ (Array.toList v82) fun H_83 => ∃ res84 : Array Value, res84.size = 4 ∧ rowIn H_83 ⟨b7, 0, none⟩ res84 ∧ R (Value.tuple #[Value.agg res84, Value.int .i64 (41 : Int)]) H_83)
 (J_9 [] H_8))
def Try.p35 : Plan := (Plan.two Plan.leaf (Plan.two (Plan.join [] [2, 3, 4] (Plan.two Plan.leaf (Plan.two (Plan.two Plan.leaf Plan.leaf) Plan.leaf))) (Plan.two Plan.leaf (Plan.two (Plan.join [] [2, 3, 4, 6] (Plan.two Plan.leaf (Plan.two (Plan.two (Plan.two Plan.leaf (Plan.two (Plan.two Plan.leaf Plan.leaf) Plan.leaf)) (Plan.two Plan.leaf (Plan.two Plan.leaf Plan.leaf))) Plan.leaf))) (Plan.two Plan.leaf (Plan.two (Plan.two Plan.leaf (Plan.two (Plan.two Plan.leaf Plan.leaf) Plan.leaf)) (Plan.two Plan.leaf (Plan.two Plan.leaf (Plan.two (Plan.two Plan.leaf (Plan.two (Plan.two Plan.leaf Plan.leaf) Plan.leaf)) (Plan.two (Plan.join [] [4, 9] (Plan.two Plan.leaf (Plan.two (Plan.two Plan.leaf Plan.leaf) Plan.leaf))) (Plan.two Plan.leaf (Plan.two Plan.leaf Plan.leaf))))))))))))
theorem Try.s35 {d1 : Array Value} {e2 : Array Value} {H : Heap} {R : Value → Heap → Prop} (h : Try.S35 d1 e2 H R) : CallsH Try.prog 35 #[Value.agg d1, Value.agg e2] H R :=
  vcFun_sound Try.tab_ok Try.mixed Try.func35 Try.cal35 (p := Try.p35) (args := [Value.agg d1, Value.agg e2]) (Eq.mp (by kernel_rfl : Try.S35 d1 e2 H R = vcFun Try.prog Try.tab Try.f35 Try.p35 [Value.agg d1, Value.agg e2] H R) h)

/-- (scumble/scumbleref11.Doc).without -/
def Try.S36 (d1 : Array Value) (id2 : Int) (H : Heap) (R : Value → Heap → Prop) : Prop :=
 alc H (.cells d1 32) fun b3 H_4 => ∀ X_5 : List Value → Heap → Prop, (∀ out6p : Option Addr, ∀ out6l : Nat, ∀ out6c : Nat, ∀ gone7p : Option Addr, ∀ gone7l : Nat, ∀ gone7c : Nat, ∀ i8 : Int, ∀ H_9 : Heap, (∃ L10p : Option Addr, ∃ L10l : Nat, ∃ L10c : Nat, cell H_9 (Addr.add ⟨b3, 0, none⟩ 3) = some (Value.slice L10p L10l L10c) ∧ br (decide ((i8 : Int) < ((L10l : Nat) : Int)))
 (∃ v11 : Array Value, v11.size = 4 ∧ rowIn H_9 ⟨b3, 0, none⟩ v11 ∧ ∃ L12p : Option Addr, ∃ L12l : Nat, ∃ L12c : Nat, cell H_9 (Addr.add ⟨b3, 0, none⟩ 3) = some (Value.slice L12p L12l L12c) ∧ ∃ a13 : Addr, L12p = some a13 ∧ 0 ≤ i8 ∧ i8 < ((L12l : Nat) : Int) ∧ ∃ ID14 : Int, cell H_9 (Addr.add (Addr.add a13 (Int.toNat i8 * 19)) 0) = some (Value.int .i64 ID14) ∧ CallsH Try.prog 66 #[Value.agg v11, Value.int .i64 ID14, Value.int .i64 id2] H_9 fun r15 H_16 => ∃ r17 : Bool, r15 = Value.bool r17 ∧ br r17
 (∃ L18p : Option Addr, ∃ L18l : Nat, ∃ L18c : Nat, cell H_16 (Addr.add ⟨b3, 0, none⟩ 3) = some (Value.slice L18p L18l L18c) ∧ ∃ a19 : Addr, L18p = some a19 ∧ 0 ≤ i8 ∧ i8 < ((L18l : Nat) : Int) ∧ ∃ v20 : Array Value, v20.size = 19 ∧ rowIn H_16 (Addr.add a19 (Int.toNat i8 * 19)) v20 ∧ v20.size = 19 ∧ 0 + 19 ≤ 19 ∧ alc H_16 (.cells (List.toArray (setL [Value.int .i64 0, Value.int .i64 0, Value.int .i64 0, Value.bool false, Value.int .i64 0, Value.int .i64 0, Value.int .i64 0, Value.int .i64 0, Value.slice none 0 0, Value.slice none 0 0, Value.int .i64 0, Value.int .i64 0, Value.int .i64 0, Value.int .i64 0, Value.int .i64 0, Value.int .i64 0, Value.bool false, Value.int .i64 0, Value.slice none 0 0] 0 (Array.toList v20))) 66) fun b21 H_22 => appQ 19 200 #[Value.int .i64 0, Value.int .i64 0, Value.int .i64 0, Value.bool false, Value.int .i64 0, Value.int .i64 0, Value.int .i64 0, Value.int .i64 0, Value.slice none 0 0, Value.slice none 0 0, Value.int .i64 0, Value.int .i64 0, Value.int .i64 0, Value.int .i64 0, Value.int .i64 0, Value.int .i64 0, Value.bool false, Value.int .i64 0, Value.slice none 0 0] H_22 gone7p gone7l gone7c (some ⟨b21, 0, none⟩) 1 66 fun gone23p gone23l gone23c H_24 => X_5 [Value.slice out6p out6l out6c, Value.slice gone23p gone23l gone23c, Value.int .i64 (IntKind.wrap .i64 (i8 + (1 : Int)))] H_24)
 (∃ L25p : Option Addr, ∃ L25l : Nat, ∃ L25c : Nat, cell H_16 (Addr.add ⟨b3, 0, none⟩ 3) = some (Value.slice L25p L25l L25c) ∧ ∃ a26 : Addr, L25p = some a26 ∧ 0 ≤ i8 ∧ i8 < ((L25l : Nat) : Int) ∧ ∃ v27 : Array Value, v27.size = 19 ∧ rowIn H_16 (Addr.add a26 (Int.toNat i8 * 19)) v27 ∧ v27.size = 19 ∧ 0 + 19 ≤ 19 ∧ alc H_16 (.cells (List.toArray (setL [Value.int .i64 0, Value.int .i64 0, Value.int .i64 0, Value.bool false, Value.int .i64 0, Value.int .i64 0, Value.int .i64 0, Value.int .i64 0, Value.slice none 0 0, Value.slice none 0 0, Value.int .i64 0, Value.int .i64 0, Value.int .i64 0, Value.int .i64 0, Value.int .i64 0, Value.int .i64 0, Value.bool false, Value.int .i64 0, Value.slice none 0 0] 0 (Array.toList v27))) 66) fun b28 H_29 => appQ 19 200 #[Value.int .i64 0, Value.int .i64 0, Value.int .i64 0, Value.bool false, Value.int .i64 0, Value.int .i64 0, Value.int .i64 0, Value.int .i64 0, Value.slice none 0 0, Value.slice none 0 0, Value.int .i64 0, Value.int .i64 0, Value.int .i64 0, Value.int .i64 0, Value.int .i64 0, Value.int .i64 0, Value.bool false, Value.int .i64 0, Value.slice none 0 0] H_29 out6p out6l out6c (some ⟨b28, 0, none⟩) 1 66 fun out30p out30l out30c H_31 => X_5 [Value.slice out30p out30l out30c, Value.slice gone7p gone7l gone7c, Value.int .i64 (IntKind.wrap .i64 (i8 + (1 : Int)))] H_31))
 (R (Value.tuple #[Value.slice out6p out6l out6c, Value.slice gone7p gone7l gone7c]) H_9)) → X_5 [Value.slice out6p out6l out6c, Value.slice gone7p gone7l gone7c, Value.int .i64 i8] H_9) → X_5 [Value.slice none 0 0, Value.slice none 0 0, Value.int .i64 (0 : Int)] H_4
def Try.p36 : Plan := (Plan.two Plan.leaf (Plan.two Plan.leaf (Plan.two Plan.leaf (Plan.two (Plan.two Plan.leaf (Plan.one (Plan.loop [(6, 30), (7, 30), (8, 3)] [1, 2] (Plan.two (Plan.two Plan.leaf (Plan.two Plan.leaf Plan.leaf)) (Plan.two (Plan.one (Plan.two Plan.leaf (Plan.two Plan.leaf Plan.leaf))) Plan.leaf))))) (Plan.two Plan.leaf Plan.leaf)))))
theorem Try.s36 {d1 : Array Value} {id2 : Int} {H : Heap} {R : Value → Heap → Prop} (h : Try.S36 d1 id2 H R) : CallsH Try.prog 36 #[Value.agg d1, Value.int .i64 id2] H R :=
  vcFun_sound Try.tab_ok Try.mixed Try.func36 Try.cal36 (p := Try.p36) (args := [Value.agg d1, Value.int .i64 id2]) (Eq.mp (by kernel_rfl : Try.S36 d1 id2 H R = vcFun Try.prog Try.tab Try.f36 Try.p36 [Value.agg d1, Value.int .i64 id2] H R) h)

/-- (scumble/scumbleref11.Doc).move -/
def Try.S37 (d1 : Array Value) (e2 : Array Value) (H : Heap) (R : Value → Heap → Prop) : Prop :=
 alc H (.cells d1 32) fun b3 H_4 => alc H_4 (.cells e2 48) fun b5 H_6 => alc H_6 (.cells #[Value.int .i64 0, Value.int .i64 0, Value.int .i64 0, Value.slice none 0 0] 32) fun b7 H_8 => ∃ v9 : Array Value, v9.size = 4 ∧ rowIn H_8 ⟨b3, 0, none⟩ v9 ∧ ∃ ID10 : Int, cell H_8 (Addr.add ⟨b5, 0, none⟩ 1) = some (Value.int .i64 ID10) ∧ CallsH Try.prog 24 #[Value.agg v9, Value.int .i64 ID10] H_8 fun r11 H_12 => ∃ i13 : Int, r11 = Value.int .i64 i13 ∧ br (decide ((i13 : Int) < (0 : Int)))
 (∃ v14 : Array Value, v14.size = 4 ∧ rowIn H_12 ⟨b3, 0, none⟩ v14 ∧ v14.size = 4 ∧ stAt H_12 ⟨b7, 0, none⟩ (Array.toList v14) fun H_15 => ∃ res16 : Array Value, res16.size = 4 ∧ rowIn H_15 ⟨b7, 0, none⟩ res16 ∧ R (Value.tuple #[Value.agg res16, Value.int .i64 (40 : Int)]) H_15)
 (∃ v17 : Array Value, v17.size = 4 ∧ rowIn H_12 ⟨b3, 0, none⟩ v17 ∧ ∃ To18 : Int, cell H_12 (Addr.add ⟨b5, 0, none⟩ 2) = some (Value.int .i64 To18) ∧ CallsH Try.prog 64 #[Value.agg v17, Value.int .i64 To18] H_12 fun r19 H_20 => ∃ f21 : Int, r19 = Value.int .i64 f21 ∧ br ((f21 : Int) != (0 : Int))
 (∃ v22 : Array Value, v22.size = 4 ∧ rowIn H_20 ⟨b3, 0, none⟩ v22 ∧ v22.size = 4 ∧ stAt H_20 ⟨b7, 0, none⟩ (Array.toList v22) fun H_23 => ∃ res24 : Array Value, res24.size = 4 ∧ rowIn H_23 ⟨b7, 0, none⟩ res24 ∧ R (Value.tuple #[Value.agg res24, Value.int .i64 f21]) H_23)
 (∃ v25 : Array Value, v25.size = 4 ∧ rowIn H_20 ⟨b3, 0, none⟩ v25 ∧ ∃ To26 : Int, cell H_20 (Addr.add ⟨b5, 0, none⟩ 2) = some (Value.int .i64 To26) ∧ ∃ ID27 : Int, cell H_20 (Addr.add ⟨b5, 0, none⟩ 1) = some (Value.int .i64 ID27) ∧ CallsH Try.prog 66 #[Value.agg v25, Value.int .i64 To26, Value.int .i64 ID27] H_20 fun r28 H_29 => ∃ r30 : Bool, r28 = Value.bool r30 ∧ br r30
 (∃ v31 : Array Value, v31.size = 4 ∧ rowIn H_29 ⟨b3, 0, none⟩ v31 ∧ v31.size = 4 ∧ stAt H_29 ⟨b7, 0, none⟩ (Array.toList v31) fun H_32 => ∃ res33 : Array Value, res33.size = 4 ∧ rowIn H_32 ⟨b7, 0, none⟩ res33 ∧ R (Value.tuple #[Value.agg res33, Value.int .i64 (42 : Int)]) H_32)
 (∃ L34p : Option Addr, ∃ L34l : Nat, ∃ L34c : Nat, cell H_29 (Addr.add ⟨b3, 0, none⟩ 3) = some (Value.slice L34p L34l L34c) ∧ ∃ a35 : Addr, L34p = some a35 ∧ 0 ≤ i13 ∧ i13 < ((L34l : Nat) : Int) ∧ ∃ v36 : Array Value, v36.size = 19 ∧ rowIn H_29 (Addr.add a35 (Int.toNat i13 * 19)) v36 ∧ alc H_29 (.cells #[Value.int .i64 0, Value.int .i64 0, Value.int .i64 0, Value.bool false, Value.int .i64 0, Value.int .i64 0, Value.int .i64 0, Value.int .i64 0, Value.slice none 0 0, Value.slice none 0 0, Value.int .i64 0, Value.int .i64 0, Value.int .i64 0, Value.int .i64 0, Value.int .i64 0, Value.int .i64 0, Value.bool false, Value.int .i64 0, Value.slice none 0 0] 66) fun b37 H_38 => v36.size = 19 ∧ stAt H_38 ⟨b37, 0, none⟩ (Array.toList v36) fun H_39 => ∃ v40 : Array Value, v40.size = 4 ∧ rowIn H_39 ⟨b3, 0, none⟩ v40 ∧ ∃ ID41 : Int, cell H_39 (Addr.add ⟨b5, 0, none⟩ 1) = some (Value.int .i64 ID41) ∧ CallsH Try.prog 36 #[Value.agg v40, Value.int .i64 ID41] H_39 fun r42 H_43 => ∃ r44p : Option Addr, ∃ r44l : Nat, ∃ r44c : Nat, ∃ r45p : Option Addr, ∃ r45l : Nat, ∃ r45c : Nat, r42 = Value.tuple #[Value.slice r44p r44l r44c, Value.slice r45p r45l r45c] ∧ ∃ v46 : Array Value, v46.size = 4 ∧ rowIn H_43 ⟨b3, 0, none⟩ v46 ∧ alc H_43 (.cells #[Value.int .i64 0, Value.int .i64 0, Value.int .i64 0, Value.slice none 0 0] 32) fun b47 H_48 => v46.size = 4 ∧ stAt H_48 ⟨b47, 0, none⟩ (Array.toList v46) fun H_49 => stAt H_49 (Addr.add ⟨b47, 0, none⟩ 3) [Value.slice r44p r44l r44c] fun H_50 => ∃ To51 : Int, cell H_50 (Addr.add ⟨b5, 0, none⟩ 2) = some (Value.int .i64 To51) ∧ stAt H_50 (Addr.add ⟨b37, 0, none⟩ 2) [Value.int .i64 To51] fun H_52 => ∃ v53 : Array Value, v53.size = 4 ∧ rowIn H_52 ⟨b47, 0, none⟩ v53 ∧ ∃ v54 : Array Value, v54.size = 19 ∧ rowIn H_52 ⟨b37, 0, none⟩ v54 ∧ ∃ At55 : Int, cell H_52 (Addr.add ⟨b5, 0, none⟩ 3) = some (Value.int .i64 At55) ∧ CallsH Try.prog 65 #[Value.agg v53, Value.agg v54, Value.int .i64 At55] H_52 fun r56 H_57 => ∃ r58 : Array Value, ∃ r59 : Int, r56 = Value.tuple #[Value.agg r58, Value.int .i64 r59] ∧ alc H_57 (.cells #[Value.int .i64 0, Value.int .i64 0, Value.int .i64 0, Value.slice none 0 0] 32) fun b60 H_61 => r58.size = 4 ∧ stAt H_61 ⟨b60, 0, none⟩ (Array.toList r58) fun H_62 => br ((r59 : Int) != (0 : Int))
 (∃ v63 : Array Value, v63.size = 4 ∧ rowIn H_62 ⟨b3, 0, none⟩ v63 ∧ v63.size = 4 ∧ stAt H_62 ⟨b7, 0, none⟩ (Array.toList v63) fun H_64 => ∃ res65 : Array Value, res65.size = 4 ∧ rowIn H_64 ⟨b7, 0, none⟩ res65 ∧ R (Value.tuple #[Value.agg res65, Value.int .i64 r59]) H_64)
 (∀ X_66 : List Value → Heap → Prop, (∀ k67 : Int, ∀ H_68 : Heap, (br (decide ((k67 : Int) < ((r45l : Nat) : Int)))
 (∃ a69 : Addr, r45p = some a69 ∧ 0 ≤ k67 ∧ k67 < ((r45l : Nat) : Int) ∧ ∃ ID70 : Int, cell H_68 (Addr.add (Addr.add a69 (Int.toNat k67 * 19)) 0) = some (Value.int .i64 ID70) ∧ ∃ ID71 : Int, cell H_68 (Addr.add ⟨b5, 0, none⟩ 1) = some (Value.int .i64 ID71) ∧ br ((ID70 : Int) != ID71)
 (∃ L72p : Option Addr, ∃ L72l : Nat, ∃ L72c : Nat, cell H_68 (Addr.add ⟨b60, 0, none⟩ 3) = some (Value.slice L72p L72l L72c) ∧ ∃ a73 : Addr, r45p = some a73 ∧ 0 ≤ k67 ∧ k67 < ((r45l : Nat) : Int) ∧ ∃ v74 : Array Value, v74.size = 19 ∧ rowIn H_68 (Addr.add a73 (Int.toNat k67 * 19)) v74 ∧ v74.size = 19 ∧ 0 + 19 ≤ 19 ∧ alc H_68 (.cells (List.toArray (setL [Value.int .i64 0, Value.int .i64 0, Value.int .i64 0, Value.bool false, Value.int .i64 0, Value.int .i64 0, Value.int .i64 0, Value.int .i64 0, Value.slice none 0 0, Value.slice none 0 0, Value.int .i64 0, Value.int .i64 0, Value.int .i64 0, Value.int .i64 0, Value.int .i64 0, Value.int .i64 0, Value.bool false, Value.int .i64 0, Value.slice none 0 0] 0 (Array.toList v74))) 66) fun b75 H_76 => (Ext H_68 H_76 ∨ (∃ L80p : Option Addr, ∃ L80l : Nat, ∃ L80c : Nat, cell H_76 (Addr.add ⟨b60, 0, none⟩ 3) = some (Value.slice L80p L80l L80c) ∧ Value.slice L80p L80l L80c = Value.slice L72p L72l L72c)) ∧ appQ 19 200 #[Value.int .i64 0, Value.int .i64 0, Value.int .i64 0, Value.bool false, Value.int .i64 0, Value.int .i64 0, Value.int .i64 0, Value.int .i64 0, Value.slice none 0 0, Value.slice none 0 0, Value.int .i64 0, Value.int .i64 0, Value.int .i64 0, Value.int .i64 0, Value.int .i64 0, Value.int .i64 0, Value.bool false, Value.int .i64 0, Value.slice none 0 0] H_76 L72p L72l L72c (some ⟨b75, 0, none⟩) 1 66 fun app77p app77l app77c H_78 => stAt H_78 (Addr.add ⟨b60, 0, none⟩ 3) [Value.slice app77p app77l app77c] fun H_79 => X_66 [Value.int .i64 (IntKind.wrap .i64 (k67 + (1 : Int)))] H_79)
 (X_66 [Value.int .i64 (IntKind.wrap .i64 (k67 + (1 : Int)))] H_68))
 (∃ v81 : Array Value, v81.size = 4 ∧ rowIn H_68 ⟨b60, 0, none⟩ v81 ∧ CallsH Try.prog 27 #[Value.agg v81] H_68 fun r82 H_83 => ∃ r84 : Int, r82 = Value.int .i64 r84 ∧ br (decide ((r84 : Int) > (64 : Int)))
 (∃ v85 : Array Value, v85.size = 4 ∧ rowIn H_83 ⟨b3, 0, none⟩ v85 ∧ v85.size = 4 ∧ stAt H_83 ⟨b7, 0, none⟩ (Array.toList v85) fun H_86 => ∃ res87 : Array Value, res87.size = 4 ∧ rowIn H_86 ⟨b7, 0, none⟩ res87 ∧ R (Value.tuple #[Value.agg res87, Value.int .i64 (31 : Int)]) H_86)
 (∃ v88 : Array Value, v88.size = 4 ∧ rowIn H_83 ⟨b60, 0, none⟩ v88 ∧ v88.size = 4 ∧ stAt H_83 ⟨b7, 0, none⟩ (Array.toList v88) fun H_89 => ∃ res90 : Array Value, res90.size = 4 ∧ rowIn H_89 ⟨b7, 0, none⟩ res90 ∧ R (Value.tuple #[Value.agg res90, Value.int .i64 (0 : Int)]) H_89))) → X_66 [Value.int .i64 k67] H_68) → X_66 [Value.int .i64 (0 : Int)] H_62))))
def Try.p37 : Plan := (Plan.two Plan.leaf (Plan.two Plan.leaf (Plan.two (Plan.two Plan.leaf (Plan.two (Plan.two Plan.leaf Plan.leaf) Plan.leaf)) (Plan.two Plan.leaf (Plan.two (Plan.two Plan.leaf (Plan.two (Plan.two Plan.leaf Plan.leaf) Plan.leaf)) (Plan.two (Plan.two Plan.leaf (Plan.two (Plan.two Plan.leaf Plan.leaf) Plan.leaf)) (Plan.two Plan.leaf (Plan.two Plan.leaf (Plan.two Plan.leaf (Plan.two Plan.leaf (Plan.two Plan.leaf (Plan.two Plan.leaf (Plan.two (Plan.two Plan.leaf (Plan.two (Plan.two Plan.leaf Plan.leaf) Plan.leaf)) (Plan.two (Plan.two Plan.leaf (Plan.one (Plan.loop [(14, 3)] [2, 3, 4, 10, 12] (Plan.two (Plan.two Plan.leaf (Plan.two Plan.leaf Plan.leaf)) (Plan.two (Plan.one (Plan.two Plan.leaf (Plan.two Plan.leaf Plan.leaf))) Plan.leaf))))) (Plan.two (Plan.two Plan.leaf (Plan.two (Plan.two Plan.leaf Plan.leaf) Plan.leaf)) (Plan.two Plan.leaf Plan.leaf))))))))))))))))
theorem Try.s37 {d1 : Array Value} {e2 : Array Value} {H : Heap} {R : Value → Heap → Prop} (h : Try.S37 d1 e2 H R) : CallsH Try.prog 37 #[Value.agg d1, Value.agg e2] H R :=
  vcFun_sound Try.tab_ok Try.mixed Try.func37 Try.cal37 (p := Try.p37) (args := [Value.agg d1, Value.agg e2]) (Eq.mp (by kernel_rfl : Try.S37 d1 e2 H R = vcFun Try.prog Try.tab Try.f37 Try.p37 [Value.agg d1, Value.agg e2] H R) h)

/-- (scumble/scumbleref11.Doc).change -/
def Try.S38 (d1 : Array Value) (l2 : Array Value) (e3 : Array Value) (H : Heap) (R : Value → Heap → Prop) : Prop :=
 alc H (.cells d1 32) fun b4 H_5 => alc H_5 (.cells l2 66) fun b6 H_7 => alc H_7 (.cells e3 48) fun b8 H_9 => alc H_9 (.cells #[Value.int .i64 0, Value.int .i64 0, Value.int .i64 0, Value.bool false, Value.int .i64 0, Value.int .i64 0, Value.int .i64 0, Value.int .i64 0, Value.slice none 0 0, Value.slice none 0 0, Value.int .i64 0, Value.int .i64 0, Value.int .i64 0, Value.int .i64 0, Value.int .i64 0, Value.int .i64 0, Value.bool false, Value.int .i64 0, Value.slice none 0 0] 66) fun b10 H_11 => ∀ J_12 : List Value → Heap → Prop, (∀ H_13 : Heap, (∃ v14 : Array Value, v14.size = 19 ∧ rowIn H_13 ⟨b6, 0, none⟩ v14 ∧ v14.size = 19 ∧ stAt H_13 ⟨b10, 0, none⟩ (Array.toList v14) fun H_15 => ∃ res16 : Array Value, res16.size = 19 ∧ rowIn H_15 ⟨b10, 0, none⟩ res16 ∧ R (Value.tuple #[Value.agg res16, Value.int .i64 (0 : Int)]) H_15) → J_12 [] H_13) →
 ∃ Kind17 : Int, cell H_11 (Addr.add ⟨b8, 0, none⟩ 0) = some (Value.int .i64 Kind17) ∧ br ((Kind17 : Int) == (4 : Int))
 (∃ v18 : Array Value, v18.size = 4 ∧ rowIn H_11 ⟨b4, 0, none⟩ v18 ∧ ∃ v19 : Array Value, v19.size = 19 ∧ rowIn H_11 ⟨b6, 0, none⟩ v19 ∧ ∃ v20 : Array Value, v20.size = 19 ∧ rowIn H_11 ⟨b8, 0, none⟩ v20 ∧ CallsH Try.prog 67 #[Value.agg v18, Value.agg v19, Value.agg v20] H_11 fun r21 H_22 => ∃ r23 : Array Value, ∃ r24 : Int, r21 = Value.tuple #[Value.agg r23, Value.int .i64 r24] ∧ r23.size = 19 ∧ stAt H_22 ⟨b10, 0, none⟩ (Array.toList r23) fun H_25 => ∃ res26 : Array Value, res26.size = 19 ∧ rowIn H_25 ⟨b10, 0, none⟩ res26 ∧ R (Value.tuple #[Value.agg res26, Value.int .i64 r24]) H_25)
 (br ((Kind17 : Int) == (5 : Int))
 (∀ J_27 : List Value → Heap → Prop, (∀ H_28 : Heap, (∀ J_29 : List Value → Heap → Prop, (∀ H_30 : Heap, (∃ N31 : Int, cell H_30 (Addr.add ⟨b8, 0, none⟩ 4) = some (Value.int .i64 N31) ∧ stAt H_30 (Addr.add ⟨b6, 0, none⟩ 4) [Value.int .i64 N31] fun H_32 => ∃ M33 : Int, cell H_32 (Addr.add ⟨b8, 0, none⟩ 5) = some (Value.int .i64 M33) ∧ stAt H_32 (Addr.add ⟨b6, 0, none⟩ 5) [Value.int .i64 M33] fun H_34 => J_12 [] H_34) → J_29 [] H_30) →
 ∃ Kind35 : Int, cell H_28 (Addr.add ⟨b6, 0, none⟩ 1) = some (Value.int .i64 Kind35) ∧ br ((Kind35 : Int) == (2 : Int)) (∃ M36 : Int, cell H_28 (Addr.add ⟨b8, 0, none⟩ 5) = some (Value.int .i64 M36) ∧ br ((M36 : Int) != (0 : Int))
 (∃ v37 : Array Value, v37.size = 19 ∧ rowIn H_28 ⟨b6, 0, none⟩ v37 ∧ v37.size = 19 ∧ stAt H_28 ⟨b10, 0, none⟩ (Array.toList v37) fun H_38 => ∃ res39 : Array Value, res39.size = 19 ∧ rowIn H_38 ⟨b10, 0, none⟩ res39 ∧ R (Value.tuple #[Value.agg res39, Value.int .i64 (41 : Int)]) H_38)
 (J_29 [] H_28)) (J_29 [] H_28)) → J_27 [] H_28) →
 ∃ N40 : Int, cell H_11 (Addr.add ⟨b8, 0, none⟩ 4) = some (Value.int .i64 N40) ∧ br (decide ((N40 : Int) < (0 : Int))) (∃ v41 : Array Value, v41.size = 19 ∧ rowIn H_11 ⟨b6, 0, none⟩ v41 ∧ v41.size = 19 ∧ stAt H_11 ⟨b10, 0, none⟩ (Array.toList v41) fun H_42 => ∃ res43 : Array Value, res43.size = 19 ∧ rowIn H_42 ⟨b10, 0, none⟩ res43 ∧ R (Value.tuple #[Value.agg res43, Value.int .i64 (32 : Int)]) H_42) (∃ N44 : Int, cell H_11 (Addr.add ⟨b8, 0, none⟩ 4) = some (Value.int .i64 N44) ∧ br (decide ((N44 : Int) > (255 : Int))) (∃ v45 : Array Value, v45.size = 19 ∧ rowIn H_11 ⟨b6, 0, none⟩ v45 ∧ v45.size = 19 ∧ stAt H_11 ⟨b10, 0, none⟩ (Array.toList v45) fun H_46 => ∃ res47 : Array Value, res47.size = 19 ∧ rowIn H_46 ⟨b10, 0, none⟩ res47 ∧ R (Value.tuple #[Value.agg res47, Value.int .i64 (32 : Int)]) H_46) (∃ M48 : Int, cell H_11 (Addr.add ⟨b8, 0, none⟩ 5) = some (Value.int .i64 M48) ∧ br (decide ((M48 : Int) < (0 : Int))) (∃ v49 : Array Value, v49.size = 19 ∧ rowIn H_11 ⟨b6, 0, none⟩ v49 ∧ v49.size = 19 ∧ stAt H_11 ⟨b10, 0, none⟩ (Array.toList v49) fun H_50 => ∃ res51 : Array Value, res51.size = 19 ∧ rowIn H_50 ⟨b10, 0, none⟩ res51 ∧ R (Value.tuple #[Value.agg res51, Value.int .i64 (32 : Int)]) H_50) (∃ M52 : Int, cell H_11 (Addr.add ⟨b8, 0, none⟩ 5) = some (Value.int .i64 M52) ∧ br (decide ((M52 : Int) > (11 : Int)))
 (∃ v53 : Array Value, v53.size = 19 ∧ rowIn H_11 ⟨b6, 0, none⟩ v53 ∧ v53.size = 19 ∧ stAt H_11 ⟨b10, 0, none⟩ (Array.toList v53) fun H_54 => ∃ res55 : Array Value, res55.size = 19 ∧ rowIn H_54 ⟨b10, 0, none⟩ res55 ∧ R (Value.tuple #[Value.agg res55, Value.int .i64 (32 : Int)]) H_54)
 (J_27 [] H_11)))))
 (br ((Kind17 : Int) == (6 : Int))
 (∀ J_56 : List Value → Heap → Prop, (∀ H_57 : Heap, (∃ N58 : Int, cell H_57 (Addr.add ⟨b8, 0, none⟩ 4) = some (Value.int .i64 N58) ∧ stAt H_57 (Addr.add ⟨b6, 0, none⟩ 3) [Value.bool ((N58 : Int) == (1 : Int))] fun H_59 => J_12 [] H_59) → J_56 [] H_57) →
 ∃ N60 : Int, cell H_11 (Addr.add ⟨b8, 0, none⟩ 4) = some (Value.int .i64 N60) ∧ br ((N60 : Int) != (0 : Int)) (∃ N61 : Int, cell H_11 (Addr.add ⟨b8, 0, none⟩ 4) = some (Value.int .i64 N61) ∧ br ((N61 : Int) != (1 : Int))
 (∃ v62 : Array Value, v62.size = 19 ∧ rowIn H_11 ⟨b6, 0, none⟩ v62 ∧ v62.size = 19 ∧ stAt H_11 ⟨b10, 0, none⟩ (Array.toList v62) fun H_63 => ∃ res64 : Array Value, res64.size = 19 ∧ rowIn H_63 ⟨b10, 0, none⟩ res64 ∧ R (Value.tuple #[Value.agg res64, Value.int .i64 (32 : Int)]) H_63)
 (J_56 [] H_11)) (J_56 [] H_11))
 (br ((Kind17 : Int) == (7 : Int))
 (∃ v65 : Array Value, v65.size = 4 ∧ rowIn H_11 ⟨b4, 0, none⟩ v65 ∧ ∃ v66 : Array Value, v66.size = 19 ∧ rowIn H_11 ⟨b6, 0, none⟩ v66 ∧ ∃ v67 : Array Value, v67.size = 19 ∧ rowIn H_11 ⟨b8, 0, none⟩ v67 ∧ CallsH Try.prog 68 #[Value.agg v65, Value.agg v66, Value.agg v67] H_11 fun r68 H_69 => ∃ r70 : Array Value, ∃ r71 : Int, r68 = Value.tuple #[Value.agg r70, Value.int .i64 r71] ∧ r70.size = 19 ∧ stAt H_69 ⟨b10, 0, none⟩ (Array.toList r70) fun H_72 => ∃ res73 : Array Value, res73.size = 19 ∧ rowIn H_72 ⟨b10, 0, none⟩ res73 ∧ R (Value.tuple #[Value.agg res73, Value.int .i64 r71]) H_72)
 (br ((Kind17 : Int) == (8 : Int))
 (∃ Kind74 : Int, cell H_11 (Addr.add ⟨b6, 0, none⟩ 1) = some (Value.int .i64 Kind74) ∧ br ((Kind74 : Int) != (0 : Int))
 (∃ v75 : Array Value, v75.size = 19 ∧ rowIn H_11 ⟨b6, 0, none⟩ v75 ∧ v75.size = 19 ∧ stAt H_11 ⟨b10, 0, none⟩ (Array.toList v75) fun H_76 => ∃ res77 : Array Value, res77.size = 19 ∧ rowIn H_76 ⟨b10, 0, none⟩ res77 ∧ R (Value.tuple #[Value.agg res77, Value.int .i64 (41 : Int)]) H_76)
 (∀ J_78 : List Value → Heap → Prop, (∀ H_79 : Heap, (∃ Map80 : Array Value, Map80.size = 6 ∧ rowIn H_79 (Addr.add ⟨b8, 0, none⟩ 12) Map80 ∧ CallsH Try.prog 69 #[Value.agg Map80] H_79 fun r81 H_82 => ∃ r83 : Array Value, ∃ r84 : Int, r81 = Value.tuple #[Value.agg r83, Value.int .i64 r84] ∧ alc H_82 (.cells #[Value.int .i64 0, Value.int .i64 0, Value.int .i64 0, Value.int .i64 0, Value.int .i64 0, Value.int .i64 0] 46) fun b85 H_86 => r83.size = 6 ∧ stAt H_86 ⟨b85, 0, none⟩ (Array.toList r83) fun H_87 => br ((r84 : Int) != (0 : Int))
 (∃ v88 : Array Value, v88.size = 19 ∧ rowIn H_87 ⟨b6, 0, none⟩ v88 ∧ v88.size = 19 ∧ stAt H_87 ⟨b10, 0, none⟩ (Array.toList v88) fun H_89 => ∃ res90 : Array Value, res90.size = 19 ∧ rowIn H_89 ⟨b10, 0, none⟩ res90 ∧ R (Value.tuple #[Value.agg res90, Value.int .i64 r84]) H_89)
 (∃ Map91 : Array Value, Map91.size = 6 ∧ rowIn H_87 (Addr.add ⟨b8, 0, none⟩ 12) Map91 ∧ Map91.size = 6 ∧ stAt H_87 (Addr.add ⟨b6, 0, none⟩ 10) (Array.toList Map91) fun H_92 => ∃ N93 : Int, cell H_92 (Addr.add ⟨b8, 0, none⟩ 4) = some (Value.int .i64 N93) ∧ stAt H_92 (Addr.add ⟨b6, 0, none⟩ 16) [Value.bool ((N93 : Int) == (1 : Int))] fun H_94 => J_12 [] H_94)) → J_78 [] H_79) →
 ∃ N95 : Int, cell H_11 (Addr.add ⟨b8, 0, none⟩ 4) = some (Value.int .i64 N95) ∧ br ((N95 : Int) != (0 : Int)) (∃ N96 : Int, cell H_11 (Addr.add ⟨b8, 0, none⟩ 4) = some (Value.int .i64 N96) ∧ br ((N96 : Int) != (1 : Int))
 (∃ v97 : Array Value, v97.size = 19 ∧ rowIn H_11 ⟨b6, 0, none⟩ v97 ∧ v97.size = 19 ∧ stAt H_11 ⟨b10, 0, none⟩ (Array.toList v97) fun H_98 => ∃ res99 : Array Value, res99.size = 19 ∧ rowIn H_98 ⟨b10, 0, none⟩ res99 ∧ R (Value.tuple #[Value.agg res99, Value.int .i64 (32 : Int)]) H_98)
 (J_78 [] H_11)) (J_78 [] H_11)))
 (br ((Kind17 : Int) == (9 : Int))
 (∃ Kind100 : Int, cell H_11 (Addr.add ⟨b6, 0, none⟩ 1) = some (Value.int .i64 Kind100) ∧ br ((Kind100 : Int) != (2 : Int))
 (∃ v101 : Array Value, v101.size = 19 ∧ rowIn H_11 ⟨b6, 0, none⟩ v101 ∧ v101.size = 19 ∧ stAt H_11 ⟨b10, 0, none⟩ (Array.toList v101) fun H_102 => ∃ res103 : Array Value, res103.size = 19 ∧ rowIn H_102 ⟨b10, 0, none⟩ res103 ∧ R (Value.tuple #[Value.agg res103, Value.int .i64 (41 : Int)]) H_102)
 (∃ N104 : Int, cell H_11 (Addr.add ⟨b8, 0, none⟩ 4) = some (Value.int .i64 N104) ∧ ∃ Params105p : Option Addr, ∃ Params105l : Nat, ∃ Params105c : Nat, cell H_11 (Addr.add ⟨b8, 0, none⟩ 18) = some (Value.slice Params105p Params105l Params105c) ∧ CallsH Try.prog 70 #[Value.int .i64 N104, Value.slice Params105p Params105l Params105c] H_11 fun r106 H_107 => ∃ r108p : Option Addr, ∃ r108l : Nat, ∃ r108c : Nat, ∃ r109 : Bool, r106 = Value.tuple #[Value.slice r108p r108l r108c, Value.bool r109] ∧ br (!r109)
 (∃ v110 : Array Value, v110.size = 19 ∧ rowIn H_107 ⟨b6, 0, none⟩ v110 ∧ v110.size = 19 ∧ stAt H_107 ⟨b10, 0, none⟩ (Array.toList v110) fun H_111 => ∃ res112 : Array Value, res112.size = 19 ∧ rowIn H_111 ⟨b10, 0, none⟩ res112 ∧ R (Value.tuple #[Value.agg res112, Value.int .i64 (32 : Int)]) H_111)
 (∃ N113 : Int, cell H_107 (Addr.add ⟨b8, 0, none⟩ 4) = some (Value.int .i64 N113) ∧ stAt H_107 (Addr.add ⟨b6, 0, none⟩ 17) [Value.int .i64 N113] fun H_114 => alc H_114 (.cells #[] 3) fun b115 H_116 => ∃ Params117p : Option Addr, ∃ Params117l : Nat, ∃ Params117c : Nat, cell H_116 (Addr.add ⟨b8, 0, none⟩ 18) = some (Value.slice Params117p Params117l Params117c) ∧ appQ 1 8 #[Value.int .i64 0] H_116 (some ⟨b115, 0, none⟩) 0 0 Params117p Params117l 3 fun app118p app118l app118c H_119 => stAt H_119 (Addr.add ⟨b6, 0, none⟩ 18) [Value.slice app118p app118l app118c] fun H_120 => J_12 [] H_120)))
 (J_12 [] H_11))))))
def Try.p38 : Plan := (Plan.two Plan.leaf (Plan.two (Plan.join [] [4, 6] (Plan.two Plan.leaf (Plan.one (Plan.two Plan.leaf (Plan.two (Plan.two Plan.leaf Plan.leaf) (Plan.two Plan.leaf (Plan.two (Plan.two (Plan.join [] [4, 5, 6] (Plan.two Plan.leaf (Plan.two (Plan.two Plan.leaf Plan.leaf) Plan.leaf))) (Plan.two (Plan.join [] [4, 5, 6] (Plan.two Plan.leaf (Plan.two (Plan.two Plan.leaf Plan.leaf) Plan.leaf))) (Plan.two Plan.leaf Plan.leaf))) (Plan.two Plan.leaf (Plan.two (Plan.two (Plan.join [] [4, 5, 6] (Plan.two Plan.leaf (Plan.two (Plan.two Plan.leaf Plan.leaf) Plan.leaf))) Plan.leaf) (Plan.two Plan.leaf (Plan.two (Plan.two Plan.leaf Plan.leaf) (Plan.two Plan.leaf (Plan.two (Plan.two (Plan.two Plan.leaf (Plan.two (Plan.two Plan.leaf Plan.leaf) Plan.leaf)) (Plan.two (Plan.join [] [4, 5, 6] (Plan.two Plan.leaf (Plan.two (Plan.two Plan.leaf Plan.leaf) Plan.leaf))) (Plan.two Plan.leaf (Plan.two (Plan.two Plan.leaf (Plan.two (Plan.two Plan.leaf Plan.leaf) Plan.leaf)) (Plan.two Plan.leaf Plan.leaf))))) (Plan.two Plan.leaf (Plan.two (Plan.two (Plan.two Plan.leaf (Plan.two (Plan.two Plan.leaf Plan.leaf) Plan.leaf)) (Plan.two Plan.leaf (Plan.two (Plan.two Plan.leaf (Plan.two (Plan.two Plan.leaf Plan.leaf) Plan.leaf)) (Plan.two Plan.leaf Plan.leaf)))) Plan.leaf))))))))))))))) (Plan.two Plan.leaf Plan.leaf)))
theorem Try.s38 {d1 : Array Value} {l2 : Array Value} {e3 : Array Value} {H : Heap} {R : Value → Heap → Prop} (h : Try.S38 d1 l2 e3 H R) : CallsH Try.prog 38 #[Value.agg d1, Value.agg l2, Value.agg e3] H R :=
  vcFun_sound Try.tab_ok Try.mixed Try.func38 Try.cal38 (p := Try.p38) (args := [Value.agg d1, Value.agg l2, Value.agg e3]) (Eq.mp (by kernel_rfl : Try.S38 d1 l2 e3 H R = vcFun Try.prog Try.tab Try.f38 Try.p38 [Value.agg d1, Value.agg l2, Value.agg e3] H R) h)

end Go.Proofs
