/-
  OWN WORK. Several texts in one: ShP, ShL, TileW, TileStay, ShS, ShT, ShU, TrA, GTab, GFunA, GFunB, GFunC, GFunD.
-/
import Derived.Test.YtnoebcjpbbccnaaMgTreeRightA
import Derived.ProofKit
import Derived.OpenShut
import Derived.Test.YtnoebcjpbbccnaaProg
import Derived.KernelRfl

/-
  OWN WORK. The shallow layer, part 14: words that the printed texts use.
-/
namespace Go.Sh
/-- A test's two ways. -/
def br (t : Bool) (A B : Prop) : Prop := (t = true → A) ∧ (t = false → B)
/-- A new block. -/
def alc (H : Heap) (o : Obj) (K : Nat → Heap → Prop) : Prop := K H.size (H.push o)
end Go.Sh

/-
  OWN WORK. The shallow layer, part 15: lemmas for whoever proves a printed text.
-/
namespace Go.Sh

theorem br_i {t : Bool} {A B : Prop} (h : t = true → A) (h' : t = false → B) : br t A B := ⟨h, h'⟩
theorem br_dec {p : Prop} [Decidable p] {A B : Prop} (h : p → A) (h' : ¬ p → B) : br (decide p) A B := ⟨fun e => h (of_decide_eq_true e), fun e => h' (of_decide_eq_false e)⟩
theorem br_eq {a b : Int} {A B : Prop} (h : a = b → A) (h' : a ≠ b → B) : br (a == b) A B := ⟨fun e => h (by simpa using e), fun e => h' (by simpa using e)⟩
theorem br_ne {a b : Int} {A B : Prop} (h : a ≠ b → A) (h' : a = b → B) : br (a != b) A B := ⟨fun e => h (by simpa using e), fun e => h' (by simpa using e)⟩
theorem br_not {t : Bool} {A B : Prop} (h : t = false → A) (h' : t = true → B) : br (!t) A B := ⟨fun e => h (by simpa using e), fun e => h' (by simpa using e)⟩
theorem br_true {A B : Prop} (h : A) : br true A B := ⟨fun _ => h, fun e => (by cases e)⟩
theorem br_false {A B : Prop} (h : B) : br false A B := ⟨fun e => (by cases e), fun _ => h⟩
theorem br_t {t : Bool} {A B : Prop} (ht : t = true) (h : A) : br t A B := by subst ht; exact br_true h
theorem br_f {t : Bool} {A B : Prop} (ht : t = false) (h : B) : br t A B := by subst ht; exact br_false h
theorem br_y {p : Prop} [Decidable p] {A B : Prop} (hp : p) (h : A) : br (decide p) A B := br_dec (fun _ => h) (fun n => absurd hp n)
theorem br_n {p : Prop} [Decidable p] {A B : Prop} (hp : ¬ p) (h : B) : br (decide p) A B := br_dec (fun y => absurd y hp) (fun _ => h)
theorem br_none {α : Type} {p : Option α} {A B : Prop} (h : p = none → A) (h' : ∀ a, p = some a → B) : br (Option.isNone p) A B := by
  cases p with
  | none => exact br_true (h rfl)
  | some a => exact br_false (h' a rfl)
theorem lt_of_get {H : Heap} {b : Nat} {o : Obj} (h : H[b]? = some o) : b < H.size := (Array.getElem?_eq_some_iff.1 h).1
theorem get_push_self (H : Heap) (o : Obj) : (H.push o)[H.size]? = some o := by simp
theorem get_push {H : Heap} {b : Nat} {o x : Obj} (h : H[b]? = some x) : (H.push o)[b]? = some x := Ext.push H o b x h
theorem get_set_ne {H : Heap} {b r : Nat} {o x : Obj} (hne : r ≠ b) (h : H[b]? = some x) : (H.setIfInBounds r o)[b]? = some x := by
  rw [Array.getElem?_setIfInBounds_ne hne]; exact h
theorem get_set_self {H : Heap} {r : Nat} {o x : Obj} (h : H[r]? = some x) : (H.setIfInBounds r o)[r]? = some o := by
  rw [Array.getElem?_setIfInBounds_self_of_lt (lt_of_get h)]

theorem cell_block {H : Heap} {b i : Nat} {c : Array Value} {t : TypeId} {f : Nat × Nat} (h : H[b]? = some (.cells c t f)) : cell H ⟨b, i, none⟩ = c[i]? := by
  simp [cell, h]
theorem cell_get {H : Heap} {b i : Nat} {c : Array Value} {t : TypeId} {f : Nat × Nat} {v : Value} (h : H[b]? = some (.cells c t f)) (hv : c[i]? = some v) : cell H ⟨b, i, none⟩ = some v := by
  rw [cell_block h]; exact hv

@[simp] theorem add_none (b i n : Nat) : Addr.add ⟨b, i, none⟩ n = ⟨b, i + n, none⟩ := by
  unfold Addr.add; split <;> simp_all

theorem rowIn_block {H : Heap} {b i : Nat} {c cs : Array Value} {t : TypeId} {f : Nat × Nat} (h : H[b]? = some (.cells c t f)) (hc : ∀ j v, cs[j]? = some v → c[i + j]? = some v) :
    rowIn H ⟨b, i, none⟩ cs := by
  intro j v hv
  rw [add_none, cell_block h]
  exact hc j v hv

/-- A whole block is read. -/
theorem rowIn_whole {H : Heap} {b : Nat} {c : Array Value} {t : TypeId} {f : Nat × Nat} (h : H[b]? = some (.cells c t f)) : rowIn H ⟨b, 0, none⟩ c :=
  rowIn_block h fun j v hv => by rw [Nat.zero_add]; exact hv

/-- One cell is written. -/
theorem stAt_one {H : Heap} {b i : Nat} {c : Array Value} {t : TypeId} {v : Value} {f : Heap → Prop} (h : H[b]? = some (.cells c t (0, 0))) (hi : i < c.size) (ho : v.oneCell' = true)
    (hf : f (H.setIfInBounds b (.cells (c.setIfInBounds i v) t (0, 0)))) : stAt H ⟨b, i, none⟩ [v] f := by
  refine ⟨c, t, h, rfl, (by simp; omega), by simpa using ho, ?_⟩
  have : (setL c.toList i [v]).toArray = c.setIfInBounds i v := by
    rw [setL_one (by simpa using hi)]
    apply Array.toList_inj.1
    simp
  simp only [this]
  exact hf

/-- A block is written whole. -/
theorem stAt_whole {H : Heap} {b : Nat} {c : Array Value} {t : TypeId} {vs : List Value} {f : Heap → Prop} (h : H[b]? = some (.cells c t (0, 0))) (hl : vs.length = c.size) (ho : ∀ v ∈ vs, v.oneCell' = true)
    (hf : f (H.setIfInBounds b (.cells vs.toArray t (0, 0)))) : stAt H ⟨b, 0, none⟩ vs f := by
  refine ⟨c, t, h, rfl, by simp; omega, ho, ?_⟩
  have : setL c.toList 0 vs = vs := by simp [setL, hl]
  simp only [this]
  exact hf

theorem wrap_id {n : Int} (h0 : -9223372036854775808 ≤ n) (h1 : n ≤ 9223372036854775807) : IntKind.wrap .i64 n = n := wrap_i64 h0 h1
theorem wrap_u8 {n : Int} (h0 : 0 ≤ n) (h1 : n < 256) : IntKind.wrap .u8 n = n := by
  simp only [IntKind.wrap, IntKind.signed, IntKind.bits]; simp; omega

end Go.Sh

/-
  OWN WORK. From what a call leaves in the heap to what a statement asks of the world.
-/
set_option linter.unusedSimpArgs false
set_option linter.unusedVariables false
namespace Go.Sh
open Go.RowKit

theorem grown_of {W w' : World} (hos : w'.os = W.os) (ho : Out W w') (hx : Ext W.heap w'.heap) : Grown W w' := by
  refine ⟨⟨hos, ho.output, fun i hi => ?_⟩, ho.froz, hx.size⟩
  obtain ⟨o, h⟩ : ∃ o, W.heap[i]? = some o := ⟨_, Array.getElem?_eq_getElem hi⟩
  rw [hx i o h, h]
  cases o with
  | cells c t fr => exact ⟨rfl, rfl, rfl, fun _ _ => rfl⟩
  | map es k => exact .inr ⟨rfl, rfl⟩
  | _ => rfl

end Go.Sh

/-
  OWN WORK. What came in reads as it did; a struct of seven numbers, opened.
-/
set_option linter.unusedVariables false
set_option linter.unusedSimpArgs false
namespace Go.Sh
open Go.RowKit Go.ChangeShapes Go.WideShapes Go.ChangeAt

section
variable {H : Type} {enc : TypeId × Value → H} {P : Program} {W W' : World}

theorem same_of (hx : Ext W.heap W'.heap) {p : MemPlace} (hp : p.block < W.heap.size) : W.sameAt W' p := by
  have h : W'.heap[p.block]? = W.heap[p.block]? := by
    obtain ⟨o, h⟩ : ∃ o, W.heap[p.block]? = some o := ⟨_, Array.getElem?_eq_getElem hp⟩
    rw [hx _ o h, h]
  cases p with
  | cell b o => exact World.cell?_of_block (w := W) h
  | map b => exact h

theorem trodAll_ext (hl : laidOutB P = true) (hx : Ext W.heap W'.heap) {sp : Nat → Bool} : ∀ {ts : List TypeId} {vs : List Value} {ds : List (DataW H)} {ps : List MemPlace}, (ts.all fun t => P.readableRec t && decide (t < P.types.size)) = true →
    DataW.TrodAll enc P W 0 (fun _ => true) true ts vs ds ps → (∀ x ∈ ps, x.block < W.heap.size) → (∀ x ∈ ps, sp x.block = true) → DataW.TrodAll enc P W' 0 sp true ts vs ds ps
  | [], vs, ds, ps, _, h, _, _ => by
    obtain ⟨rfl, rfl, rfl⟩ := trodAll_nil h
    exact trodAll_mk0
  | t :: ts, vs, ds, ps, hr, h, hlt, hs => by
    obtain ⟨v, vs1, d, ds1, a, b, rfl, rfl, rfl, h1, h2⟩ := trodAll_cons h
    simp only [List.all_cons, Bool.and_eq_true, decide_eq_true_eq] at hr
    exact trodAll_cons_mk (WideElems.Trod_stays hl hr.1.1 hr.1.2 h1 (fun x hx' => same_of hx (hlt x (List.mem_append_left _ hx'))) (fun x hx' => hs x (List.mem_append_left _ hx')))
      (trodAll_ext hl hx (by simpa using hr.2) h2 (fun x hx' => hlt x (List.mem_append_right _ hx')) (fun x hx' => hs x (List.mem_append_right _ hx')))

end
end Go.Sh

/-
  OWN WORK. The shallow layer, part 14: slices of elements of any number of cells, told by their cells one behind the other; append.
-/
set_option linter.unusedVariables false
set_option linter.unusedSimpArgs false
namespace Go.Sh

def ints (l : List Int) : List Value := l.map (Value.int .i64)
theorem ints_get {l : List Int} {i : Nat} {v : Int} (h : l[i]? = some v) : (ints l)[i]? = some (Value.int .i64 v) := by simp [ints, h]
theorem ints_len (l : List Int) : (ints l).length = l.length := by simp [ints]
theorem ints_set (l : List Int) (i : Nat) (v : Int) : (ints l).set i (.int .i64 v) = ints (l.set i v) := by simp [ints]
theorem ints_one (l : List Int) : ∀ v ∈ ints l, v.oneCell' = true := fun v hv => by
  obtain ⟨x, _, rfl⟩ := List.mem_map.1 hv; rfl

/-- What is read of a slice. -/
structure RS (H : Heap) (p : Option Addr) (l : Nat) (el : TypeId) (k : Nat) (fs : List Value) : Prop where
  len : fs.length = l * k
  one : ∀ v ∈ fs, v.oneCell' = true
  at_ : l = 0 ∨ ∃ blk cs, p = some ⟨blk, 0, none⟩ ∧ H[blk]? = some (.cells cs el) ∧ ∀ (i : Nat) v, fs[i]? = some v → cs[i]? = some v

/-- A slice of one's own: its block is all of its own, from block n0 on. -/
structure FS (n0 : Nat) (H : Heap) (p : Option Addr) (l c : Nat) (el : TypeId) (k : Nat) (fs : List Value) : Prop where
  len : fs.length = l * k
  le : l ≤ c
  one : ∀ v ∈ fs, v.oneCell' = true
  at_ : (p = none ∧ c = 0) ∨ ∃ blk cs, p = some ⟨blk, 0, none⟩ ∧ n0 ≤ blk ∧ H[blk]? = some (.cells cs el) ∧ cs.size = c * k ∧ ∀ (i : Nat) v, fs[i]? = some v → cs[i]? = some v

theorem FS.rs {n0 : Nat} {H : Heap} {p : Option Addr} {l c : Nat} {el : TypeId} {k : Nat} {fs : List Value} (h : FS n0 H p l c el k fs) : RS H p l el k fs := by
  refine ⟨h.len, h.one, ?_⟩
  rcases h.at_ with ⟨_, h2⟩ | ⟨blk, cs, h1, _, h3, _, h5⟩
  · left; have := h.le; omega
  · exact .inr ⟨blk, cs, h1, h3, h5⟩

theorem RS.keep {H H' : Heap} {p : Option Addr} {l : Nat} {el : TypeId} {k : Nat} {fs : List Value} (h : RS H p l el k fs) (hk : ∀ b cs, p = some ⟨b, 0, none⟩ → H[b]? = some (.cells cs el) → H'[b]? = some (.cells cs el)) : RS H' p l el k fs := by
  refine ⟨h.len, h.one, ?_⟩
  rcases h.at_ with h1 | ⟨blk, cs, h1, h3, h5⟩
  · exact .inl h1
  · exact .inr ⟨blk, cs, h1, hk _ _ h1 h3, h5⟩
theorem RS.ext {H H' : Heap} {p : Option Addr} {l : Nat} {el : TypeId} {k : Nat} {fs : List Value} (h : RS H p l el k fs) (he : Ext H H') : RS H' p l el k fs := h.keep fun b cs _ hb => he _ _ hb
theorem FS.keep {n0 : Nat} {H H' : Heap} {p : Option Addr} {l c : Nat} {el : TypeId} {k : Nat} {fs : List Value} (h : FS n0 H p l c el k fs) (hk : ∀ b cs, p = some ⟨b, 0, none⟩ → H[b]? = some (.cells cs el) → H'[b]? = some (.cells cs el)) : FS n0 H' p l c el k fs := by
  refine ⟨h.len, h.le, h.one, ?_⟩
  rcases h.at_ with h1 | ⟨blk, cs, h1, h2, h3, h5⟩
  · exact .inl h1
  · exact .inr ⟨blk, cs, h1, h2, hk _ _ h1 h3, h5⟩
theorem FS.ext {n0 : Nat} {H H' : Heap} {p : Option Addr} {l c : Nat} {el : TypeId} {k : Nat} {fs : List Value} (h : FS n0 H p l c el k fs) (he : Ext H H') : FS n0 H' p l c el k fs := h.keep fun b cs _ hb => he _ _ hb
theorem FS.lower {n0 n1 : Nat} {H : Heap} {p : Option Addr} {l c : Nat} {el : TypeId} {k : Nat} {fs : List Value} (h : FS n0 H p l c el k fs) (hn : n1 ≤ n0) : FS n1 H p l c el k fs := by
  refine ⟨h.len, h.le, h.one, ?_⟩
  rcases h.at_ with h1 | ⟨blk, cs, h1, h2, h3, h5⟩
  · exact .inl h1
  · exact .inr ⟨blk, cs, h1, by omega, h3, h5⟩
theorem FS.nil (n0 : Nat) (H : Heap) (el : TypeId) (k : Nat) : FS n0 H none 0 0 el k [] := ⟨by simp, Nat.le_refl _, by simp, .inl ⟨rfl, rfl⟩⟩
theorem RS.nil (H : Heap) (p : Option Addr) (el : TypeId) (k : Nat) : RS H p 0 el k [] := ⟨by simp, by simp, .inl rfl⟩

theorem FS.whole {n0 : Nat} {H : Heap} {b l k : Nat} {el : TypeId} {cs : Array Value} (hb : n0 ≤ b) (h : H[b]? = some (.cells cs el)) (hs : cs.size = l * k) (ho : ∀ v ∈ cs.toList, v.oneCell' = true) : FS n0 H (some ⟨b, 0, none⟩) l l el k cs.toList :=
  ⟨by simpa using hs, Nat.le_refl _, ho, .inr ⟨b, cs, rfl, hb, h, hs, fun i v hv => by simpa using hv⟩⟩

theorem RS.cell {H : Heap} {p : Option Addr} {l : Nat} {el : TypeId} {k : Nat} {fs : List Value} (h : RS H p l el k fs) {i : Nat} {v : Value} (hv : fs[i]? = some v) : ∃ blk, p = some ⟨blk, 0, none⟩ ∧ Go.Sh.cell H ⟨blk, i, none⟩ = some v := by
  rcases h.at_ with h1 | ⟨blk, cs, h1, h3, h5⟩
  · have := (List.getElem?_eq_some_iff.1 hv).1
    have := h.len
    rw [h1] at this
    omega
  · exact ⟨blk, h1, cell_get h3 (h5 i v hv)⟩
theorem RS.row {H : Heap} {p : Option Addr} {l : Nat} {el : TypeId} {k : Nat} {fs : List Value} (h : RS H p l el k fs) {i : Nat} (hi : i < l) (hk : 0 < k) {xs : Array Value} (hx : ∀ (j : Nat) v, xs[j]? = some v → fs[i * k + j]? = some v) : ∃ blk, p = some ⟨blk, 0, none⟩ ∧ rowIn H ⟨blk, i * k, none⟩ xs := by
  rcases h.at_ with h1 | ⟨blk, cs, h1, h3, h5⟩
  · omega
  · exact ⟨blk, h1, rowIn_block h3 fun j v hv => h5 _ _ (hx j v hv)⟩

/-- A slice that came in, of elements of one cell: it may begin anywhere. -/
structure IS (H : Heap) (p : Option Addr) (l : Nat) (fs : List Value) : Prop where
  len : fs.length = l
  get : ∀ (i : Nat) v, fs[i]? = some v → ∃ a, p = some a ∧ Go.Sh.cell H (a.add i) = some v
theorem IS.ext {H H' : Heap} {p : Option Addr} {l : Nat} {fs : List Value} (h : IS H p l fs) (he : Ext H H') : IS H' p l fs := ⟨h.len, fun i v hv => let ⟨a, h1, h2⟩ := h.get i v hv; ⟨a, h1, he.cell h2⟩⟩
theorem IS.cell {H : Heap} {p : Option Addr} {l : Nat} {fs : List Value} (h : IS H p l fs) {i : Nat} {v : Value} (hv : fs[i]? = some v) : ∃ a, p = some a ∧ Go.Sh.cell H (a.add i) = some v := h.get i v hv
theorem RS.is {H : Heap} {p : Option Addr} {l : Nat} {el : TypeId} {fs : List Value} (h : RS H p l el 1 fs) : IS H p l fs :=
  ⟨by have := h.len; omega, fun i v hv => let ⟨blk, h1, h2⟩ := h.cell hv; ⟨_, h1, by simpa using h2⟩⟩

theorem RS.rowOf {H : Heap} {p : Option Addr} {l : Nat} {el : TypeId} {k : Nat} {fs : List Value} (h : RS H p l el k fs) : rowOf H p (l * k) fs.toArray := by
  rcases h.at_ with h1 | ⟨blk, cs, h1, h3, h5⟩
  · have := h.len
    rw [h1, Nat.zero_mul] at this
    have : fs = [] := List.length_eq_zero_iff.1 this
    subst this
    subst h1
    cases p with
    | none => rfl
    | some a => exact ⟨by simp, fun j v hv => by simp at hv⟩
  · subst h1
    refine ⟨by simp [h.len], rowIn_block h3 fun j v hv => ?_⟩
    rw [Nat.zero_add]
    exact h5 j v (by simpa using hv)

theorem setL_get {c vs : List Value} {i : Nat} (h : i + vs.length ≤ c.length) (j : Nat) : (setL c i vs)[j]? = if i ≤ j ∧ j < i + vs.length then vs[j - i]? else c[j]? := by
  unfold setL
  by_cases h1 : j < i
  · rw [if_neg (by omega), List.append_assoc, List.getElem?_append_left (by simp; omega), List.getElem?_take_of_lt h1]
  · by_cases h2 : j < i + vs.length
    · rw [if_pos ⟨by omega, h2⟩, List.append_assoc, List.getElem?_append_right (by simp; omega), List.getElem?_append_left (by simp; omega)]
      congr 1
      simp; omega
    · rw [if_neg (by omega), List.getElem?_append_right (by simp; omega), List.getElem?_drop]
      congr 1
      simp; omega
theorem setL_len {c vs : List Value} {i : Nat} (h : i + vs.length ≤ c.length) : (setL c i vs).length = c.length := by unfold setL; simp; omega

theorem stAt_some {H : Heap} {b i : Nat} {c : Array Value} {t : TypeId} {vs : List Value} {f : Heap → Prop} (h : H[b]? = some (.cells c t (0, 0))) (hl : i + vs.length ≤ c.size) (ho : ∀ v ∈ vs, v.oneCell' = true)
    (hf : ∀ c' : Array Value, c'.size = c.size → (∀ j : Nat, c'[j]? = if i ≤ j ∧ j < i + vs.length then vs[j - i]? else c[j]?) → f (H.setIfInBounds b (.cells c' t (0, 0)))) : stAt H ⟨b, i, none⟩ vs f := by
  have hl' : i + vs.length ≤ c.toList.length := by simpa using hl
  refine ⟨c, t, h, rfl, hl, ho, ?_⟩
  refine hf (setL c.toList i vs).toArray (by simp [setL_len hl']) fun j => ?_
  rw [List.getElem?_toArray, setL_get hl' j, Array.getElem?_toList (xs := c)]

/-- Append to a slice of one's own, of any stretch that can be read. -/
theorem FS.app' {n0 : Nat} {H : Heap} {p q : Option Addr} {l c n : Nat} {el : TypeId} {k bytes : Nat} {zero : Array Value} {fs gs : List Value} (h : FS n0 H p l c el k fs) (hrow : Go.Sh.rowOf H q (n * k) gs.toArray) (hgl : gs.length = n * k) (hgo : ∀ v ∈ gs, v.oneCell' = true) (hk : 0 < k) (hn : n0 ≤ H.size) (hz : zero.size = k)
    (hb : (l + n) * bytes ≤ 70368744177664) (hm : l + n ≤ 1000000000000) {K : Option Addr → Nat → Nat → Heap → Prop}
    (hK : ∀ p' c' H', FS n0 H' p' (l + n) c' el k (fs ++ gs) → (∀ (b : Nat) (o : Obj), H[b]? = some o → p ≠ some ⟨b, 0, none⟩ → H'[b]? = some o) → H.size ≤ H'.size → K p' (l + n) c' H') : appQ k bytes zero H p l c q n el K := by
  have hfl := h.len
  have hlen : (fs ++ gs).length = (l + n) * k := by rw [List.length_append, hfl, hgl, Nat.add_mul]
  have hone : ∀ v ∈ fs ++ gs, v.oneCell' = true := fun v hv => (List.mem_append.1 hv).elim (h.one v) (hgo v)
  refine ⟨hb, by omega, gs.toArray, hrow, fun hle => ?_, fun hlt => ?_⟩
  · rcases h.at_ with ⟨rfl, hc0⟩ | ⟨blk, cs, rfl, h2, h3, h4, h5⟩
    · refine hK none c H ⟨hlen, hle, hone, .inl ⟨rfl, hc0⟩⟩ (fun b o hb _ => hb) (Nat.le_refl _)
    · simp only [add_none, Nat.zero_add]
      have hcap : (l + n) * k ≤ c * k := Nat.mul_le_mul_right k hle
      rw [Nat.add_mul] at hcap
      refine stAt_some h3 (by show l * k + gs.length ≤ cs.size; omega) (by simpa using hgo) fun c' hc' hg => ?_
      refine hK _ _ _ ⟨hlen, hle, hone, .inr ⟨blk, c', rfl, h2, get_set_self h3, by omega, fun i v hv => ?_⟩⟩ (fun b o hb hne => get_set_ne (fun hh => hne (by rw [hh])) hb) (by simp)
      rw [hg]
      by_cases hi : i < fs.length
      · rw [if_neg (by omega)]
        rw [List.getElem?_append_left hi] at hv
        exact h5 i v hv
      · rw [List.getElem?_append_right (by omega)] at hv
        have hlt := (List.getElem?_eq_some_iff.1 hv).1
        rw [if_pos ⟨by omega, by show i < l * k + gs.length; omega⟩]
        rw [← hfl]
        simpa using hv
  · have hrow : ∃ ys, Go.Sh.rowOf H p (l * k) ys ∧ ys.toList = fs := ⟨fs.toArray, h.rs.rowOf, by simp⟩
    obtain ⟨ys, hy, hvs⟩ := hrow
    refine ⟨ys, hy, fun c' hc' => ?_⟩
    rw [zeroCells_eq _ _ (by omega)]
    have hcap : (l + n) * k ≤ c' * k := Nat.mul_le_mul_right k hc'
    have hys : ys.size = l * k := by rw [← Array.length_toList, hvs, hfl]
    refine hK _ _ _ ⟨hlen, hc', hone, .inr ⟨H.size, _, rfl, hn, get_push_self _ _, ?_, fun i v hv => ?_⟩⟩ (fun b o hb _ => get_push hb) (by simp)
    · simp only [Array.size_append, hys, List.size_toArray, reps_length, Array.length_toList, hz, hgl]
      rw [Nat.sub_mul]
      rw [Nat.add_mul] at hcap ⊢
      omega
    · have hi := (List.getElem?_eq_some_iff.1 hv).1
      rw [Array.getElem?_append_left (by simp [hys, hgl]; rw [hlen, Nat.add_mul] at hi; omega)]
      have : (ys ++ gs.toArray).toList = fs ++ gs := by simp [hvs]
      rw [← Array.getElem?_toList, this]
      exact hv

/-- Append to a slice of one's own. -/
theorem FS.app {n0 : Nat} {H : Heap} {p q : Option Addr} {l c n : Nat} {el : TypeId} {k bytes : Nat} {zero : Array Value} {fs gs : List Value} (h : FS n0 H p l c el k fs) (hs : RS H q n el k gs) (hk : 0 < k) (hn : n0 ≤ H.size) (hz : zero.size = k)
    (hb : (l + n) * bytes ≤ 70368744177664) (hm : l + n ≤ 1000000000000) {K : Option Addr → Nat → Nat → Heap → Prop}
    (hK : ∀ p' c' H', FS n0 H' p' (l + n) c' el k (fs ++ gs) → (∀ (b : Nat) (o : Obj), H[b]? = some o → p ≠ some ⟨b, 0, none⟩ → H'[b]? = some o) → H.size ≤ H'.size → K p' (l + n) c' H') : appQ k bytes zero H p l c q n el K :=
  h.app' hs.rowOf hs.len hs.one hk hn hz hb hm hK

/-- One cell of a slice of one's own is written. -/
theorem FS.set {n0 : Nat} {H : Heap} {b l c : Nat} {el : TypeId} {k : Nat} {fs : List Value} {i : Nat} {v : Value} {f : Heap → Prop} (h : FS n0 H (some ⟨b, 0, none⟩) l c el k fs) (hi : i < fs.length) (ho : v.oneCell' = true)
    (hf : ∀ H', FS n0 H' (some ⟨b, 0, none⟩) l c el k (fs.set i v) → (∀ (b' : Nat) (o : Obj), H[b']? = some o → b' ≠ b → H'[b']? = some o) → H'.size = H.size → f H') : stAt H ⟨b, i, none⟩ [v] f := by
  have hlen := h.len
  rcases h.at_ with ⟨h1, _⟩ | ⟨blk, cs, h1, h2, h3, h4, h5⟩
  · cases h1
  · cases h1
    have hics : i < cs.size := by
      have := h5 i fs[i] (List.getElem?_eq_getElem hi)
      exact (Array.getElem?_eq_some_iff.1 this).1
    refine stAt_one h3 hics ho ?_
    refine hf _ ⟨by simpa using hlen, h.le, fun u hu => ?_, .inr ⟨b, cs.setIfInBounds i v, rfl, h2, get_set_self h3, by simpa using h4, fun j u hu => ?_⟩⟩ (fun b' o hb' hne => get_set_ne (Ne.symm hne) hb') (by simp)
    · rcases List.mem_or_eq_of_mem_set hu with hu | rfl
      · exact h.one u hu
      · exact ho
    · rw [List.getElem?_set] at hu
      rw [Array.getElem?_setIfInBounds]
      by_cases hij : i = j
      · subst hij
        rw [if_pos rfl, if_pos hi] at hu
        rw [if_pos rfl, if_pos hics]
        exact hu
      · rw [if_neg hij] at hu
        rw [if_neg hij]
        exact h5 j u hu

end Go.Sh

/-
  OWN WORK. The shallow layer, part 15: what is one's own, as a list of resources, each on blocks of its own; the rest of the heap is as it was.
-/
set_option linter.unusedVariables false
set_option linter.unusedSimpArgs false
namespace Go.Sh

/-- What stands in a heap, on blocks of its own. -/
structure Rs where
  at_ : Heap → List Nat → Prop
  loc : ∀ {H H' : Heap} {fp : List Nat}, at_ H fp → (∀ b ∈ fp, ∀ o, H[b]? = some o → H'[b]? = some o) → at_ H' fp
  has : ∀ {H : Heap} {fp : List Nat}, at_ H fp → ∀ b ∈ fp, b < H.size

/-- A block whole. -/
def Rs.cell (b : Nat) (cs : Array Value) (ty : TypeId) : Rs where
  at_ H fp := fp = [b] ∧ H[b]? = some (.cells cs ty)
  loc h hk := ⟨h.1, hk _ (by rw [h.1]; exact List.mem_singleton.2 rfl) _ h.2⟩
  has h b hb := by rw [h.1, List.mem_singleton] at hb; subst hb; exact lt_of_get h.2

/-- A slice and the block behind it. -/
def Rs.sl (p : Option Addr) (l c : Nat) (el : TypeId) (k : Nat) (fs : List Value) : Rs where
  at_ H fp := FS 0 H p l c el k fs ∧ ((p = none ∧ fp = []) ∨ ∃ blk, p = some ⟨blk, 0, none⟩ ∧ fp = [blk])
  loc h hk := by
    refine ⟨h.1.keep fun b cs hp hb => hk b ?_ _ hb, h.2⟩
    rcases h.2 with ⟨h1, _⟩ | ⟨blk, h1, h2⟩
    · rw [h1] at hp; cases hp
    · rw [h1] at hp; cases hp; rw [h2]; exact List.mem_singleton.2 rfl
  has h b hb := by
    rcases h.2 with ⟨_, h2⟩ | ⟨blk, h1, h2⟩
    · rw [h2] at hb; cases hb
    · rw [h2, List.mem_singleton] at hb
      subst hb
      rcases h.1.at_ with ⟨h3, _⟩ | ⟨blk', cs, h3, _, h4, _⟩
      · rw [h1] at h3; cases h3
      · rw [h1] at h3; cases h3; exact lt_of_get h4

/-- Both, apart. -/
def Rs.star (r s : Rs) : Rs where
  at_ H fp := ∃ a b, fp = a ++ b ∧ r.at_ H a ∧ s.at_ H b
  loc := fun ⟨a, b, e, h1, h2⟩ hk => ⟨a, b, e, r.loc h1 fun x hx => hk x (by rw [e]; exact List.mem_append_left _ hx), s.loc h2 fun x hx => hk x (by rw [e]; exact List.mem_append_right _ hx)⟩
  has := fun ⟨a, b, e, h1, h2⟩ x hx => by
    rw [e] at hx
    rcases List.mem_append.1 hx with hx | hx
    · exact r.has h1 x hx
    · exact s.has h2 x hx

/-- One of many. -/
def Rs.ex {α : Type} (f : α → Rs) : Rs where
  at_ H fp := ∃ a, (f a).at_ H fp
  loc := fun ⟨a, h⟩ hk => ⟨a, (f a).loc h hk⟩
  has := fun ⟨a, h⟩ => (f a).has h

/-- With a fact. -/
def Rs.pu (q : Prop) (r : Rs) : Rs where
  at_ H fp := q ∧ r.at_ H fp
  loc := fun ⟨a, h⟩ hk => ⟨a, r.loc h hk⟩
  has := fun ⟨a, h⟩ => r.has h

/-- Nothing. -/
def Rs.emp : Rs where
  at_ H fp := fp = []
  loc h _ := h
  has h b hb := by rw [h] at hb; cases hb

/-- How resources lie: each on its own blocks. -/
def Lie (H : Heap) : List Rs → List (List Nat) → Prop
  | [], [] => True
  | r :: σ, fp :: fps => r.at_ H fp ∧ Lie H σ fps
  | _, _ => False

theorem Lie.get {H : Heap} : ∀ {σ : List Rs} {fps : List (List Nat)}, Lie H σ fps → ∀ {i : Nat} {r : Rs}, σ[i]? = some r → ∃ fp, fps[i]? = some fp ∧ r.at_ H fp
  | [], [], _, i, r, h => by simp at h
  | r :: σ, fp :: fps, hl, 0, s, h => by simp at h; subst h; exact ⟨fp, rfl, hl.1⟩
  | r :: σ, fp :: fps, hl, i + 1, s, h => by
    simp only [List.getElem?_cons_succ] at h ⊢
    exact Lie.get hl.2 h
theorem Lie.has {H : Heap} : ∀ {σ : List Rs} {fps : List (List Nat)}, Lie H σ fps → ∀ b ∈ fps.flatten, b < H.size
  | [], [], _, b, hb => by simp at hb
  | r :: σ, fp :: fps, hl, b, hb => by
    simp only [List.flatten_cons, List.mem_append] at hb
    rcases hb with hb | hb
    · exact r.has hl.1 b hb
    · exact Lie.has hl.2 b hb
theorem Lie.loc {H H' : Heap} : ∀ {σ : List Rs} {fps : List (List Nat)}, Lie H σ fps → (∀ b ∈ fps.flatten, ∀ o, H[b]? = some o → H'[b]? = some o) → Lie H' σ fps
  | [], [], _, _ => trivial
  | r :: σ, fp :: fps, hl, hk => by
    simp only [List.flatten_cons, List.mem_append] at hk
    exact ⟨r.loc hl.1 fun b hb => hk b (.inl hb), Lie.loc hl.2 fun b hb => hk b (.inr hb)⟩
/-- One resource is another one behind a step that leaves the others' blocks alone. -/
theorem Lie.set {H H' : Heap} : ∀ {σ : List Rs} {fps : List (List Nat)} {i : Nat} {fp fp' : List Nat} {r' : Rs}, Lie H σ fps → fps.flatten.Nodup → fps[i]? = some fp → r'.at_ H' fp' → fp'.Nodup → (∀ b ∈ fp', b ∈ fp ∨ H.size ≤ b) →
    (∀ b o, H[b]? = some o → b ∉ fp → H'[b]? = some o) → Lie H' (σ.set i r') (fps.set i fp') ∧ (fps.set i fp').flatten.Nodup
  | [], [], i, fp, fp', r', hl, hn, hi, h, hn', hf, hk => by simp at hi
  | r :: σ, g :: fps, 0, fp, fp', r', hl, hn, hi, h, hn', hf, hk => by
    simp at hi; subst hi
    simp only [List.flatten_cons, List.nodup_append] at hn
    refine ⟨⟨h, hl.2.loc fun b hb o ho => hk b o ho fun hg => hn.2.2 b hg b hb rfl⟩, ?_⟩
    simp only [List.set_cons_zero, List.flatten_cons, List.nodup_append]
    refine ⟨hn', hn.2.1, fun a ha b hb hab => ?_⟩
    subst hab
    rcases hf a ha with h1 | h1
    · exact hn.2.2 a h1 a hb rfl
    · have := Lie.has hl.2 a hb; omega
  | r :: σ, g :: fps, i + 1, fp, fp', r', hl, hn, hi, h, hn', hf, hk => by
    simp only [List.getElem?_cons_succ] at hi
    simp only [List.flatten_cons, List.nodup_append] at hn
    obtain ⟨h1, h2⟩ := Lie.set hl.2 hn.2.1 hi h hn' hf hk
    have hmem : ∀ b ∈ fp, b ∈ fps.flatten := fun b hb => List.mem_flatten.2 ⟨fp, List.mem_of_getElem? hi, hb⟩
    refine ⟨⟨r.loc hl.1 fun b hb o ho => hk b o ho fun hg => hn.2.2 b hb b (hmem b hg) rfl, h1⟩, ?_⟩
    simp only [List.set_cons_succ, List.flatten_cons, List.nodup_append]
    refine ⟨hn.1, h2, fun a ha b hb hab => ?_⟩
    subst hab
    obtain ⟨f, hf1, hf2⟩ := List.mem_flatten.1 hb
    rcases List.mem_or_eq_of_mem_set hf1 with hf1 | rfl
    · exact hn.2.2 a ha a (List.mem_flatten.2 ⟨f, hf1, hf2⟩) rfl
    · rcases hf a hf2 with h3 | h3
      · exact hn.2.2 a ha a (hmem a h3) rfl
      · have := r.has hl.1 a ha; omega

/-- Behind H0, which is as it was, the resources σ, each on blocks of its own that H0 hadn't. -/
structure St (H0 H : Heap) (σ : List Rs) : Prop where
  ext : Ext H0 H
  own : ∃ fps, Lie H σ fps ∧ fps.flatten.Nodup ∧ ∀ b ∈ fps.flatten, H0.size ≤ b

theorem St.nil (H : Heap) : St H H [] := ⟨Ext.refl H, [], trivial, by simp, by simp⟩
theorem St.of_ext {H0 H : Heap} (h : Ext H0 H) : St H0 H [] := ⟨h, [], trivial, by simp, by simp⟩

variable {H0 H H' : Heap} {σ τ : List Rs}

theorem nodup_mem : ∀ {fps : List (List Nat)}, fps.flatten.Nodup → ∀ fp ∈ fps, fp.Nodup
  | [], _, fp, h => by cases h
  | g :: r, hn, fp, h => by
    rw [List.flatten_cons, List.nodup_append] at hn
    rcases List.mem_cons.1 h with rfl | h
    · exact hn.1
    · exact nodup_mem hn.2.1 fp h

theorem St.upd (hs : St H0 H σ) {i : Nat} {r r' : Rs} (hi : σ[i]? = some r)
    (h : ∀ fp, r.at_ H fp → fp.Nodup → (∀ b ∈ fp, H0.size ≤ b) → ∃ fp', r'.at_ H' fp' ∧ fp'.Nodup ∧ (∀ b ∈ fp', b ∈ fp ∨ H.size ≤ b) ∧ ∀ b o, H[b]? = some o → b ∉ fp → H'[b]? = some o) : St H0 H' (σ.set i r') := by
  obtain ⟨he, fps, hl, hn, hb⟩ := hs
  obtain ⟨fp, hfp, hat⟩ := hl.get hi
  have hmem : ∀ b ∈ fp, b ∈ fps.flatten := fun b hb => List.mem_flatten.2 ⟨fp, List.mem_of_getElem? hfp, hb⟩
  have hfn : fp.Nodup := nodup_mem hn _ (List.mem_of_getElem? hfp)
  obtain ⟨fp', h1, h2, h3, h4⟩ := h fp hat hfn fun b hb' => hb b (hmem b hb')
  obtain ⟨h5, h6⟩ := hl.set hn hfp h1 h2 h3 h4
  refine ⟨fun b o ho => h4 b o (he b o ho) fun hf => ?_, _, h5, h6, fun b hb' => ?_⟩
  · have := hb b (hmem b hf); have := lt_of_get ho; omega
  · obtain ⟨f, hf1, hf2⟩ := List.mem_flatten.1 hb'
    rcases List.mem_or_eq_of_mem_set hf1 with hf1 | rfl
    · exact hb b (List.mem_flatten.2 ⟨f, hf1, hf2⟩)
    · rcases h3 b hf2 with h7 | h7
      · exact hb b (hmem b h7)
      · have := he.size; omega

/-- The resource is seen otherwise. -/
theorem St.as (hs : St H0 H σ) (i : Nat) {r r' : Rs} (hi : σ[i]? = some r) (h : ∀ fp, r.at_ H fp → r'.at_ H fp) : St H0 H (σ.set i r') :=
  hs.upd hi fun fp h1 h2 _ => ⟨fp, h fp h1, h2, fun b hb => .inl hb, fun b o ho _ => ho⟩

theorem St.step (hs : St H0 H σ) (he : Ext H H') : St H0 H' σ := by
  obtain ⟨h1, fps, hl, hn, hb⟩ := hs
  exact ⟨h1.trans he, fps, hl.loc fun b _ o ho => he b o ho, hn, hb⟩

theorem Lie.append {H : Heap} : ∀ {σ τ : List Rs} {f g : List (List Nat)}, Lie H σ f → Lie H τ g → Lie H (σ ++ τ) (f ++ g)
  | [], _, [], _, _, h => h
  | _ :: _, _, _ :: _, _, h, h' => ⟨h.1, Lie.append h.2 h'⟩
theorem Lie.split {H : Heap} : ∀ {σ τ : List Rs} {f : List (List Nat)}, Lie H (σ ++ τ) f → ∃ a b, f = a ++ b ∧ Lie H σ a ∧ Lie H τ b
  | [], _, f, h => ⟨[], f, rfl, trivial, h⟩
  | r :: σ, τ, [], h => h.elim
  | r :: σ, τ, g :: f, h => let ⟨a, b, e, h1, h2⟩ := Lie.split h.2; ⟨g :: a, b, by rw [e]; rfl, ⟨h.1, h1⟩, h2⟩

/-- Behind a call that leaves what there was as it was. -/
theorem St.call (hs : St H0 H σ) (ht : St H H' τ) : St H0 H' (τ ++ σ) := by
  obtain ⟨h1, fps, hl, hn, hb⟩ := hs
  obtain ⟨h2, gps, hl2, hn2, hb2⟩ := ht
  refine ⟨h1.trans h2, gps ++ fps, hl2.append (hl.loc fun b _ o ho => h2 b o ho), ?_, fun b h => ?_⟩
  · rw [List.flatten_append, List.nodup_append]
    refine ⟨hn2, hn, fun a ha b hb' hab => ?_⟩
    subst hab
    have := hb2 a ha; have := hl.has a hb'; omega
  · rw [List.flatten_append, List.mem_append] at h
    rcases h with h | h
    · have := hb2 b h; have := h1.size; omega
    · exact hb b h

theorem St.perm (hs : St H0 H σ) (hp : σ.Perm τ) : St H0 H τ := by
  obtain ⟨he, fps, hl, hn, hb⟩ := hs
  have : ∀ {σ τ : List Rs}, σ.Perm τ → ∀ fps, Lie H σ fps → ∃ gps, Lie H τ gps ∧ fps.Perm gps := by
    intro σ τ hp
    induction hp with
    | nil => intro fps h; exact ⟨fps, h, List.Perm.refl _⟩
    | cons x _ ih =>
      intro fps h
      match fps, h with
      | f :: fps, h => obtain ⟨g, h1, h2⟩ := ih fps h.2; exact ⟨f :: g, ⟨h.1, h1⟩, h2.cons f⟩
    | swap x y l =>
      intro fps h
      match fps, h with
      | f :: g :: fps, h => exact ⟨g :: f :: fps, ⟨h.2.1, h.1, h.2.2⟩, List.Perm.swap _ _ _⟩
    | trans _ _ ih1 ih2 =>
      intro fps h
      obtain ⟨g, h1, h2⟩ := ih1 fps h
      obtain ⟨k, h3, h4⟩ := ih2 g h1
      exact ⟨k, h3, h2.trans h4⟩
  obtain ⟨gps, h1, h2⟩ := this hp fps hl
  exact ⟨he, gps, h1, (h2.flatten.nodup_iff).1 hn, fun b h => hb b ((h2.flatten.mem_iff).2 h)⟩

theorem St.app (hs : St H0 H (σ ++ τ)) : St H0 H σ ∧ St H0 H τ := by
  obtain ⟨he, fps, hl, hn, hb⟩ := hs
  obtain ⟨a, b, rfl, h1, h2⟩ := hl.split
  rw [List.flatten_append, List.nodup_append] at hn
  rw [List.flatten_append] at hb
  exact ⟨⟨he, a, h1, hn.1, fun x hx => hb x (List.mem_append_left _ hx)⟩, ⟨he, b, h2, hn.2.1, fun x hx => hb x (List.mem_append_right _ hx)⟩⟩
theorem St.tail {r : Rs} (hs : St H0 H (r :: σ)) : St H0 H σ := (St.app (σ := [r]) hs).2
theorem St.drop (hs : St H0 H σ) (n : Nat) : St H0 H (σ.drop n) := by
  rw [← List.take_append_drop n σ] at hs
  exact hs.app.2
theorem St.take (hs : St H0 H σ) (n : Nat) : St H0 H (σ.take n) := by
  rw [← List.take_append_drop n σ] at hs
  exact hs.app.1
theorem St.swap {r s : Rs} (hs : St H0 H (r :: s :: σ)) : St H0 H (s :: r :: σ) := hs.perm (List.Perm.swap _ _ _)
/-- The resource at a place comes to the front. -/
theorem St.front (hs : St H0 H σ) (i : Nat) {r : Rs} (hi : σ[i]? = some r) : St H0 H (r :: σ.eraseIdx i) := by
  refine hs.perm ?_
  have : ∀ (l : List Rs) (i : Nat), l[i]? = some r → l.Perm (r :: l.eraseIdx i) := by
    intro l
    induction l with
    | nil => intro i h; simp at h
    | cons x l ih =>
      intro i h
      cases i with
      | zero => simp at h; subst h; exact List.Perm.refl _
      | succ i => exact ((ih i (by simpa using h)).cons x).trans (List.Perm.swap _ _ _)
  exact this σ i hi
/-- And goes back, changed. -/
theorem St.back {r r' : Rs} {i : Nat} (hi : σ[i]? = some r) (hs : St H0 H (r' :: σ.eraseIdx i)) : St H0 H (σ.set i r') := by
  refine hs.perm ?_
  have : ∀ (l : List Rs) (i : Nat), l[i]? = some r → (r' :: l.eraseIdx i).Perm (l.set i r') := by
    intro l
    induction l with
    | nil => intro i h; simp at h
    | cons x l ih =>
      intro i h
      cases i with
      | zero => exact List.Perm.refl _
      | succ i => exact (List.Perm.swap _ _ _).trans ((ih i (by simpa using h)).cons x)
  exact this σ i hi
theorem St.del (hs : St H0 H σ) (i : Nat) : St H0 H (σ.eraseIdx i) := by
  rcases Nat.lt_or_ge i σ.length with h | h
  · exact (hs.front i (List.getElem?_eq_getElem h)).tail
  · rw [List.eraseIdx_of_length_le h]; exact hs
theorem St.cat {r s : Rs} (hs : St H0 H (r :: s :: σ)) : St H0 H (.star r s :: σ) := by
  obtain ⟨he, fps, hl, hn, hb⟩ := hs
  match fps, hl with
  | f :: g :: fps, hl => exact ⟨he, (f ++ g) :: fps, ⟨⟨f, g, rfl, hl.1, hl.2.1⟩, hl.2.2⟩, by simpa using hn, fun b h => hb b (by simpa using h)⟩
theorem St.cut {r s : Rs} (hs : St H0 H (.star r s :: σ)) : St H0 H (r :: s :: σ) := by
  obtain ⟨he, fps, hl, hn, hb⟩ := hs
  match fps, hl with
  | _ :: fps, ⟨⟨f, g, rfl, h1, h2⟩, h3⟩ => exact ⟨he, f :: g :: fps, ⟨h1, h2, h3⟩, by simpa using hn, fun b h => hb b (by simpa using h)⟩
theorem St.unex {α : Type} {f : α → Rs} (hs : St H0 H (.ex f :: σ)) : ∃ a, St H0 H (f a :: σ) := by
  obtain ⟨he, fps, hl, hn, hb⟩ := hs
  match fps, hl with
  | g :: fps, ⟨⟨a, h1⟩, h3⟩ => exact ⟨a, he, g :: fps, ⟨h1, h3⟩, hn, hb⟩
theorem St.inex {α : Type} {f : α → Rs} (a : α) (hs : St H0 H (f a :: σ)) : St H0 H (.ex f :: σ) := by
  obtain ⟨he, fps, hl, hn, hb⟩ := hs
  match fps, hl with
  | g :: fps, ⟨h1, h3⟩ => exact ⟨he, g :: fps, ⟨⟨a, h1⟩, h3⟩, hn, hb⟩
theorem St.fact {q : Prop} {r : Rs} (hs : St H0 H (.pu q r :: σ)) : q ∧ St H0 H (r :: σ) := by
  obtain ⟨he, fps, hl, hn, hb⟩ := hs
  match fps, hl with
  | g :: fps, ⟨⟨a, h1⟩, h3⟩ => exact ⟨a, he, g :: fps, ⟨h1, h3⟩, hn, hb⟩
theorem St.with {q : Prop} {r : Rs} (hq : q) (hs : St H0 H (r :: σ)) : St H0 H (.pu q r :: σ) := by
  obtain ⟨he, fps, hl, hn, hb⟩ := hs
  match fps, hl with
  | g :: fps, ⟨h1, h3⟩ => exact ⟨he, g :: fps, ⟨⟨hq, h1⟩, h3⟩, hn, hb⟩
/-- Something new. -/
theorem St.new (hs : St H0 H σ) {r : Rs} {fp : List Nat} (he : Ext H H') (h : r.at_ H' fp) (hn : fp.Nodup) (hb : ∀ b ∈ fp, H.size ≤ b) : St H0 H' (r :: σ) :=
  St.call (τ := [r]) hs ⟨he, [fp], ⟨h, trivial⟩, by simpa using hn, by simpa using hb⟩

theorem St.block (hs : St H0 H σ) (i : Nat) {b : Nat} {cs : Array Value} {ty : TypeId} (hi : σ[i]? = some (.cell b cs ty)) : H[b]? = some (.cells cs ty) := by
  obtain ⟨_, fps, hl, _⟩ := hs
  obtain ⟨fp, _, h⟩ := hl.get hi
  exact h.2
theorem St.get (hs : St H0 H σ) (i : Nat) {b j : Nat} {cs : Array Value} {ty : TypeId} {v : Value} (hi : σ[i]? = some (.cell b cs ty)) (hj : cs[j]? = some v) : Sh.cell H ⟨b, j, none⟩ = some v :=
  cell_get (hs.block i hi) hj
theorem St.alc (hs : St H0 H σ) {cs : Array Value} {ty : TypeId} {K : Nat → Heap → Prop} (hK : ∀ b H', St H0 H' (.cell b cs ty :: σ) → K b H') : Sh.alc H (.cells cs ty) K :=
  hK _ _ (hs.new (Ext.push _ _) (fp := [H.size]) ⟨rfl, get_push_self _ _⟩ (by simp) (by simp))
theorem St.alcE (hs : St H0 H σ) {cs : Array Value} {ty : TypeId} {K : Nat → Heap → Prop} (hK : ∀ b H', Ext H H' → St H0 H' (.cell b cs ty :: σ) → K b H') : Sh.alc H (.cells cs ty) K :=
  hK _ _ (Ext.push _ _) (hs.new (Ext.push _ _) (fp := [H.size]) ⟨rfl, get_push_self _ _⟩ (by simp) (by simp))
theorem St.put (hs : St H0 H σ) (i : Nat) {b j : Nat} {cs : Array Value} {ty : TypeId} {v : Value} {f : Heap → Prop} (hi : σ[i]? = some (.cell b cs ty)) (hj : j < cs.size) (ho : v.oneCell' = true)
    (hK : ∀ H', St H0 H' (σ.set i (.cell b (cs.setIfInBounds j v) ty)) → f H') : stAt H ⟨b, j, none⟩ [v] f :=
  stAt_one (hs.block i hi) hj ho (hK _ (hs.upd hi fun fp h1 _ _ => ⟨[b], ⟨rfl, get_set_self h1.2⟩, by simp, fun x hx => .inl (h1.1 ▸ hx), fun x o ho hx => get_set_ne (fun he => hx (by rw [h1.1, he]; exact List.mem_singleton.2 rfl)) ho⟩))
theorem St.putAll (hs : St H0 H σ) (i : Nat) {b : Nat} {cs : Array Value} {ty : TypeId} {vs : List Value} {f : Heap → Prop} (hi : σ[i]? = some (.cell b cs ty)) (hl : vs.length = cs.size) (ho : ∀ v ∈ vs, v.oneCell' = true)
    (hK : ∀ H', St H0 H' (σ.set i (.cell b vs.toArray ty)) → f H') : stAt H ⟨b, 0, none⟩ vs f :=
  stAt_whole (hs.block i hi) hl ho (hK _ (hs.upd hi fun fp h1 _ _ => ⟨[b], ⟨rfl, get_set_self h1.2⟩, by simp, fun x hx => .inl (h1.1 ▸ hx), fun x o ho hx => get_set_ne (fun he => hx (by rw [h1.1, he]; exact List.mem_singleton.2 rfl)) ho⟩))
theorem St.fs (hs : St H0 H σ) (i : Nat) {p : Option Addr} {l c k : Nat} {el : TypeId} {fs : List Value} (hi : σ[i]? = some (.sl p l c el k fs)) : FS 0 H p l c el k fs := by
  obtain ⟨_, fps, hl, _⟩ := hs
  obtain ⟨fp, _, h⟩ := hl.get hi
  exact h.1
theorem St.rs (hs : St H0 H σ) (i : Nat) {p : Option Addr} {l c k : Nat} {el : TypeId} {fs : List Value} (hi : σ[i]? = some (.sl p l c el k fs)) : RS H p l el k fs := (hs.fs i hi).rs
theorem St.is (hs : St H0 H σ) (i : Nat) {p : Option Addr} {l c : Nat} {el : TypeId} {fs : List Value} (hi : σ[i]? = some (.sl p l c el 1 fs)) : IS H p l fs := (hs.rs i hi).is

theorem FS.resrc {n0 : Nat} {H : Heap} {p : Option Addr} {l c k : Nat} {el : TypeId} {fs : List Value} (h : FS n0 H p l c el k fs) : ∃ fp, (Rs.sl p l c el k fs).at_ H fp ∧ fp.Nodup ∧ (∀ b ∈ fp, n0 ≤ b) ∧ ∀ b ∈ fp, p = some ⟨b, 0, none⟩ := by
  rcases h.at_ with ⟨h1, h2⟩ | ⟨blk, cs, h1, h2, h3, h4, h5⟩
  · exact ⟨[], ⟨h.lower (Nat.zero_le _), .inl ⟨h1, rfl⟩⟩, by simp, by simp, by simp⟩
  · exact ⟨[blk], ⟨h.lower (Nat.zero_le _), .inr ⟨blk, h1, rfl⟩⟩, by simp, by simpa using h2, by simpa using h1⟩
/-- A slice of one's own that a call has made. -/
theorem St.newSl (hs : St H0 H σ) {p : Option Addr} {l c k : Nat} {el : TypeId} {fs : List Value} (he : Ext H H') (h : FS H.size H' p l c el k fs) : St H0 H' (.sl p l c el k fs :: σ) := by
  obtain ⟨fp, h1, h2, h3, _⟩ := h.resrc
  exact hs.new he h1 h2 h3
theorem St.nilSl (hs : St H0 H σ) (el : TypeId) (k : Nat) : St H0 H (.sl none 0 0 el k [] :: σ) := hs.newSl (Ext.refl _) (FS.nil _ _ _ _)
/-- A whole block seen as a slice. -/
theorem St.toSl (hs : St H0 H σ) (i : Nat) {b l k : Nat} {cs : Array Value} {ty : TypeId} {fs : List Value} (hi : σ[i]? = some (.cell b cs ty)) (hl : cs.size = l * k) (hf : cs.toList = fs) (ho : ∀ v ∈ fs, v.oneCell' = true) :
    St H0 H (σ.set i (.sl (some ⟨b, 0, none⟩) l l ty k fs)) :=
  hs.as i hi fun fp h => ⟨⟨by rw [← hf]; simpa using hl, Nat.le_refl _, ho, .inr ⟨b, cs, rfl, Nat.zero_le _, h.2, hl, fun j v hv => by rw [← hf] at hv; simpa using hv⟩⟩, .inr ⟨b, rfl, h.1⟩⟩

theorem FS.app2 {n0 : Nat} {H : Heap} {p q : Option Addr} {l c n : Nat} {el : TypeId} {k bytes : Nat} {zero : Array Value} {fs gs : List Value} (h : FS n0 H p l c el k fs) (hrow : Go.Sh.rowOf H q (n * k) gs.toArray) (hgl : gs.length = n * k) (hgo : ∀ v ∈ gs, v.oneCell' = true) (hk : 0 < k) (hn : n0 ≤ H.size) (hz : zero.size = k)
    (hb : (l + n) * bytes ≤ 70368744177664) (hm : l + n ≤ 1000000000000) {K : Option Addr → Nat → Nat → Heap → Prop}
    (hK : ∀ p' c' H', FS n0 H' p' (l + n) c' el k (fs ++ gs) → (∀ (b : Nat) (o : Obj), H[b]? = some o → p ≠ some ⟨b, 0, none⟩ → H'[b]? = some o) → (p' = p ∨ p' = some ⟨H.size, 0, none⟩) → K p' (l + n) c' H') : appQ k bytes zero H p l c q n el K := by
  by_cases hle : l + n ≤ c
  · obtain ⟨g1, g2, xs, g3, g4, _⟩ := h.app' (K := fun p' l' c' H' => p' = p → K p' l' c' H') hrow hgl hgo hk hn hz hb hm fun p' c' H' h1 h2 h3 hp => hK p' c' H' h1 h2 (.inl hp)
    refine ⟨g1, g2, xs, g3, fun hle => ?_, fun hlt => by omega⟩
    have := g4 hle
    cases p with
    | none => exact this rfl
    | some a =>
      obtain ⟨cs, T, a1, a2, a3, a4, a5⟩ := this
      exact ⟨cs, T, a1, a2, a3, a4, a5 rfl⟩
  · obtain ⟨g1, g2, xs, g3, _, g4⟩ := h.app' (K := fun p' l' c' H' => p' = some ⟨H.size, 0, none⟩ → K p' l' c' H') hrow hgl hgo hk hn hz hb hm fun p' c' H' h1 h2 h3 hp => hK p' c' H' h1 h2 (.inr hp)
    refine ⟨g1, g2, xs, g3, fun hle' => by omega, fun hlt => ?_⟩
    obtain ⟨ys, b1, b2⟩ := g4 hlt
    exact ⟨ys, b1, fun c' hc' => b2 c' hc' rfl⟩

theorem Rs.sl_at {H : Heap} {p : Option Addr} {l c k : Nat} {el : TypeId} {fs : List Value} {fp : List Nat} (h : (Rs.sl p l c el k fs).at_ H fp) {b : Nat} (hp : p = some ⟨b, 0, none⟩) : fp = [b] := by
  rcases h.2 with ⟨h1, _⟩ | ⟨blk, h1, h2⟩
  · rw [hp] at h1; cases h1
  · rw [hp] at h1; cases h1; exact h2

theorem St.slSet (hs : St H0 H σ) {i : Nat} {p p' : Option Addr} {l c l' c' k : Nat} {el : TypeId} {fs fs' : List Value} (hi : σ[i]? = some (.sl p l c el k fs)) (h : FS 0 H' p' l' c' el k fs')
    (hk : ∀ (b : Nat) (o : Obj), H[b]? = some o → p ≠ some ⟨b, 0, none⟩ → H'[b]? = some o) (hp : p' = p ∨ p' = some ⟨H.size, 0, none⟩) : St H0 H' (σ.set i (.sl p' l' c' el k fs')) := by
  refine hs.upd hi fun fp h1 h2 h3 => ?_
  obtain ⟨fp', g1, g2, _, g4⟩ := h.resrc
  refine ⟨fp', g1, g2, fun b hb => ?_, fun b o ho hb => hk b o ho fun he => hb (by rw [Rs.sl_at h1 he]; exact List.mem_singleton.2 rfl)⟩
  have := g4 b hb
  rcases hp with rfl | hp
  · left; rw [Rs.sl_at h1 this]; exact List.mem_singleton.2 rfl
  · rw [this] at hp; cases hp; exact .inr (Nat.le_refl _)

/-- Append to a slice of one's own, of any stretch that can be read. -/
theorem St.appS (hs : St H0 H σ) (i : Nat) {p q : Option Addr} {l c n k bytes : Nat} {el : TypeId} {zero : Array Value} {fs gs : List Value} (hi : σ[i]? = some (.sl p l c el k fs)) (hrow : Go.Sh.rowOf H q (n * k) gs.toArray) (hgl : gs.length = n * k)
    (hgo : ∀ v ∈ gs, v.oneCell' = true) (hk : 0 < k) (hz : zero.size = k) (hb : (l + n) * bytes ≤ 70368744177664) (hm : l + n ≤ 1000000000000) {K : Option Addr → Nat → Nat → Heap → Prop}
    (hK : ∀ p' c' H', St H0 H' (σ.set i (.sl p' (l + n) c' el k (fs ++ gs))) → K p' (l + n) c' H') : appQ k bytes zero H p l c q n el K :=
  (hs.fs i hi).app2 hrow hgl hgo hk (Nat.zero_le _) hz hb hm fun p' c' H' h1 h2 h3 => hK p' c' H' (hs.slSet hi h1 h2 h3)
/-- Append of what a new block holds (one element, or some). -/
theorem St.appC (hs : St H0 H σ) (i m : Nat) {p : Option Addr} {b l c n k bytes : Nat} {el ty : TypeId} {zero cs : Array Value} {fs : List Value} (hi : σ[i]? = some (.sl p l c el k fs)) (hm' : σ[m]? = some (.cell b cs ty)) (hgl : cs.size = n * k)
    (hgo : ∀ v ∈ cs.toList, v.oneCell' = true) (hk : 0 < k) (hz : zero.size = k) (hb : (l + n) * bytes ≤ 70368744177664) (hm : l + n ≤ 1000000000000) {K : Option Addr → Nat → Nat → Heap → Prop}
    (hK : ∀ p' c' H', St H0 H' (σ.set i (.sl p' (l + n) c' el k (fs ++ cs.toList))) → K p' (l + n) c' H') : appQ k bytes zero H p l c (some ⟨b, 0, none⟩) n el K :=
  hs.appS i hi (gs := cs.toList) (show Go.Sh.rowOf H (Option.some ⟨b, 0, none⟩) (n * k) cs.toList.toArray from ⟨by simpa using hgl, by simpa using rowIn_whole (hs.block m hm')⟩) (by simpa using hgl) hgo hk hz hb hm hK
theorem IS.rowOf {H : Heap} {p : Option Addr} {l : Nat} {fs : List Value} (h : IS H p l fs) : Go.Sh.rowOf H p (l * 1) fs.toArray := by
  cases p with
  | none =>
    have : fs = [] := List.eq_nil_iff_forall_not_mem.2 fun v hv => by
      obtain ⟨i, hi⟩ := List.getElem?_of_mem hv
      obtain ⟨a, h1, _⟩ := h.get i v hi
      cases h1
    subst this; rfl
  | some a =>
    refine ⟨by simp [h.len], fun j v hv => ?_⟩
    obtain ⟨a', h1, h2⟩ := h.get j v (by simpa using hv)
    cases h1; exact h2
theorem St.appI (hs : St H0 H σ) (i : Nat) {p q : Option Addr} {l c n bytes : Nat} {el : TypeId} {zero : Array Value} {fs gs : List Value} (hi : σ[i]? = some (.sl p l c el 1 fs)) (hr : IS H q n gs) (ho : ∀ v ∈ gs, v.oneCell' = true) (hz : zero.size = 1)
    (hb : (l + n) * bytes ≤ 70368744177664) (hm : l + n ≤ 1000000000000) {K : Option Addr → Nat → Nat → Heap → Prop}
    (hK : ∀ p' c' H', St H0 H' (σ.set i (.sl p' (l + n) c' el 1 (fs ++ gs))) → K p' (l + n) c' H') : appQ 1 bytes zero H p l c q n el K :=
  hs.appS i hi hr.rowOf (by simp [hr.len]) ho (by decide) hz hb hm hK

/-- One cell of a slice of one's own is written. -/
theorem St.slPut (hs : St H0 H σ) (i : Nat) {b l c k j : Nat} {el : TypeId} {fs : List Value} {v : Value} {f : Heap → Prop} (hi : σ[i]? = some (.sl (some ⟨b, 0, none⟩) l c el k fs)) (hj : j < fs.length) (ho : v.oneCell' = true)
    (hK : ∀ H', St H0 H' (σ.set i (.sl (some ⟨b, 0, none⟩) l c el k (fs.set j v))) → f H') : stAt H ⟨b, j, none⟩ [v] f :=
  (hs.fs i hi).set hj ho fun H' h1 h2 h3 => hK H' (hs.slSet hi h1 (fun b' o ho hne => h2 b' o ho fun he => hne (by rw [he])) (.inl rfl))
/-- A slice that holds something has a block. -/
theorem St.slSome (hs : St H0 H σ) (i : Nat) {p : Option Addr} {l c k j : Nat} {el : TypeId} {fs : List Value} (hi : σ[i]? = some (.sl p l c el k fs)) (hj : j < fs.length) : ∃ b, p = some ⟨b, 0, none⟩ := by
  obtain ⟨b, h, _⟩ := (hs.rs i hi).cell (List.getElem?_eq_getElem hj)
  exact ⟨b, h⟩

def kints (k : IntKind) (l : List Int) : List Value := l.map (Value.int k)
theorem kints_get {k : IntKind} {l : List Int} {i : Nat} {v : Int} (h : l[i]? = some v) : (kints k l)[i]? = some (Value.int k v) := by simp [kints, h]
theorem kints_len (k : IntKind) (l : List Int) : (kints k l).length = l.length := by simp [kints]
theorem kints_set (k : IntKind) (l : List Int) (i : Nat) (v : Int) : (kints k l).set i (.int k v) = kints k (l.set i v) := by simp [kints]
theorem kints_one (k : IntKind) (l : List Int) : ∀ v ∈ kints k l, v.oneCell' = true := fun v hv => by
  obtain ⟨x, _, rfl⟩ := List.mem_map.1 hv; rfl
/-- The element at a place is read. -/
theorem IS.rd {H : Heap} {p : Option Addr} {l : Nat} {k : IntKind} {ls : List Int} (h : IS H p l (kints k ls)) {i x : Int} (h0 : 0 ≤ i) (h1 : i < l) (hx : ls[i.toNat]? = some x) {K : Int → Prop} (hK : K x) :
    ∃ a : Addr, p = some a ∧ 0 ≤ i ∧ i < ((l : Nat) : Int) ∧ ∃ v : Int, Sh.cell H (Addr.add a (Int.toNat i * 1)) = some (.int k v) ∧ K v := by
  obtain ⟨a, hp, hc⟩ := h.get _ _ (kints_get hx)
  exact ⟨a, hp, h0, h1, x, by simpa using hc, hK⟩
theorem IS.length {H : Heap} {p : Option Addr} {l : Nat} {k : IntKind} {ls : List Int} (h : IS H p l (kints k ls)) : ls.length = l := by have := h.len; rwa [kints_len] at this
theorem add_add (a : Addr) (i j : Nat) : (a.add i).add j = a.add (i + j) := by
  obtain ⟨b, o, s⟩ := a
  unfold Addr.add
  cases s <;> simp <;> split <;> split <;> simp_all <;> omega
/-- Part of a slice that came in. -/
theorem IS.part {H : Heap} {a : Addr} {l : Nat} {fs : List Value} (h : IS H (some a) l fs) {i n : Nat} (hi : i + n ≤ l) : IS H (some (a.add i)) n ((fs.drop i).take n) := by
  refine ⟨by have := h.len; simp; omega, fun j v hv => ?_⟩
  rw [List.getElem?_take] at hv
  split at hv
  · rw [List.getElem?_drop] at hv
    obtain ⟨a', h1, h2⟩ := h.get _ _ hv
    cases h1
    refine ⟨_, rfl, ?_⟩
    rw [show (a.add i).add j = a.add (i + j) from add_add a i j]
    exact h2
  · cases hv

/-- Going up to n. -/
theorem upto {n : Nat} {Q : Nat → Prop} (h : ∀ i, i ≤ n → (i < n → Q (i + 1)) → Q i) : ∀ i, i ≤ n → Q i := by
  have : ∀ m i, n - i = m → i ≤ n → Q i := by
    intro m
    induction m with
    | zero => intro i hm hi; exact h i hi fun hlt => by omega
    | succ m ih => intro i hm hi; exact h i hi fun hlt => ih (i + 1) (by omega) (by omega)
  exact fun i hi => this (n - i) i rfl hi
end Go.Sh

/-
  OWN WORK. The shallow layer, part 16: blocks of numbers (Go's arrays), filled one by one; sums.
-/
set_option linter.unusedVariables false
set_option linter.unusedSimpArgs false
namespace Go.Sh
variable {H0 H : Heap} {σ : List Rs}

theorem intsA_size (l : List Int) : (ints l).toArray.size = l.length := by simp [ints]

/-- A number of an array is read. -/
theorem St.rdA (hs : St H0 H σ) (i : Nat) {b j : Nat} {l : List Int} {ty : TypeId} {x : Int} (hi : σ[i]? = some (.cell b (ints l).toArray ty)) (hx : l[j]? = some x) : Sh.cell H ⟨b, j, none⟩ = some (.int .i64 x) :=
  hs.get i hi (by rw [List.getElem?_toArray]; exact ints_get hx)
/-- A number of an array is written. -/
theorem St.putA (hs : St H0 H σ) (i : Nat) {b j : Nat} {l : List Int} {ty : TypeId} {x : Int} {f : Heap → Prop} (hi : σ[i]? = some (.cell b (ints l).toArray ty)) (hj : j < l.length)
    (hK : ∀ H', St H0 H' (σ.set i (.cell b (ints (l.set j x)).toArray ty)) → f H') : stAt H ⟨b, j, none⟩ [.int .i64 x] f :=
  hs.put i hi (by rw [intsA_size]; exact hj) rfl fun H' hs' => hK H' (by
    have e : (ints l).toArray.setIfInBounds j (Value.int .i64 x) = (ints (l.set j x)).toArray := by rw [← ints_set]; simp
    rw [← e]; exact hs')
/-- An array is written whole. -/
theorem St.putAllA (hs : St H0 H σ) (i : Nat) {b : Nat} {cs : Array Value} {l : List Int} {ty : TypeId} {f : Heap → Prop} (hi : σ[i]? = some (.cell b cs ty)) (hl : l.length = cs.size)
    (hK : ∀ H', St H0 H' (σ.set i (.cell b (ints l).toArray ty)) → f H') : stAt H ⟨b, 0, none⟩ (Array.toList (ints l).toArray) f :=
  hs.putAll i hi (by simpa [ints] using hl) (fun v hv => ints_one l v (by simpa using hv)) fun H' hs' => hK H' (by simpa using hs')

theorem reps_rep (v : Value) : ∀ n, reps n [v] = List.replicate n v
  | 0 => rfl
  | n + 1 => by rw [reps, reps_rep v n, List.replicate_succ]; rfl
theorem repsA (n : Nat) : (reps n (Array.toList #[Value.int .i64 0])).toArray = (ints (List.replicate n 0)).toArray := by
  show (reps n [Value.int .i64 0]).toArray = _
  rw [reps_rep]; simp [ints]
theorem getD_some {α : Type} (a : List α) (d : α) {i : Nat} (h : i < a.length) : a[i]? = some (a.getD i d) := by rw [List.getD_eq_getElem?_getD, List.getElem?_eq_getElem h]; rfl
/-- Filled up to s. -/
def fillA (L : List Int) (s : Nat) : List Int := L.take s ++ List.replicate (L.length - s) 0
theorem fillA_len {L : List Int} {s : Nat} (h : s ≤ L.length) : (fillA L s).length = L.length := by unfold fillA; simp; omega
theorem fillA_zero (L : List Int) : fillA L 0 = List.replicate L.length 0 := by simp [fillA]
theorem fillA_all (L : List Int) : fillA L L.length = L := by simp [fillA]
theorem fillA_set {L : List Int} {s : Nat} (h : s < L.length) : (fillA L s).set s (L.getD s 0) = fillA L (s + 1) := by
  unfold fillA
  have ht : L.take (s + 1) = L.take s ++ [L.getD s 0] := by rw [List.take_add_one, getD_some L 0 h]; rfl
  rw [ht, List.set_append_right _ _ (by rw [List.length_take]; omega), List.length_take, Nat.min_eq_left (by omega), Nat.sub_self, show L.length - s = (L.length - (s + 1)) + 1 from by omega, List.replicate_succ, List.set_cons_zero, List.append_assoc]
  rfl
theorem fillA_at {L : List Int} {s : Nat} (h : s < L.length) : (fillA L s)[s]? = some 0 := by
  unfold fillA
  rw [List.getElem?_append_right (by rw [List.length_take]; omega), List.length_take, Nat.min_eq_left (by omega), Nat.sub_self, show L.length - s = (L.length - (s + 1)) + 1 from by omega, List.replicate_succ]
  rfl
theorem fillA_set0 {L : List Int} {s : Nat} (h : s < L.length) : (fillA L s).set s 0 = fillA L s := by
  have h1 := fillA_at h
  obtain ⟨h2, h3⟩ := List.getElem?_eq_some_iff.1 h1
  rw [← h3, List.set_getElem_self]
theorem tab_getD {n : Nat} {f : Nat → Int} {i : Nat} (h : i < n) : ((List.range n).map f).getD i 0 = f i := by simp [List.getD_eq_getElem?_getD, h]
theorem tab_get {n : Nat} {f : Nat → Int} {i : Nat} (h : i < n) : ((List.range n).map f)[i]? = some (f i) := by simp [h]
theorem mul_bd {x y A B : Int} (hx : -A ≤ x ∧ x ≤ A) (hy : -B ≤ y ∧ y ≤ B) : -(A * B) ≤ x * y ∧ x * y ≤ A * B := by
  have h1 : x.natAbs ≤ A.toNat := by omega
  have h2 : y.natAbs ≤ B.toNat := by omega
  have h3 := Nat.mul_le_mul h1 h2
  rw [← Int.natAbs_mul] at h3
  have h4 : ((A.toNat * B.toNat : Nat) : Int) = A * B := by
    rw [Int.natCast_mul, Int.toNat_of_nonneg (by omega), Int.toNat_of_nonneg (by omega)]
  omega
end Go.Sh

/-
  OWN WORK. Layers, plain, and how they lie in a heap: to be read, and as one's own.
-/
set_option linter.unusedVariables false
set_option linter.unusedSimpArgs false
namespace Go.Proofs
open Go.Sh

structure M6 where
  a : Int
  b : Int
  c : Int
  d : Int
  e : Int
  f : Int
  deriving DecidableEq
def M6.l (m : M6) : List Int := [m.a, m.b, m.c, m.d, m.e, m.f]

/-- What a layer has, but for its kids. -/
structure LayF where
  id : Int
  kind : Int
  hidden : Bool
  opacity : Int
  mode : Int
  w : Int
  h : Int
  p : List Int
  mask : List Int
  map : M6
  smooth : Bool
  table : Int
  params : List Int
  deriving DecidableEq

inductive Lay where
  | mk (f : LayF) (kids : List Lay)
def Lay.f : Lay → LayF
  | .mk f _ => f
def Lay.kids : Lay → List Lay
  | .mk _ k => k

structure Sl3 where
  p : Option Addr
  l : Nat
  c : Nat
def Sl3.v (s : Sl3) : Value := .slice s.p s.l s.c
def Sl3.nil : Sl3 := ⟨none, 0, 0⟩

/-- A layer with its slices. -/
inductive T where
  | mk (f : LayF) (P M A K : Sl3) (kids : List T)
def T.f : T → LayF
  | .mk f _ _ _ _ _ => f
def T.K : T → Sl3
  | .mk _ _ _ _ K _ => K
def T.P' : T → Sl3
  | .mk _ P _ _ _ _ => P
def T.M' : T → Sl3
  | .mk _ _ M _ _ _ => M
def T.A' : T → Sl3
  | .mk _ _ _ A _ _ => A
def T.kids : T → List T
  | .mk _ _ _ _ _ k => k

/-- A layer's cells. -/
def cellsL (f : LayF) (P M A K : Value) : List Value :=
  [.int .i64 f.id, .int .i64 f.kind, .bool f.hidden, .int .i64 f.opacity, .int .i64 f.mode, .int .i64 f.w, .int .i64 f.h, P, M,
   .int .i64 f.map.a, .int .i64 f.map.b, .int .i64 f.map.c, .int .i64 f.map.d, .int .i64 f.map.e, .int .i64 f.map.f, .bool f.smooth, .int .i64 f.table, A, K]
def cellsT : T → List Value
  | .mk f P M A K _ => cellsL f P.v M.v A.v K.v
def cellsKs (ts : List T) : List Value := (ts.map cellsT).flatten

theorem cellsT_len (t : T) : (cellsT t).length = 19 := by cases t; rfl
theorem cellsKs_len (ts : List T) : (cellsKs ts).length = ts.length * 19 := by
  unfold cellsKs
  induction ts with
  | nil => rfl
  | cons t ts ih => rw [List.map_cons, List.flatten_cons, List.length_append, ih, cellsT_len, List.length_cons]; omega
theorem cellsT_one (t : T) : ∀ v ∈ cellsT t, v.oneCell' = true := by
  cases t with | mk f P M A K ks =>
  show ∀ v ∈ cellsL f P.v M.v A.v K.v, v.oneCell' = true
  unfold cellsL
  simp only [List.forall_mem_cons]
  exact ⟨rfl, rfl, rfl, rfl, rfl, rfl, rfl, rfl, rfl, rfl, rfl, rfl, rfl, rfl, rfl, rfl, rfl, rfl, rfl, fun _ h => by cases h⟩
theorem cellsL_one (f : LayF) (P M A K : Sl3) : ∀ v ∈ cellsL f P.v M.v A.v K.v, v.oneCell' = true := cellsT_one (.mk f P M A K [])
theorem cellsKs_app (a b : List T) : cellsKs (a ++ b) = cellsKs a ++ cellsKs b := by simp [cellsKs]
theorem cellsKs_one (t : T) : cellsKs [t] = cellsT t := by simp [cellsKs]
theorem cellsKs_cons (t : T) (ts : List T) : cellsKs (t :: ts) = cellsT t ++ cellsKs ts := by simp [cellsKs]
theorem cellsKs_get {ts : List T} {i : Nat} {t : T} (h : ts[i]? = some t) {j : Nat} {v : Value} (hv : (cellsT t)[j]? = some v) : (cellsKs ts)[i * 19 + j]? = some v := by
  have hj : j < 19 := by have := (List.getElem?_eq_some_iff.1 hv).1; rw [cellsT_len] at this; exact this
  induction ts generalizing i with
  | nil => simp at h
  | cons x ts ih =>
    rw [cellsKs_cons]
    cases i with
    | zero =>
      simp at h; subst h
      rw [Nat.zero_mul, Nat.zero_add, List.getElem?_append_left (by rw [cellsT_len]; exact hj)]; exact hv
    | succ i =>
      rw [List.getElem?_append_right (by rw [cellsT_len]; omega), cellsT_len, show (i + 1) * 19 + j - 19 = i * 19 + j from by omega]
      exact ih (by simpa using h)

mutual
def layT : T → Lay
  | .mk f _ _ _ _ ks => .mk f (layKs ks)
def layKs : List T → List Lay
  | [] => []
  | t :: ts => layT t :: layKs ts
end
theorem layKs_map (ts : List T) : layKs ts = ts.map layT := by
  induction ts with
  | nil => rfl
  | cons t ts ih => rw [layKs, ih]; rfl
theorem layKs_len (ts : List T) : (layKs ts).length = ts.length := by rw [layKs_map, List.length_map]
theorem layKs_app (a b : List T) : layKs (a ++ b) = layKs a ++ layKs b := by simp [layKs_map]
/-- By the kids. -/
theorem T.ind {Q : T → Prop} (h : ∀ f P M A K ks, (∀ t ∈ ks, Q t) → Q (.mk f P M A K ks)) : ∀ t, Q t :=
  fun t => T.rec (motive_1 := Q) (motive_2 := fun ts => ∀ t ∈ ts, Q t) (fun f P M A K ks ih => h f P M A K ks ih) (fun _ h => by cases h)
    (fun t ts h1 h2 u hu => by
      rcases List.mem_cons.1 hu with rfl | hu
      · exact h1
      · exact h2 u hu) t
theorem Lay.ind {Q : Lay → Prop} (h : ∀ f ks, (∀ t ∈ ks, Q t) → Q (.mk f ks)) : ∀ t, Q t :=
  fun t => Lay.rec (motive_1 := Q) (motive_2 := fun ts => ∀ t ∈ ts, Q t) (fun f ks ih => h f ks ih) (fun _ h => by cases h)
    (fun t ts h1 h2 u hu => by
      rcases List.mem_cons.1 hu with rfl | hu
      · exact h1
      · exact h2 u hu) t

/-- The rows of a group's kids. -/
def rowsK (H : Heap) (K : Sl3) (ks : List T) : Prop := K.l = ks.length ∧ ∀ (i : Nat) t, ks[i]? = some t → ∃ a, K.p = some a ∧ rowIn H (a.add (i * 19)) (cellsT t).toArray
mutual
def rdT (H : Heap) : T → Prop
  | .mk f P M A K ks => IS H P.p P.l (ints f.p) ∧ IS H M.p M.l (kints .u8 f.mask) ∧ IS H A.p A.l (ints f.params) ∧ rowsK H K ks ∧ rdKs H ks
def rdKs (H : Heap) : List T → Prop
  | [] => True
  | t :: ts => rdT H t ∧ rdKs H ts
end
/-- A group's kids can be read. -/
def grp (H : Heap) (K : Sl3) (ks : List T) : Prop := rowsK H K ks ∧ rdKs H ks

theorem rdKs_iff {H : Heap} : ∀ {ts : List T}, rdKs H ts ↔ ∀ t ∈ ts, rdT H t
  | [] => ⟨fun _ _ h => (by cases h), fun _ => trivial⟩
  | t :: ts => by
    rw [rdKs, rdKs_iff]
    simp only [List.forall_mem_cons]
theorem rowsK.ext {H H' : Heap} {K : Sl3} {ks : List T} (h : rowsK H K ks) (he : Ext H H') : rowsK H' K ks :=
  ⟨h.1, fun i t ht => let ⟨a, h1, h2⟩ := h.2 i t ht; ⟨a, h1, rowAt_ext he h2⟩⟩
theorem rdT.ext {H H' : Heap} (he : Ext H H') : ∀ t, rdT H t → rdT H' t := by
  refine T.ind fun f P M A K ks ih h => ?_
  rw [rdT] at h ⊢
  exact ⟨h.1.ext he, h.2.1.ext he, h.2.2.1.ext he, h.2.2.2.1.ext he, rdKs_iff.2 fun t ht => ih t ht (rdKs_iff.1 h.2.2.2.2 t ht)⟩
theorem grp.ext {H H' : Heap} {K : Sl3} {ks : List T} (h : grp H K ks) (he : Ext H H') : grp H' K ks :=
  ⟨h.1.ext he, rdKs_iff.2 fun t ht => rdT.ext he t (rdKs_iff.1 h.2 t ht)⟩
theorem grp.get {H : Heap} {K : Sl3} {ks : List T} (h : grp H K ks) {i : Nat} {t : T} (ht : ks[i]? = some t) : ∃ a, K.p = some a ∧ rowIn H (a.add (i * 19)) (cellsT t).toArray ∧ rdT H t :=
  let ⟨a, h1, h2⟩ := h.1.2 i t ht
  ⟨a, h1, h2, rdKs_iff.1 h.2 t (List.mem_of_getElem? ht)⟩
theorem grp.nil (H : Heap) : grp H .nil [] := ⟨⟨rfl, fun i t h => by simp at h⟩, trivial⟩
theorem rdT.grp {H : Heap} {t : T} (h : rdT H t) : grp H t.K t.kids := by
  cases t with | mk f P M A K ks =>
  rw [rdT] at h
  exact ⟨h.2.2.2.1, h.2.2.2.2⟩

mutual
def resT : T → List Rs
  | .mk f P M A K ks => .sl P.p P.l P.c 3 1 (ints f.p) :: .sl M.p M.l M.c 5 1 (kints .u8 f.mask) :: .sl A.p A.l A.c 3 1 (ints f.params) :: .sl K.p K.l K.c 58 19 (cellsKs ks) :: resKs ks
def resKs : List T → List Rs
  | [] => []
  | t :: ts => resT t ++ resKs ts
end
def resG (K : Sl3) (ks : List T) : List Rs := .sl K.p K.l K.c 58 19 (cellsKs ks) :: resKs ks
theorem resKs_app (a b : List T) : resKs (a ++ b) = resKs a ++ resKs b := by
  induction a with
  | nil => rfl
  | cons t a ih => rw [List.cons_append, resKs, ih, resKs, List.append_assoc]
theorem resKs_one (t : T) : resKs [t] = resT t := by rw [resKs, resKs, List.append_nil]
theorem resKs_cons (t : T) (ts : List T) : resKs (t :: ts) = resT t ++ resKs ts := by rw [resKs]
theorem resT_mk (f : LayF) (P M A K : Sl3) (ks : List T) : resT (.mk f P M A K ks) = .sl P.p P.l P.c 3 1 (ints f.p) :: .sl M.p M.l M.c 5 1 (kints .u8 f.mask) :: .sl A.p A.l A.c 3 1 (ints f.params) :: resG K ks := by rw [resT]; rfl

end Go.Proofs
namespace Go.Sh
open Go.Proofs
variable {H0 H H' : Heap} {σ τ : List Rs}

theorem RS.rowsK {H : Heap} {K : Sl3} {ks : List T} {el : TypeId} (h : RS H K.p K.l el 19 (cellsKs ks)) : Go.Proofs.rowsK H K ks := by
  have hl : K.l = ks.length := by have := h.len; rw [cellsKs_len] at this; omega
  refine ⟨hl, fun i t ht => ?_⟩
  have hi : i < ks.length := (List.getElem?_eq_some_iff.1 ht).1
  obtain ⟨blk, h1, h2⟩ := h.row (i := i) (by omega) (by decide) (xs := (cellsT t).toArray) fun j v hv => cellsKs_get ht (by simpa using hv)
  exact ⟨_, h1, by rw [add_none, Nat.zero_add]; exact h2⟩
theorem St.rdKs_of : ∀ {ks : List T}, (∀ t ∈ ks, ∀ {σ : List Rs}, St H0 H (resT t ++ σ) → Go.Proofs.rdT H t) → St H0 H (resKs ks ++ σ) → Go.Proofs.rdKs H ks
  | [], _, _ => trivial
  | t :: ts, h, hs => by
    rw [resKs, List.append_assoc] at hs
    exact ⟨h t List.mem_cons_self hs, St.rdKs_of (fun t ht => h t (List.mem_cons_of_mem _ ht)) hs.app.2⟩
theorem St.rdT : ∀ (t : T) {σ : List Rs}, St H0 H (resT t ++ σ) → Go.Proofs.rdT H t := by
  refine T.ind fun f P M A K ks ih σ hs => ?_
  rw [resT] at hs
  rw [Go.Proofs.rdT]
  refine ⟨hs.is 0 rfl, hs.is 1 rfl, hs.is 2 rfl, RS.rowsK (hs.rs 3 rfl), St.rdKs_of (fun t ht _ hs => ih t ht hs) (σ := σ) ?_⟩
  exact hs.drop 4
theorem St.grp {K : Sl3} {ks : List T} (hs : St H0 H (resG K ks ++ σ)) : Go.Proofs.grp H K ks :=
  ⟨RS.rowsK (hs.rs 0 rfl), St.rdKs_of (fun t ht _ hs => St.rdT t hs) (σ := σ) hs.tail⟩
/-- Behind a call: what is new comes last. -/
theorem St.callR (hs : St H0 H σ) (ht : St H H' τ) : St H0 H' (σ ++ τ) := (hs.call ht).perm List.perm_append_comm
end Go.Sh

/-
  Printed by a program of mine (gen.py): the types that the functions of this seat look at, and the functions that have bodies.
-/
namespace Go.Proofs
open Go.Sh
def Try.i0 : TI := ⟨.tuple [], 1, 0, Value.tuple #[]⟩
theorem Try.tok0 : TIok Try.prog 0 Try.i0 := ⟨by kernel_rfl, by kernel_rfl⟩
def Try.i3 : TI := ⟨.int .i64, 1, 8, Value.int .i64 0⟩
theorem Try.tok3 : TIok Try.prog 3 Try.i3 := ⟨by kernel_rfl, by kernel_rfl⟩
def Try.i4 : TI := ⟨.bool, 1, 1, Value.bool false⟩
theorem Try.tok4 : TIok Try.prog 4 Try.i4 := ⟨by kernel_rfl, by kernel_rfl⟩
def Try.i5 : TI := ⟨.int .u8, 1, 1, Value.int .u8 0⟩
theorem Try.tok5 : TIok Try.prog 5 Try.i5 := ⟨by kernel_rfl, by kernel_rfl⟩
def Try.i9 : TI := ⟨.str, 1, 16, Value.string ByteArray.empty⟩
theorem Try.tok9 : TIok Try.prog 9 Try.i9 := ⟨by kernel_rfl, by kernel_rfl⟩
def Try.i22 : TI := ⟨.sl 43, 1, 24, Value.slice none 0 0⟩
theorem Try.tok22 : TIok Try.prog 22 Try.i22 := ⟨by kernel_rfl, by kernel_rfl⟩
def Try.i24 : TI := ⟨.sl 58, 1, 24, Value.slice none 0 0⟩
theorem Try.tok24 : TIok Try.prog 24 Try.i24 := ⟨by kernel_rfl, by kernel_rfl⟩
def Try.i26 : TI := ⟨.struct [(0, 3), (1, 3), (2, 3), (3, 24)], 4, 48, Value.agg #[Value.int .i64 0, Value.int .i64 0, Value.int .i64 0, Value.slice none 0 0]⟩
theorem Try.tok26 : TIok Try.prog 26 Try.i26 := ⟨by kernel_rfl, by kernel_rfl⟩
def Try.i27 : TI := ⟨.int .i64, 1, 8, Value.int .i64 0⟩
theorem Try.tok27 : TIok Try.prog 27 Try.i27 := ⟨by kernel_rfl, by kernel_rfl⟩
def Try.i28 : TI := ⟨.tuple [26, 27], 1, 0, Value.tuple #[Value.agg #[Value.int .i64 0, Value.int .i64 0, Value.int .i64 0, Value.slice none 0 0], Value.int .i64 0]⟩
theorem Try.tok28 : TIok Try.prog 28 Try.i28 := ⟨by kernel_rfl, by kernel_rfl⟩
def Try.i30 : TI := ⟨.sl 66, 1, 24, Value.slice none 0 0⟩
theorem Try.tok30 : TIok Try.prog 30 Try.i30 := ⟨by kernel_rfl, by kernel_rfl⟩
def Try.i32 : TI := ⟨.struct [(0, 3), (1, 3), (2, 3), (3, 30)], 4, 48, Value.agg #[Value.int .i64 0, Value.int .i64 0, Value.int .i64 0, Value.slice none 0 0]⟩
theorem Try.tok32 : TIok Try.prog 32 Try.i32 := ⟨by kernel_rfl, by kernel_rfl⟩
def Try.i33 : TI := ⟨.tuple [32, 3], 1, 0, Value.tuple #[Value.agg #[Value.int .i64 0, Value.int .i64 0, Value.int .i64 0, Value.slice none 0 0], Value.int .i64 0]⟩
theorem Try.tok33 : TIok Try.prog 33 Try.i33 := ⟨by kernel_rfl, by kernel_rfl⟩
def Try.i35 : TI := ⟨.tuple [26, 32, 4], 1, 0, Value.tuple #[Value.agg #[Value.int .i64 0, Value.int .i64 0, Value.int .i64 0, Value.slice none 0 0], Value.agg #[Value.int .i64 0, Value.int .i64 0, Value.int .i64 0, Value.slice none 0 0], Value.bool false]⟩
theorem Try.tok35 : TIok Try.prog 35 Try.i35 := ⟨by kernel_rfl, by kernel_rfl⟩
def Try.i38 : TI := ⟨.sl 3, 1, 24, Value.slice none 0 0⟩
theorem Try.tok38 : TIok Try.prog 38 Try.i38 := ⟨by kernel_rfl, by kernel_rfl⟩
def Try.i39 : TI := ⟨.sl 79, 1, 24, Value.slice none 0 0⟩
theorem Try.tok39 : TIok Try.prog 39 Try.i39 := ⟨by kernel_rfl, by kernel_rfl⟩
def Try.i41 : TI := ⟨.arr 6 3, 6, 48, Value.agg #[Value.int .i64 0, Value.int .i64 0, Value.int .i64 0, Value.int .i64 0, Value.int .i64 0, Value.int .i64 0]⟩
theorem Try.tok41 : TIok Try.prog 41 Try.i41 := ⟨by kernel_rfl, by kernel_rfl⟩
def Try.i43 : TI := ⟨.struct [(0, 3), (1, 3), (2, 3), (3, 3), (4, 3), (5, 3), (6, 3), (7, 3), (8, 3), (9, 3), (10, 38), (11, 39), (12, 41), (18, 38)], 19, 200, Value.agg #[Value.int .i64 0, Value.int .i64 0, Value.int .i64 0, Value.int .i64 0, Value.int .i64 0, Value.int .i64 0, Value.int .i64 0, Value.int .i64 0, Value.int .i64 0, Value.int .i64 0, Value.slice none 0 0, Value.slice none 0 0, Value.int .i64 0, Value.int .i64 0, Value.int .i64 0, Value.int .i64 0, Value.int .i64 0, Value.int .i64 0, Value.slice none 0 0]⟩
theorem Try.tok43 : TIok Try.prog 43 Try.i43 := ⟨by kernel_rfl, by kernel_rfl⟩
def Try.i45 : TI := ⟨.sl 80, 1, 24, Value.slice none 0 0⟩
theorem Try.tok45 : TIok Try.prog 45 Try.i45 := ⟨by kernel_rfl, by kernel_rfl⟩
def Try.i46 : TI := ⟨.arr 6 3, 6, 48, Value.agg #[Value.int .i64 0, Value.int .i64 0, Value.int .i64 0, Value.int .i64 0, Value.int .i64 0, Value.int .i64 0]⟩
theorem Try.tok46 : TIok Try.prog 46 Try.i46 := ⟨by kernel_rfl, by kernel_rfl⟩
def Try.i48 : TI := ⟨.struct [(0, 3), (1, 3), (2, 3), (3, 3), (4, 3), (5, 3), (6, 3), (7, 3), (8, 3), (9, 3), (10, 38), (11, 45), (12, 46), (18, 38)], 19, 200, Value.agg #[Value.int .i64 0, Value.int .i64 0, Value.int .i64 0, Value.int .i64 0, Value.int .i64 0, Value.int .i64 0, Value.int .i64 0, Value.int .i64 0, Value.int .i64 0, Value.int .i64 0, Value.slice none 0 0, Value.slice none 0 0, Value.int .i64 0, Value.int .i64 0, Value.int .i64 0, Value.int .i64 0, Value.int .i64 0, Value.int .i64 0, Value.slice none 0 0]⟩
theorem Try.tok48 : TIok Try.prog 48 Try.i48 := ⟨by kernel_rfl, by kernel_rfl⟩
def Try.i56 : TI := ⟨.sl 5, 1, 24, Value.slice none 0 0⟩
theorem Try.tok56 : TIok Try.prog 56 Try.i56 := ⟨by kernel_rfl, by kernel_rfl⟩
def Try.i58 : TI := ⟨.struct [(0, 3), (1, 3), (2, 4), (3, 3), (4, 3), (5, 3), (6, 3), (7, 38), (8, 56), (9, 41), (15, 4), (16, 3), (17, 38), (18, 24)], 19, 216, Value.agg #[Value.int .i64 0, Value.int .i64 0, Value.bool false, Value.int .i64 0, Value.int .i64 0, Value.int .i64 0, Value.int .i64 0, Value.slice none 0 0, Value.slice none 0 0, Value.int .i64 0, Value.int .i64 0, Value.int .i64 0, Value.int .i64 0, Value.int .i64 0, Value.int .i64 0, Value.bool false, Value.int .i64 0, Value.slice none 0 0, Value.slice none 0 0]⟩
theorem Try.tok58 : TIok Try.prog 58 Try.i58 := ⟨by kernel_rfl, by kernel_rfl⟩
def Try.i59 : TI := ⟨.tuple [58, 4], 1, 0, Value.tuple #[Value.agg #[Value.int .i64 0, Value.int .i64 0, Value.bool false, Value.int .i64 0, Value.int .i64 0, Value.int .i64 0, Value.int .i64 0, Value.slice none 0 0, Value.slice none 0 0, Value.int .i64 0, Value.int .i64 0, Value.int .i64 0, Value.int .i64 0, Value.int .i64 0, Value.int .i64 0, Value.bool false, Value.int .i64 0, Value.slice none 0 0, Value.slice none 0 0], Value.bool false]⟩
theorem Try.tok59 : TIok Try.prog 59 Try.i59 := ⟨by kernel_rfl, by kernel_rfl⟩
def Try.i61 : TI := ⟨.tuple [3, 3, 4], 1, 0, Value.tuple #[Value.int .i64 0, Value.int .i64 0, Value.bool false]⟩
theorem Try.tok61 : TIok Try.prog 61 Try.i61 := ⟨by kernel_rfl, by kernel_rfl⟩
def Try.i66 : TI := ⟨.struct [(0, 3), (1, 3), (2, 3), (3, 4), (4, 3), (5, 3), (6, 3), (7, 3), (8, 38), (9, 56), (10, 46), (16, 4), (17, 3), (18, 38)], 19, 200, Value.agg #[Value.int .i64 0, Value.int .i64 0, Value.int .i64 0, Value.bool false, Value.int .i64 0, Value.int .i64 0, Value.int .i64 0, Value.int .i64 0, Value.slice none 0 0, Value.slice none 0 0, Value.int .i64 0, Value.int .i64 0, Value.int .i64 0, Value.int .i64 0, Value.int .i64 0, Value.int .i64 0, Value.bool false, Value.int .i64 0, Value.slice none 0 0]⟩
theorem Try.tok66 : TIok Try.prog 66 Try.i66 := ⟨by kernel_rfl, by kernel_rfl⟩
def Try.i70 : TI := ⟨.tuple [32, 4], 1, 0, Value.tuple #[Value.agg #[Value.int .i64 0, Value.int .i64 0, Value.int .i64 0, Value.slice none 0 0], Value.bool false]⟩
theorem Try.tok70 : TIok Try.prog 70 Try.i70 := ⟨by kernel_rfl, by kernel_rfl⟩
def Try.i74 : TI := ⟨.tuple [30, 30], 1, 0, Value.tuple #[Value.slice none 0 0, Value.slice none 0 0]⟩
theorem Try.tok74 : TIok Try.prog 74 Try.i74 := ⟨by kernel_rfl, by kernel_rfl⟩
def Try.i76 : TI := ⟨.tuple [66, 3], 1, 0, Value.tuple #[Value.agg #[Value.int .i64 0, Value.int .i64 0, Value.int .i64 0, Value.bool false, Value.int .i64 0, Value.int .i64 0, Value.int .i64 0, Value.int .i64 0, Value.slice none 0 0, Value.slice none 0 0, Value.int .i64 0, Value.int .i64 0, Value.int .i64 0, Value.int .i64 0, Value.int .i64 0, Value.int .i64 0, Value.bool false, Value.int .i64 0, Value.slice none 0 0], Value.int .i64 0]⟩
theorem Try.tok76 : TIok Try.prog 76 Try.i76 := ⟨by kernel_rfl, by kernel_rfl⟩
def Try.i79 : TI := ⟨.struct [(0, 3), (1, 3)], 2, 16, Value.agg #[Value.int .i64 0, Value.int .i64 0]⟩
theorem Try.tok79 : TIok Try.prog 79 Try.i79 := ⟨by kernel_rfl, by kernel_rfl⟩
def Try.i80 : TI := ⟨.struct [(0, 3), (1, 3)], 2, 16, Value.agg #[Value.int .i64 0, Value.int .i64 0]⟩
theorem Try.tok80 : TIok Try.prog 80 Try.i80 := ⟨by kernel_rfl, by kernel_rfl⟩
def Try.i82 : TI := ⟨.ptr 58, 1, 8, Value.pointer none⟩
theorem Try.tok82 : TIok Try.prog 82 Try.i82 := ⟨by kernel_rfl, by kernel_rfl⟩
def Try.i84 : TI := ⟨.ptr 26, 1, 8, Value.pointer none⟩
theorem Try.tok84 : TIok Try.prog 84 Try.i84 := ⟨by kernel_rfl, by kernel_rfl⟩
def Try.i86 : TI := ⟨.struct [(0, 82), (1, 84), (2, 43)], 21, 216, Value.agg #[Value.pointer none, Value.pointer none, Value.int .i64 0, Value.int .i64 0, Value.int .i64 0, Value.int .i64 0, Value.int .i64 0, Value.int .i64 0, Value.int .i64 0, Value.int .i64 0, Value.int .i64 0, Value.int .i64 0, Value.slice none 0 0, Value.slice none 0 0, Value.int .i64 0, Value.int .i64 0, Value.int .i64 0, Value.int .i64 0, Value.int .i64 0, Value.int .i64 0, Value.slice none 0 0]⟩
theorem Try.tok86 : TIok Try.prog 86 Try.i86 := ⟨by kernel_rfl, by kernel_rfl⟩
def Try.i87 : TI := ⟨.fn, 1, 8, Value.nilFunc⟩
theorem Try.tok87 : TIok Try.prog 87 Try.i87 := ⟨by kernel_rfl, by kernel_rfl⟩
def Try.i89 : TI := ⟨.sl 87, 1, 24, Value.slice none 0 0⟩
theorem Try.tok89 : TIok Try.prog 89 Try.i89 := ⟨by kernel_rfl, by kernel_rfl⟩
def Try.i91 : TI := ⟨.tuple [82, 82, 3], 1, 0, Value.tuple #[Value.pointer none, Value.pointer none, Value.int .i64 0]⟩
theorem Try.tok91 : TIok Try.prog 91 Try.i91 := ⟨by kernel_rfl, by kernel_rfl⟩
def Try.i97 : TI := ⟨.fn, 1, 8, Value.nilFunc⟩
theorem Try.tok97 : TIok Try.prog 97 Try.i97 := ⟨by kernel_rfl, by kernel_rfl⟩
def Try.i98 : TI := ⟨.tuple [30, 4], 1, 0, Value.tuple #[Value.slice none 0 0, Value.bool false]⟩
theorem Try.tok98 : TIok Try.prog 98 Try.i98 := ⟨by kernel_rfl, by kernel_rfl⟩
def Try.i100 : TI := ⟨.map 3 4, 1, 8, Value.map none⟩
theorem Try.tok100 : TIok Try.prog 100 Try.i100 := ⟨by kernel_rfl, by kernel_rfl⟩
def Try.i103 : TI := ⟨.fn, 1, 8, Value.nilFunc⟩
theorem Try.tok103 : TIok Try.prog 103 Try.i103 := ⟨by kernel_rfl, by kernel_rfl⟩
def Try.i106 : TI := ⟨.tuple [46, 3], 1, 0, Value.tuple #[Value.agg #[Value.int .i64 0, Value.int .i64 0, Value.int .i64 0, Value.int .i64 0, Value.int .i64 0, Value.int .i64 0], Value.int .i64 0]⟩
theorem Try.tok106 : TIok Try.prog 106 Try.i106 := ⟨by kernel_rfl, by kernel_rfl⟩
def Try.i108 : TI := ⟨.tuple [38, 4], 1, 0, Value.tuple #[Value.slice none 0 0, Value.bool false]⟩
theorem Try.tok108 : TIok Try.prog 108 Try.i108 := ⟨by kernel_rfl, by kernel_rfl⟩
def Try.i111 : TI := ⟨.tuple [82, 27], 1, 0, Value.tuple #[Value.pointer none, Value.int .i64 0]⟩
theorem Try.tok111 : TIok Try.prog 111 Try.i111 := ⟨by kernel_rfl, by kernel_rfl⟩
def Try.i116 : TI := ⟨.fn, 1, 8, Value.nilFunc⟩
theorem Try.tok116 : TIok Try.prog 116 Try.i116 := ⟨by kernel_rfl, by kernel_rfl⟩
def Try.i117 : TI := ⟨.tuple [56, 27], 1, 0, Value.tuple #[Value.slice none 0 0, Value.int .i64 0]⟩
theorem Try.tok117 : TIok Try.prog 117 Try.i117 := ⟨by kernel_rfl, by kernel_rfl⟩
def Try.i119 : TI := ⟨.tuple [41, 27], 1, 0, Value.tuple #[Value.agg #[Value.int .i64 0, Value.int .i64 0, Value.int .i64 0, Value.int .i64 0, Value.int .i64 0, Value.int .i64 0], Value.int .i64 0]⟩
theorem Try.tok119 : TIok Try.prog 119 Try.i119 := ⟨by kernel_rfl, by kernel_rfl⟩
def Try.i131 : TI := ⟨.arr 4 3, 4, 32, Value.agg #[Value.int .i64 0, Value.int .i64 0, Value.int .i64 0, Value.int .i64 0]⟩
theorem Try.tok131 : TIok Try.prog 131 Try.i131 := ⟨by kernel_rfl, by kernel_rfl⟩
def Try.i140 : TI := ⟨.sl 39, 1, 24, Value.slice none 0 0⟩
theorem Try.tok140 : TIok Try.prog 140 Try.i140 := ⟨by kernel_rfl, by kernel_rfl⟩
def Try.i141 : TI := ⟨.cpl .f64, 1, 16, Value.complex .f64 0 0⟩
theorem Try.tok141 : TIok Try.prog 141 Try.i141 := ⟨by kernel_rfl, by kernel_rfl⟩
def Try.i142 : TI := ⟨.flt .f64, 1, 8, Value.float .f64 0⟩
theorem Try.tok142 : TIok Try.prog 142 Try.i142 := ⟨by kernel_rfl, by kernel_rfl⟩
def Try.tab : Tab := [(0, Try.i0), (3, Try.i3), (4, Try.i4), (5, Try.i5), (9, Try.i9), (22, Try.i22), (24, Try.i24), (26, Try.i26), (27, Try.i27), (28, Try.i28), (30, Try.i30), (32, Try.i32), (33, Try.i33), (35, Try.i35), (38, Try.i38), (39, Try.i39), (41, Try.i41), (43, Try.i43), (45, Try.i45), (46, Try.i46), (48, Try.i48), (56, Try.i56), (58, Try.i58), (59, Try.i59), (61, Try.i61), (66, Try.i66), (70, Try.i70), (74, Try.i74), (76, Try.i76), (79, Try.i79), (80, Try.i80), (82, Try.i82), (84, Try.i84), (86, Try.i86), (87, Try.i87), (89, Try.i89), (91, Try.i91), (97, Try.i97), (98, Try.i98), (100, Try.i100), (103, Try.i103), (106, Try.i106), (108, Try.i108), (111, Try.i111), (116, Try.i116), (117, Try.i117), (119, Try.i119), (131, Try.i131), (140, Try.i140), (141, Try.i141), (142, Try.i142)]
theorem Try.tab_ok : TabOk Try.prog Try.tab := by
  unfold TabOk Try.tab
  simp only [List.forall_mem_cons]
  exact ⟨Try.tok0, Try.tok3, Try.tok4, Try.tok5, Try.tok9, Try.tok22, Try.tok24, Try.tok26, Try.tok27, Try.tok28, Try.tok30, Try.tok32, Try.tok33, Try.tok35, Try.tok38, Try.tok39, Try.tok41, Try.tok43, Try.tok45, Try.tok46, Try.tok48, Try.tok56, Try.tok58, Try.tok59, Try.tok61, Try.tok66, Try.tok70, Try.tok74, Try.tok76, Try.tok79, Try.tok80, Try.tok82, Try.tok84, Try.tok86, Try.tok87, Try.tok89, Try.tok91, Try.tok97, Try.tok98, Try.tok100, Try.tok103, Try.tok106, Try.tok108, Try.tok111, Try.tok116, Try.tok117, Try.tok119, Try.tok131, Try.tok140, Try.tok141, Try.tok142, fun _ h => by cases h⟩
theorem Try.mixed : Try.prog.follows .mixedOrders = true := by kernel_rfl
theorem Try.cal8 : callable Try.prog 8 := ⟨Try.f8, Try.func8, by kernel_rfl, by kernel_rfl⟩
theorem Try.cal10 : callable Try.prog 10 := ⟨Try.f10, Try.func10, by kernel_rfl, by kernel_rfl⟩
theorem Try.cal12 : callable Try.prog 12 := ⟨Try.f12, Try.func12, by kernel_rfl, by kernel_rfl⟩
theorem Try.cal13 : callable Try.prog 13 := ⟨Try.f13, Try.func13, by kernel_rfl, by kernel_rfl⟩
theorem Try.cal14 : callable Try.prog 14 := ⟨Try.f14, Try.func14, by kernel_rfl, by kernel_rfl⟩
theorem Try.cal16 : callable Try.prog 16 := ⟨Try.f16, Try.func16, by kernel_rfl, by kernel_rfl⟩
theorem Try.cal19 : callable Try.prog 19 := ⟨Try.f19, Try.func19, by kernel_rfl, by kernel_rfl⟩
theorem Try.cal23 : callable Try.prog 23 := ⟨Try.f23, Try.func23, by kernel_rfl, by kernel_rfl⟩
theorem Try.cal24 : callable Try.prog 24 := ⟨Try.f24, Try.func24, by kernel_rfl, by kernel_rfl⟩
theorem Try.cal25 : callable Try.prog 25 := ⟨Try.f25, Try.func25, by kernel_rfl, by kernel_rfl⟩
theorem Try.cal26 : callable Try.prog 26 := ⟨Try.f26, Try.func26, by kernel_rfl, by kernel_rfl⟩
theorem Try.cal27 : callable Try.prog 27 := ⟨Try.f27, Try.func27, by kernel_rfl, by kernel_rfl⟩
theorem Try.cal30 : callable Try.prog 30 := ⟨Try.f30, Try.func30, by kernel_rfl, by kernel_rfl⟩
theorem Try.cal31 : callable Try.prog 31 := ⟨Try.f31, Try.func31, by kernel_rfl, by kernel_rfl⟩
theorem Try.cal32 : callable Try.prog 32 := ⟨Try.f32, Try.func32, by kernel_rfl, by kernel_rfl⟩
theorem Try.cal33 : callable Try.prog 33 := ⟨Try.f33, Try.func33, by kernel_rfl, by kernel_rfl⟩
theorem Try.cal34 : callable Try.prog 34 := ⟨Try.f34, Try.func34, by kernel_rfl, by kernel_rfl⟩
theorem Try.cal39 : callable Try.prog 39 := ⟨Try.f39, Try.func39, by kernel_rfl, by kernel_rfl⟩
theorem Try.cal40 : callable Try.prog 40 := ⟨Try.f40, Try.func40, by kernel_rfl, by kernel_rfl⟩
theorem Try.cal41 : callable Try.prog 41 := ⟨Try.f41, Try.func41, by kernel_rfl, by kernel_rfl⟩
theorem Try.cal42 : callable Try.prog 42 := ⟨Try.f42, Try.func42, by kernel_rfl, by kernel_rfl⟩
theorem Try.cal43 : callable Try.prog 43 := ⟨Try.f43, Try.func43, by kernel_rfl, by kernel_rfl⟩
theorem Try.cal44 : callable Try.prog 44 := ⟨Try.f44, Try.func44, by kernel_rfl, by kernel_rfl⟩
theorem Try.cal45 : callable Try.prog 45 := ⟨Try.f45, Try.func45, by kernel_rfl, by kernel_rfl⟩
theorem Try.cal46 : callable Try.prog 46 := ⟨Try.f46, Try.func46, by kernel_rfl, by kernel_rfl⟩
theorem Try.cal47 : callable Try.prog 47 := ⟨Try.f47, Try.func47, by kernel_rfl, by kernel_rfl⟩
theorem Try.cal48 : callable Try.prog 48 := ⟨Try.f48, Try.func48, by kernel_rfl, by kernel_rfl⟩
theorem Try.cal49 : callable Try.prog 49 := ⟨Try.f49, Try.func49, by kernel_rfl, by kernel_rfl⟩
theorem Try.cal51 : callable Try.prog 51 := ⟨Try.f51, Try.func51, by kernel_rfl, by kernel_rfl⟩
theorem Try.cal52 : callable Try.prog 52 := ⟨Try.f52, Try.func52, by kernel_rfl, by kernel_rfl⟩
theorem Try.cal53 : callable Try.prog 53 := ⟨Try.f53, Try.func53, by kernel_rfl, by kernel_rfl⟩
theorem Try.cal54 : callable Try.prog 54 := ⟨Try.f54, Try.func54, by kernel_rfl, by kernel_rfl⟩
theorem Try.cal55 : callable Try.prog 55 := ⟨Try.f55, Try.func55, by kernel_rfl, by kernel_rfl⟩
theorem Try.cal57 : callable Try.prog 57 := ⟨Try.f57, Try.func57, by kernel_rfl, by kernel_rfl⟩
theorem Try.cal58 : callable Try.prog 58 := ⟨Try.f58, Try.func58, by kernel_rfl, by kernel_rfl⟩
theorem Try.cal59 : callable Try.prog 59 := ⟨Try.f59, Try.func59, by kernel_rfl, by kernel_rfl⟩
theorem Try.cal60 : callable Try.prog 60 := ⟨Try.f60, Try.func60, by kernel_rfl, by kernel_rfl⟩
theorem Try.cal61 : callable Try.prog 61 := ⟨Try.f61, Try.func61, by kernel_rfl, by kernel_rfl⟩
theorem Try.cal62 : callable Try.prog 62 := ⟨Try.f62, Try.func62, by kernel_rfl, by kernel_rfl⟩
theorem Try.cal63 : callable Try.prog 63 := ⟨Try.f63, Try.func63, by kernel_rfl, by kernel_rfl⟩
theorem Try.cal69 : callable Try.prog 69 := ⟨Try.f69, Try.func69, by kernel_rfl, by kernel_rfl⟩
theorem Try.cal70 : callable Try.prog 70 := ⟨Try.f70, Try.func70, by kernel_rfl, by kernel_rfl⟩
theorem Try.cal71 : callable Try.prog 71 := ⟨Try.f71, Try.func71, by kernel_rfl, by kernel_rfl⟩
theorem Try.cal72 : callable Try.prog 72 := ⟨Try.f72, Try.func72, by kernel_rfl, by kernel_rfl⟩
theorem Try.cal73 : callable Try.prog 73 := ⟨Try.f73, Try.func73, by kernel_rfl, by kernel_rfl⟩
theorem Try.cal74 : callable Try.prog 74 := ⟨Try.f74, Try.func74, by kernel_rfl, by kernel_rfl⟩
theorem Try.cal75 : callable Try.prog 75 := ⟨Try.f75, Try.func75, by kernel_rfl, by kernel_rfl⟩
theorem Try.cal76 : callable Try.prog 76 := ⟨Try.f76, Try.func76, by kernel_rfl, by kernel_rfl⟩
theorem Try.cal77 : callable Try.prog 77 := ⟨Try.f77, Try.func77, by kernel_rfl, by kernel_rfl⟩
theorem Try.cal78 : callable Try.prog 78 := ⟨Try.f78, Try.func78, by kernel_rfl, by kernel_rfl⟩
theorem Try.cal79 : callable Try.prog 79 := ⟨Try.f79, Try.func79, by kernel_rfl, by kernel_rfl⟩
theorem Try.cal80 : callable Try.prog 80 := ⟨Try.f80, Try.func80, by kernel_rfl, by kernel_rfl⟩
theorem Try.cal81 : callable Try.prog 81 := ⟨Try.f81, Try.func81, by kernel_rfl, by kernel_rfl⟩
theorem Try.cal82 : callable Try.prog 82 := ⟨Try.f82, Try.func82, by kernel_rfl, by kernel_rfl⟩
theorem Try.cal83 : callable Try.prog 83 := ⟨Try.f83, Try.func83, by kernel_rfl, by kernel_rfl⟩
theorem Try.cal84 : callable Try.prog 84 := ⟨Try.f84, Try.func84, by kernel_rfl, by kernel_rfl⟩
theorem Try.cal85 : callable Try.prog 85 := ⟨Try.f85, Try.func85, by kernel_rfl, by kernel_rfl⟩
theorem Try.cal86 : callable Try.prog 86 := ⟨Try.f86, Try.func86, by kernel_rfl, by kernel_rfl⟩
theorem Try.cal87 : callable Try.prog 87 := ⟨Try.f87, Try.func87, by kernel_rfl, by kernel_rfl⟩
theorem Try.cal88 : callable Try.prog 88 := ⟨Try.f88, Try.func88, by kernel_rfl, by kernel_rfl⟩
theorem Try.cal89 : callable Try.prog 89 := ⟨Try.f89, Try.func89, by kernel_rfl, by kernel_rfl⟩
theorem Try.cal92 : callable Try.prog 92 := ⟨Try.f92, Try.func92, by kernel_rfl, by kernel_rfl⟩
theorem Try.cal93 : callable Try.prog 93 := ⟨Try.f93, Try.func93, by kernel_rfl, by kernel_rfl⟩
theorem Try.cal94 : callable Try.prog 94 := ⟨Try.f94, Try.func94, by kernel_rfl, by kernel_rfl⟩
theorem Try.cal95 : callable Try.prog 95 := ⟨Try.f95, Try.func95, by kernel_rfl, by kernel_rfl⟩
theorem Try.cal96 : callable Try.prog 96 := ⟨Try.f96, Try.func96, by kernel_rfl, by kernel_rfl⟩
theorem Try.cal97 : callable Try.prog 97 := ⟨Try.f97, Try.func97, by kernel_rfl, by kernel_rfl⟩
theorem Try.cal98 : callable Try.prog 98 := ⟨Try.f98, Try.func98, by kernel_rfl, by kernel_rfl⟩
theorem Try.cal99 : callable Try.prog 99 := ⟨Try.f99, Try.func99, by kernel_rfl, by kernel_rfl⟩
theorem Try.cal100 : callable Try.prog 100 := ⟨Try.f100, Try.func100, by kernel_rfl, by kernel_rfl⟩
theorem Try.cal101 : callable Try.prog 101 := ⟨Try.f101, Try.func101, by kernel_rfl, by kernel_rfl⟩
theorem Try.cal102 : callable Try.prog 102 := ⟨Try.f102, Try.func102, by kernel_rfl, by kernel_rfl⟩
theorem Try.cal103 : callable Try.prog 103 := ⟨Try.f103, Try.func103, by kernel_rfl, by kernel_rfl⟩
theorem Try.cal104 : callable Try.prog 104 := ⟨Try.f104, Try.func104, by kernel_rfl, by kernel_rfl⟩
theorem Try.cal105 : callable Try.prog 105 := ⟨Try.f105, Try.func105, by kernel_rfl, by kernel_rfl⟩
theorem Try.cal106 : callable Try.prog 106 := ⟨Try.f106, Try.func106, by kernel_rfl, by kernel_rfl⟩
theorem Try.cal109 : callable Try.prog 109 := ⟨Try.f109, Try.func109, by kernel_rfl, by kernel_rfl⟩
theorem Try.cal112 : callable Try.prog 112 := ⟨Try.f112, Try.func112, by kernel_rfl, by kernel_rfl⟩
theorem Try.cal113 : callable Try.prog 113 := ⟨Try.f113, Try.func113, by kernel_rfl, by kernel_rfl⟩
theorem Try.cal114 : callable Try.prog 114 := ⟨Try.f114, Try.func114, by kernel_rfl, by kernel_rfl⟩
theorem Try.cal115 : callable Try.prog 115 := ⟨Try.f115, Try.func115, by kernel_rfl, by kernel_rfl⟩
end Go.Proofs

/-
  Printed by a program of mine (gen.py): each function, over heaps; and that what is said of it is said of its call.
-/
set_option linter.unusedVariables false
set_option maxRecDepth 100000
namespace Go.Proofs
open Go.Sh

def Try.p3 : Plan := (Plan.two Plan.leaf (Plan.two (Plan.two Plan.leaf (Plan.two (Plan.two Plan.leaf Plan.leaf) Plan.leaf)) (Plan.two Plan.leaf (Plan.two Plan.leaf (Plan.two (Plan.two Plan.leaf (Plan.two (Plan.two Plan.leaf Plan.leaf) Plan.leaf)) (Plan.two Plan.leaf (Plan.two (Plan.join [] [2, 11, 12] (Plan.two Plan.leaf (Plan.two (Plan.two Plan.leaf Plan.leaf) Plan.leaf))) (Plan.two (Plan.two Plan.leaf (Plan.one (Plan.loop [(53, 3)] [11, 12, 51, 52] (Plan.two Plan.leaf (Plan.two (Plan.two Plan.leaf Plan.leaf) (Plan.two (Plan.join [] [11, 12, 51, 52, 53] (Plan.one (Plan.two Plan.leaf (Plan.two (Plan.join [(16, 999999), (17, 3)] [11, 12, 15, 51, 52, 53] Plan.leaf) (Plan.two Plan.leaf (Plan.two (Plan.two Plan.leaf (Plan.two (Plan.two Plan.leaf Plan.leaf) Plan.leaf)) (Plan.two (Plan.two Plan.leaf (Plan.two (Plan.two (Plan.two Plan.leaf (Plan.two (Plan.two Plan.leaf Plan.leaf) Plan.leaf)) Plan.leaf) Plan.leaf)) (Plan.two (Plan.two Plan.leaf (Plan.two (Plan.two Plan.leaf Plan.leaf) Plan.leaf)) Plan.leaf)))))))) Plan.leaf)))))) (Plan.two Plan.leaf Plan.leaf)))))))))
def Try.p7 : Plan := (Plan.two Plan.leaf (Plan.two (Plan.two Plan.leaf (Plan.two (Plan.two Plan.leaf Plan.leaf) Plan.leaf)) (Plan.two Plan.leaf (Plan.two (Plan.join [] [0, 3, 5, 6] (Plan.two Plan.leaf (Plan.two (Plan.two Plan.leaf Plan.leaf) Plan.leaf))) (Plan.two Plan.leaf (Plan.two (Plan.two Plan.leaf (Plan.one (Plan.loop [(38, 3)] [3, 5, 6, 8, 36, 37] (Plan.two Plan.leaf (Plan.two (Plan.two Plan.leaf Plan.leaf) (Plan.two (Plan.one (Plan.two Plan.leaf (Plan.two (Plan.join [] [3, 5, 6, 8, 10, 36, 37, 38] (Plan.two Plan.leaf (Plan.two Plan.leaf (Plan.two Plan.leaf Plan.leaf)))) (Plan.two (Plan.join [] [3, 5, 6, 8, 10, 36, 37, 38] (Plan.two Plan.leaf (Plan.two Plan.leaf (Plan.two Plan.leaf Plan.leaf)))) Plan.leaf)))) Plan.leaf)))))) (Plan.two (Plan.join [] [3, 5, 6] (Plan.two Plan.leaf (Plan.two (Plan.two Plan.leaf Plan.leaf) Plan.leaf))) (Plan.two Plan.leaf (Plan.two (Plan.join [(17, 999999), (18, 3)] [5, 15, 16] Plan.leaf) (Plan.two (Plan.two Plan.leaf (Plan.two (Plan.two Plan.leaf Plan.leaf) Plan.leaf)) (Plan.two Plan.leaf Plan.leaf)))))))))))
/-- scumble/scumblelaw11.TreeRight -/
def Try.S8 (d1 : Array Value) (H : Heap) (R : Value → Heap → Prop) : Prop :=
 alc H (.cells d1 26) fun b2 H_3 => CallsH Try.prog 12 #[] H_3 fun r4 H_5 => ∃ r6 : Bool, r4 = Value.bool r6 ∧ br (!r6)
 (R (Value.bool false) H_5)
 (∃ v7 : Array Value, v7.size = 4 ∧ rowIn H_5 ⟨b2, 0, none⟩ v7 ∧ CallsH Try.prog 31 #[Value.agg v7] H_5 fun r8 H_9 => ∃ r10 : Array Value, ∃ r11 : Bool, r8 = Value.tuple #[Value.agg r10, Value.bool r11] ∧ alc H_9 (.cells #[Value.int .i64 0, Value.int .i64 0, Value.int .i64 0, Value.slice none 0 0] 32) fun b12 H_13 => r10.size = 4 ∧ stAt H_13 ⟨b12, 0, none⟩ (Array.toList r10) fun H_14 => br (!r11) (R (Value.bool true) H_14) (∃ v15 : Array Value, v15.size = 4 ∧ rowIn H_14 ⟨b2, 0, none⟩ v15 ∧ ∃ v16 : Array Value, v16.size = 4 ∧ rowIn H_14 ⟨b12, 0, none⟩ v16 ∧ CallsH Try.prog 32 #[Value.agg v15] H_14 fun r17 H_18 => ∃ r19 : Bool, r17 = Value.bool r19 ∧ (Ext H_14 H_18 ∨ (∃ v23 : Array Value, v23.size = 4 ∧ rowIn H_18 ⟨b12, 0, none⟩ v23 ∧ Value.agg v23 = Value.agg v16)) ∧ CallsH Try.prog 33 #[Value.agg v16] H_18 fun r20 H_21 => ∃ r22 : Bool, r20 = Value.bool r22 ∧ R (Value.bool (r19 == r22)) H_21))
def Try.p8 : Plan := (Plan.two Plan.leaf (Plan.two (Plan.two Plan.leaf (Plan.two (Plan.two Plan.leaf Plan.leaf) Plan.leaf)) (Plan.two Plan.leaf (Plan.two Plan.leaf Plan.leaf))))
theorem Try.s8 {d1 : Array Value} {H : Heap} {R : Value → Heap → Prop} (h : Try.S8 d1 H R) : CallsH Try.prog 8 #[Value.agg d1] H R :=
  vcFun_sound Try.tab_ok Try.mixed Try.func8 Try.cal8 (p := Try.p8) (args := [Value.agg d1]) (Eq.mp (by kernel_rfl : Try.S8 d1 H R = vcFun Try.prog Try.tab Try.f8 Try.p8 [Value.agg d1] H R) h)

def Try.p9 : Plan := (Plan.two Plan.leaf (Plan.two (Plan.two Plan.leaf (Plan.two (Plan.two Plan.leaf Plan.leaf) Plan.leaf)) (Plan.two Plan.leaf (Plan.two (Plan.join [] [2, 7] (Plan.two Plan.leaf (Plan.two (Plan.two Plan.leaf Plan.leaf) Plan.leaf))) (Plan.two (Plan.two Plan.leaf (Plan.one (Plan.loop [(32, 3)] [7, 30, 31] (Plan.two Plan.leaf (Plan.two (Plan.two Plan.leaf Plan.leaf) (Plan.two (Plan.one (Plan.two Plan.leaf (Plan.two (Plan.two Plan.leaf (Plan.two Plan.leaf (Plan.two Plan.leaf Plan.leaf))) (Plan.two Plan.leaf (Plan.two (Plan.two Plan.leaf Plan.leaf) Plan.leaf))))) Plan.leaf)))))) (Plan.two Plan.leaf Plan.leaf))))))
end Go.Proofs

/-
  Printed by a program of mine (gen.py): each function, over heaps; and that what is said of it is said of its call.
-/
set_option linter.unusedVariables false
set_option maxRecDepth 100000
namespace Go.Proofs
open Go.Sh

/-- scumble/scumblelaw11.TreeBack -/
def Try.S10 (edits1p : Option Addr) (edits1l : Nat) (edits1c : Nat) (id2 : Int) (to3 : Int) (at_4 : Int) (shape5p : Option Addr) (shape5l : Nat) (shape5c : Nat) (H : Heap) (R : Value → Heap → Prop) : Prop :=
 CallsH Try.prog 12 #[] H fun r6 H_7 => ∃ r8 : Bool, r6 = Value.bool r8 ∧ br (!r8)
 (R (Value.bool false) H_7)
 (CallsH Try.prog 15 #[Value.int .i64 (8 : Int), Value.int .i64 (8 : Int)] H_7 fun r9 H_10 => ∃ r11 : Array Value, ∃ r12 : Array Value, ∃ r13 : Bool, r9 = Value.tuple #[Value.agg r11, Value.agg r12, Value.bool r13] ∧ alc H_10 (.cells #[Value.int .i64 0, Value.int .i64 0, Value.int .i64 0, Value.slice none 0 0] 26) fun b14 H_15 => alc H_15 (.cells #[Value.int .i64 0, Value.int .i64 0, Value.int .i64 0, Value.slice none 0 0] 32) fun b16 H_17 => r11.size = 4 ∧ stAt H_17 ⟨b14, 0, none⟩ (Array.toList r11) fun H_18 => r12.size = 4 ∧ stAt H_18 ⟨b16, 0, none⟩ (Array.toList r12) fun H_19 => ∀ J_20 : List Value → Heap → Prop, (∀ H_21 : Heap, (∀ X_22 : List Value → Heap → Prop, (∀ t23 : Int, ∀ H_24 : Heap, (br (decide ((t23 : Int) < ((edits1l : Nat) : Int)))
 (∃ a25 : Addr, edits1p = some a25 ∧ 0 ≤ t23 ∧ t23 < ((edits1l : Nat) : Int) ∧ ∃ v26 : Array Value, v26.size = 19 ∧ rowIn H_24 (Addr.add a25 (Int.toNat t23 * 19)) v26 ∧ alc H_24 (.cells #[Value.int .i64 0, Value.int .i64 0, Value.int .i64 0, Value.int .i64 0, Value.int .i64 0, Value.int .i64 0, Value.int .i64 0, Value.int .i64 0, Value.int .i64 0, Value.int .i64 0, Value.slice none 0 0, Value.slice none 0 0, Value.int .i64 0, Value.int .i64 0, Value.int .i64 0, Value.int .i64 0, Value.int .i64 0, Value.int .i64 0, Value.slice none 0 0] 43) fun b27 H_28 => v26.size = 19 ∧ stAt H_28 ⟨b27, 0, none⟩ (Array.toList v26) fun H_29 => ∃ v30 : Array Value, v30.size = 4 ∧ rowIn H_29 ⟨b14, 0, none⟩ v30 ∧ ∃ v31 : Array Value, v31.size = 19 ∧ rowIn H_29 ⟨b27, 0, none⟩ v31 ∧ CallsH Try.prog 19 #[Value.agg v30, Value.agg v31] H_29 fun r32 H_33 => ∃ r34 : Array Value, ∃ r35 : Int, r32 = Value.tuple #[Value.agg r34, Value.int .i64 r35] ∧ alc H_33 (.cells #[Value.int .i64 0, Value.int .i64 0, Value.int .i64 0, Value.slice none 0 0] 26) fun b36 H_37 => r34.size = 4 ∧ stAt H_37 ⟨b36, 0, none⟩ (Array.toList r34) fun H_38 => br ((r35 : Int) == (0 : Int))
 (∃ v39 : Array Value, v39.size = 4 ∧ rowIn H_38 ⟨b36, 0, none⟩ v39 ∧ v39.size = 4 ∧ stAt H_38 ⟨b14, 0, none⟩ (Array.toList v39) fun H_40 => X_22 [Value.int .i64 (IntKind.wrap .i64 (t23 + (1 : Int)))] H_40)
 (X_22 [Value.int .i64 (IntKind.wrap .i64 (t23 + (1 : Int)))] H_38))
 (∃ v41 : Array Value, v41.size = 4 ∧ rowIn H_24 ⟨b14, 0, none⟩ v41 ∧ CallsH Try.prog 23 #[Value.agg v41, Value.int .i64 id2] H_24 fun r42 H_43 => ∃ r44 : Int, ∃ r45 : Int, ∃ r46 : Bool, r42 = Value.tuple #[Value.int .i64 r44, Value.int .i64 r45, Value.bool r46] ∧ ∃ v47 : Array Value, v47.size = 4 ∧ rowIn H_43 ⟨b14, 0, none⟩ v47 ∧ CallsH Try.prog 22 #[Value.agg v47, Value.int .i64 id2] H_43 fun r48 H_49 => ∃ r50 : Array Value, ∃ r51 : Bool, r48 = Value.tuple #[Value.agg r50, Value.bool r51] ∧ alc H_49 (.cells #[Value.int .i64 0, Value.int .i64 0, Value.bool false, Value.int .i64 0, Value.int .i64 0, Value.int .i64 0, Value.int .i64 0, Value.slice none 0 0, Value.slice none 0 0, Value.int .i64 0, Value.int .i64 0, Value.int .i64 0, Value.int .i64 0, Value.int .i64 0, Value.int .i64 0, Value.bool false, Value.int .i64 0, Value.slice none 0 0, Value.slice none 0 0] 58) fun b52 H_53 => r50.size = 19 ∧ stAt H_53 ⟨b52, 0, none⟩ (Array.toList r50) fun H_54 => br (!r46)
 (R (Value.bool true) H_54)
 (∀ J_55 : List Value → Heap → Prop, (∀ H_56 : Heap, (∀ J_57 : List Value → Heap → Prop, (∀ H_58 : Heap, (∃ v59 : Array Value, v59.size = 4 ∧ rowIn H_58 ⟨b14, 0, none⟩ v59 ∧ CallsH Try.prog 19 #[Value.agg v59, Value.agg #[Value.int .i64 (7 : Int), Value.int .i64 id2, Value.int .i64 0, Value.int .i64 0, Value.int .i64 0, Value.int .i64 0, Value.int .i64 0, Value.int .i64 0, Value.int .i64 0, Value.int .i64 0, Value.slice none 0 0, Value.slice shape5p shape5l shape5c, Value.int .i64 0, Value.int .i64 0, Value.int .i64 0, Value.int .i64 0, Value.int .i64 0, Value.int .i64 0, Value.slice none 0 0]] H_58 fun r60 H_61 => ∃ r62 : Array Value, ∃ r63 : Int, r60 = Value.tuple #[Value.agg r62, Value.int .i64 r63] ∧ alc H_61 (.cells #[Value.int .i64 0, Value.int .i64 0, Value.int .i64 0, Value.slice none 0 0] 26) fun b64 H_65 => r62.size = 4 ∧ stAt H_65 ⟨b64, 0, none⟩ (Array.toList r62) fun H_66 => br ((r63 : Int) == (0 : Int)) (∃ Mask67p : Option Addr, ∃ Mask67l : Nat, ∃ Mask67c : Nat, cell H_66 (Addr.add ⟨b52, 0, none⟩ 8) = some (Value.slice Mask67p Mask67l Mask67c) ∧ br ((((Mask67l : Nat) : Int) : Int) == (0 : Int))
 (∃ v68 : Array Value, v68.size = 4 ∧ rowIn H_66 ⟨b64, 0, none⟩ v68 ∧ CallsH Try.prog 19 #[Value.agg v68, Value.agg #[Value.int .i64 (7 : Int), Value.int .i64 id2, Value.int .i64 0, Value.int .i64 0, Value.int .i64 (2 : Int), Value.int .i64 0, Value.int .i64 0, Value.int .i64 0, Value.int .i64 0, Value.int .i64 0, Value.slice none 0 0, Value.slice none 0 0, Value.int .i64 0, Value.int .i64 0, Value.int .i64 0, Value.int .i64 0, Value.int .i64 0, Value.int .i64 0, Value.slice none 0 0]] H_66 fun r69 H_70 => ∃ r71 : Array Value, ∃ r72 : Int, r69 = Value.tuple #[Value.agg r71, Value.int .i64 r72] ∧ alc H_70 (.cells #[Value.int .i64 0, Value.int .i64 0, Value.int .i64 0, Value.slice none 0 0] 26) fun b73 H_74 => r71.size = 4 ∧ stAt H_74 ⟨b73, 0, none⟩ (Array.toList r71) fun H_75 => br ((r72 : Int) != (0 : Int)) (R (Value.bool false) H_75) (∃ v76 : Array Value, v76.size = 4 ∧ rowIn H_75 ⟨b73, 0, none⟩ v76 ∧ ∃ v77 : Array Value, v77.size = 4 ∧ rowIn H_75 ⟨b14, 0, none⟩ v77 ∧ CallsH Try.prog 30 #[Value.agg v76, Value.agg v77] H_75 fun r78 H_79 => ∃ r80 : Bool, r78 = Value.bool r80 ∧ br (!r80)
 (R (Value.bool false) H_79)
 (R (Value.bool true) H_79)))
 (R (Value.bool true) H_66)) (R (Value.bool true) H_66)) → J_57 [] H_58) →
 ∃ Hidden81 : Bool, cell H_56 (Addr.add ⟨b52, 0, none⟩ 2) = some (Value.bool Hidden81) ∧ br (!Hidden81)
 (∃ v82 : Array Value, v82.size = 4 ∧ rowIn H_56 ⟨b14, 0, none⟩ v82 ∧ CallsH Try.prog 19 #[Value.agg v82, Value.agg #[Value.int .i64 (6 : Int), Value.int .i64 id2, Value.int .i64 0, Value.int .i64 0, Value.int .i64 (1 : Int), Value.int .i64 0, Value.int .i64 0, Value.int .i64 0, Value.int .i64 0, Value.int .i64 0, Value.slice none 0 0, Value.slice none 0 0, Value.int .i64 0, Value.int .i64 0, Value.int .i64 0, Value.int .i64 0, Value.int .i64 0, Value.int .i64 0, Value.slice none 0 0]] H_56 fun r83 H_84 => ∃ r85 : Array Value, ∃ r86 : Int, r83 = Value.tuple #[Value.agg r85, Value.int .i64 r86] ∧ alc H_84 (.cells #[Value.int .i64 0, Value.int .i64 0, Value.int .i64 0, Value.slice none 0 0] 26) fun b87 H_88 => r85.size = 4 ∧ stAt H_88 ⟨b87, 0, none⟩ (Array.toList r85) fun H_89 => ∃ v90 : Array Value, v90.size = 4 ∧ rowIn H_89 ⟨b87, 0, none⟩ v90 ∧ CallsH Try.prog 19 #[Value.agg v90, Value.agg #[Value.int .i64 (6 : Int), Value.int .i64 id2, Value.int .i64 0, Value.int .i64 0, Value.int .i64 (0 : Int), Value.int .i64 0, Value.int .i64 0, Value.int .i64 0, Value.int .i64 0, Value.int .i64 0, Value.slice none 0 0, Value.slice none 0 0, Value.int .i64 0, Value.int .i64 0, Value.int .i64 0, Value.int .i64 0, Value.int .i64 0, Value.int .i64 0, Value.slice none 0 0]] H_89 fun r91 H_92 => ∃ r93 : Array Value, ∃ r94 : Int, r91 = Value.tuple #[Value.agg r93, Value.int .i64 r94] ∧ alc H_92 (.cells #[Value.int .i64 0, Value.int .i64 0, Value.int .i64 0, Value.slice none 0 0] 26) fun b95 H_96 => r93.size = 4 ∧ stAt H_96 ⟨b95, 0, none⟩ (Array.toList r93) fun H_97 => br ((r86 : Int) != (0 : Int)) (R (Value.bool false) H_97) (br ((r94 : Int) != (0 : Int)) (R (Value.bool false) H_97) (∃ v98 : Array Value, v98.size = 4 ∧ rowIn H_97 ⟨b95, 0, none⟩ v98 ∧ ∃ v99 : Array Value, v99.size = 4 ∧ rowIn H_97 ⟨b14, 0, none⟩ v99 ∧ CallsH Try.prog 30 #[Value.agg v98, Value.agg v99] H_97 fun r100 H_101 => ∃ r102 : Bool, r100 = Value.bool r102 ∧ br (!r102) (R (Value.bool false) H_101) (∃ v103 : Array Value, v103.size = 4 ∧ rowIn H_101 ⟨b87, 0, none⟩ v103 ∧ ∃ v104 : Array Value, v104.size = 4 ∧ rowIn H_101 ⟨b14, 0, none⟩ v104 ∧ CallsH Try.prog 30 #[Value.agg v103, Value.agg v104] H_101 fun r105 H_106 => ∃ r107 : Bool, r105 = Value.bool r107 ∧ br r107
 (R (Value.bool false) H_106)
 (J_57 [] H_106)))))
 (J_57 [] H_56)) → J_55 [] H_56) →
 ∃ v108 : Array Value, v108.size = 4 ∧ rowIn H_54 ⟨b14, 0, none⟩ v108 ∧ CallsH Try.prog 19 #[Value.agg v108, Value.agg #[Value.int .i64 (3 : Int), Value.int .i64 id2, Value.int .i64 to3, Value.int .i64 at_4, Value.int .i64 0, Value.int .i64 0, Value.int .i64 0, Value.int .i64 0, Value.int .i64 0, Value.int .i64 0, Value.slice none 0 0, Value.slice none 0 0, Value.int .i64 0, Value.int .i64 0, Value.int .i64 0, Value.int .i64 0, Value.int .i64 0, Value.int .i64 0, Value.slice none 0 0]] H_54 fun r109 H_110 => ∃ r111 : Array Value, ∃ r112 : Int, r109 = Value.tuple #[Value.agg r111, Value.int .i64 r112] ∧ alc H_110 (.cells #[Value.int .i64 0, Value.int .i64 0, Value.int .i64 0, Value.slice none 0 0] 26) fun b113 H_114 => r111.size = 4 ∧ stAt H_114 ⟨b113, 0, none⟩ (Array.toList r111) fun H_115 => br ((r112 : Int) == (0 : Int))
 (∃ v116 : Array Value, v116.size = 4 ∧ rowIn H_115 ⟨b113, 0, none⟩ v116 ∧ CallsH Try.prog 19 #[Value.agg v116, Value.agg #[Value.int .i64 (3 : Int), Value.int .i64 id2, Value.int .i64 r44, Value.int .i64 r45, Value.int .i64 0, Value.int .i64 0, Value.int .i64 0, Value.int .i64 0, Value.int .i64 0, Value.int .i64 0, Value.slice none 0 0, Value.slice none 0 0, Value.int .i64 0, Value.int .i64 0, Value.int .i64 0, Value.int .i64 0, Value.int .i64 0, Value.int .i64 0, Value.slice none 0 0]] H_115 fun r117 H_118 => ∃ r119 : Array Value, ∃ r120 : Int, r117 = Value.tuple #[Value.agg r119, Value.int .i64 r120] ∧ alc H_118 (.cells #[Value.int .i64 0, Value.int .i64 0, Value.int .i64 0, Value.slice none 0 0] 26) fun b121 H_122 => r119.size = 4 ∧ stAt H_122 ⟨b121, 0, none⟩ (Array.toList r119) fun H_123 => br ((r120 : Int) != (0 : Int)) (R (Value.bool false) H_123) (∃ v124 : Array Value, v124.size = 4 ∧ rowIn H_123 ⟨b121, 0, none⟩ v124 ∧ ∃ v125 : Array Value, v125.size = 4 ∧ rowIn H_123 ⟨b14, 0, none⟩ v125 ∧ CallsH Try.prog 30 #[Value.agg v124, Value.agg v125] H_123 fun r126 H_127 => ∃ r128 : Bool, r126 = Value.bool r128 ∧ br (!r128)
 (R (Value.bool false) H_127)
 (J_55 [] H_127)))
 (J_55 [] H_115)))) → X_22 [Value.int .i64 t23] H_24) → X_22 [Value.int .i64 (0 : Int)] H_21) → J_20 [] H_21) →
 CallsH Try.prog 16 #[Value.slice edits1p edits1l edits1c, Value.int .i64 (20 : Int)] H_19 fun r129 H_130 => ∃ r131 : Bool, r129 = Value.bool r131 ∧ br (!r131) (R (Value.bool true) H_130) (br (decide ((((shape5l : Nat) : Int) : Int) > (300 : Int)))
 (R (Value.bool true) H_130)
 (J_20 [] H_130)))
def Try.p10 : Plan := (Plan.two Plan.leaf (Plan.two (Plan.two Plan.leaf (Plan.two (Plan.two Plan.leaf Plan.leaf) Plan.leaf)) (Plan.two Plan.leaf (Plan.two (Plan.join [] [0, 1, 2, 3, 4, 11] (Plan.two Plan.leaf (Plan.two (Plan.two Plan.leaf Plan.leaf) Plan.leaf))) (Plan.two (Plan.two Plan.leaf (Plan.one (Plan.loop [(52, 3)] [1, 2, 3, 4, 11, 50, 51] (Plan.two Plan.leaf (Plan.two (Plan.two Plan.leaf Plan.leaf) (Plan.two (Plan.one (Plan.two Plan.leaf (Plan.two Plan.leaf (Plan.two Plan.leaf (Plan.two Plan.leaf Plan.leaf))))) Plan.leaf)))))) (Plan.two Plan.leaf (Plan.two Plan.leaf (Plan.two (Plan.two Plan.leaf (Plan.two (Plan.two Plan.leaf Plan.leaf) Plan.leaf)) (Plan.two (Plan.join [] [1, 4, 11, 21] (Plan.two Plan.leaf (Plan.two Plan.leaf (Plan.two (Plan.two Plan.leaf (Plan.two Plan.leaf (Plan.two (Plan.two Plan.leaf Plan.leaf) Plan.leaf))) Plan.leaf)))) (Plan.two (Plan.join [] [1, 4, 11, 21] (Plan.two Plan.leaf (Plan.two (Plan.two Plan.leaf (Plan.two Plan.leaf (Plan.two Plan.leaf (Plan.two (Plan.two Plan.leaf Plan.leaf) Plan.leaf)))) Plan.leaf))) (Plan.two (Plan.two Plan.leaf (Plan.two Plan.leaf (Plan.two (Plan.two Plan.leaf (Plan.two Plan.leaf (Plan.two (Plan.two Plan.leaf Plan.leaf) Plan.leaf))) Plan.leaf))) (Plan.two Plan.leaf Plan.leaf))))))))))))
theorem Try.s10 {edits1p : Option Addr} {edits1l : Nat} {edits1c : Nat} {id2 : Int} {to3 : Int} {at_4 : Int} {shape5p : Option Addr} {shape5l : Nat} {shape5c : Nat} {H : Heap} {R : Value → Heap → Prop} (h : Try.S10 edits1p edits1l edits1c id2 to3 at_4 shape5p shape5l shape5c H R) : CallsH Try.prog 10 #[Value.slice edits1p edits1l edits1c, Value.int .i64 id2, Value.int .i64 to3, Value.int .i64 at_4, Value.slice shape5p shape5l shape5c] H R :=
  vcFun_sound Try.tab_ok Try.mixed Try.func10 Try.cal10 (p := Try.p10) (args := [Value.slice edits1p edits1l edits1c, Value.int .i64 id2, Value.int .i64 to3, Value.int .i64 at_4, Value.slice shape5p shape5l shape5c]) (Eq.mp (by kernel_rfl : Try.S10 edits1p edits1l edits1c id2 to3 at_4 shape5p shape5l shape5c H R = vcFun Try.prog Try.tab Try.f10 Try.p10 [Value.slice edits1p edits1l edits1c, Value.int .i64 id2, Value.int .i64 to3, Value.int .i64 at_4, Value.slice shape5p shape5l shape5c] H R) h)

/-- scumble/scumblelaw11.anchor -/
def Try.S12  (H : Heap) (R : Value → Heap → Prop) : Prop :=
 CallsH Try.prog 13 #[Value.int .i64 (4 : Int), Value.int .i64 (4 : Int)] H fun r1 H_2 => ∃ r3 : Array Value, ∃ r4 : Int, r1 = Value.tuple #[Value.agg r3, Value.int .i64 r4] ∧ alc H_2 (.cells #[Value.int .i64 0, Value.int .i64 0, Value.int .i64 0, Value.slice none 0 0] 26) fun b5 H_6 => r3.size = 4 ∧ stAt H_6 ⟨b5, 0, none⟩ (Array.toList r3) fun H_7 => br ((r4 : Int) != (0 : Int))
 (R (Value.bool false) H_7)
 (∃ v8 : Array Value, v8.size = 4 ∧ rowIn H_7 ⟨b5, 0, none⟩ v8 ∧ CallsH Try.prog 19 #[Value.agg v8, Value.agg #[Value.int .i64 (1 : Int), Value.int .i64 0, Value.int .i64 0, Value.int .i64 (-1 : Int), Value.int .i64 (0 : Int), Value.int .i64 0, Value.int .i64 0, Value.int .i64 0, Value.int .i64 (4 : Int), Value.int .i64 (4 : Int), Value.slice none 0 0, Value.slice none 0 0, Value.int .i64 0, Value.int .i64 0, Value.int .i64 0, Value.int .i64 0, Value.int .i64 0, Value.int .i64 0, Value.slice none 0 0]] H_7 fun r9 H_10 => ∃ r11 : Array Value, ∃ r12 : Int, r9 = Value.tuple #[Value.agg r11, Value.int .i64 r12] ∧ r11.size = 4 ∧ stAt H_10 ⟨b5, 0, none⟩ (Array.toList r11) fun H_13 => ∃ v14 : Array Value, v14.size = 4 ∧ rowIn H_13 ⟨b5, 0, none⟩ v14 ∧ CallsH Try.prog 19 #[Value.agg v14, Value.agg #[Value.int .i64 (1 : Int), Value.int .i64 0, Value.int .i64 0, Value.int .i64 (0 : Int), Value.int .i64 (1 : Int), Value.int .i64 0, Value.int .i64 0, Value.int .i64 0, Value.int .i64 0, Value.int .i64 0, Value.slice none 0 0, Value.slice none 0 0, Value.int .i64 0, Value.int .i64 0, Value.int .i64 0, Value.int .i64 0, Value.int .i64 0, Value.int .i64 0, Value.slice none 0 0]] H_13 fun r15 H_16 => ∃ r17 : Array Value, ∃ r18 : Int, r15 = Value.tuple #[Value.agg r17, Value.int .i64 r18] ∧ r17.size = 4 ∧ stAt H_16 ⟨b5, 0, none⟩ (Array.toList r17) fun H_19 => ∃ v20 : Array Value, v20.size = 4 ∧ rowIn H_19 ⟨b5, 0, none⟩ v20 ∧ CallsH Try.prog 19 #[Value.agg v20, Value.agg #[Value.int .i64 (3 : Int), Value.int .i64 (1 : Int), Value.int .i64 (2 : Int), Value.int .i64 (-1 : Int), Value.int .i64 0, Value.int .i64 0, Value.int .i64 0, Value.int .i64 0, Value.int .i64 0, Value.int .i64 0, Value.slice none 0 0, Value.slice none 0 0, Value.int .i64 0, Value.int .i64 0, Value.int .i64 0, Value.int .i64 0, Value.int .i64 0, Value.int .i64 0, Value.slice none 0 0]] H_19 fun r21 H_22 => ∃ r23 : Array Value, ∃ r24 : Int, r21 = Value.tuple #[Value.agg r23, Value.int .i64 r24] ∧ alc H_22 (.cells #[Value.int .i64 0, Value.int .i64 0, Value.int .i64 0, Value.slice none 0 0] 26) fun b25 H_26 => r23.size = 4 ∧ stAt H_26 ⟨b25, 0, none⟩ (Array.toList r23) fun H_27 => ∃ v28 : Array Value, v28.size = 4 ∧ rowIn H_27 ⟨b25, 0, none⟩ v28 ∧ CallsH Try.prog 19 #[Value.agg v28, Value.agg #[Value.int .i64 (3 : Int), Value.int .i64 (2 : Int), Value.int .i64 (2 : Int), Value.int .i64 0, Value.int .i64 0, Value.int .i64 0, Value.int .i64 0, Value.int .i64 0, Value.int .i64 0, Value.int .i64 0, Value.slice none 0 0, Value.slice none 0 0, Value.int .i64 0, Value.int .i64 0, Value.int .i64 0, Value.int .i64 0, Value.int .i64 0, Value.int .i64 0, Value.slice none 0 0]] H_27 fun r29 H_30 => ∃ r31 : Array Value, ∃ r32 : Int, r29 = Value.tuple #[Value.agg r31, Value.int .i64 r32] ∧ alc H_30 (.cells #[Value.int .i64 0, Value.int .i64 0, Value.int .i64 0, Value.slice none 0 0] 26) fun b33 H_34 => r31.size = 4 ∧ stAt H_34 ⟨b33, 0, none⟩ (Array.toList r31) fun H_35 => ∃ v36 : Array Value, v36.size = 4 ∧ rowIn H_35 ⟨b25, 0, none⟩ v36 ∧ CallsH Try.prog 23 #[Value.agg v36, Value.int .i64 (1 : Int)] H_35 fun r37 H_38 => ∃ r39 : Int, ∃ r40 : Int, ∃ r41 : Bool, r37 = Value.tuple #[Value.int .i64 r39, Value.int .i64 r40, Value.bool r41] ∧ br ((r12 : Int) == (0 : Int)) (br ((r18 : Int) == (0 : Int)) (br ((r24 : Int) == (0 : Int)) (br ((r32 : Int) == (42 : Int)) (br r41 (br ((r39 : Int) == (2 : Int)) (∃ v42 : Array Value, v42.size = 4 ∧ rowIn H_38 ⟨b25, 0, none⟩ v42 ∧ CallsH Try.prog 25 #[Value.agg v42] H_38 fun r43 H_44 => ∃ r45 : Int, r43 = Value.int .i64 r45 ∧ br ((r45 : Int) == (2 : Int)) (∃ v46 : Array Value, v46.size = 4 ∧ rowIn H_44 ⟨b25, 0, none⟩ v46 ∧ CallsH Try.prog 26 #[Value.agg v46] H_44 fun r47 H_48 => ∃ r49 : Int, r47 = Value.int .i64 r49 ∧ br ((r49 : Int) == (2 : Int)) (∃ v50 : Array Value, v50.size = 4 ∧ rowIn H_48 ⟨b5, 0, none⟩ v50 ∧ CallsH Try.prog 26 #[Value.agg v50] H_48 fun r51 H_52 => ∃ r53 : Int, r51 = Value.int .i64 r53 ∧ R (Value.bool ((r53 : Int) == (1 : Int))) H_52) (R (Value.bool false) H_48)) (R (Value.bool false) H_44)) (R (Value.bool false) H_38)) (R (Value.bool false) H_38)) (R (Value.bool false) H_38)) (R (Value.bool false) H_38)) (R (Value.bool false) H_38)) (R (Value.bool false) H_38))
def Try.p12 : Plan := (Plan.two Plan.leaf (Plan.two Plan.leaf (Plan.two (Plan.two Plan.leaf (Plan.two (Plan.two Plan.leaf Plan.leaf) Plan.leaf)) (Plan.two Plan.leaf (Plan.two Plan.leaf (Plan.two Plan.leaf (Plan.two Plan.leaf (Plan.two Plan.leaf (Plan.two Plan.leaf Plan.leaf)))))))))
theorem Try.s12 {_u : Unit} {H : Heap} {R : Value → Heap → Prop} (h : Try.S12  H R) : CallsH Try.prog 12 #[] H R :=
  vcFun_sound Try.tab_ok Try.mixed Try.func12 Try.cal12 (p := Try.p12) (args := []) (Eq.mp (by kernel_rfl : Try.S12  H R = vcFun Try.prog Try.tab Try.f12 Try.p12 [] H R) h)

/-- scumble/tree.New -/
def Try.S13 (w1 : Int) (h2 : Int) (H : Heap) (R : Value → Heap → Prop) : Prop :=
 alc H (.cells #[Value.int .i64 0, Value.int .i64 0, Value.int .i64 0, Value.slice none 0 0] 26) fun b3 H_4 => ∀ J_5 : List Value → Heap → Prop, (∀ H_6 : Heap, (#[Value.int .i64 w1, Value.int .i64 h2, Value.int .i64 (1 : Int), Value.slice none 0 0].size = 4 ∧ stAt H_6 ⟨b3, 0, none⟩ (Array.toList #[Value.int .i64 w1, Value.int .i64 h2, Value.int .i64 (1 : Int), Value.slice none 0 0]) fun H_7 => ∃ res8 : Array Value, res8.size = 4 ∧ rowIn H_7 ⟨b3, 0, none⟩ res8 ∧ R (Value.tuple #[Value.agg res8, Value.int .i64 (0 : Int)]) H_7) → J_5 [] H_6) →
 br (decide ((w1 : Int) < (1 : Int))) (#[Value.int .i64 0, Value.int .i64 0, Value.int .i64 0, Value.slice none 0 0].size = 4 ∧ stAt H_4 ⟨b3, 0, none⟩ (Array.toList #[Value.int .i64 0, Value.int .i64 0, Value.int .i64 0, Value.slice none 0 0]) fun H_9 => ∃ res10 : Array Value, res10.size = 4 ∧ rowIn H_9 ⟨b3, 0, none⟩ res10 ∧ R (Value.tuple #[Value.agg res10, Value.int .i64 (31 : Int)]) H_9) (br (decide ((h2 : Int) < (1 : Int))) (#[Value.int .i64 0, Value.int .i64 0, Value.int .i64 0, Value.slice none 0 0].size = 4 ∧ stAt H_4 ⟨b3, 0, none⟩ (Array.toList #[Value.int .i64 0, Value.int .i64 0, Value.int .i64 0, Value.slice none 0 0]) fun H_11 => ∃ res12 : Array Value, res12.size = 4 ∧ rowIn H_11 ⟨b3, 0, none⟩ res12 ∧ R (Value.tuple #[Value.agg res12, Value.int .i64 (31 : Int)]) H_11) (br (decide ((w1 : Int) > (32768 : Int))) (#[Value.int .i64 0, Value.int .i64 0, Value.int .i64 0, Value.slice none 0 0].size = 4 ∧ stAt H_4 ⟨b3, 0, none⟩ (Array.toList #[Value.int .i64 0, Value.int .i64 0, Value.int .i64 0, Value.slice none 0 0]) fun H_13 => ∃ res14 : Array Value, res14.size = 4 ∧ rowIn H_13 ⟨b3, 0, none⟩ res14 ∧ R (Value.tuple #[Value.agg res14, Value.int .i64 (31 : Int)]) H_13) (br (decide ((h2 : Int) > (32768 : Int))) (#[Value.int .i64 0, Value.int .i64 0, Value.int .i64 0, Value.slice none 0 0].size = 4 ∧ stAt H_4 ⟨b3, 0, none⟩ (Array.toList #[Value.int .i64 0, Value.int .i64 0, Value.int .i64 0, Value.slice none 0 0]) fun H_15 => ∃ res16 : Array Value, res16.size = 4 ∧ rowIn H_15 ⟨b3, 0, none⟩ res16 ∧ R (Value.tuple #[Value.agg res16, Value.int .i64 (31 : Int)]) H_15) (br (decide (((IntKind.wrap .i64 (w1 * h2)) : Int) > (4194304 : Int)))
 (#[Value.int .i64 0, Value.int .i64 0, Value.int .i64 0, Value.slice none 0 0].size = 4 ∧ stAt H_4 ⟨b3, 0, none⟩ (Array.toList #[Value.int .i64 0, Value.int .i64 0, Value.int .i64 0, Value.slice none 0 0]) fun H_17 => ∃ res18 : Array Value, res18.size = 4 ∧ rowIn H_17 ⟨b3, 0, none⟩ res18 ∧ R (Value.tuple #[Value.agg res18, Value.int .i64 (31 : Int)]) H_17)
 (J_5 [] H_4)))))
def Try.p13 : Plan := (Plan.two Plan.leaf (Plan.two (Plan.join [] [0, 1, 4] (Plan.two Plan.leaf (Plan.two (Plan.two Plan.leaf Plan.leaf) Plan.leaf))) (Plan.two Plan.leaf Plan.leaf)))
theorem Try.s13 {w1 : Int} {h2 : Int} {H : Heap} {R : Value → Heap → Prop} (h : Try.S13 w1 h2 H R) : CallsH Try.prog 13 #[Value.int .i64 w1, Value.int .i64 h2] H R :=
  vcFun_sound Try.tab_ok Try.mixed Try.func13 Try.cal13 (p := Try.p13) (args := [Value.int .i64 w1, Value.int .i64 h2]) (Eq.mp (by kernel_rfl : Try.S13 w1 h2 H R = vcFun Try.prog Try.tab Try.f13 Try.p13 [Value.int .i64 w1, Value.int .i64 h2] H R) h)

/-- scumble/scumbleref11.New -/
def Try.S14 (w1 : Int) (h2 : Int) (H : Heap) (R : Value → Heap → Prop) : Prop :=
 alc H (.cells #[Value.int .i64 0, Value.int .i64 0, Value.int .i64 0, Value.slice none 0 0] 32) fun b3 H_4 => CallsH Try.prog 34 #[Value.int .i64 w1, Value.int .i64 h2] H_4 fun r5 H_6 => ∃ r7 : Bool, r5 = Value.bool r7 ∧ br (!r7)
 (#[Value.int .i64 0, Value.int .i64 0, Value.int .i64 0, Value.slice none 0 0].size = 4 ∧ stAt H_6 ⟨b3, 0, none⟩ (Array.toList #[Value.int .i64 0, Value.int .i64 0, Value.int .i64 0, Value.slice none 0 0]) fun H_8 => ∃ res9 : Array Value, res9.size = 4 ∧ rowIn H_8 ⟨b3, 0, none⟩ res9 ∧ R (Value.tuple #[Value.agg res9, Value.int .i64 (31 : Int)]) H_8)
 (#[Value.int .i64 w1, Value.int .i64 h2, Value.int .i64 (1 : Int), Value.slice none 0 0].size = 4 ∧ stAt H_6 ⟨b3, 0, none⟩ (Array.toList #[Value.int .i64 w1, Value.int .i64 h2, Value.int .i64 (1 : Int), Value.slice none 0 0]) fun H_10 => ∃ res11 : Array Value, res11.size = 4 ∧ rowIn H_10 ⟨b3, 0, none⟩ res11 ∧ R (Value.tuple #[Value.agg res11, Value.int .i64 (0 : Int)]) H_10)
def Try.p14 : Plan := (Plan.two Plan.leaf (Plan.two (Plan.two Plan.leaf (Plan.two (Plan.two Plan.leaf Plan.leaf) Plan.leaf)) (Plan.two Plan.leaf Plan.leaf)))
theorem Try.s14 {w1 : Int} {h2 : Int} {H : Heap} {R : Value → Heap → Prop} (h : Try.S14 w1 h2 H R) : CallsH Try.prog 14 #[Value.int .i64 w1, Value.int .i64 h2] H R :=
  vcFun_sound Try.tab_ok Try.mixed Try.func14 Try.cal14 (p := Try.p14) (args := [Value.int .i64 w1, Value.int .i64 h2]) (Eq.mp (by kernel_rfl : Try.S14 w1 h2 H R = vcFun Try.prog Try.tab Try.f14 Try.p14 [Value.int .i64 w1, Value.int .i64 h2] H R) h)

/-- scumble/scumblemade.Small -/
def Try.S16 (list1p : Option Addr) (list1l : Nat) (list1c : Nat) (most2 : Int) (H : Heap) (R : Value → Heap → Prop) : Prop :=
 br (decide ((((list1l : Nat) : Int) : Int) > most2))
 (R (Value.bool false) H)
 (∀ X_3 : List Value → Heap → Prop, (∀ t4 : Int, ∀ H_5 : Heap, (br (decide ((t4 : Int) < ((list1l : Nat) : Int)))
 (∀ J_6 : List Value → Heap → Prop, (∀ H_7 : Heap, (X_3 [Value.int .i64 (IntKind.wrap .i64 (t4 + (1 : Int)))] H_7) → J_6 [] H_7) →
 ∃ a8 : Addr, list1p = some a8 ∧ 0 ≤ t4 ∧ t4 < ((list1l : Nat) : Int) ∧ ∃ v9 : Array Value, v9.size = 19 ∧ rowIn H_5 (Addr.add a8 (Int.toNat t4 * 19)) v9 ∧ alc H_5 (.cells #[Value.int .i64 0, Value.int .i64 0, Value.int .i64 0, Value.int .i64 0, Value.int .i64 0, Value.int .i64 0, Value.int .i64 0, Value.int .i64 0, Value.int .i64 0, Value.int .i64 0, Value.slice none 0 0, Value.slice none 0 0, Value.int .i64 0, Value.int .i64 0, Value.int .i64 0, Value.int .i64 0, Value.int .i64 0, Value.int .i64 0, Value.slice none 0 0] 43) fun b10 H_11 => v9.size = 19 ∧ stAt H_11 ⟨b10, 0, none⟩ (Array.toList v9) fun H_12 => ∃ P_13p : Option Addr, ∃ P_13l : Nat, ∃ P_13c : Nat, cell H_12 (Addr.add ⟨b10, 0, none⟩ 10) = some (Value.slice P_13p P_13l P_13c) ∧ br (decide ((((P_13l : Nat) : Int) : Int) > (600 : Int))) (R (Value.bool false) H_12) (∃ Shape14p : Option Addr, ∃ Shape14l : Nat, ∃ Shape14c : Nat, cell H_12 (Addr.add ⟨b10, 0, none⟩ 11) = some (Value.slice Shape14p Shape14l Shape14c) ∧ br (decide ((((Shape14l : Nat) : Int) : Int) > (300 : Int))) (R (Value.bool false) H_12) (∃ Params15p : Option Addr, ∃ Params15l : Nat, ∃ Params15c : Nat, cell H_12 (Addr.add ⟨b10, 0, none⟩ 18) = some (Value.slice Params15p Params15l Params15c) ∧ br (decide ((((Params15l : Nat) : Int) : Int) > (100 : Int))) (R (Value.bool false) H_12) (∃ Kind16 : Int, cell H_12 (Addr.add ⟨b10, 0, none⟩ 0) = some (Value.int .i64 Kind16) ∧ br ((Kind16 : Int) == (1 : Int)) (∃ N17 : Int, cell H_12 (Addr.add ⟨b10, 0, none⟩ 4) = some (Value.int .i64 N17) ∧ br ((N17 : Int) == (0 : Int)) (∃ W18 : Int, cell H_12 (Addr.add ⟨b10, 0, none⟩ 8) = some (Value.int .i64 W18) ∧ ∃ H_19 : Int, cell H_12 (Addr.add ⟨b10, 0, none⟩ 9) = some (Value.int .i64 H_19) ∧ CallsH Try.prog 34 #[Value.int .i64 W18, Value.int .i64 H_19] H_12 fun r20 H_21 => ∃ r22 : Bool, r20 = Value.bool r22 ∧ br r22 (∃ W23 : Int, cell H_21 (Addr.add ⟨b10, 0, none⟩ 8) = some (Value.int .i64 W23) ∧ ∃ H_24 : Int, cell H_21 (Addr.add ⟨b10, 0, none⟩ 9) = some (Value.int .i64 H_24) ∧ br (decide (((IntKind.wrap .i64 (W23 * H_24)) : Int) > (600 : Int)))
 (R (Value.bool false) H_21)
 (J_6 [] H_21)) (J_6 [] H_21)) (J_6 [] H_12)) (J_6 [] H_12)))))
 (R (Value.bool true) H_5)) → X_3 [Value.int .i64 t4] H_5) → X_3 [Value.int .i64 (0 : Int)] H)
def Try.p16 : Plan := (Plan.two Plan.leaf (Plan.two (Plan.two Plan.leaf (Plan.two (Plan.two Plan.leaf Plan.leaf) Plan.leaf)) (Plan.two (Plan.two Plan.leaf (Plan.one (Plan.loop [(13, 3)] [11, 12] (Plan.two Plan.leaf (Plan.two (Plan.two Plan.leaf Plan.leaf) (Plan.two (Plan.join [] [11, 12, 13] (Plan.one (Plan.two Plan.leaf (Plan.two Plan.leaf (Plan.two (Plan.two Plan.leaf Plan.leaf) Plan.leaf))))) Plan.leaf)))))) (Plan.two Plan.leaf Plan.leaf))))
theorem Try.s16 {list1p : Option Addr} {list1l : Nat} {list1c : Nat} {most2 : Int} {H : Heap} {R : Value → Heap → Prop} (h : Try.S16 list1p list1l list1c most2 H R) : CallsH Try.prog 16 #[Value.slice list1p list1l list1c, Value.int .i64 most2] H R :=
  vcFun_sound Try.tab_ok Try.mixed Try.func16 Try.cal16 (p := Try.p16) (args := [Value.slice list1p list1l list1c, Value.int .i64 most2]) (Eq.mp (by kernel_rfl : Try.S16 list1p list1l list1c most2 H R = vcFun Try.prog Try.tab Try.f16 Try.p16 [Value.slice list1p list1l list1c, Value.int .i64 most2] H R) h)

/-- (scumble/tree.Doc).Do -/
def Try.S19 (d1 : Array Value) (e2 : Array Value) (H : Heap) (R : Value → Heap → Prop) : Prop :=
 alc H (.cells d1 26) fun b3 H_4 => alc H_4 (.cells e2 43) fun b5 H_6 => alc H_6 (.cells #[Value.int .i64 0, Value.int .i64 0, Value.int .i64 0, Value.slice none 0 0] 26) fun b7 H_8 => ∀ J_9 : List Value → Heap → Prop, (∀ out10 : Addr, ∀ H_11 : Heap, (∀ J_12 : List Value → Heap → Prop, (∀ w13 : Addr, ∀ H_14 : Heap, (alc H_14 (.cells #[Value.func (.func 41) #[] #[], Value.func (.func 42) #[] #[], Value.func (.func 43) #[] #[], Value.func (.func 44) #[] #[], Value.func (.func 45) #[] #[], Value.func (.func 46) #[] #[], Value.func (.func 47) #[] #[], Value.func (.func 48) #[] #[], Value.func (.func 49) #[] #[]] 87) fun b15 H_16 => ∀ J_17 : List Value → Heap → Prop, (∀ H_18 : Heap, (∃ Kind19 : Int, cell H_18 (Addr.add ⟨b5, 0, none⟩ 0) = some (Value.int .i64 Kind19) ∧ ∃ a20 : Addr, (some ⟨b15, 0, none⟩) = some a20 ∧ 0 ≤ (IntKind.wrap .i64 (Kind19 - (1 : Int))) ∧ (IntKind.wrap .i64 (Kind19 - (1 : Int))) < ((9 : Nat) : Int) ∧ ∃ v21g : Nat, ∃ v21x : Array Value, ∃ v21y : Array Value, cell H_18 (Addr.add a20 (Int.toNat (IntKind.wrap .i64 (Kind19 - (1 : Int))) * 1)) = some (Value.func (.func v21g) v21x v21y) ∧ ∃ v22 : Array Value, v22.size = 21 ∧ rowIn H_18 w13 v22 ∧ CallsH Try.prog v21g (List.toArray (Array.toList v21x ++ [Value.agg v22] ++ Array.toList v21y)) H_18 fun r23 H_24 => ∃ e25 : Int, r23 = Value.int .i64 e25 ∧ br ((e25 : Int) != (0 : Int))
 (#[Value.int .i64 0, Value.int .i64 0, Value.int .i64 0, Value.slice none 0 0].size = 4 ∧ stAt H_24 ⟨b7, 0, none⟩ (Array.toList #[Value.int .i64 0, Value.int .i64 0, Value.int .i64 0, Value.slice none 0 0]) fun H_26 => ∃ res27 : Array Value, res27.size = 4 ∧ rowIn H_26 ⟨b7, 0, none⟩ res27 ∧ R (Value.tuple #[Value.agg res27, Value.int .i64 e25]) H_26)
 (∃ root28 : Option Addr, cell H_24 (Addr.add w13 0) = some (Value.pointer root28) ∧ ∃ a29 : Addr, root28 = some a29 ∧ ∃ Kids30p : Option Addr, ∃ Kids30l : Nat, ∃ Kids30c : Nat, cell H_24 (Addr.add a29 18) = some (Value.slice Kids30p Kids30l Kids30c) ∧ stAt H_24 (Addr.add out10 3) [Value.slice Kids30p Kids30l Kids30c] fun H_31 => ∃ v32 : Array Value, v32.size = 4 ∧ rowIn H_31 out10 v32 ∧ v32.size = 4 ∧ stAt H_31 ⟨b7, 0, none⟩ (Array.toList v32) fun H_33 => ∃ res34 : Array Value, res34.size = 4 ∧ rowIn H_33 ⟨b7, 0, none⟩ res34 ∧ R (Value.tuple #[Value.agg res34, Value.int .i64 (0 : Int)]) H_33)) → J_17 [] H_18) →
 ∃ Kind35 : Int, cell H_16 (Addr.add ⟨b5, 0, none⟩ 0) = some (Value.int .i64 Kind35) ∧ br (decide ((Kind35 : Int) < (1 : Int))) (#[Value.int .i64 0, Value.int .i64 0, Value.int .i64 0, Value.slice none 0 0].size = 4 ∧ stAt H_16 ⟨b7, 0, none⟩ (Array.toList #[Value.int .i64 0, Value.int .i64 0, Value.int .i64 0, Value.slice none 0 0]) fun H_36 => ∃ res37 : Array Value, res37.size = 4 ∧ rowIn H_36 ⟨b7, 0, none⟩ res37 ∧ R (Value.tuple #[Value.agg res37, Value.int .i64 (41 : Int)]) H_36) (∃ Kind38 : Int, cell H_16 (Addr.add ⟨b5, 0, none⟩ 0) = some (Value.int .i64 Kind38) ∧ br (decide ((Kind38 : Int) > ((9 : Nat) : Int)))
 (#[Value.int .i64 0, Value.int .i64 0, Value.int .i64 0, Value.slice none 0 0].size = 4 ∧ stAt H_16 ⟨b7, 0, none⟩ (Array.toList #[Value.int .i64 0, Value.int .i64 0, Value.int .i64 0, Value.slice none 0 0]) fun H_39 => ∃ res40 : Array Value, res40.size = 4 ∧ rowIn H_39 ⟨b7, 0, none⟩ res40 ∧ R (Value.tuple #[Value.agg res40, Value.int .i64 (41 : Int)]) H_39)
 (J_17 [] H_16))) → J_12 [Value.pointer (some w13)] H_14) →
 ∃ v41 : Array Value, v41.size = 19 ∧ rowIn H_11 ⟨b5, 0, none⟩ v41 ∧ (CallsH Try.prog 40 #[Value.pointer (some out10)] H_11 fun r42 H_43 => ∃ r44 : Option Addr, r42 = Value.pointer r44 ∧ (Ext H_11 H_43 ∨ (∃ v49 : Array Value, v49.size = 19 ∧ rowIn H_43 ⟨b5, 0, none⟩ v49 ∧ Value.agg v49 = Value.agg v41)) ∧ v41.size = 19 ∧ 2 + 19 ≤ 21 ∧ alc H_43 (.cells #[Value.pointer none, Value.pointer none, Value.int .i64 0, Value.int .i64 0, Value.int .i64 0, Value.int .i64 0, Value.int .i64 0, Value.int .i64 0, Value.int .i64 0, Value.int .i64 0, Value.int .i64 0, Value.int .i64 0, Value.slice none 0 0, Value.slice none 0 0, Value.int .i64 0, Value.int .i64 0, Value.int .i64 0, Value.int .i64 0, Value.int .i64 0, Value.int .i64 0, Value.slice none 0 0] 86) fun b45 H_46 => (Ext H_43 H_46 ∨ (∃ v48 : Array Value, v48.size = 19 ∧ rowIn H_46 ⟨b5, 0, none⟩ v48 ∧ Value.agg v48 = Value.agg v41)) ∧ (List.toArray (setL [Value.pointer r44, Value.pointer (some out10), Value.int .i64 0, Value.int .i64 0, Value.int .i64 0, Value.int .i64 0, Value.int .i64 0, Value.int .i64 0, Value.int .i64 0, Value.int .i64 0, Value.int .i64 0, Value.int .i64 0, Value.slice none 0 0, Value.slice none 0 0, Value.int .i64 0, Value.int .i64 0, Value.int .i64 0, Value.int .i64 0, Value.int .i64 0, Value.int .i64 0, Value.slice none 0 0] 2 (Array.toList v41))).size = 21 ∧ stAt H_46 ⟨b45, 0, none⟩ (Array.toList (List.toArray (setL [Value.pointer r44, Value.pointer (some out10), Value.int .i64 0, Value.int .i64 0, Value.int .i64 0, Value.int .i64 0, Value.int .i64 0, Value.int .i64 0, Value.int .i64 0, Value.int .i64 0, Value.int .i64 0, Value.int .i64 0, Value.slice none 0 0, Value.slice none 0 0, Value.int .i64 0, Value.int .i64 0, Value.int .i64 0, Value.int .i64 0, Value.int .i64 0, Value.int .i64 0, Value.slice none 0 0] 2 (Array.toList v41)))) fun H_47 => J_12 [Value.pointer (some ⟨b45, 0, none⟩)] H_47) ∧ (alc H_11 (.cells #[Value.pointer none, Value.pointer none, Value.int .i64 0, Value.int .i64 0, Value.int .i64 0, Value.int .i64 0, Value.int .i64 0, Value.int .i64 0, Value.int .i64 0, Value.int .i64 0, Value.int .i64 0, Value.int .i64 0, Value.slice none 0 0, Value.slice none 0 0, Value.int .i64 0, Value.int .i64 0, Value.int .i64 0, Value.int .i64 0, Value.int .i64 0, Value.int .i64 0, Value.slice none 0 0] 86) fun b50 H_51 => (Ext H_11 H_51 ∨ (∃ v57 : Array Value, v57.size = 19 ∧ rowIn H_51 ⟨b5, 0, none⟩ v57 ∧ Value.agg v57 = Value.agg v41)) ∧ CallsH Try.prog 40 #[Value.pointer (some out10)] H_51 fun r52 H_53 => ∃ r54 : Option Addr, r52 = Value.pointer r54 ∧ (Ext H_51 H_53 ∨ (∃ v56 : Array Value, v56.size = 19 ∧ rowIn H_53 ⟨b5, 0, none⟩ v56 ∧ Value.agg v56 = Value.agg v41)) ∧ v41.size = 19 ∧ 2 + 19 ≤ 21 ∧ (List.toArray (setL [Value.pointer r54, Value.pointer (some out10), Value.int .i64 0, Value.int .i64 0, Value.int .i64 0, Value.int .i64 0, Value.int .i64 0, Value.int .i64 0, Value.int .i64 0, Value.int .i64 0, Value.int .i64 0, Value.int .i64 0, Value.slice none 0 0, Value.slice none 0 0, Value.int .i64 0, Value.int .i64 0, Value.int .i64 0, Value.int .i64 0, Value.int .i64 0, Value.int .i64 0, Value.slice none 0 0] 2 (Array.toList v41))).size = 21 ∧ stAt H_53 ⟨b50, 0, none⟩ (Array.toList (List.toArray (setL [Value.pointer r54, Value.pointer (some out10), Value.int .i64 0, Value.int .i64 0, Value.int .i64 0, Value.int .i64 0, Value.int .i64 0, Value.int .i64 0, Value.int .i64 0, Value.int .i64 0, Value.int .i64 0, Value.int .i64 0, Value.slice none 0 0, Value.slice none 0 0, Value.int .i64 0, Value.int .i64 0, Value.int .i64 0, Value.int .i64 0, Value.int .i64 0, Value.int .i64 0, Value.slice none 0 0] 2 (Array.toList v41)))) fun H_55 => J_12 [Value.pointer (some ⟨b50, 0, none⟩)] H_55)) → J_9 [Value.pointer (some out10)] H_11) →
 ∃ W58 : Int, cell H_8 (Addr.add ⟨b3, 0, none⟩ 0) = some (Value.int .i64 W58) ∧ ∃ H_59 : Int, cell H_8 (Addr.add ⟨b3, 0, none⟩ 1) = some (Value.int .i64 H_59) ∧ ∃ Next60 : Int, cell H_8 (Addr.add ⟨b3, 0, none⟩ 2) = some (Value.int .i64 Next60) ∧ ∃ Kids61p : Option Addr, ∃ Kids61l : Nat, ∃ Kids61c : Nat, cell H_8 (Addr.add ⟨b3, 0, none⟩ 3) = some (Value.slice Kids61p Kids61l Kids61c) ∧ (CallsH Try.prog 39 #[Value.slice Kids61p Kids61l Kids61c] H_8 fun r62 H_63 => ∃ r64p : Option Addr, ∃ r64l : Nat, ∃ r64c : Nat, r62 = Value.slice r64p r64l r64c ∧ (Ext H_8 H_63 ∨ (∃ Next71 : Int, cell H_63 (Addr.add ⟨b3, 0, none⟩ 2) = some (Value.int .i64 Next71) ∧ Value.int .i64 Next71 = Value.int .i64 Next60) ∧ (∃ H_72 : Int, cell H_63 (Addr.add ⟨b3, 0, none⟩ 1) = some (Value.int .i64 H_72) ∧ Value.int .i64 H_72 = Value.int .i64 H_59) ∧ (∃ W73 : Int, cell H_63 (Addr.add ⟨b3, 0, none⟩ 0) = some (Value.int .i64 W73) ∧ Value.int .i64 W73 = Value.int .i64 W58)) ∧ alc H_63 (.cells #[Value.int .i64 0, Value.int .i64 0, Value.int .i64 0, Value.slice none 0 0] 26) fun b65 H_66 => (Ext H_63 H_66 ∨ (∃ Next68 : Int, cell H_66 (Addr.add ⟨b3, 0, none⟩ 2) = some (Value.int .i64 Next68) ∧ Value.int .i64 Next68 = Value.int .i64 Next60) ∧ (∃ H_69 : Int, cell H_66 (Addr.add ⟨b3, 0, none⟩ 1) = some (Value.int .i64 H_69) ∧ Value.int .i64 H_69 = Value.int .i64 H_59) ∧ (∃ W70 : Int, cell H_66 (Addr.add ⟨b3, 0, none⟩ 0) = some (Value.int .i64 W70) ∧ Value.int .i64 W70 = Value.int .i64 W58)) ∧ #[Value.int .i64 W58, Value.int .i64 H_59, Value.int .i64 Next60, Value.slice r64p r64l r64c].size = 4 ∧ stAt H_66 ⟨b65, 0, none⟩ (Array.toList #[Value.int .i64 W58, Value.int .i64 H_59, Value.int .i64 Next60, Value.slice r64p r64l r64c]) fun H_67 => J_9 [Value.pointer (some ⟨b65, 0, none⟩)] H_67) ∧ (alc H_8 (.cells #[Value.int .i64 0, Value.int .i64 0, Value.int .i64 0, Value.slice none 0 0] 26) fun b74 H_75 => (Ext H_8 H_75 ∨ (∃ Kids83p : Option Addr, ∃ Kids83l : Nat, ∃ Kids83c : Nat, cell H_75 (Addr.add ⟨b3, 0, none⟩ 3) = some (Value.slice Kids83p Kids83l Kids83c) ∧ Value.slice Kids83p Kids83l Kids83c = Value.slice Kids61p Kids61l Kids61c) ∧ (∃ Next84 : Int, cell H_75 (Addr.add ⟨b3, 0, none⟩ 2) = some (Value.int .i64 Next84) ∧ Value.int .i64 Next84 = Value.int .i64 Next60) ∧ (∃ H_85 : Int, cell H_75 (Addr.add ⟨b3, 0, none⟩ 1) = some (Value.int .i64 H_85) ∧ Value.int .i64 H_85 = Value.int .i64 H_59) ∧ (∃ W86 : Int, cell H_75 (Addr.add ⟨b3, 0, none⟩ 0) = some (Value.int .i64 W86) ∧ Value.int .i64 W86 = Value.int .i64 W58)) ∧ CallsH Try.prog 39 #[Value.slice Kids61p Kids61l Kids61c] H_75 fun r76 H_77 => ∃ r78p : Option Addr, ∃ r78l : Nat, ∃ r78c : Nat, r76 = Value.slice r78p r78l r78c ∧ (Ext H_75 H_77 ∨ (∃ Next80 : Int, cell H_77 (Addr.add ⟨b3, 0, none⟩ 2) = some (Value.int .i64 Next80) ∧ Value.int .i64 Next80 = Value.int .i64 Next60) ∧ (∃ H_81 : Int, cell H_77 (Addr.add ⟨b3, 0, none⟩ 1) = some (Value.int .i64 H_81) ∧ Value.int .i64 H_81 = Value.int .i64 H_59) ∧ (∃ W82 : Int, cell H_77 (Addr.add ⟨b3, 0, none⟩ 0) = some (Value.int .i64 W82) ∧ Value.int .i64 W82 = Value.int .i64 W58)) ∧ #[Value.int .i64 W58, Value.int .i64 H_59, Value.int .i64 Next60, Value.slice r78p r78l r78c].size = 4 ∧ stAt H_77 ⟨b74, 0, none⟩ (Array.toList #[Value.int .i64 W58, Value.int .i64 H_59, Value.int .i64 Next60, Value.slice r78p r78l r78c]) fun H_79 => J_9 [Value.pointer (some ⟨b74, 0, none⟩)] H_79)
def Try.p19 : Plan := (Plan.two Plan.leaf (Plan.two (Plan.join [(6, 999999)] [3, 4] Plan.leaf) (Plan.two (Plan.join [(7, 999999)] [3, 4, 6] Plan.leaf) (Plan.two Plan.leaf (Plan.two (Plan.join [] [3, 4, 6, 7, 8] (Plan.two Plan.leaf (Plan.two (Plan.two Plan.leaf Plan.leaf) Plan.leaf))) (Plan.two (Plan.two Plan.leaf (Plan.two Plan.leaf (Plan.two (Plan.two Plan.leaf Plan.leaf) Plan.leaf))) (Plan.two Plan.leaf (Plan.two Plan.leaf Plan.leaf))))))))
theorem Try.s19 {d1 : Array Value} {e2 : Array Value} {H : Heap} {R : Value → Heap → Prop} (h : Try.S19 d1 e2 H R) : CallsH Try.prog 19 #[Value.agg d1, Value.agg e2] H R :=
  vcFun_sound Try.tab_ok Try.mixed Try.func19 Try.cal19 (p := Try.p19) (args := [Value.agg d1, Value.agg e2]) (Eq.mp (by kernel_rfl : Try.S19 d1 e2 H R = vcFun Try.prog Try.tab Try.f19 Try.p19 [Value.agg d1, Value.agg e2] H R) h)

end Go.Proofs

/-
  Printed by a program of mine (gen.py): each function, over heaps; and that what is said of it is said of its call.
-/
set_option linter.unusedVariables false
set_option maxRecDepth 100000
namespace Go.Proofs
open Go.Sh

/-- (scumble/tree.Doc).Parent -/
def Try.S23 (d1 : Array Value) (id2 : Int) (H : Heap) (R : Value → Heap → Prop) : Prop :=
 alc H (.cells d1 26) fun b3 H_4 => CallsH Try.prog 40 #[Value.pointer (some ⟨b3, 0, none⟩)] H_4 fun r5 H_6 => ∃ r7 : Option Addr, r5 = Value.pointer r7 ∧ CallsH Try.prog 51 #[Value.pointer r7, Value.int .i64 id2] H_6 fun r8 H_9 => ∃ r10 : Option Addr, ∃ r11 : Option Addr, ∃ r12 : Int, r8 = Value.tuple #[Value.pointer r10, Value.pointer r11, Value.int .i64 r12] ∧ br (Option.isNone r10)
 (R (Value.tuple #[Value.int .i64 (0 : Int), Value.int .i64 (0 : Int), Value.bool false]) H_9)
 (∃ a13 : Addr, r11 = some a13 ∧ ∃ ID14 : Int, cell H_9 (Addr.add a13 0) = some (Value.int .i64 ID14) ∧ R (Value.tuple #[Value.int .i64 ID14, Value.int .i64 r12, Value.bool true]) H_9)
def Try.p23 : Plan := (Plan.two Plan.leaf (Plan.two Plan.leaf (Plan.two (Plan.two Plan.leaf (Plan.two (Plan.two Plan.leaf Plan.leaf) Plan.leaf)) (Plan.two Plan.leaf Plan.leaf))))
theorem Try.s23 {d1 : Array Value} {id2 : Int} {H : Heap} {R : Value → Heap → Prop} (h : Try.S23 d1 id2 H R) : CallsH Try.prog 23 #[Value.agg d1, Value.int .i64 id2] H R :=
  vcFun_sound Try.tab_ok Try.mixed Try.func23 Try.cal23 (p := Try.p23) (args := [Value.agg d1, Value.int .i64 id2]) (Eq.mp (by kernel_rfl : Try.S23 d1 id2 H R = vcFun Try.prog Try.tab Try.f23 Try.p23 [Value.agg d1, Value.int .i64 id2] H R) h)

/-- (scumble/scumbleref11.Doc).Find -/
def Try.S24 (d1 : Array Value) (id2 : Int) (H : Heap) (R : Value → Heap → Prop) : Prop :=
 alc H (.cells d1 32) fun b3 H_4 => ∀ X_5 : List Value → Heap → Prop, (∀ i6 : Int, ∀ H_7 : Heap, (∃ L8p : Option Addr, ∃ L8l : Nat, ∃ L8c : Nat, cell H_7 (Addr.add ⟨b3, 0, none⟩ 3) = some (Value.slice L8p L8l L8c) ∧ br (decide ((i6 : Int) < ((L8l : Nat) : Int)))
 (∃ L9p : Option Addr, ∃ L9l : Nat, ∃ L9c : Nat, cell H_7 (Addr.add ⟨b3, 0, none⟩ 3) = some (Value.slice L9p L9l L9c) ∧ ∃ a10 : Addr, L9p = some a10 ∧ 0 ≤ i6 ∧ i6 < ((L9l : Nat) : Int) ∧ ∃ ID11 : Int, cell H_7 (Addr.add (Addr.add a10 (Int.toNat i6 * 19)) 0) = some (Value.int .i64 ID11) ∧ br ((ID11 : Int) == id2)
 (R (Value.int .i64 i6) H_7)
 (X_5 [Value.int .i64 (IntKind.wrap .i64 (i6 + (1 : Int)))] H_7))
 (R (Value.int .i64 (-1 : Int)) H_7)) → X_5 [Value.int .i64 i6] H_7) → X_5 [Value.int .i64 (0 : Int)] H_4
def Try.p24 : Plan := (Plan.two Plan.leaf (Plan.two (Plan.two Plan.leaf (Plan.one (Plan.loop [(5, 3)] [1, 2] (Plan.two (Plan.two Plan.leaf (Plan.two Plan.leaf Plan.leaf)) (Plan.two (Plan.one (Plan.two Plan.leaf (Plan.two (Plan.two Plan.leaf Plan.leaf) Plan.leaf))) Plan.leaf))))) (Plan.two Plan.leaf Plan.leaf)))
theorem Try.s24 {d1 : Array Value} {id2 : Int} {H : Heap} {R : Value → Heap → Prop} (h : Try.S24 d1 id2 H R) : CallsH Try.prog 24 #[Value.agg d1, Value.int .i64 id2] H R :=
  vcFun_sound Try.tab_ok Try.mixed Try.func24 Try.cal24 (p := Try.p24) (args := [Value.agg d1, Value.int .i64 id2]) (Eq.mp (by kernel_rfl : Try.S24 d1 id2 H R = vcFun Try.prog Try.tab Try.f24 Try.p24 [Value.agg d1, Value.int .i64 id2] H R) h)

/-- (scumble/tree.Doc).Count -/
def Try.S25 (d1 : Array Value) (H : Heap) (R : Value → Heap → Prop) : Prop :=
 alc H (.cells d1 26) fun b2 H_3 => ∃ Kids4p : Option Addr, ∃ Kids4l : Nat, ∃ Kids4c : Nat, cell H_3 (Addr.add ⟨b2, 0, none⟩ 3) = some (Value.slice Kids4p Kids4l Kids4c) ∧ CallsH Try.prog 53 #[Value.slice Kids4p Kids4l Kids4c] H_3 fun r5 H_6 => ∃ r7 : Int, r5 = Value.int .i64 r7 ∧ R (Value.int .i64 r7) H_6
def Try.p25 : Plan := (Plan.two Plan.leaf (Plan.two Plan.leaf Plan.leaf))
theorem Try.s25 {d1 : Array Value} {H : Heap} {R : Value → Heap → Prop} (h : Try.S25 d1 H R) : CallsH Try.prog 25 #[Value.agg d1] H R :=
  vcFun_sound Try.tab_ok Try.mixed Try.func25 Try.cal25 (p := Try.p25) (args := [Value.agg d1]) (Eq.mp (by kernel_rfl : Try.S25 d1 H R = vcFun Try.prog Try.tab Try.f25 Try.p25 [Value.agg d1] H R) h)

/-- (scumble/tree.Doc).Depth -/
def Try.S26 (d1 : Array Value) (H : Heap) (R : Value → Heap → Prop) : Prop :=
 alc H (.cells d1 26) fun b2 H_3 => ∃ Kids4p : Option Addr, ∃ Kids4l : Nat, ∃ Kids4c : Nat, cell H_3 (Addr.add ⟨b2, 0, none⟩ 3) = some (Value.slice Kids4p Kids4l Kids4c) ∧ CallsH Try.prog 54 #[Value.slice Kids4p Kids4l Kids4c] H_3 fun r5 H_6 => ∃ r7 : Int, r5 = Value.int .i64 r7 ∧ R (Value.int .i64 r7) H_6
def Try.p26 : Plan := (Plan.two Plan.leaf (Plan.two Plan.leaf Plan.leaf))
theorem Try.s26 {d1 : Array Value} {H : Heap} {R : Value → Heap → Prop} (h : Try.S26 d1 H R) : CallsH Try.prog 26 #[Value.agg d1] H R :=
  vcFun_sound Try.tab_ok Try.mixed Try.func26 Try.cal26 (p := Try.p26) (args := [Value.agg d1]) (Eq.mp (by kernel_rfl : Try.S26 d1 H R = vcFun Try.prog Try.tab Try.f26 Try.p26 [Value.agg d1] H R) h)

/-- (scumble/scumbleref11.Doc).Depth -/
def Try.S27 (d1 : Array Value) (H : Heap) (R : Value → Heap → Prop) : Prop :=
 alc H (.cells d1 32) fun b2 H_3 => ∀ X_4 : List Value → Heap → Prop, (∀ most5 : Int, ∀ i6 : Int, ∀ H_7 : Heap, (∃ L8p : Option Addr, ∃ L8l : Nat, ∃ L8c : Nat, cell H_7 (Addr.add ⟨b2, 0, none⟩ 3) = some (Value.slice L8p L8l L8c) ∧ br (decide ((i6 : Int) < ((L8l : Nat) : Int)))
 (∃ v9 : Array Value, v9.size = 4 ∧ rowIn H_7 ⟨b2, 0, none⟩ v9 ∧ ∃ L10p : Option Addr, ∃ L10l : Nat, ∃ L10c : Nat, cell H_7 (Addr.add ⟨b2, 0, none⟩ 3) = some (Value.slice L10p L10l L10c) ∧ ∃ a11 : Addr, L10p = some a11 ∧ 0 ≤ i6 ∧ i6 < ((L10l : Nat) : Int) ∧ ∃ ID12 : Int, cell H_7 (Addr.add (Addr.add a11 (Int.toNat i6 * 19)) 0) = some (Value.int .i64 ID12) ∧ CallsH Try.prog 55 #[Value.agg v9, Value.int .i64 ID12] H_7 fun r13 H_14 => ∃ n15 : Int, r13 = Value.int .i64 n15 ∧ br (decide ((n15 : Int) > most5))
 (X_4 [Value.int .i64 n15, Value.int .i64 (IntKind.wrap .i64 (i6 + (1 : Int)))] H_14)
 (X_4 [Value.int .i64 most5, Value.int .i64 (IntKind.wrap .i64 (i6 + (1 : Int)))] H_14))
 (R (Value.int .i64 most5) H_7)) → X_4 [Value.int .i64 most5, Value.int .i64 i6] H_7) → X_4 [Value.int .i64 (0 : Int), Value.int .i64 (0 : Int)] H_3
def Try.p27 : Plan := (Plan.two Plan.leaf (Plan.two Plan.leaf (Plan.two (Plan.two Plan.leaf (Plan.one (Plan.loop [(3, 3), (4, 3)] [1] (Plan.two (Plan.two Plan.leaf (Plan.two Plan.leaf Plan.leaf)) (Plan.two (Plan.one (Plan.two Plan.leaf (Plan.two Plan.leaf (Plan.two Plan.leaf Plan.leaf)))) Plan.leaf))))) (Plan.two Plan.leaf Plan.leaf))))
theorem Try.s27 {d1 : Array Value} {H : Heap} {R : Value → Heap → Prop} (h : Try.S27 d1 H R) : CallsH Try.prog 27 #[Value.agg d1] H R :=
  vcFun_sound Try.tab_ok Try.mixed Try.func27 Try.cal27 (p := Try.p27) (args := [Value.agg d1]) (Eq.mp (by kernel_rfl : Try.S27 d1 H R = vcFun Try.prog Try.tab Try.f27 Try.p27 [Value.agg d1] H R) h)

/-- (scumble/tree.Doc).Same -/
def Try.S30 (d1 : Array Value) (o2 : Array Value) (H : Heap) (R : Value → Heap → Prop) : Prop :=
 alc H (.cells d1 26) fun b3 H_4 => alc H_4 (.cells o2 26) fun b5 H_6 => ∃ W7 : Int, cell H_6 (Addr.add ⟨b3, 0, none⟩ 0) = some (Value.int .i64 W7) ∧ ∃ W8 : Int, cell H_6 (Addr.add ⟨b5, 0, none⟩ 0) = some (Value.int .i64 W8) ∧ br ((W7 : Int) == W8) (∃ H_9 : Int, cell H_6 (Addr.add ⟨b3, 0, none⟩ 1) = some (Value.int .i64 H_9) ∧ ∃ H_10 : Int, cell H_6 (Addr.add ⟨b5, 0, none⟩ 1) = some (Value.int .i64 H_10) ∧ br ((H_9 : Int) == H_10) (∃ Next11 : Int, cell H_6 (Addr.add ⟨b3, 0, none⟩ 2) = some (Value.int .i64 Next11) ∧ ∃ Next12 : Int, cell H_6 (Addr.add ⟨b5, 0, none⟩ 2) = some (Value.int .i64 Next12) ∧ br ((Next11 : Int) == Next12) (∃ Kids13p : Option Addr, ∃ Kids13l : Nat, ∃ Kids13c : Nat, cell H_6 (Addr.add ⟨b3, 0, none⟩ 3) = some (Value.slice Kids13p Kids13l Kids13c) ∧ ∃ Kids14p : Option Addr, ∃ Kids14l : Nat, ∃ Kids14c : Nat, cell H_6 (Addr.add ⟨b5, 0, none⟩ 3) = some (Value.slice Kids14p Kids14l Kids14c) ∧ CallsH Try.prog 57 #[Value.slice Kids13p Kids13l Kids13c, Value.slice Kids14p Kids14l Kids14c, Value.func (.func 58) #[] #[]] H_6 fun r15 H_16 => ∃ r17 : Bool, r15 = Value.bool r17 ∧ R (Value.bool r17) H_16) (R (Value.bool false) H_6)) (R (Value.bool false) H_6)) (R (Value.bool false) H_6)
def Try.p30 : Plan := (Plan.two Plan.leaf (Plan.two Plan.leaf Plan.leaf))
theorem Try.s30 {d1 : Array Value} {o2 : Array Value} {H : Heap} {R : Value → Heap → Prop} (h : Try.S30 d1 o2 H R) : CallsH Try.prog 30 #[Value.agg d1, Value.agg o2] H R :=
  vcFun_sound Try.tab_ok Try.mixed Try.func30 Try.cal30 (p := Try.p30) (args := [Value.agg d1, Value.agg o2]) (Eq.mp (by kernel_rfl : Try.S30 d1 o2 H R = vcFun Try.prog Try.tab Try.f30 Try.p30 [Value.agg d1, Value.agg o2] H R) h)

/-- scumble/scumblemade.Flat -/
def Try.S31 (d1 : Array Value) (H : Heap) (R : Value → Heap → Prop) : Prop :=
 alc H (.cells d1 26) fun b2 H_3 => alc H_3 (.cells #[Value.int .i64 0, Value.int .i64 0, Value.int .i64 0, Value.slice none 0 0] 32) fun b4 H_5 => ∃ Kids6p : Option Addr, ∃ Kids6l : Nat, ∃ Kids6c : Nat, cell H_5 (Addr.add ⟨b2, 0, none⟩ 3) = some (Value.slice Kids6p Kids6l Kids6c) ∧ CallsH Try.prog 59 #[Value.slice Kids6p Kids6l Kids6c, Value.int .i64 (0 : Int), Value.int .i64 (1 : Int), Value.slice none 0 0] H_5 fun r7 H_8 => ∃ r9p : Option Addr, ∃ r9l : Nat, ∃ r9c : Nat, ∃ r10 : Bool, r7 = Value.tuple #[Value.slice r9p r9l r9c, Value.bool r10] ∧ ∃ W11 : Int, cell H_8 (Addr.add ⟨b2, 0, none⟩ 0) = some (Value.int .i64 W11) ∧ ∃ H_12 : Int, cell H_8 (Addr.add ⟨b2, 0, none⟩ 1) = some (Value.int .i64 H_12) ∧ ∃ Next13 : Int, cell H_8 (Addr.add ⟨b2, 0, none⟩ 2) = some (Value.int .i64 Next13) ∧ #[Value.int .i64 W11, Value.int .i64 H_12, Value.int .i64 Next13, Value.slice r9p r9l r9c].size = 4 ∧ stAt H_8 ⟨b4, 0, none⟩ (Array.toList #[Value.int .i64 W11, Value.int .i64 H_12, Value.int .i64 Next13, Value.slice r9p r9l r9c]) fun H_14 => ∃ res15 : Array Value, res15.size = 4 ∧ rowIn H_14 ⟨b4, 0, none⟩ res15 ∧ R (Value.tuple #[Value.agg res15, Value.bool r10]) H_14
def Try.p31 : Plan := (Plan.two Plan.leaf (Plan.two Plan.leaf (Plan.two Plan.leaf Plan.leaf)))
theorem Try.s31 {d1 : Array Value} {H : Heap} {R : Value → Heap → Prop} (h : Try.S31 d1 H R) : CallsH Try.prog 31 #[Value.agg d1] H R :=
  vcFun_sound Try.tab_ok Try.mixed Try.func31 Try.cal31 (p := Try.p31) (args := [Value.agg d1]) (Eq.mp (by kernel_rfl : Try.S31 d1 H R = vcFun Try.prog Try.tab Try.f31 Try.p31 [Value.agg d1] H R) h)

/-- (scumble/tree.Doc).Right -/
def Try.S32 (d1 : Array Value) (H : Heap) (R : Value → Heap → Prop) : Prop :=
 alc H (.cells d1 26) fun b2 H_3 => ∃ W4 : Int, cell H_3 (Addr.add ⟨b2, 0, none⟩ 0) = some (Value.int .i64 W4) ∧ ∃ H_5 : Int, cell H_3 (Addr.add ⟨b2, 0, none⟩ 1) = some (Value.int .i64 H_5) ∧ CallsH Try.prog 13 #[Value.int .i64 W4, Value.int .i64 H_5] H_3 fun r6 H_7 => ∃ r8 : Array Value, ∃ r9 : Int, r6 = Value.tuple #[Value.agg r8, Value.int .i64 r9] ∧ alc H_7 (.cells #[Value.int .i64 0, Value.int .i64 0, Value.int .i64 0, Value.slice none 0 0] 26) fun b10 H_11 => r8.size = 4 ∧ stAt H_11 ⟨b10, 0, none⟩ (Array.toList r8) fun H_12 => ∀ J_13 : List Value → Heap → Prop, (∀ H_14 : Heap, (alc H_14 (.map #[] 0) fun b15 H_16 => alc H_16 (.cells #[Value.map none] 100) fun b17 H_18 => stAt H_18 ⟨b17, 0, none⟩ [Value.map (some b15)] fun H_19 => ∃ Kids20p : Option Addr, ∃ Kids20l : Nat, ∃ Kids20c : Nat, cell H_19 (Addr.add ⟨b2, 0, none⟩ 3) = some (Value.slice Kids20p Kids20l Kids20c) ∧ CallsH Try.prog 60 #[Value.slice Kids20p Kids20l Kids20c, Value.func (.func 61) #[] #[Value.pointer (some ⟨b2, 0, none⟩), Value.pointer (some ⟨b17, 0, none⟩)]] H_19 fun r21 H_22 => ∃ r23 : Bool, r21 = Value.bool r23 ∧ R (Value.bool (!r23)) H_22) → J_13 [] H_14) →
 br ((r9 : Int) != (0 : Int)) (R (Value.bool false) H_12) (∃ Next24 : Int, cell H_12 (Addr.add ⟨b2, 0, none⟩ 2) = some (Value.int .i64 Next24) ∧ br (decide ((Next24 : Int) < (1 : Int))) (R (Value.bool false) H_12) (∃ v25 : Array Value, v25.size = 4 ∧ rowIn H_12 ⟨b2, 0, none⟩ v25 ∧ CallsH Try.prog 26 #[Value.agg v25] H_12 fun r26 H_27 => ∃ r28 : Int, r26 = Value.int .i64 r28 ∧ br (decide ((r28 : Int) > (64 : Int))) (R (Value.bool false) H_27) (∃ v29 : Array Value, v29.size = 4 ∧ rowIn H_27 ⟨b2, 0, none⟩ v29 ∧ CallsH Try.prog 25 #[Value.agg v29] H_27 fun r30 H_31 => ∃ r32 : Int, r30 = Value.int .i64 r32 ∧ br (decide ((r32 : Int) > (4096 : Int)))
 (R (Value.bool false) H_31)
 (J_13 [] H_31))))
def Try.p32 : Plan := (Plan.two Plan.leaf (Plan.two Plan.leaf (Plan.two (Plan.join [] [1] (Plan.two Plan.leaf (Plan.two (Plan.two Plan.leaf Plan.leaf) Plan.leaf))) (Plan.two Plan.leaf (Plan.two Plan.leaf Plan.leaf)))))
theorem Try.s32 {d1 : Array Value} {H : Heap} {R : Value → Heap → Prop} (h : Try.S32 d1 H R) : CallsH Try.prog 32 #[Value.agg d1] H R :=
  vcFun_sound Try.tab_ok Try.mixed Try.func32 Try.cal32 (p := Try.p32) (args := [Value.agg d1]) (Eq.mp (by kernel_rfl : Try.S32 d1 H R = vcFun Try.prog Try.tab Try.f32 Try.p32 [Value.agg d1] H R) h)

/-- (scumble/scumbleref11.Doc).Right -/
def Try.S33 (d1 : Array Value) (H : Heap) (R : Value → Heap → Prop) : Prop :=
 alc H (.cells d1 32) fun b2 H_3 => ∀ J_4 : List Value → Heap → Prop, (∀ H_5 : Heap, (∀ X_6 : List Value → Heap → Prop, (∀ i7 : Int, ∀ H_8 : Heap, (∃ L9p : Option Addr, ∃ L9l : Nat, ∃ L9c : Nat, cell H_8 (Addr.add ⟨b2, 0, none⟩ 3) = some (Value.slice L9p L9l L9c) ∧ br (decide ((i7 : Int) < ((L9l : Nat) : Int)))
 (∃ L10p : Option Addr, ∃ L10l : Nat, ∃ L10c : Nat, cell H_8 (Addr.add ⟨b2, 0, none⟩ 3) = some (Value.slice L10p L10l L10c) ∧ ∃ a11 : Addr, L10p = some a11 ∧ 0 ≤ i7 ∧ i7 < ((L10l : Nat) : Int) ∧ ∃ v12 : Array Value, v12.size = 19 ∧ rowIn H_8 (Addr.add a11 (Int.toNat i7 * 19)) v12 ∧ alc H_8 (.cells #[Value.int .i64 0, Value.int .i64 0, Value.int .i64 0, Value.bool false, Value.int .i64 0, Value.int .i64 0, Value.int .i64 0, Value.int .i64 0, Value.slice none 0 0, Value.slice none 0 0, Value.int .i64 0, Value.int .i64 0, Value.int .i64 0, Value.int .i64 0, Value.int .i64 0, Value.int .i64 0, Value.bool false, Value.int .i64 0, Value.slice none 0 0] 66) fun b13 H_14 => v12.size = 19 ∧ stAt H_14 ⟨b13, 0, none⟩ (Array.toList v12) fun H_15 => ∀ J_16 : List Value → Heap → Prop, (∀ H_17 : Heap, (∀ J_18 : List Value → Heap → Prop, (∀ H_19 : Heap, (∀ X_20 : List Value → Heap → Prop, (∀ k21 : Int, ∀ H_22 : Heap, (∃ Mask23p : Option Addr, ∃ Mask23l : Nat, ∃ Mask23c : Nat, cell H_22 (Addr.add ⟨b13, 0, none⟩ 9) = some (Value.slice Mask23p Mask23l Mask23c) ∧ br (decide ((k21 : Int) < ((Mask23l : Nat) : Int)))
 (∃ Mask24p : Option Addr, ∃ Mask24l : Nat, ∃ Mask24c : Nat, cell H_22 (Addr.add ⟨b13, 0, none⟩ 9) = some (Value.slice Mask24p Mask24l Mask24c) ∧ ∃ a25 : Addr, Mask24p = some a25 ∧ 0 ≤ k21 ∧ k21 < ((Mask24l : Nat) : Int) ∧ ∃ v26 : Int, cell H_22 (Addr.add a25 (Int.toNat k21 * 1)) = some (Value.int .u8 v26) ∧ br ((v26 : Int) != (0 : Int)) (∃ Mask27p : Option Addr, ∃ Mask27l : Nat, ∃ Mask27c : Nat, cell H_22 (Addr.add ⟨b13, 0, none⟩ 9) = some (Value.slice Mask27p Mask27l Mask27c) ∧ ∃ a28 : Addr, Mask27p = some a28 ∧ 0 ≤ k21 ∧ k21 < ((Mask27l : Nat) : Int) ∧ ∃ v29 : Int, cell H_22 (Addr.add a28 (Int.toNat k21 * 1)) = some (Value.int .u8 v29) ∧ br ((v29 : Int) != (255 : Int))
 (R (Value.bool false) H_22)
 (X_20 [Value.int .i64 (IntKind.wrap .i64 (k21 + (1 : Int)))] H_22)) (X_20 [Value.int .i64 (IntKind.wrap .i64 (k21 + (1 : Int)))] H_22))
 (∃ To30 : Int, cell H_22 (Addr.add ⟨b13, 0, none⟩ 2) = some (Value.int .i64 To30) ∧ br ((To30 : Int) != (0 : Int)) (∃ L31p : Option Addr, ∃ L31l : Nat, ∃ L31c : Nat, cell H_22 (Addr.add ⟨b2, 0, none⟩ 3) = some (Value.slice L31p L31l L31c) ∧ ∃ v32 : Array Value, v32.size = 4 ∧ rowIn H_22 ⟨b2, 0, none⟩ v32 ∧ ∃ To33 : Int, cell H_22 (Addr.add ⟨b13, 0, none⟩ 2) = some (Value.int .i64 To33) ∧ CallsH Try.prog 24 #[Value.agg v32, Value.int .i64 To33] H_22 fun r34 H_35 => ∃ r36 : Int, r34 = Value.int .i64 r36 ∧ (Ext H_22 H_35 ∨ (∃ L39p : Option Addr, ∃ L39l : Nat, ∃ L39c : Nat, cell H_35 (Addr.add ⟨b2, 0, none⟩ 3) = some (Value.slice L39p L39l L39c) ∧ Value.slice L39p L39l L39c = Value.slice L31p L31l L31c)) ∧ ∃ a37 : Addr, L31p = some a37 ∧ 0 ≤ r36 ∧ r36 < ((L31l : Nat) : Int) ∧ ∃ Kind38 : Int, cell H_35 (Addr.add (Addr.add a37 (Int.toNat r36 * 19)) 1) = some (Value.int .i64 Kind38) ∧ br ((Kind38 : Int) != (1 : Int))
 (R (Value.bool false) H_35)
 (X_6 [Value.int .i64 (IntKind.wrap .i64 (i7 + (1 : Int)))] H_35)) (X_6 [Value.int .i64 (IntKind.wrap .i64 (i7 + (1 : Int)))] H_22))) → X_20 [Value.int .i64 k21] H_22) → X_20 [Value.int .i64 (0 : Int)] H_19) → J_18 [] H_19) →
 ∃ Mask40p : Option Addr, ∃ Mask40l : Nat, ∃ Mask40c : Nat, cell H_17 (Addr.add ⟨b13, 0, none⟩ 9) = some (Value.slice Mask40p Mask40l Mask40c) ∧ br ((((Mask40l : Nat) : Int) : Int) != (0 : Int)) (∃ Mask41p : Option Addr, ∃ Mask41l : Nat, ∃ Mask41c : Nat, cell H_17 (Addr.add ⟨b13, 0, none⟩ 9) = some (Value.slice Mask41p Mask41l Mask41c) ∧ ∃ W42 : Int, cell H_17 (Addr.add ⟨b2, 0, none⟩ 0) = some (Value.int .i64 W42) ∧ ∃ H_43 : Int, cell H_17 (Addr.add ⟨b2, 0, none⟩ 1) = some (Value.int .i64 H_43) ∧ br ((((Mask41l : Nat) : Int) : Int) != (IntKind.wrap .i64 (W42 * H_43)))
 (R (Value.bool false) H_17)
 (J_18 [] H_17)) (J_18 [] H_17)) → J_16 [] H_17) →
 ∃ ID44 : Int, cell H_15 (Addr.add ⟨b13, 0, none⟩ 0) = some (Value.int .i64 ID44) ∧ br (decide ((ID44 : Int) < (1 : Int))) (R (Value.bool false) H_15) (∃ ID45 : Int, cell H_15 (Addr.add ⟨b13, 0, none⟩ 0) = some (Value.int .i64 ID45) ∧ ∃ Next46 : Int, cell H_15 (Addr.add ⟨b2, 0, none⟩ 2) = some (Value.int .i64 Next46) ∧ br (decide ((ID45 : Int) ≥ Next46)) (R (Value.bool false) H_15) (∃ v47 : Array Value, v47.size = 4 ∧ rowIn H_15 ⟨b2, 0, none⟩ v47 ∧ ∃ ID48 : Int, cell H_15 (Addr.add ⟨b13, 0, none⟩ 0) = some (Value.int .i64 ID48) ∧ CallsH Try.prog 24 #[Value.agg v47, Value.int .i64 ID48] H_15 fun r49 H_50 => ∃ r51 : Int, r49 = Value.int .i64 r51 ∧ br ((r51 : Int) != i7) (R (Value.bool false) H_50) (∃ Kind52 : Int, cell H_50 (Addr.add ⟨b13, 0, none⟩ 1) = some (Value.int .i64 Kind52) ∧ br (decide ((Kind52 : Int) < (0 : Int))) (R (Value.bool false) H_50) (∃ Kind53 : Int, cell H_50 (Addr.add ⟨b13, 0, none⟩ 1) = some (Value.int .i64 Kind53) ∧ br (decide ((Kind53 : Int) > (2 : Int))) (R (Value.bool false) H_50) (∃ Opacity54 : Int, cell H_50 (Addr.add ⟨b13, 0, none⟩ 4) = some (Value.int .i64 Opacity54) ∧ br (decide ((Opacity54 : Int) < (0 : Int))) (R (Value.bool false) H_50) (∃ Opacity55 : Int, cell H_50 (Addr.add ⟨b13, 0, none⟩ 4) = some (Value.int .i64 Opacity55) ∧ br (decide ((Opacity55 : Int) > (255 : Int))) (R (Value.bool false) H_50) (∃ Mode56 : Int, cell H_50 (Addr.add ⟨b13, 0, none⟩ 5) = some (Value.int .i64 Mode56) ∧ br (decide ((Mode56 : Int) < (0 : Int))) (R (Value.bool false) H_50) (∃ Mode57 : Int, cell H_50 (Addr.add ⟨b13, 0, none⟩ 5) = some (Value.int .i64 Mode57) ∧ br (decide ((Mode57 : Int) > (11 : Int))) (R (Value.bool false) H_50) (∃ v58 : Array Value, v58.size = 4 ∧ rowIn H_50 ⟨b2, 0, none⟩ v58 ∧ ∃ v59 : Array Value, v59.size = 19 ∧ rowIn H_50 ⟨b13, 0, none⟩ v59 ∧ CallsH Try.prog 63 #[Value.agg v58, Value.agg v59] H_50 fun r60 H_61 => ∃ r62 : Bool, r60 = Value.bool r62 ∧ br (!r62)
 (R (Value.bool false) H_61)
 (J_16 [] H_61)))))))))))
 (∃ v63 : Array Value, v63.size = 4 ∧ rowIn H_8 ⟨b2, 0, none⟩ v63 ∧ CallsH Try.prog 27 #[Value.agg v63] H_8 fun r64 H_65 => ∃ r66 : Int, r64 = Value.int .i64 r66 ∧ R (Value.bool (decide ((r66 : Int) ≤ (64 : Int)))) H_65)) → X_6 [Value.int .i64 i7] H_8) → X_6 [Value.int .i64 (0 : Int)] H_5) → J_4 [] H_5) →
 ∃ W67 : Int, cell H_3 (Addr.add ⟨b2, 0, none⟩ 0) = some (Value.int .i64 W67) ∧ ∃ H_68 : Int, cell H_3 (Addr.add ⟨b2, 0, none⟩ 1) = some (Value.int .i64 H_68) ∧ CallsH Try.prog 34 #[Value.int .i64 W67, Value.int .i64 H_68] H_3 fun r69 H_70 => ∃ r71 : Bool, r69 = Value.bool r71 ∧ br (!r71) (R (Value.bool false) H_70) (∃ Next72 : Int, cell H_70 (Addr.add ⟨b2, 0, none⟩ 2) = some (Value.int .i64 Next72) ∧ br (decide ((Next72 : Int) < (1 : Int))) (R (Value.bool false) H_70) (∃ L73p : Option Addr, ∃ L73l : Nat, ∃ L73c : Nat, cell H_70 (Addr.add ⟨b2, 0, none⟩ 3) = some (Value.slice L73p L73l L73c) ∧ br (decide ((((L73l : Nat) : Int) : Int) > (4096 : Int)))
 (R (Value.bool false) H_70)
 (J_4 [] H_70)))
def Try.p33 : Plan := (Plan.two Plan.leaf (Plan.two (Plan.join [] [1] (Plan.two Plan.leaf (Plan.two (Plan.two Plan.leaf Plan.leaf) Plan.leaf))) (Plan.two (Plan.two Plan.leaf (Plan.one (Plan.loop [(3, 3)] [1] (Plan.two (Plan.two Plan.leaf (Plan.two Plan.leaf Plan.leaf)) (Plan.two (Plan.one (Plan.two Plan.leaf (Plan.two (Plan.join [] [1, 3, 4] (Plan.two Plan.leaf (Plan.two (Plan.two Plan.leaf Plan.leaf) Plan.leaf))) (Plan.two (Plan.join [] [1, 3, 4] (Plan.two Plan.leaf (Plan.two (Plan.two Plan.leaf Plan.leaf) Plan.leaf))) (Plan.two (Plan.two Plan.leaf (Plan.one (Plan.loop [(5, 3)] [1, 3, 4] (Plan.two (Plan.two Plan.leaf (Plan.two Plan.leaf Plan.leaf)) (Plan.two (Plan.one (Plan.two Plan.leaf (Plan.two (Plan.two Plan.leaf Plan.leaf) Plan.leaf))) Plan.leaf))))) (Plan.two Plan.leaf (Plan.two (Plan.two Plan.leaf Plan.leaf) Plan.leaf))))))) Plan.leaf))))) (Plan.two Plan.leaf Plan.leaf))))
theorem Try.s33 {d1 : Array Value} {H : Heap} {R : Value → Heap → Prop} (h : Try.S33 d1 H R) : CallsH Try.prog 33 #[Value.agg d1] H R :=
  vcFun_sound Try.tab_ok Try.mixed Try.func33 Try.cal33 (p := Try.p33) (args := [Value.agg d1]) (Eq.mp (by kernel_rfl : Try.S33 d1 H R = vcFun Try.prog Try.tab Try.f33 Try.p33 [Value.agg d1] H R) h)

/-- scumble/scumbleref11.Sized -/
def Try.S34 (w1 : Int) (h2 : Int) (H : Heap) (R : Value → Heap → Prop) : Prop :=
 br (decide ((w1 : Int) ≥ (1 : Int))) (br (decide ((h2 : Int) ≥ (1 : Int))) (br (decide ((w1 : Int) ≤ (32768 : Int))) (br (decide ((h2 : Int) ≤ (32768 : Int))) (R (Value.bool (decide (((IntKind.wrap .i64 (w1 * h2)) : Int) ≤ (4194304 : Int)))) H) (R (Value.bool false) H)) (R (Value.bool false) H)) (R (Value.bool false) H)) (R (Value.bool false) H)
def Try.p34 : Plan := (Plan.two Plan.leaf (Plan.two Plan.leaf Plan.leaf))
theorem Try.s34 {w1 : Int} {h2 : Int} {H : Heap} {R : Value → Heap → Prop} (h : Try.S34 w1 h2 H R) : CallsH Try.prog 34 #[Value.int .i64 w1, Value.int .i64 h2] H R :=
  vcFun_sound Try.tab_ok Try.mixed Try.func34 Try.cal34 (p := Try.p34) (args := [Value.int .i64 w1, Value.int .i64 h2]) (Eq.mp (by kernel_rfl : Try.S34 w1 h2 H R = vcFun Try.prog Try.tab Try.f34 Try.p34 [Value.int .i64 w1, Value.int .i64 h2] H R) h)

end Go.Proofs

/-
  Printed by a program of mine (gen.py): each function, over heaps; and that what is said of it is said of its call.
-/
set_option linter.unusedVariables false
set_option maxRecDepth 100000
namespace Go.Proofs
open Go.Sh

/-- scumble/tree.all -/
def Try.S39 (list1p : Option Addr) (list1l : Nat) (list1c : Nat) (H : Heap) (R : Value → Heap → Prop) : Prop :=
 ∀ X_2 : List Value → Heap → Prop, (∀ out3p : Option Addr, ∀ out3l : Nat, ∀ out3c : Nat, ∀ t4 : Int, ∀ H_5 : Heap, (br (decide ((t4 : Int) < ((list1l : Nat) : Int)))
 (∃ a6 : Addr, list1p = some a6 ∧ 0 ≤ t4 ∧ t4 < ((list1l : Nat) : Int) ∧ ∃ v7 : Array Value, v7.size = 19 ∧ rowIn H_5 (Addr.add a6 (Int.toNat t4 * 19)) v7 ∧ alc H_5 (.cells #[Value.int .i64 0, Value.int .i64 0, Value.bool false, Value.int .i64 0, Value.int .i64 0, Value.int .i64 0, Value.int .i64 0, Value.slice none 0 0, Value.slice none 0 0, Value.int .i64 0, Value.int .i64 0, Value.int .i64 0, Value.int .i64 0, Value.int .i64 0, Value.int .i64 0, Value.bool false, Value.int .i64 0, Value.slice none 0 0, Value.slice none 0 0] 58) fun b8 H_9 => v7.size = 19 ∧ stAt H_9 ⟨b8, 0, none⟩ (Array.toList v7) fun H_10 => ∃ v11 : Array Value, v11.size = 19 ∧ rowIn H_10 ⟨b8, 0, none⟩ v11 ∧ CallsH Try.prog 52 #[Value.agg v11] H_10 fun r12 H_13 => ∃ r14 : Array Value, r12 = Value.agg r14 ∧ r14.size = 19 ∧ 0 + 19 ≤ 19 ∧ alc H_13 (.cells (List.toArray (setL [Value.int .i64 0, Value.int .i64 0, Value.bool false, Value.int .i64 0, Value.int .i64 0, Value.int .i64 0, Value.int .i64 0, Value.slice none 0 0, Value.slice none 0 0, Value.int .i64 0, Value.int .i64 0, Value.int .i64 0, Value.int .i64 0, Value.int .i64 0, Value.int .i64 0, Value.bool false, Value.int .i64 0, Value.slice none 0 0, Value.slice none 0 0] 0 (Array.toList r14))) 58) fun b15 H_16 => appQ 19 216 #[Value.int .i64 0, Value.int .i64 0, Value.bool false, Value.int .i64 0, Value.int .i64 0, Value.int .i64 0, Value.int .i64 0, Value.slice none 0 0, Value.slice none 0 0, Value.int .i64 0, Value.int .i64 0, Value.int .i64 0, Value.int .i64 0, Value.int .i64 0, Value.int .i64 0, Value.bool false, Value.int .i64 0, Value.slice none 0 0, Value.slice none 0 0] H_16 out3p out3l out3c (some ⟨b15, 0, none⟩) 1 58 fun out17p out17l out17c H_18 => X_2 [Value.slice out17p out17l out17c, Value.int .i64 (IntKind.wrap .i64 (t4 + (1 : Int)))] H_18)
 (R (Value.slice out3p out3l out3c) H_5)) → X_2 [Value.slice out3p out3l out3c, Value.int .i64 t4] H_5) → X_2 [Value.slice none 0 0, Value.int .i64 (0 : Int)] H
def Try.p39 : Plan := (Plan.two Plan.leaf (Plan.two Plan.leaf (Plan.two (Plan.two Plan.leaf (Plan.one (Plan.loop [(3, 24), (8, 3)] [6, 7] (Plan.two Plan.leaf (Plan.two (Plan.two Plan.leaf Plan.leaf) (Plan.two (Plan.one (Plan.two Plan.leaf Plan.leaf)) Plan.leaf)))))) (Plan.two Plan.leaf Plan.leaf))))
theorem Try.s39 {list1p : Option Addr} {list1l : Nat} {list1c : Nat} {H : Heap} {R : Value → Heap → Prop} (h : Try.S39 list1p list1l list1c H R) : CallsH Try.prog 39 #[Value.slice list1p list1l list1c] H R :=
  vcFun_sound Try.tab_ok Try.mixed Try.func39 Try.cal39 (p := Try.p39) (args := [Value.slice list1p list1l list1c]) (Eq.mp (by kernel_rfl : Try.S39 list1p list1l list1c H R = vcFun Try.prog Try.tab Try.f39 Try.p39 [Value.slice list1p list1l list1c] H R) h)

/-- (*scumble/tree.Doc).root -/
def Try.S40 (d1 : Option Addr) (H : Heap) (R : Value → Heap → Prop) : Prop :=
 ∃ a2 : Addr, d1 = some a2 ∧ ∃ Kids3p : Option Addr, ∃ Kids3l : Nat, ∃ Kids3c : Nat, cell H (Addr.add a2 3) = some (Value.slice Kids3p Kids3l Kids3c) ∧ alc H (.cells #[Value.int .i64 0, Value.int .i64 (1 : Int), Value.bool false, Value.int .i64 0, Value.int .i64 0, Value.int .i64 0, Value.int .i64 0, Value.slice none 0 0, Value.slice none 0 0, Value.int .i64 0, Value.int .i64 0, Value.int .i64 0, Value.int .i64 0, Value.int .i64 0, Value.int .i64 0, Value.bool false, Value.int .i64 0, Value.slice none 0 0, Value.slice Kids3p Kids3l Kids3c] 58) fun b4 H_5 => R (Value.pointer (some ⟨b4, 0, none⟩)) H_5
def Try.p40 : Plan := (Plan.two Plan.leaf (Plan.two Plan.leaf Plan.leaf))
theorem Try.s40 {d1 : Option Addr} {H : Heap} {R : Value → Heap → Prop} (h : Try.S40 d1 H R) : CallsH Try.prog 40 #[Value.pointer d1] H R :=
  vcFun_sound Try.tab_ok Try.mixed Try.func40 Try.cal40 (p := Try.p40) (args := [Value.pointer d1]) (Eq.mp (by kernel_rfl : Try.S40 d1 H R = vcFun Try.prog Try.tab Try.f40 Try.p40 [Value.pointer d1] H R) h)

/-- (scumble/tree.work).add -/
def Try.S41 (w1 : Array Value) (H : Heap) (R : Value → Heap → Prop) : Prop :=
 alc H (.cells w1 86) fun b2 H_3 => ∀ J_4 : List Value → Heap → Prop, (∀ l5 : Addr, ∀ H_6 : Heap, (∀ J_7 : List Value → Heap → Prop, (∀ H_8 : Heap, (∀ J_9 : List Value → Heap → Prop, (∀ H_10 : Heap, (∃ v11 : Array Value, v11.size = 21 ∧ rowIn H_10 ⟨b2, 0, none⟩ v11 ∧ CallsH Try.prog 72 #[Value.agg v11] H_10 fun r12 H_13 => ∃ r14 : Option Addr, ∃ r15 : Int, r12 = Value.tuple #[Value.pointer r14, Value.int .i64 r15] ∧ br ((r15 : Int) != (0 : Int))
 (R (Value.int .i64 r15) H_13)
 (∃ root16 : Option Addr, cell H_13 (Addr.add ⟨b2, 0, none⟩ 0) = some (Value.pointer root16) ∧ ∃ a17 : Addr, root16 = some a17 ∧ ∃ Kids18p : Option Addr, ∃ Kids18l : Nat, ∃ Kids18c : Nat, cell H_13 (Addr.add a17 18) = some (Value.slice Kids18p Kids18l Kids18c) ∧ CallsH Try.prog 53 #[Value.slice Kids18p Kids18l Kids18c] H_13 fun r19 H_20 => ∃ n21 : Int, r19 = Value.int .i64 n21 ∧ ∃ v22 : Array Value, v22.size = 21 ∧ rowIn H_20 ⟨b2, 0, none⟩ v22 ∧ ∃ v23 : Array Value, v23.size = 19 ∧ rowIn H_20 l5 v23 ∧ CallsH Try.prog 73 #[Value.agg v22, Value.pointer r14, Value.agg v23] H_20 fun r24 H_25 => ∃ e26 : Int, r24 = Value.int .i64 e26 ∧ br ((e26 : Int) != (0 : Int))
 (R (Value.int .i64 e26) H_25)
 (br (decide ((n21 : Int) ≥ (4096 : Int)))
 (R (Value.int .i64 (31 : Int)) H_25)
 (∃ d27 : Option Addr, cell H_25 (Addr.add ⟨b2, 0, none⟩ 1) = some (Value.pointer d27) ∧ ∃ a28 : Addr, d27 = some a28 ∧ ∃ Next29 : Int, cell H_25 (Addr.add a28 2) = some (Value.int .i64 Next29) ∧ ∃ a30 : Addr, d27 = some a30 ∧ stAt H_25 (Addr.add a30 2) [Value.int .i64 (IntKind.wrap .i64 (Next29 + (1 : Int)))] fun H_31 => R (Value.int .i64 (0 : Int)) H_31)))) → J_9 [] H_10) →
 ∃ Kind32 : Int, cell H_8 (Addr.add l5 1) = some (Value.int .i64 Kind32) ∧ br ((Kind32 : Int) == (0 : Int))
 (∃ W33 : Int, cell H_8 (Addr.add (Addr.add ⟨b2, 0, none⟩ 2) 8) = some (Value.int .i64 W33) ∧ ∃ H_34 : Int, cell H_8 (Addr.add (Addr.add ⟨b2, 0, none⟩ 2) 9) = some (Value.int .i64 H_34) ∧ CallsH Try.prog 13 #[Value.int .i64 W33, Value.int .i64 H_34] H_8 fun r35 H_36 => ∃ r37 : Array Value, ∃ r38 : Int, r35 = Value.tuple #[Value.agg r37, Value.int .i64 r38] ∧ alc H_36 (.cells #[Value.int .i64 0, Value.int .i64 0, Value.int .i64 0, Value.slice none 0 0] 26) fun b39 H_40 => r37.size = 4 ∧ stAt H_40 ⟨b39, 0, none⟩ (Array.toList r37) fun H_41 => br ((r38 : Int) != (0 : Int))
 (R (Value.int .i64 r38) H_41)
 (∃ W42 : Int, cell H_41 (Addr.add ⟨b39, 0, none⟩ 0) = some (Value.int .i64 W42) ∧ ∃ H_43 : Int, cell H_41 (Addr.add ⟨b39, 0, none⟩ 1) = some (Value.int .i64 H_43) ∧ ∃ W44 : Int, cell H_41 (Addr.add ⟨b39, 0, none⟩ 0) = some (Value.int .i64 W44) ∧ ∃ H_45 : Int, cell H_41 (Addr.add ⟨b39, 0, none⟩ 1) = some (Value.int .i64 H_45) ∧ (0 ≤ (IntKind.wrap .i64 (W44 * H_45)) ∧ (IntKind.wrap .i64 (W44 * H_45)) ≤ (IntKind.wrap .i64 (W44 * H_45)) ∧ ((8 : Nat) : Int) * (IntKind.wrap .i64 (W44 * H_45)) ≤ 281474976710656 ∧ (IntKind.wrap .i64 (W44 * H_45)) ≤ 281474976710656 ∧ alc H_41 (.cells (List.toArray (reps (Int.toNat (IntKind.wrap .i64 (W44 * H_45))) (Array.toList #[Value.int .i64 0]))) 3) fun b46 H_47 => (Ext H_41 H_47 ∨ (∃ H_52 : Int, cell H_47 (Addr.add ⟨b39, 0, none⟩ 1) = some (Value.int .i64 H_52) ∧ Value.int .i64 H_52 = Value.int .i64 H_43) ∧ (∃ W53 : Int, cell H_47 (Addr.add ⟨b39, 0, none⟩ 0) = some (Value.int .i64 W53) ∧ Value.int .i64 W53 = Value.int .i64 W42)) ∧ stAt H_47 (Addr.add l5 5) [Value.int .i64 W42] fun H_48 => (Ext H_47 H_48 ∨ (∃ H_51 : Int, cell H_48 (Addr.add ⟨b39, 0, none⟩ 1) = some (Value.int .i64 H_51) ∧ Value.int .i64 H_51 = Value.int .i64 H_43)) ∧ stAt H_48 (Addr.add l5 6) [Value.int .i64 H_43] fun H_49 => stAt H_49 (Addr.add l5 7) [Value.slice (some ⟨b46, 0, none⟩) (Int.toNat (IntKind.wrap .i64 (W44 * H_45))) (Int.toNat (IntKind.wrap .i64 (W44 * H_45)))] fun H_50 => J_9 [] H_50) ∧ (stAt H_41 (Addr.add l5 5) [Value.int .i64 W42] fun H_54 => (Ext H_41 H_54 ∨ (∃ H_66 : Int, cell H_54 (Addr.add ⟨b39, 0, none⟩ 1) = some (Value.int .i64 H_66) ∧ Value.int .i64 H_66 = Value.int .i64 H_45) ∧ (∃ W67 : Int, cell H_54 (Addr.add ⟨b39, 0, none⟩ 0) = some (Value.int .i64 W67) ∧ Value.int .i64 W67 = Value.int .i64 W44) ∧ (∃ H_68 : Int, cell H_54 (Addr.add ⟨b39, 0, none⟩ 1) = some (Value.int .i64 H_68) ∧ Value.int .i64 H_68 = Value.int .i64 H_43)) ∧ (0 ≤ (IntKind.wrap .i64 (W44 * H_45)) ∧ (IntKind.wrap .i64 (W44 * H_45)) ≤ (IntKind.wrap .i64 (W44 * H_45)) ∧ ((8 : Nat) : Int) * (IntKind.wrap .i64 (W44 * H_45)) ≤ 281474976710656 ∧ (IntKind.wrap .i64 (W44 * H_45)) ≤ 281474976710656 ∧ alc H_54 (.cells (List.toArray (reps (Int.toNat (IntKind.wrap .i64 (W44 * H_45))) (Array.toList #[Value.int .i64 0]))) 3) fun b55 H_56 => (Ext H_54 H_56 ∨ (∃ H_59 : Int, cell H_56 (Addr.add ⟨b39, 0, none⟩ 1) = some (Value.int .i64 H_59) ∧ Value.int .i64 H_59 = Value.int .i64 H_43)) ∧ stAt H_56 (Addr.add l5 6) [Value.int .i64 H_43] fun H_57 => stAt H_57 (Addr.add l5 7) [Value.slice (some ⟨b55, 0, none⟩) (Int.toNat (IntKind.wrap .i64 (W44 * H_45))) (Int.toNat (IntKind.wrap .i64 (W44 * H_45)))] fun H_58 => J_9 [] H_58) ∧ (stAt H_54 (Addr.add l5 6) [Value.int .i64 H_43] fun H_60 => (Ext H_54 H_60 ∨ (∃ H_64 : Int, cell H_60 (Addr.add ⟨b39, 0, none⟩ 1) = some (Value.int .i64 H_64) ∧ Value.int .i64 H_64 = Value.int .i64 H_45) ∧ (∃ W65 : Int, cell H_60 (Addr.add ⟨b39, 0, none⟩ 0) = some (Value.int .i64 W65) ∧ Value.int .i64 W65 = Value.int .i64 W44)) ∧ 0 ≤ (IntKind.wrap .i64 (W44 * H_45)) ∧ (IntKind.wrap .i64 (W44 * H_45)) ≤ (IntKind.wrap .i64 (W44 * H_45)) ∧ ((8 : Nat) : Int) * (IntKind.wrap .i64 (W44 * H_45)) ≤ 281474976710656 ∧ (IntKind.wrap .i64 (W44 * H_45)) ≤ 281474976710656 ∧ alc H_60 (.cells (List.toArray (reps (Int.toNat (IntKind.wrap .i64 (W44 * H_45))) (Array.toList #[Value.int .i64 0]))) 3) fun b61 H_62 => stAt H_62 (Addr.add l5 7) [Value.slice (some ⟨b61, 0, none⟩) (Int.toNat (IntKind.wrap .i64 (W44 * H_45))) (Int.toNat (IntKind.wrap .i64 (W44 * H_45)))] fun H_63 => J_9 [] H_63))))
 (J_9 [] H_8)) → J_7 [] H_8) →
 ∃ Kind69 : Int, cell H_6 (Addr.add l5 1) = some (Value.int .i64 Kind69) ∧ br (decide ((Kind69 : Int) < (0 : Int))) (R (Value.int .i64 (41 : Int)) H_6) (∃ Kind70 : Int, cell H_6 (Addr.add l5 1) = some (Value.int .i64 Kind70) ∧ br (decide ((Kind70 : Int) > (2 : Int)))
 (R (Value.int .i64 (41 : Int)) H_6)
 (J_7 [] H_6))) → J_4 [Value.pointer (some l5)] H_6) →
 ∃ d71 : Option Addr, cell H_3 (Addr.add ⟨b2, 0, none⟩ 1) = some (Value.pointer d71) ∧ ∃ a72 : Addr, d71 = some a72 ∧ ∃ Next73 : Int, cell H_3 (Addr.add a72 2) = some (Value.int .i64 Next73) ∧ ∃ N74 : Int, cell H_3 (Addr.add (Addr.add ⟨b2, 0, none⟩ 2) 4) = some (Value.int .i64 N74) ∧ (CallsH Try.prog 71 #[] H_3 fun r75 H_76 => ∃ r77 : Array Value, r75 = Value.agg r77 ∧ (Ext H_3 H_76 ∨ (∃ N84 : Int, cell H_76 (Addr.add (Addr.add ⟨b2, 0, none⟩ 2) 4) = some (Value.int .i64 N84) ∧ Value.int .i64 N84 = Value.int .i64 N74) ∧ (∃ Next85 : Int, cell H_76 (Addr.add a72 2) = some (Value.int .i64 Next85) ∧ Value.int .i64 Next85 = Value.int .i64 Next73) ∧ (∃ d86 : Option Addr, cell H_76 (Addr.add ⟨b2, 0, none⟩ 1) = some (Value.pointer d86) ∧ Value.pointer d86 = Value.pointer d71)) ∧ r77.size = 6 ∧ 9 + 6 ≤ 19 ∧ alc H_76 (.cells #[Value.int .i64 0, Value.int .i64 0, Value.bool false, Value.int .i64 0, Value.int .i64 0, Value.int .i64 0, Value.int .i64 0, Value.slice none 0 0, Value.slice none 0 0, Value.int .i64 0, Value.int .i64 0, Value.int .i64 0, Value.int .i64 0, Value.int .i64 0, Value.int .i64 0, Value.bool false, Value.int .i64 0, Value.slice none 0 0, Value.slice none 0 0] 58) fun b78 H_79 => (Ext H_76 H_79 ∨ (∃ N81 : Int, cell H_79 (Addr.add (Addr.add ⟨b2, 0, none⟩ 2) 4) = some (Value.int .i64 N81) ∧ Value.int .i64 N81 = Value.int .i64 N74) ∧ (∃ Next82 : Int, cell H_79 (Addr.add a72 2) = some (Value.int .i64 Next82) ∧ Value.int .i64 Next82 = Value.int .i64 Next73) ∧ (∃ d83 : Option Addr, cell H_79 (Addr.add ⟨b2, 0, none⟩ 1) = some (Value.pointer d83) ∧ Value.pointer d83 = Value.pointer d71)) ∧ (List.toArray (List.set (setL [Value.int .i64 Next73, Value.int .i64 N74, Value.bool false, Value.int .i64 (255 : Int), Value.int .i64 0, Value.int .i64 0, Value.int .i64 0, Value.slice none 0 0, Value.slice none 0 0, Value.int .i64 0, Value.int .i64 0, Value.int .i64 0, Value.int .i64 0, Value.int .i64 0, Value.int .i64 0, Value.bool false, Value.int .i64 0, Value.slice none 0 0, Value.slice none 0 0] 9 (Array.toList r77)) 16 (Value.int .i64 (2 : Int)))).size = 19 ∧ stAt H_79 ⟨b78, 0, none⟩ (Array.toList (List.toArray (List.set (setL [Value.int .i64 Next73, Value.int .i64 N74, Value.bool false, Value.int .i64 (255 : Int), Value.int .i64 0, Value.int .i64 0, Value.int .i64 0, Value.slice none 0 0, Value.slice none 0 0, Value.int .i64 0, Value.int .i64 0, Value.int .i64 0, Value.int .i64 0, Value.int .i64 0, Value.int .i64 0, Value.bool false, Value.int .i64 0, Value.slice none 0 0, Value.slice none 0 0] 9 (Array.toList r77)) 16 (Value.int .i64 (2 : Int))))) fun H_80 => J_4 [Value.pointer (some ⟨b78, 0, none⟩)] H_80) ∧ (alc H_3 (.cells #[Value.int .i64 0, Value.int .i64 0, Value.bool false, Value.int .i64 0, Value.int .i64 0, Value.int .i64 0, Value.int .i64 0, Value.slice none 0 0, Value.slice none 0 0, Value.int .i64 0, Value.int .i64 0, Value.int .i64 0, Value.int .i64 0, Value.int .i64 0, Value.int .i64 0, Value.bool false, Value.int .i64 0, Value.slice none 0 0, Value.slice none 0 0] 58) fun b87 H_88 => (Ext H_3 H_88 ∨ (∃ N96 : Int, cell H_88 (Addr.add (Addr.add ⟨b2, 0, none⟩ 2) 4) = some (Value.int .i64 N96) ∧ Value.int .i64 N96 = Value.int .i64 N74) ∧ (∃ Next97 : Int, cell H_88 (Addr.add a72 2) = some (Value.int .i64 Next97) ∧ Value.int .i64 Next97 = Value.int .i64 Next73) ∧ (∃ d98 : Option Addr, cell H_88 (Addr.add ⟨b2, 0, none⟩ 1) = some (Value.pointer d98) ∧ Value.pointer d98 = Value.pointer d71)) ∧ CallsH Try.prog 71 #[] H_88 fun r89 H_90 => ∃ r91 : Array Value, r89 = Value.agg r91 ∧ (Ext H_88 H_90 ∨ (∃ N93 : Int, cell H_90 (Addr.add (Addr.add ⟨b2, 0, none⟩ 2) 4) = some (Value.int .i64 N93) ∧ Value.int .i64 N93 = Value.int .i64 N74) ∧ (∃ Next94 : Int, cell H_90 (Addr.add a72 2) = some (Value.int .i64 Next94) ∧ Value.int .i64 Next94 = Value.int .i64 Next73) ∧ (∃ d95 : Option Addr, cell H_90 (Addr.add ⟨b2, 0, none⟩ 1) = some (Value.pointer d95) ∧ Value.pointer d95 = Value.pointer d71)) ∧ r91.size = 6 ∧ 9 + 6 ≤ 19 ∧ (List.toArray (List.set (setL [Value.int .i64 Next73, Value.int .i64 N74, Value.bool false, Value.int .i64 (255 : Int), Value.int .i64 0, Value.int .i64 0, Value.int .i64 0, Value.slice none 0 0, Value.slice none 0 0, Value.int .i64 0, Value.int .i64 0, Value.int .i64 0, Value.int .i64 0, Value.int .i64 0, Value.int .i64 0, Value.bool false, Value.int .i64 0, Value.slice none 0 0, Value.slice none 0 0] 9 (Array.toList r91)) 16 (Value.int .i64 (2 : Int)))).size = 19 ∧ stAt H_90 ⟨b87, 0, none⟩ (Array.toList (List.toArray (List.set (setL [Value.int .i64 Next73, Value.int .i64 N74, Value.bool false, Value.int .i64 (255 : Int), Value.int .i64 0, Value.int .i64 0, Value.int .i64 0, Value.slice none 0 0, Value.slice none 0 0, Value.int .i64 0, Value.int .i64 0, Value.int .i64 0, Value.int .i64 0, Value.int .i64 0, Value.int .i64 0, Value.bool false, Value.int .i64 0, Value.slice none 0 0, Value.slice none 0 0] 9 (Array.toList r91)) 16 (Value.int .i64 (2 : Int))))) fun H_92 => J_4 [Value.pointer (some ⟨b87, 0, none⟩)] H_92)
def Try.p41 : Plan := (Plan.two Plan.leaf (Plan.two (Plan.join [(3, 999999)] [1] Plan.leaf) (Plan.two (Plan.join [] [1, 3] (Plan.two Plan.leaf (Plan.two (Plan.two Plan.leaf Plan.leaf) Plan.leaf))) (Plan.two (Plan.join [] [1, 3] (Plan.two Plan.leaf (Plan.two (Plan.two Plan.leaf (Plan.two (Plan.two Plan.leaf (Plan.two (Plan.two Plan.leaf Plan.leaf) Plan.leaf)) Plan.leaf)) Plan.leaf))) (Plan.two Plan.leaf (Plan.two (Plan.two Plan.leaf (Plan.two (Plan.two Plan.leaf Plan.leaf) Plan.leaf)) (Plan.two Plan.leaf (Plan.two (Plan.two Plan.leaf (Plan.two Plan.leaf (Plan.two (Plan.two Plan.leaf Plan.leaf) Plan.leaf))) (Plan.two (Plan.two Plan.leaf (Plan.two (Plan.two Plan.leaf Plan.leaf) Plan.leaf)) (Plan.two Plan.leaf (Plan.two Plan.leaf Plan.leaf)))))))))))
theorem Try.s41 {w1 : Array Value} {H : Heap} {R : Value → Heap → Prop} (h : Try.S41 w1 H R) : CallsH Try.prog 41 #[Value.agg w1] H R :=
  vcFun_sound Try.tab_ok Try.mixed Try.func41 Try.cal41 (p := Try.p41) (args := [Value.agg w1]) (Eq.mp (by kernel_rfl : Try.S41 w1 H R = vcFun Try.prog Try.tab Try.f41 Try.p41 [Value.agg w1] H R) h)

/-- (scumble/tree.work).remove -/
def Try.S42 (w1 : Array Value) (H : Heap) (R : Value → Heap → Prop) : Prop :=
 alc H (.cells w1 86) fun b2 H_3 => ∃ root4 : Option Addr, cell H_3 (Addr.add ⟨b2, 0, none⟩ 0) = some (Value.pointer root4) ∧ ∃ ID5 : Int, cell H_3 (Addr.add (Addr.add ⟨b2, 0, none⟩ 2) 1) = some (Value.int .i64 ID5) ∧ CallsH Try.prog 51 #[Value.pointer root4, Value.int .i64 ID5] H_3 fun r6 H_7 => ∃ r8 : Option Addr, ∃ r9 : Option Addr, ∃ r10 : Int, r6 = Value.tuple #[Value.pointer r8, Value.pointer r9, Value.int .i64 r10] ∧ br (Option.isNone r8)
 (R (Value.int .i64 (40 : Int)) H_7)
 (∃ a11 : Addr, r9 = some a11 ∧ ∃ Kids12p : Option Addr, ∃ Kids12l : Nat, ∃ Kids12c : Nat, cell H_7 (Addr.add a11 18) = some (Value.slice Kids12p Kids12l Kids12c) ∧ CallsH Try.prog 74 #[Value.slice Kids12p Kids12l Kids12c, Value.int .i64 r10, Value.int .i64 (IntKind.wrap .i64 (r10 + (1 : Int)))] H_7 fun r13 H_14 => ∃ r15p : Option Addr, ∃ r15l : Nat, ∃ r15c : Nat, r13 = Value.slice r15p r15l r15c ∧ ∃ a16 : Addr, r9 = some a16 ∧ stAt H_14 (Addr.add a16 18) [Value.slice r15p r15l r15c] fun H_17 => R (Value.int .i64 (0 : Int)) H_17)
def Try.p42 : Plan := (Plan.two Plan.leaf (Plan.two Plan.leaf (Plan.two (Plan.two Plan.leaf (Plan.two (Plan.two Plan.leaf Plan.leaf) Plan.leaf)) (Plan.two Plan.leaf (Plan.two Plan.leaf Plan.leaf)))))
theorem Try.s42 {w1 : Array Value} {H : Heap} {R : Value → Heap → Prop} (h : Try.S42 w1 H R) : CallsH Try.prog 42 #[Value.agg w1] H R :=
  vcFun_sound Try.tab_ok Try.mixed Try.func42 Try.cal42 (p := Try.p42) (args := [Value.agg w1]) (Eq.mp (by kernel_rfl : Try.S42 w1 H R = vcFun Try.prog Try.tab Try.f42 Try.p42 [Value.agg w1] H R) h)

/-- (scumble/tree.work).move -/
def Try.S43 (w1 : Array Value) (H : Heap) (R : Value → Heap → Prop) : Prop :=
 alc H (.cells w1 86) fun b2 H_3 => ∃ root4 : Option Addr, cell H_3 (Addr.add ⟨b2, 0, none⟩ 0) = some (Value.pointer root4) ∧ ∃ ID5 : Int, cell H_3 (Addr.add (Addr.add ⟨b2, 0, none⟩ 2) 1) = some (Value.int .i64 ID5) ∧ CallsH Try.prog 51 #[Value.pointer root4, Value.int .i64 ID5] H_3 fun r6 H_7 => ∃ r8 : Option Addr, ∃ r9 : Option Addr, ∃ r10 : Int, r6 = Value.tuple #[Value.pointer r8, Value.pointer r9, Value.int .i64 r10] ∧ br (Option.isNone r8)
 (R (Value.int .i64 (40 : Int)) H_7)
 (∃ v11 : Array Value, v11.size = 21 ∧ rowIn H_7 ⟨b2, 0, none⟩ v11 ∧ CallsH Try.prog 72 #[Value.agg v11] H_7 fun r12 H_13 => ∃ r14 : Option Addr, ∃ r15 : Int, r12 = Value.tuple #[Value.pointer r14, Value.int .i64 r15] ∧ br ((r15 : Int) != (0 : Int))
 (R (Value.int .i64 r15) H_13)
 (∀ J_16 : List Value → Heap → Prop, (∀ H_17 : Heap, (∃ a18 : Addr, r8 = some a18 ∧ ∃ v19 : Array Value, v19.size = 19 ∧ rowIn H_17 a18 v19 ∧ alc H_17 (.cells #[Value.int .i64 0, Value.int .i64 0, Value.bool false, Value.int .i64 0, Value.int .i64 0, Value.int .i64 0, Value.int .i64 0, Value.slice none 0 0, Value.slice none 0 0, Value.int .i64 0, Value.int .i64 0, Value.int .i64 0, Value.int .i64 0, Value.int .i64 0, Value.int .i64 0, Value.bool false, Value.int .i64 0, Value.slice none 0 0, Value.slice none 0 0] 58) fun b20 H_21 => v19.size = 19 ∧ stAt H_21 ⟨b20, 0, none⟩ (Array.toList v19) fun H_22 => ∃ v23 : Array Value, v23.size = 21 ∧ rowIn H_22 ⟨b2, 0, none⟩ v23 ∧ CallsH Try.prog 42 #[Value.agg v23] H_22 fun r24 H_25 => ∃ r26 : Int, r24 = Value.int .i64 r26 ∧ ∃ v27 : Array Value, v27.size = 21 ∧ rowIn H_25 ⟨b2, 0, none⟩ v27 ∧ CallsH Try.prog 72 #[Value.agg v27] H_25 fun r28 H_29 => ∃ r30 : Option Addr, ∃ r31 : Int, r28 = Value.tuple #[Value.pointer r30, Value.int .i64 r31] ∧ br ((r31 : Int) != (0 : Int))
 (R (Value.int .i64 r31) H_29)
 (∃ v32 : Array Value, v32.size = 21 ∧ rowIn H_29 ⟨b2, 0, none⟩ v32 ∧ ∃ v33 : Array Value, v33.size = 19 ∧ rowIn H_29 ⟨b20, 0, none⟩ v33 ∧ CallsH Try.prog 73 #[Value.agg v32, Value.pointer r30, Value.agg v33] H_29 fun r34 H_35 => ∃ r36 : Int, r34 = Value.int .i64 r36 ∧ R (Value.int .i64 r36) H_35)) → J_16 [] H_17) →
 ∃ To37 : Int, cell H_13 (Addr.add (Addr.add ⟨b2, 0, none⟩ 2) 2) = some (Value.int .i64 To37) ∧ CallsH Try.prog 51 #[Value.pointer r8, Value.int .i64 To37] H_13 fun r38 H_39 => ∃ r40 : Option Addr, ∃ r41 : Option Addr, ∃ r42 : Int, r38 = Value.tuple #[Value.pointer r40, Value.pointer r41, Value.int .i64 r42] ∧ ∃ To43 : Int, cell H_39 (Addr.add (Addr.add ⟨b2, 0, none⟩ 2) 2) = some (Value.int .i64 To43) ∧ ∃ ID44 : Int, cell H_39 (Addr.add (Addr.add ⟨b2, 0, none⟩ 2) 1) = some (Value.int .i64 ID44) ∧ br ((To43 : Int) == ID44) (R (Value.int .i64 (42 : Int)) H_39) (br (!(Option.isNone r40))
 (R (Value.int .i64 (42 : Int)) H_39)
 (J_16 [] H_39))))
def Try.p43 : Plan := (Plan.two Plan.leaf (Plan.two Plan.leaf (Plan.two (Plan.two Plan.leaf (Plan.two (Plan.two Plan.leaf Plan.leaf) Plan.leaf)) (Plan.two Plan.leaf (Plan.two (Plan.two Plan.leaf (Plan.two (Plan.two Plan.leaf Plan.leaf) Plan.leaf)) (Plan.two (Plan.join [] [1, 3] (Plan.two Plan.leaf (Plan.two Plan.leaf (Plan.two (Plan.two Plan.leaf Plan.leaf) Plan.leaf)))) (Plan.two Plan.leaf (Plan.two Plan.leaf (Plan.two (Plan.two Plan.leaf (Plan.two Plan.leaf (Plan.two (Plan.two Plan.leaf Plan.leaf) Plan.leaf))) (Plan.two Plan.leaf Plan.leaf))))))))))
theorem Try.s43 {w1 : Array Value} {H : Heap} {R : Value → Heap → Prop} (h : Try.S43 w1 H R) : CallsH Try.prog 43 #[Value.agg w1] H R :=
  vcFun_sound Try.tab_ok Try.mixed Try.func43 Try.cal43 (p := Try.p43) (args := [Value.agg w1]) (Eq.mp (by kernel_rfl : Try.S43 w1 H R = vcFun Try.prog Try.tab Try.f43 Try.p43 [Value.agg w1] H R) h)

/-- (scumble/tree.work).paint -/
def Try.S44 (w1 : Array Value) (H : Heap) (R : Value → Heap → Prop) : Prop :=
 alc H (.cells w1 86) fun b2 H_3 => ∃ v4 : Array Value, v4.size = 21 ∧ rowIn H_3 ⟨b2, 0, none⟩ v4 ∧ CallsH Try.prog 75 #[Value.agg v4] H_3 fun r5 H_6 => ∃ r7 : Option Addr, ∃ r8 : Int, r5 = Value.tuple #[Value.pointer r7, Value.int .i64 r8] ∧ ∀ J_9 : List Value → Heap → Prop, (∀ H_10 : Heap, (∃ P_11p : Option Addr, ∃ P_11l : Nat, ∃ P_11c : Nat, cell H_10 (Addr.add (Addr.add ⟨b2, 0, none⟩ 2) 10) = some (Value.slice P_11p P_11l P_11c) ∧ CallsH Try.prog 76 #[Value.slice P_11p P_11l P_11c, Value.func (.func 77) #[] #[]] H_10 fun r12 H_13 => ∃ r14 : Bool, r12 = Value.bool r14 ∧ br r14
 (R (Value.int .i64 (25 : Int)) H_13)
 (∀ J_15 : List Value → Heap → Prop, (∀ H_16 : Heap, (∃ P_17p : Option Addr, ∃ P_17l : Nat, ∃ P_17c : Nat, cell H_16 (Addr.add (Addr.add ⟨b2, 0, none⟩ 2) 10) = some (Value.slice P_17p P_17l P_17c) ∧ ∀ X_18 : List Value → Heap → Prop, (∀ i19 : Int, ∀ H_20 : Heap, (br (decide ((i19 : Int) < ((P_17l : Nat) : Int)))
 (∀ J_21 : List Value → Heap → Prop, (∀ H_22 : Heap, (X_18 [Value.int .i64 (IntKind.wrap .i64 (i19 + (1 : Int)))] H_22) → J_21 [] H_22) →
 ∃ a23 : Addr, P_17p = some a23 ∧ 0 ≤ i19 ∧ i19 < ((P_17l : Nat) : Int) ∧ ∃ v24 : Int, cell H_20 (Addr.add a23 (Int.toNat i19 * 1)) = some (Value.int .i64 v24) ∧ ∃ X_25 : Int, cell H_20 (Addr.add (Addr.add ⟨b2, 0, none⟩ 2) 6) = some (Value.int .i64 X_25) ∧ ∃ W26 : Int, cell H_20 (Addr.add (Addr.add ⟨b2, 0, none⟩ 2) 8) = some (Value.int .i64 W26) ∧ W26 ≠ 0 ∧ ∃ Y27 : Int, cell H_20 (Addr.add (Addr.add ⟨b2, 0, none⟩ 2) 7) = some (Value.int .i64 Y27) ∧ ∃ W28 : Int, cell H_20 (Addr.add (Addr.add ⟨b2, 0, none⟩ 2) 8) = some (Value.int .i64 W28) ∧ W28 ≠ 0 ∧ br (decide (((IntKind.wrap .i64 (X_25 + (Int.tmod i19 W26))) : Int) ≥ (0 : Int))) (∃ a29 : Addr, r7 = some a29 ∧ ∃ W30 : Int, cell H_20 (Addr.add a29 5) = some (Value.int .i64 W30) ∧ br (decide (((IntKind.wrap .i64 (X_25 + (Int.tmod i19 W26))) : Int) < W30)) (br (decide (((IntKind.wrap .i64 (Y27 + (IntKind.wrap .i64 (Int.tdiv i19 W28)))) : Int) ≥ (0 : Int))) (∃ a31 : Addr, r7 = some a31 ∧ ∃ H_32 : Int, cell H_20 (Addr.add a31 6) = some (Value.int .i64 H_32) ∧ br (decide (((IntKind.wrap .i64 (Y27 + (IntKind.wrap .i64 (Int.tdiv i19 W28)))) : Int) < H_32))
 (∃ a33 : Addr, r7 = some a33 ∧ ∃ P_34p : Option Addr, ∃ P_34l : Nat, ∃ P_34c : Nat, cell H_20 (Addr.add a33 7) = some (Value.slice P_34p P_34l P_34c) ∧ ∃ a35 : Addr, r7 = some a35 ∧ ∃ W36 : Int, cell H_20 (Addr.add a35 5) = some (Value.int .i64 W36) ∧ ∃ a37 : Addr, P_34p = some a37 ∧ 0 ≤ (IntKind.wrap .i64 ((IntKind.wrap .i64 ((IntKind.wrap .i64 (Y27 + (IntKind.wrap .i64 (Int.tdiv i19 W28)))) * W36)) + (IntKind.wrap .i64 (X_25 + (Int.tmod i19 W26))))) ∧ (IntKind.wrap .i64 ((IntKind.wrap .i64 ((IntKind.wrap .i64 (Y27 + (IntKind.wrap .i64 (Int.tdiv i19 W28)))) * W36)) + (IntKind.wrap .i64 (X_25 + (Int.tmod i19 W26))))) < ((P_34l : Nat) : Int) ∧ stAt H_20 (Addr.add a37 (Int.toNat (IntKind.wrap .i64 ((IntKind.wrap .i64 ((IntKind.wrap .i64 (Y27 + (IntKind.wrap .i64 (Int.tdiv i19 W28)))) * W36)) + (IntKind.wrap .i64 (X_25 + (Int.tmod i19 W26))))) * 1)) [Value.int .i64 v24] fun H_38 => J_21 [] H_38)
 (J_21 [] H_20)) (J_21 [] H_20)) (J_21 [] H_20)) (J_21 [] H_20))
 (R (Value.int .i64 (0 : Int)) H_20)) → X_18 [Value.int .i64 i19] H_20) → X_18 [Value.int .i64 (0 : Int)] H_16) → J_15 [] H_16) →
 ∃ X_39 : Int, cell H_13 (Addr.add (Addr.add ⟨b2, 0, none⟩ 2) 6) = some (Value.int .i64 X_39) ∧ br (decide ((X_39 : Int) < (-32768 : Int))) (R (Value.int .i64 (31 : Int)) H_13) (∃ X_40 : Int, cell H_13 (Addr.add (Addr.add ⟨b2, 0, none⟩ 2) 6) = some (Value.int .i64 X_40) ∧ br (decide ((X_40 : Int) > (32768 : Int))) (R (Value.int .i64 (31 : Int)) H_13) (∃ Y41 : Int, cell H_13 (Addr.add (Addr.add ⟨b2, 0, none⟩ 2) 7) = some (Value.int .i64 Y41) ∧ br (decide ((Y41 : Int) < (-32768 : Int))) (R (Value.int .i64 (31 : Int)) H_13) (∃ Y42 : Int, cell H_13 (Addr.add (Addr.add ⟨b2, 0, none⟩ 2) 7) = some (Value.int .i64 Y42) ∧ br (decide ((Y42 : Int) > (32768 : Int)))
 (R (Value.int .i64 (31 : Int)) H_13)
 (J_15 [] H_13)))))) → J_9 [] H_10) →
 br ((r8 : Int) != (0 : Int))
 (R (Value.int .i64 r8) H_6)
 (∃ a43 : Addr, r7 = some a43 ∧ ∃ Kind44 : Int, cell H_6 (Addr.add a43 1) = some (Value.int .i64 Kind44) ∧ br ((Kind44 : Int) != (0 : Int))
 (R (Value.int .i64 (41 : Int)) H_6)
 (∃ W45 : Int, cell H_6 (Addr.add (Addr.add ⟨b2, 0, none⟩ 2) 8) = some (Value.int .i64 W45) ∧ br (decide ((W45 : Int) < (1 : Int))) (R (Value.int .i64 (25 : Int)) H_6) (∃ H_46 : Int, cell H_6 (Addr.add (Addr.add ⟨b2, 0, none⟩ 2) 9) = some (Value.int .i64 H_46) ∧ br (decide ((H_46 : Int) < (1 : Int))) (R (Value.int .i64 (25 : Int)) H_6) (∃ W47 : Int, cell H_6 (Addr.add (Addr.add ⟨b2, 0, none⟩ 2) 8) = some (Value.int .i64 W47) ∧ br (decide ((W47 : Int) > (32768 : Int))) (R (Value.int .i64 (25 : Int)) H_6) (∃ H_48 : Int, cell H_6 (Addr.add (Addr.add ⟨b2, 0, none⟩ 2) 9) = some (Value.int .i64 H_48) ∧ br (decide ((H_48 : Int) > (32768 : Int))) (R (Value.int .i64 (25 : Int)) H_6) (∃ P_49p : Option Addr, ∃ P_49l : Nat, ∃ P_49c : Nat, cell H_6 (Addr.add (Addr.add ⟨b2, 0, none⟩ 2) 10) = some (Value.slice P_49p P_49l P_49c) ∧ ∃ W50 : Int, cell H_6 (Addr.add (Addr.add ⟨b2, 0, none⟩ 2) 8) = some (Value.int .i64 W50) ∧ ∃ H_51 : Int, cell H_6 (Addr.add (Addr.add ⟨b2, 0, none⟩ 2) 9) = some (Value.int .i64 H_51) ∧ br ((((P_49l : Nat) : Int) : Int) != (IntKind.wrap .i64 (W50 * H_51)))
 (R (Value.int .i64 (25 : Int)) H_6)
 (J_9 [] H_6)))))))
def Try.p44 : Plan := (Plan.two Plan.leaf (Plan.two Plan.leaf (Plan.two (Plan.join [] [1, 3] (Plan.one (Plan.two Plan.leaf (Plan.two (Plan.two Plan.leaf Plan.leaf) (Plan.two Plan.leaf (Plan.two (Plan.two Plan.leaf Plan.leaf) (Plan.two Plan.leaf (Plan.two (Plan.two Plan.leaf Plan.leaf) Plan.leaf)))))))) (Plan.two (Plan.two Plan.leaf (Plan.two (Plan.two Plan.leaf Plan.leaf) Plan.leaf)) (Plan.two (Plan.join [] [1, 3] (Plan.two Plan.leaf (Plan.two (Plan.two Plan.leaf Plan.leaf) Plan.leaf))) (Plan.two (Plan.two Plan.leaf (Plan.one (Plan.loop [(91, 3)] [1, 3, 89, 90] (Plan.two Plan.leaf (Plan.two (Plan.two Plan.leaf Plan.leaf) (Plan.two (Plan.join [] [1, 3, 89, 90, 91] (Plan.one (Plan.two Plan.leaf (Plan.two Plan.leaf (Plan.two Plan.leaf (Plan.two Plan.leaf Plan.leaf)))))) Plan.leaf)))))) (Plan.two Plan.leaf Plan.leaf)))))))
theorem Try.s44 {w1 : Array Value} {H : Heap} {R : Value → Heap → Prop} (h : Try.S44 w1 H R) : CallsH Try.prog 44 #[Value.agg w1] H R :=
  vcFun_sound Try.tab_ok Try.mixed Try.func44 Try.cal44 (p := Try.p44) (args := [Value.agg w1]) (Eq.mp (by kernel_rfl : Try.S44 w1 H R = vcFun Try.prog Try.tab Try.f44 Try.p44 [Value.agg w1] H R) h)

/-- (scumble/tree.work).look -/
def Try.S45 (w1 : Array Value) (H : Heap) (R : Value → Heap → Prop) : Prop :=
 alc H (.cells w1 86) fun b2 H_3 => ∃ v4 : Array Value, v4.size = 21 ∧ rowIn H_3 ⟨b2, 0, none⟩ v4 ∧ CallsH Try.prog 75 #[Value.agg v4] H_3 fun r5 H_6 => ∃ r7 : Option Addr, ∃ r8 : Int, r5 = Value.tuple #[Value.pointer r7, Value.int .i64 r8] ∧ ∀ J_9 : List Value → Heap → Prop, (∀ H_10 : Heap, (∃ N11 : Int, cell H_10 (Addr.add (Addr.add ⟨b2, 0, none⟩ 2) 4) = some (Value.int .i64 N11) ∧ ∃ M12 : Int, cell H_10 (Addr.add (Addr.add ⟨b2, 0, none⟩ 2) 5) = some (Value.int .i64 M12) ∧ ∃ a13 : Addr, r7 = some a13 ∧ stAt H_10 (Addr.add a13 3) [Value.int .i64 N11] fun H_14 => (Ext H_10 H_14 ∨ (∃ M17 : Int, cell H_14 (Addr.add (Addr.add ⟨b2, 0, none⟩ 2) 5) = some (Value.int .i64 M17) ∧ Value.int .i64 M17 = Value.int .i64 M12)) ∧ ∃ a15 : Addr, r7 = some a15 ∧ stAt H_14 (Addr.add a15 4) [Value.int .i64 M12] fun H_16 => R (Value.int .i64 (0 : Int)) H_16) → J_9 [] H_10) →
 br ((r8 : Int) != (0 : Int))
 (R (Value.int .i64 r8) H_6)
 (∃ N18 : Int, cell H_6 (Addr.add (Addr.add ⟨b2, 0, none⟩ 2) 4) = some (Value.int .i64 N18) ∧ br (decide ((N18 : Int) < (0 : Int))) (R (Value.int .i64 (32 : Int)) H_6) (∃ N19 : Int, cell H_6 (Addr.add (Addr.add ⟨b2, 0, none⟩ 2) 4) = some (Value.int .i64 N19) ∧ br (decide ((N19 : Int) > (255 : Int))) (R (Value.int .i64 (32 : Int)) H_6) (∃ M20 : Int, cell H_6 (Addr.add (Addr.add ⟨b2, 0, none⟩ 2) 5) = some (Value.int .i64 M20) ∧ br (decide ((M20 : Int) < (0 : Int))) (R (Value.int .i64 (32 : Int)) H_6) (∃ M21 : Int, cell H_6 (Addr.add (Addr.add ⟨b2, 0, none⟩ 2) 5) = some (Value.int .i64 M21) ∧ br (decide ((M21 : Int) > (11 : Int)))
 (R (Value.int .i64 (32 : Int)) H_6)
 (∃ a22 : Addr, r7 = some a22 ∧ ∃ Kind23 : Int, cell H_6 (Addr.add a22 1) = some (Value.int .i64 Kind23) ∧ br ((Kind23 : Int) == (2 : Int)) (∃ M24 : Int, cell H_6 (Addr.add (Addr.add ⟨b2, 0, none⟩ 2) 5) = some (Value.int .i64 M24) ∧ br ((M24 : Int) != (0 : Int))
 (R (Value.int .i64 (41 : Int)) H_6)
 (J_9 [] H_6)) (J_9 [] H_6))))))
def Try.p45 : Plan := (Plan.two Plan.leaf (Plan.two Plan.leaf (Plan.two (Plan.join [] [1, 3] (Plan.one (Plan.two Plan.leaf (Plan.two (Plan.two Plan.leaf Plan.leaf) (Plan.two Plan.leaf (Plan.two (Plan.two Plan.leaf Plan.leaf) (Plan.two Plan.leaf (Plan.two (Plan.two Plan.leaf Plan.leaf) Plan.leaf)))))))) (Plan.two Plan.leaf (Plan.two Plan.leaf Plan.leaf)))))
theorem Try.s45 {w1 : Array Value} {H : Heap} {R : Value → Heap → Prop} (h : Try.S45 w1 H R) : CallsH Try.prog 45 #[Value.agg w1] H R :=
  vcFun_sound Try.tab_ok Try.mixed Try.func45 Try.cal45 (p := Try.p45) (args := [Value.agg w1]) (Eq.mp (by kernel_rfl : Try.S45 w1 H R = vcFun Try.prog Try.tab Try.f45 Try.p45 [Value.agg w1] H R) h)

/-- (scumble/tree.work).hide -/
def Try.S46 (w1 : Array Value) (H : Heap) (R : Value → Heap → Prop) : Prop :=
 alc H (.cells w1 86) fun b2 H_3 => ∃ v4 : Array Value, v4.size = 21 ∧ rowIn H_3 ⟨b2, 0, none⟩ v4 ∧ CallsH Try.prog 75 #[Value.agg v4] H_3 fun r5 H_6 => ∃ r7 : Option Addr, ∃ r8 : Int, r5 = Value.tuple #[Value.pointer r7, Value.int .i64 r8] ∧ ∀ J_9 : List Value → Heap → Prop, (∀ H_10 : Heap, (∃ N11 : Int, cell H_10 (Addr.add (Addr.add ⟨b2, 0, none⟩ 2) 4) = some (Value.int .i64 N11) ∧ ∃ a12 : Addr, r7 = some a12 ∧ stAt H_10 (Addr.add a12 2) [Value.bool ((N11 : Int) == (1 : Int))] fun H_13 => R (Value.int .i64 (0 : Int)) H_13) → J_9 [] H_10) →
 br ((r8 : Int) != (0 : Int))
 (R (Value.int .i64 r8) H_6)
 (∃ N14 : Int, cell H_6 (Addr.add (Addr.add ⟨b2, 0, none⟩ 2) 4) = some (Value.int .i64 N14) ∧ br ((N14 : Int) != (0 : Int)) (∃ N15 : Int, cell H_6 (Addr.add (Addr.add ⟨b2, 0, none⟩ 2) 4) = some (Value.int .i64 N15) ∧ br ((N15 : Int) != (1 : Int))
 (R (Value.int .i64 (32 : Int)) H_6)
 (J_9 [] H_6)) (J_9 [] H_6))
def Try.p46 : Plan := (Plan.two Plan.leaf (Plan.two Plan.leaf (Plan.two (Plan.join [] [1, 3] (Plan.one (Plan.two Plan.leaf (Plan.two (Plan.two Plan.leaf Plan.leaf) (Plan.two Plan.leaf (Plan.two (Plan.two Plan.leaf Plan.leaf) Plan.leaf)))))) (Plan.two Plan.leaf (Plan.two Plan.leaf Plan.leaf)))))
theorem Try.s46 {w1 : Array Value} {H : Heap} {R : Value → Heap → Prop} (h : Try.S46 w1 H R) : CallsH Try.prog 46 #[Value.agg w1] H R :=
  vcFun_sound Try.tab_ok Try.mixed Try.func46 Try.cal46 (p := Try.p46) (args := [Value.agg w1]) (Eq.mp (by kernel_rfl : Try.S46 w1 H R = vcFun Try.prog Try.tab Try.f46 Try.p46 [Value.agg w1] H R) h)

/-- (scumble/tree.work).mask -/
def Try.S47 (w1 : Array Value) (H : Heap) (R : Value → Heap → Prop) : Prop :=
 alc H (.cells w1 86) fun b2 H_3 => ∃ v4 : Array Value, v4.size = 21 ∧ rowIn H_3 ⟨b2, 0, none⟩ v4 ∧ CallsH Try.prog 75 #[Value.agg v4] H_3 fun r5 H_6 => ∃ r7 : Option Addr, ∃ r8 : Int, r5 = Value.tuple #[Value.pointer r7, Value.int .i64 r8] ∧ ∀ J_9 : List Value → Heap → Prop, (∀ H_10 : Heap, (∃ Shape11p : Option Addr, ∃ Shape11l : Nat, ∃ Shape11c : Nat, cell H_10 (Addr.add (Addr.add ⟨b2, 0, none⟩ 2) 11) = some (Value.slice Shape11p Shape11l Shape11c) ∧ ∃ d12 : Option Addr, cell H_10 (Addr.add ⟨b2, 0, none⟩ 1) = some (Value.pointer d12) ∧ ∃ a13 : Addr, d12 = some a13 ∧ ∃ W14 : Int, cell H_10 (Addr.add a13 0) = some (Value.int .i64 W14) ∧ ∃ d15 : Option Addr, cell H_10 (Addr.add ⟨b2, 0, none⟩ 1) = some (Value.pointer d15) ∧ ∃ a16 : Addr, d15 = some a16 ∧ ∃ H_17 : Int, cell H_10 (Addr.add a16 1) = some (Value.int .i64 H_17) ∧ CallsH Try.prog 79 #[Value.slice Shape11p Shape11l Shape11c, Value.int .i64 W14, Value.int .i64 H_17] H_10 fun r18 H_19 => ∃ r20p : Option Addr, ∃ r20l : Nat, ∃ r20c : Nat, ∃ r21 : Int, r18 = Value.tuple #[Value.slice r20p r20l r20c, Value.int .i64 r21] ∧ br ((r21 : Int) != (0 : Int))
 (R (Value.int .i64 r21) H_19)
 (∀ J_22 : List Value → Heap → Prop, (∀ H_23 : Heap, (∃ a24 : Addr, r7 = some a24 ∧ stAt H_23 (Addr.add a24 8) [Value.slice r20p r20l r20c] fun H_25 => R (Value.int .i64 (0 : Int)) H_25) → J_22 [] H_23) →
 ∃ N26 : Int, cell H_19 (Addr.add (Addr.add ⟨b2, 0, none⟩ 2) 4) = some (Value.int .i64 N26) ∧ br ((N26 : Int) == (1 : Int))
 (∀ X_27 : List Value → Heap → Prop, (∀ i28 : Int, ∀ H_29 : Heap, (br (decide ((i28 : Int) < ((r20l : Nat) : Int)))
 (∃ a30 : Addr, r20p = some a30 ∧ 0 ≤ i28 ∧ i28 < ((r20l : Nat) : Int) ∧ ∃ v31 : Int, cell H_29 (Addr.add a30 (Int.toNat i28 * 1)) = some (Value.int .u8 v31) ∧ ∃ a32 : Addr, r20p = some a32 ∧ 0 ≤ i28 ∧ i28 < ((r20l : Nat) : Int) ∧ stAt H_29 (Addr.add a32 (Int.toNat i28 * 1)) [Value.int .u8 (IntKind.wrap .u8 ((255 : Int) - v31))] fun H_33 => X_27 [Value.int .i64 (IntKind.wrap .i64 (i28 + (1 : Int)))] H_33)
 (J_22 [] H_29)) → X_27 [Value.int .i64 i28] H_29) → X_27 [Value.int .i64 (0 : Int)] H_19)
 (J_22 [] H_19))) → J_9 [] H_10) →
 br ((r8 : Int) != (0 : Int))
 (R (Value.int .i64 r8) H_6)
 (∃ N34 : Int, cell H_6 (Addr.add (Addr.add ⟨b2, 0, none⟩ 2) 4) = some (Value.int .i64 N34) ∧ br (decide ((N34 : Int) < (0 : Int))) (R (Value.int .i64 (32 : Int)) H_6) (∃ N35 : Int, cell H_6 (Addr.add (Addr.add ⟨b2, 0, none⟩ 2) 4) = some (Value.int .i64 N35) ∧ br (decide ((N35 : Int) > (2 : Int)))
 (R (Value.int .i64 (32 : Int)) H_6)
 (∃ N36 : Int, cell H_6 (Addr.add (Addr.add ⟨b2, 0, none⟩ 2) 4) = some (Value.int .i64 N36) ∧ br ((N36 : Int) == (2 : Int))
 (∃ a37 : Addr, r7 = some a37 ∧ stAt H_6 (Addr.add a37 8) [Value.slice none 0 0] fun H_38 => R (Value.int .i64 (0 : Int)) H_38)
 (J_9 [] H_6))))
def Try.p47 : Plan := (Plan.two Plan.leaf (Plan.two Plan.leaf (Plan.two (Plan.join [] [1, 3] (Plan.one (Plan.two Plan.leaf (Plan.two (Plan.two Plan.leaf Plan.leaf) (Plan.two Plan.leaf (Plan.two (Plan.two Plan.leaf Plan.leaf) (Plan.two Plan.leaf (Plan.two (Plan.two Plan.leaf (Plan.two Plan.leaf Plan.leaf)) Plan.leaf)))))))) (Plan.two Plan.leaf (Plan.two (Plan.two Plan.leaf (Plan.two (Plan.two Plan.leaf Plan.leaf) Plan.leaf)) (Plan.two (Plan.join [] [3, 5] (Plan.two Plan.leaf (Plan.two (Plan.two Plan.leaf (Plan.one (Plan.loop [(61, 3)] [3, 5, 60] (Plan.two Plan.leaf (Plan.two (Plan.two Plan.leaf Plan.leaf) (Plan.two (Plan.one (Plan.two Plan.leaf Plan.leaf)) Plan.leaf)))))) Plan.leaf))) (Plan.two Plan.leaf (Plan.two Plan.leaf Plan.leaf))))))))
theorem Try.s47 {w1 : Array Value} {H : Heap} {R : Value → Heap → Prop} (h : Try.S47 w1 H R) : CallsH Try.prog 47 #[Value.agg w1] H R :=
  vcFun_sound Try.tab_ok Try.mixed Try.func47 Try.cal47 (p := Try.p47) (args := [Value.agg w1]) (Eq.mp (by kernel_rfl : Try.S47 w1 H R = vcFun Try.prog Try.tab Try.f47 Try.p47 [Value.agg w1] H R) h)

/-- (scumble/tree.work).place -/
def Try.S48 (w1 : Array Value) (H : Heap) (R : Value → Heap → Prop) : Prop :=
 alc H (.cells w1 86) fun b2 H_3 => ∃ v4 : Array Value, v4.size = 21 ∧ rowIn H_3 ⟨b2, 0, none⟩ v4 ∧ CallsH Try.prog 75 #[Value.agg v4] H_3 fun r5 H_6 => ∃ r7 : Option Addr, ∃ r8 : Int, r5 = Value.tuple #[Value.pointer r7, Value.int .i64 r8] ∧ ∀ J_9 : List Value → Heap → Prop, (∀ H_10 : Heap, (∃ Map11 : Array Value, Map11.size = 6 ∧ rowIn H_10 (Addr.add (Addr.add ⟨b2, 0, none⟩ 2) 12) Map11 ∧ CallsH Try.prog 80 #[Value.agg Map11] H_10 fun r12 H_13 => ∃ r14 : Array Value, ∃ r15 : Int, r12 = Value.tuple #[Value.agg r14, Value.int .i64 r15] ∧ alc H_13 (.cells #[Value.int .i64 0, Value.int .i64 0, Value.int .i64 0, Value.int .i64 0, Value.int .i64 0, Value.int .i64 0] 41) fun b16 H_17 => r14.size = 6 ∧ stAt H_17 ⟨b16, 0, none⟩ (Array.toList r14) fun H_18 => br ((r15 : Int) != (0 : Int))
 (R (Value.int .i64 r15) H_18)
 (∃ Map19 : Array Value, Map19.size = 6 ∧ rowIn H_18 (Addr.add (Addr.add ⟨b2, 0, none⟩ 2) 12) Map19 ∧ ∃ N20 : Int, cell H_18 (Addr.add (Addr.add ⟨b2, 0, none⟩ 2) 4) = some (Value.int .i64 N20) ∧ ∃ a21 : Addr, r7 = some a21 ∧ Map19.size = 6 ∧ stAt H_18 (Addr.add a21 9) (Array.toList Map19) fun H_22 => (Ext H_18 H_22 ∨ (∃ N25 : Int, cell H_22 (Addr.add (Addr.add ⟨b2, 0, none⟩ 2) 4) = some (Value.int .i64 N25) ∧ Value.int .i64 N25 = Value.int .i64 N20)) ∧ ∃ a23 : Addr, r7 = some a23 ∧ stAt H_22 (Addr.add a23 15) [Value.bool ((N20 : Int) == (1 : Int))] fun H_24 => R (Value.int .i64 (0 : Int)) H_24)) → J_9 [] H_10) →
 br ((r8 : Int) != (0 : Int))
 (R (Value.int .i64 r8) H_6)
 (∃ a26 : Addr, r7 = some a26 ∧ ∃ Kind27 : Int, cell H_6 (Addr.add a26 1) = some (Value.int .i64 Kind27) ∧ br ((Kind27 : Int) != (0 : Int))
 (R (Value.int .i64 (41 : Int)) H_6)
 (∃ N28 : Int, cell H_6 (Addr.add (Addr.add ⟨b2, 0, none⟩ 2) 4) = some (Value.int .i64 N28) ∧ br ((N28 : Int) != (0 : Int)) (∃ N29 : Int, cell H_6 (Addr.add (Addr.add ⟨b2, 0, none⟩ 2) 4) = some (Value.int .i64 N29) ∧ br ((N29 : Int) != (1 : Int))
 (R (Value.int .i64 (32 : Int)) H_6)
 (J_9 [] H_6)) (J_9 [] H_6)))
def Try.p48 : Plan := (Plan.two Plan.leaf (Plan.two Plan.leaf (Plan.two (Plan.join [] [1, 3] (Plan.one (Plan.two Plan.leaf (Plan.two (Plan.two Plan.leaf Plan.leaf) (Plan.two Plan.leaf (Plan.two (Plan.two Plan.leaf Plan.leaf) (Plan.two Plan.leaf (Plan.two (Plan.two Plan.leaf Plan.leaf) Plan.leaf)))))))) (Plan.two (Plan.two Plan.leaf (Plan.two Plan.leaf (Plan.two (Plan.two Plan.leaf Plan.leaf) Plan.leaf))) (Plan.two Plan.leaf (Plan.two Plan.leaf Plan.leaf))))))
theorem Try.s48 {w1 : Array Value} {H : Heap} {R : Value → Heap → Prop} (h : Try.S48 w1 H R) : CallsH Try.prog 48 #[Value.agg w1] H R :=
  vcFun_sound Try.tab_ok Try.mixed Try.func48 Try.cal48 (p := Try.p48) (args := [Value.agg w1]) (Eq.mp (by kernel_rfl : Try.S48 w1 H R = vcFun Try.prog Try.tab Try.f48 Try.p48 [Value.agg w1] H R) h)

/-- (scumble/tree.work).adjust -/
def Try.S49 (w1 : Array Value) (H : Heap) (R : Value → Heap → Prop) : Prop :=
 alc H (.cells w1 86) fun b2 H_3 => ∃ v4 : Array Value, v4.size = 21 ∧ rowIn H_3 ⟨b2, 0, none⟩ v4 ∧ CallsH Try.prog 75 #[Value.agg v4] H_3 fun r5 H_6 => ∃ r7 : Option Addr, ∃ r8 : Int, r5 = Value.tuple #[Value.pointer r7, Value.int .i64 r8] ∧ br ((r8 : Int) != (0 : Int))
 (R (Value.int .i64 r8) H_6)
 (∃ a9 : Addr, r7 = some a9 ∧ ∃ Kind10 : Int, cell H_6 (Addr.add a9 1) = some (Value.int .i64 Kind10) ∧ br ((Kind10 : Int) != (2 : Int))
 (R (Value.int .i64 (41 : Int)) H_6)
 (∃ N11 : Int, cell H_6 (Addr.add (Addr.add ⟨b2, 0, none⟩ 2) 4) = some (Value.int .i64 N11) ∧ ∃ Params12p : Option Addr, ∃ Params12l : Nat, ∃ Params12c : Nat, cell H_6 (Addr.add (Addr.add ⟨b2, 0, none⟩ 2) 18) = some (Value.slice Params12p Params12l Params12c) ∧ CallsH Try.prog 81 #[Value.int .i64 N11, Value.slice Params12p Params12l Params12c] H_6 fun r13 H_14 => ∃ r15p : Option Addr, ∃ r15l : Nat, ∃ r15c : Nat, ∃ r16 : Bool, r13 = Value.tuple #[Value.slice r15p r15l r15c, Value.bool r16] ∧ br (!r16)
 (R (Value.int .i64 (32 : Int)) H_14)
 (∃ N17 : Int, cell H_14 (Addr.add (Addr.add ⟨b2, 0, none⟩ 2) 4) = some (Value.int .i64 N17) ∧ ∃ Params18p : Option Addr, ∃ Params18l : Nat, ∃ Params18c : Nat, cell H_14 (Addr.add (Addr.add ⟨b2, 0, none⟩ 2) 18) = some (Value.slice Params18p Params18l Params18c) ∧ CallsH Try.prog 82 #[Value.slice Params18p Params18l Params18c] H_14 fun r19 H_20 => ∃ r21p : Option Addr, ∃ r21l : Nat, ∃ r21c : Nat, r19 = Value.slice r21p r21l r21c ∧ (Ext H_14 H_20 ∨ (∃ N26 : Int, cell H_20 (Addr.add (Addr.add ⟨b2, 0, none⟩ 2) 4) = some (Value.int .i64 N26) ∧ Value.int .i64 N26 = Value.int .i64 N17)) ∧ ∃ a22 : Addr, r7 = some a22 ∧ stAt H_20 (Addr.add a22 16) [Value.int .i64 N17] fun H_23 => ∃ a24 : Addr, r7 = some a24 ∧ stAt H_23 (Addr.add a24 17) [Value.slice r21p r21l r21c] fun H_25 => R (Value.int .i64 (0 : Int)) H_25)))
def Try.p49 : Plan := (Plan.two Plan.leaf (Plan.two Plan.leaf (Plan.two (Plan.one (Plan.two Plan.leaf (Plan.two (Plan.two Plan.leaf Plan.leaf) (Plan.two Plan.leaf (Plan.two (Plan.two Plan.leaf Plan.leaf) Plan.leaf))))) (Plan.two (Plan.two Plan.leaf (Plan.two Plan.leaf (Plan.two (Plan.two Plan.leaf Plan.leaf) Plan.leaf))) (Plan.two Plan.leaf (Plan.two Plan.leaf Plan.leaf))))))
theorem Try.s49 {w1 : Array Value} {H : Heap} {R : Value → Heap → Prop} (h : Try.S49 w1 H R) : CallsH Try.prog 49 #[Value.agg w1] H R :=
  vcFun_sound Try.tab_ok Try.mixed Try.func49 Try.cal49 (p := Try.p49) (args := [Value.agg w1]) (Eq.mp (by kernel_rfl : Try.S49 w1 H R = vcFun Try.prog Try.tab Try.f49 Try.p49 [Value.agg w1] H R) h)

/-- scumble/tree.find -/
def Try.S51 (in_1 : Option Addr) (id2 : Int) (H : Heap) (R : Value → Heap → Prop) : Prop :=
 ∃ a3 : Addr, in_1 = some a3 ∧ ∃ Kids4p : Option Addr, ∃ Kids4l : Nat, ∃ Kids4c : Nat, cell H (Addr.add a3 18) = some (Value.slice Kids4p Kids4l Kids4c) ∧ ∀ X_5 : List Value → Heap → Prop, (∀ i6 : Int, ∀ H_7 : Heap, (br (decide ((i6 : Int) < ((Kids4l : Nat) : Int)))
 (∃ a8 : Addr, in_1 = some a8 ∧ ∃ Kids9p : Option Addr, ∃ Kids9l : Nat, ∃ Kids9c : Nat, cell H_7 (Addr.add a8 18) = some (Value.slice Kids9p Kids9l Kids9c) ∧ ∃ a10 : Addr, Kids9p = some a10 ∧ 0 ≤ i6 ∧ i6 < ((Kids9l : Nat) : Int) ∧ ∃ a11 : Addr, (some (Addr.add a10 (Int.toNat i6 * 19))) = some a11 ∧ ∃ ID12 : Int, cell H_7 (Addr.add a11 0) = some (Value.int .i64 ID12) ∧ br ((ID12 : Int) == id2)
 (R (Value.tuple #[Value.pointer (some (Addr.add a10 (Int.toNat i6 * 19))), Value.pointer in_1, Value.int .i64 i6]) H_7)
 (CallsH Try.prog 51 #[Value.pointer (some (Addr.add a10 (Int.toNat i6 * 19))), Value.int .i64 id2] H_7 fun r13 H_14 => ∃ r15 : Option Addr, ∃ r16 : Option Addr, ∃ r17 : Int, r13 = Value.tuple #[Value.pointer r15, Value.pointer r16, Value.int .i64 r17] ∧ br (!(Option.isNone r15))
 (R (Value.tuple #[Value.pointer r15, Value.pointer r16, Value.int .i64 r17]) H_14)
 (X_5 [Value.int .i64 (IntKind.wrap .i64 (i6 + (1 : Int)))] H_14)))
 (R (Value.tuple #[Value.pointer none, Value.pointer none, Value.int .i64 (0 : Int)]) H_7)) → X_5 [Value.int .i64 i6] H_7) → X_5 [Value.int .i64 (0 : Int)] H
def Try.p51 : Plan := (Plan.two Plan.leaf (Plan.two (Plan.two Plan.leaf (Plan.one (Plan.loop [(17, 3)] [0, 1, 16] (Plan.two Plan.leaf (Plan.two (Plan.two Plan.leaf Plan.leaf) (Plan.two (Plan.one (Plan.two Plan.leaf (Plan.two Plan.leaf (Plan.two (Plan.two Plan.leaf (Plan.two (Plan.two Plan.leaf Plan.leaf) Plan.leaf)) (Plan.two Plan.leaf (Plan.two Plan.leaf (Plan.two (Plan.two Plan.leaf Plan.leaf) Plan.leaf))))))) Plan.leaf)))))) (Plan.two Plan.leaf Plan.leaf)))
theorem Try.s51 {in_1 : Option Addr} {id2 : Int} {H : Heap} {R : Value → Heap → Prop} (h : Try.S51 in_1 id2 H R) : CallsH Try.prog 51 #[Value.pointer in_1, Value.int .i64 id2] H R :=
  vcFun_sound Try.tab_ok Try.mixed Try.func51 Try.cal51 (p := Try.p51) (args := [Value.pointer in_1, Value.int .i64 id2]) (Eq.mp (by kernel_rfl : Try.S51 in_1 id2 H R = vcFun Try.prog Try.tab Try.f51 Try.p51 [Value.pointer in_1, Value.int .i64 id2] H R) h)

/-- scumble/tree.copied -/
def Try.S52 (l1 : Array Value) (H : Heap) (R : Value → Heap → Prop) : Prop :=
 alc H (.cells l1 58) fun b2 H_3 => alc H_3 (.cells #[Value.int .i64 0, Value.int .i64 0, Value.bool false, Value.int .i64 0, Value.int .i64 0, Value.int .i64 0, Value.int .i64 0, Value.slice none 0 0, Value.slice none 0 0, Value.int .i64 0, Value.int .i64 0, Value.int .i64 0, Value.int .i64 0, Value.int .i64 0, Value.int .i64 0, Value.bool false, Value.int .i64 0, Value.slice none 0 0, Value.slice none 0 0] 58) fun b4 H_5 => ∃ P_6p : Option Addr, ∃ P_6l : Nat, ∃ P_6c : Nat, cell H_5 (Addr.add ⟨b2, 0, none⟩ 7) = some (Value.slice P_6p P_6l P_6c) ∧ ∃ Mask7p : Option Addr, ∃ Mask7l : Nat, ∃ Mask7c : Nat, cell H_5 (Addr.add ⟨b2, 0, none⟩ 8) = some (Value.slice Mask7p Mask7l Mask7c) ∧ ∃ Params8p : Option Addr, ∃ Params8l : Nat, ∃ Params8c : Nat, cell H_5 (Addr.add ⟨b2, 0, none⟩ 17) = some (Value.slice Params8p Params8l Params8c) ∧ CallsH Try.prog 82 #[Value.slice P_6p P_6l P_6c] H_5 fun r9 H_10 => ∃ r11p : Option Addr, ∃ r11l : Nat, ∃ r11c : Nat, r9 = Value.slice r11p r11l r11c ∧ (Ext H_5 H_10 ∨ (∃ Params30p : Option Addr, ∃ Params30l : Nat, ∃ Params30c : Nat, cell H_10 (Addr.add ⟨b2, 0, none⟩ 17) = some (Value.slice Params30p Params30l Params30c) ∧ Value.slice Params30p Params30l Params30c = Value.slice Params8p Params8l Params8c) ∧ (∃ Mask31p : Option Addr, ∃ Mask31l : Nat, ∃ Mask31c : Nat, cell H_10 (Addr.add ⟨b2, 0, none⟩ 8) = some (Value.slice Mask31p Mask31l Mask31c) ∧ Value.slice Mask31p Mask31l Mask31c = Value.slice Mask7p Mask7l Mask7c)) ∧ CallsH Try.prog 83 #[Value.slice Mask7p Mask7l Mask7c] H_10 fun r12 H_13 => ∃ r14p : Option Addr, ∃ r14l : Nat, ∃ r14c : Nat, r12 = Value.slice r14p r14l r14c ∧ (Ext H_10 H_13 ∨ (∃ Params29p : Option Addr, ∃ Params29l : Nat, ∃ Params29c : Nat, cell H_13 (Addr.add ⟨b2, 0, none⟩ 17) = some (Value.slice Params29p Params29l Params29c) ∧ Value.slice Params29p Params29l Params29c = Value.slice Params8p Params8l Params8c)) ∧ CallsH Try.prog 82 #[Value.slice Params8p Params8l Params8c] H_13 fun r15 H_16 => ∃ r17p : Option Addr, ∃ r17l : Nat, ∃ r17c : Nat, r15 = Value.slice r17p r17l r17c ∧ stAt H_16 (Addr.add ⟨b2, 0, none⟩ 7) [Value.slice r11p r11l r11c] fun H_18 => stAt H_18 (Addr.add ⟨b2, 0, none⟩ 8) [Value.slice r14p r14l r14c] fun H_19 => stAt H_19 (Addr.add ⟨b2, 0, none⟩ 17) [Value.slice r17p r17l r17c] fun H_20 => ∃ Kids21p : Option Addr, ∃ Kids21l : Nat, ∃ Kids21c : Nat, cell H_20 (Addr.add ⟨b2, 0, none⟩ 18) = some (Value.slice Kids21p Kids21l Kids21c) ∧ CallsH Try.prog 39 #[Value.slice Kids21p Kids21l Kids21c] H_20 fun r22 H_23 => ∃ r24p : Option Addr, ∃ r24l : Nat, ∃ r24c : Nat, r22 = Value.slice r24p r24l r24c ∧ stAt H_23 (Addr.add ⟨b2, 0, none⟩ 18) [Value.slice r24p r24l r24c] fun H_25 => ∃ v26 : Array Value, v26.size = 19 ∧ rowIn H_25 ⟨b2, 0, none⟩ v26 ∧ v26.size = 19 ∧ stAt H_25 ⟨b4, 0, none⟩ (Array.toList v26) fun H_27 => ∃ res28 : Array Value, res28.size = 19 ∧ rowIn H_27 ⟨b4, 0, none⟩ res28 ∧ R (Value.agg res28) H_27
def Try.p52 : Plan := (Plan.two Plan.leaf (Plan.two Plan.leaf (Plan.two Plan.leaf (Plan.two Plan.leaf Plan.leaf))))
theorem Try.s52 {l1 : Array Value} {H : Heap} {R : Value → Heap → Prop} (h : Try.S52 l1 H R) : CallsH Try.prog 52 #[Value.agg l1] H R :=
  vcFun_sound Try.tab_ok Try.mixed Try.func52 Try.cal52 (p := Try.p52) (args := [Value.agg l1]) (Eq.mp (by kernel_rfl : Try.S52 l1 H R = vcFun Try.prog Try.tab Try.f52 Try.p52 [Value.agg l1] H R) h)

/-- scumble/tree.count -/
def Try.S53 (list1p : Option Addr) (list1l : Nat) (list1c : Nat) (H : Heap) (R : Value → Heap → Prop) : Prop :=
 ∀ X_2 : List Value → Heap → Prop, (∀ n3 : Int, ∀ t4 : Int, ∀ H_5 : Heap, (br (decide ((t4 : Int) < ((list1l : Nat) : Int)))
 (∃ a6 : Addr, list1p = some a6 ∧ 0 ≤ t4 ∧ t4 < ((list1l : Nat) : Int) ∧ ∃ v7 : Array Value, v7.size = 19 ∧ rowIn H_5 (Addr.add a6 (Int.toNat t4 * 19)) v7 ∧ alc H_5 (.cells #[Value.int .i64 0, Value.int .i64 0, Value.bool false, Value.int .i64 0, Value.int .i64 0, Value.int .i64 0, Value.int .i64 0, Value.slice none 0 0, Value.slice none 0 0, Value.int .i64 0, Value.int .i64 0, Value.int .i64 0, Value.int .i64 0, Value.int .i64 0, Value.int .i64 0, Value.bool false, Value.int .i64 0, Value.slice none 0 0, Value.slice none 0 0] 58) fun b8 H_9 => v7.size = 19 ∧ stAt H_9 ⟨b8, 0, none⟩ (Array.toList v7) fun H_10 => ∃ Kids11p : Option Addr, ∃ Kids11l : Nat, ∃ Kids11c : Nat, cell H_10 (Addr.add ⟨b8, 0, none⟩ 18) = some (Value.slice Kids11p Kids11l Kids11c) ∧ CallsH Try.prog 53 #[Value.slice Kids11p Kids11l Kids11c] H_10 fun r12 H_13 => ∃ r14 : Int, r12 = Value.int .i64 r14 ∧ X_2 [Value.int .i64 (IntKind.wrap .i64 (n3 + r14)), Value.int .i64 (IntKind.wrap .i64 (t4 + (1 : Int)))] H_13)
 (R (Value.int .i64 n3) H_5)) → X_2 [Value.int .i64 n3, Value.int .i64 t4] H_5) → X_2 [Value.int .i64 ((list1l : Nat) : Int), Value.int .i64 (0 : Int)] H
def Try.p53 : Plan := (Plan.two Plan.leaf (Plan.two Plan.leaf (Plan.two (Plan.two Plan.leaf (Plan.one (Plan.loop [(3, 3), (10, 3)] [8, 9] (Plan.two Plan.leaf (Plan.two (Plan.two Plan.leaf Plan.leaf) (Plan.two (Plan.one (Plan.two Plan.leaf Plan.leaf)) Plan.leaf)))))) (Plan.two Plan.leaf Plan.leaf))))
theorem Try.s53 {list1p : Option Addr} {list1l : Nat} {list1c : Nat} {H : Heap} {R : Value → Heap → Prop} (h : Try.S53 list1p list1l list1c H R) : CallsH Try.prog 53 #[Value.slice list1p list1l list1c] H R :=
  vcFun_sound Try.tab_ok Try.mixed Try.func53 Try.cal53 (p := Try.p53) (args := [Value.slice list1p list1l list1c]) (Eq.mp (by kernel_rfl : Try.S53 list1p list1l list1c H R = vcFun Try.prog Try.tab Try.f53 Try.p53 [Value.slice list1p list1l list1c] H R) h)

/-- scumble/tree.depth -/
def Try.S54 (list1p : Option Addr) (list1l : Nat) (list1c : Nat) (H : Heap) (R : Value → Heap → Prop) : Prop :=
 ∀ X_2 : List Value → Heap → Prop, (∀ most3 : Int, ∀ t4 : Int, ∀ H_5 : Heap, (br (decide ((t4 : Int) < ((list1l : Nat) : Int)))
 (∃ a6 : Addr, list1p = some a6 ∧ 0 ≤ t4 ∧ t4 < ((list1l : Nat) : Int) ∧ ∃ v7 : Array Value, v7.size = 19 ∧ rowIn H_5 (Addr.add a6 (Int.toNat t4 * 19)) v7 ∧ alc H_5 (.cells #[Value.int .i64 0, Value.int .i64 0, Value.bool false, Value.int .i64 0, Value.int .i64 0, Value.int .i64 0, Value.int .i64 0, Value.slice none 0 0, Value.slice none 0 0, Value.int .i64 0, Value.int .i64 0, Value.int .i64 0, Value.int .i64 0, Value.int .i64 0, Value.int .i64 0, Value.bool false, Value.int .i64 0, Value.slice none 0 0, Value.slice none 0 0] 58) fun b8 H_9 => v7.size = 19 ∧ stAt H_9 ⟨b8, 0, none⟩ (Array.toList v7) fun H_10 => ∃ Kids11p : Option Addr, ∃ Kids11l : Nat, ∃ Kids11c : Nat, cell H_10 (Addr.add ⟨b8, 0, none⟩ 18) = some (Value.slice Kids11p Kids11l Kids11c) ∧ CallsH Try.prog 54 #[Value.slice Kids11p Kids11l Kids11c] H_10 fun r12 H_13 => ∃ r14 : Int, r12 = Value.int .i64 r14 ∧ X_2 [Value.int .i64 (max most3 (IntKind.wrap .i64 ((1 : Int) + r14))), Value.int .i64 (IntKind.wrap .i64 (t4 + (1 : Int)))] H_13)
 (R (Value.int .i64 most3) H_5)) → X_2 [Value.int .i64 most3, Value.int .i64 t4] H_5) → X_2 [Value.int .i64 (0 : Int), Value.int .i64 (0 : Int)] H
def Try.p54 : Plan := (Plan.two Plan.leaf (Plan.two Plan.leaf (Plan.two (Plan.two Plan.leaf (Plan.one (Plan.loop [(3, 3), (8, 3)] [6, 7] (Plan.two Plan.leaf (Plan.two (Plan.two Plan.leaf Plan.leaf) (Plan.two (Plan.one (Plan.two Plan.leaf Plan.leaf)) Plan.leaf)))))) (Plan.two Plan.leaf Plan.leaf))))
theorem Try.s54 {list1p : Option Addr} {list1l : Nat} {list1c : Nat} {H : Heap} {R : Value → Heap → Prop} (h : Try.S54 list1p list1l list1c H R) : CallsH Try.prog 54 #[Value.slice list1p list1l list1c] H R :=
  vcFun_sound Try.tab_ok Try.mixed Try.func54 Try.cal54 (p := Try.p54) (args := [Value.slice list1p list1l list1c]) (Eq.mp (by kernel_rfl : Try.S54 list1p list1l list1c H R = vcFun Try.prog Try.tab Try.f54 Try.p54 [Value.slice list1p list1l list1c] H R) h)

/-- (scumble/scumbleref11.Doc).Deep -/
def Try.S55 (d1 : Array Value) (id2 : Int) (H : Heap) (R : Value → Heap → Prop) : Prop :=
 alc H (.cells d1 32) fun b3 H_4 => ∀ X_5 : List Value → Heap → Prop, (∀ id6 : Int, ∀ n7 : Int, ∀ H_8 : Heap, (br ((id6 : Int) != (0 : Int))
 (∃ L9p : Option Addr, ∃ L9l : Nat, ∃ L9c : Nat, cell H_8 (Addr.add ⟨b3, 0, none⟩ 3) = some (Value.slice L9p L9l L9c) ∧ ∃ v10 : Array Value, v10.size = 4 ∧ rowIn H_8 ⟨b3, 0, none⟩ v10 ∧ CallsH Try.prog 24 #[Value.agg v10, Value.int .i64 id6] H_8 fun r11 H_12 => ∃ r13 : Int, r11 = Value.int .i64 r13 ∧ (Ext H_8 H_12 ∨ (∃ L16p : Option Addr, ∃ L16l : Nat, ∃ L16c : Nat, cell H_12 (Addr.add ⟨b3, 0, none⟩ 3) = some (Value.slice L16p L16l L16c) ∧ Value.slice L16p L16l L16c = Value.slice L9p L9l L9c)) ∧ ∃ a14 : Addr, L9p = some a14 ∧ 0 ≤ r13 ∧ r13 < ((L9l : Nat) : Int) ∧ ∃ To15 : Int, cell H_12 (Addr.add (Addr.add a14 (Int.toNat r13 * 19)) 2) = some (Value.int .i64 To15) ∧ X_5 [Value.int .i64 To15, Value.int .i64 (IntKind.wrap .i64 (n7 + (1 : Int)))] H_12)
 (R (Value.int .i64 n7) H_8)) → X_5 [Value.int .i64 id6, Value.int .i64 n7] H_8) → X_5 [Value.int .i64 id2, Value.int .i64 (0 : Int)] H_4
def Try.p55 : Plan := (Plan.two Plan.leaf (Plan.two Plan.leaf (Plan.two (Plan.one (Plan.loop [(1, 3), (5, 3)] [2] (Plan.two (Plan.two Plan.leaf (Plan.two Plan.leaf Plan.leaf)) (Plan.one (Plan.two Plan.leaf Plan.leaf))))) (Plan.two Plan.leaf Plan.leaf))))
theorem Try.s55 {d1 : Array Value} {id2 : Int} {H : Heap} {R : Value → Heap → Prop} (h : Try.S55 d1 id2 H R) : CallsH Try.prog 55 #[Value.agg d1, Value.int .i64 id2] H R :=
  vcFun_sound Try.tab_ok Try.mixed Try.func55 Try.cal55 (p := Try.p55) (args := [Value.agg d1, Value.int .i64 id2]) (Eq.mp (by kernel_rfl : Try.S55 d1 id2 H R = vcFun Try.prog Try.tab Try.f55 Try.p55 [Value.agg d1, Value.int .i64 id2] H R) h)

/-- slices.EqualFunc[[]scumble/tree.Layer,[]scumble/tree.Layer,scumble/tree.Layer,scumble/tree.Layer] -/
def Try.S57 (s11p : Option Addr) (s11l : Nat) (s11c : Nat) (s22p : Option Addr) (s22l : Nat) (s22c : Nat) (eq3g : Nat) (eq3x : Array Value) (eq3y : Array Value) (H : Heap) (R : Value → Heap → Prop) : Prop :=
 br ((((s11l : Nat) : Int) : Int) != ((s22l : Nat) : Int))
 (R (Value.bool false) H)
 (∀ X_4 : List Value → Heap → Prop, (∀ i5 : Int, ∀ H_6 : Heap, (br (decide ((i5 : Int) < ((s11l : Nat) : Int)))
 (∃ a7 : Addr, s11p = some a7 ∧ 0 ≤ i5 ∧ i5 < ((s11l : Nat) : Int) ∧ ∃ v8 : Array Value, v8.size = 19 ∧ rowIn H_6 (Addr.add a7 (Int.toNat i5 * 19)) v8 ∧ alc H_6 (.cells #[Value.int .i64 0, Value.int .i64 0, Value.bool false, Value.int .i64 0, Value.int .i64 0, Value.int .i64 0, Value.int .i64 0, Value.slice none 0 0, Value.slice none 0 0, Value.int .i64 0, Value.int .i64 0, Value.int .i64 0, Value.int .i64 0, Value.int .i64 0, Value.int .i64 0, Value.bool false, Value.int .i64 0, Value.slice none 0 0, Value.slice none 0 0] 58) fun b9 H_10 => v8.size = 19 ∧ stAt H_10 ⟨b9, 0, none⟩ (Array.toList v8) fun H_11 => ∃ a12 : Addr, s22p = some a12 ∧ 0 ≤ i5 ∧ i5 < ((s22l : Nat) : Int) ∧ ∃ v13 : Array Value, v13.size = 19 ∧ rowIn H_11 (Addr.add a12 (Int.toNat i5 * 19)) v13 ∧ alc H_11 (.cells #[Value.int .i64 0, Value.int .i64 0, Value.bool false, Value.int .i64 0, Value.int .i64 0, Value.int .i64 0, Value.int .i64 0, Value.slice none 0 0, Value.slice none 0 0, Value.int .i64 0, Value.int .i64 0, Value.int .i64 0, Value.int .i64 0, Value.int .i64 0, Value.int .i64 0, Value.bool false, Value.int .i64 0, Value.slice none 0 0, Value.slice none 0 0] 58) fun b14 H_15 => v13.size = 19 ∧ stAt H_15 ⟨b14, 0, none⟩ (Array.toList v13) fun H_16 => ∃ v17 : Array Value, v17.size = 19 ∧ rowIn H_16 ⟨b9, 0, none⟩ v17 ∧ ∃ v18 : Array Value, v18.size = 19 ∧ rowIn H_16 ⟨b14, 0, none⟩ v18 ∧ CallsH Try.prog eq3g (List.toArray (Array.toList eq3x ++ [Value.agg v17, Value.agg v18] ++ Array.toList eq3y)) H_16 fun r19 H_20 => ∃ r21 : Bool, r19 = Value.bool r21 ∧ br (!r21)
 (R (Value.bool false) H_20)
 (X_4 [Value.int .i64 (IntKind.wrap .i64 (i5 + (1 : Int)))] H_20))
 (R (Value.bool true) H_6)) → X_4 [Value.int .i64 i5] H_6) → X_4 [Value.int .i64 (0 : Int)] H)
def Try.p57 : Plan := (Plan.two Plan.leaf (Plan.two (Plan.two Plan.leaf (Plan.two (Plan.two Plan.leaf Plan.leaf) Plan.leaf)) (Plan.two (Plan.two Plan.leaf (Plan.one (Plan.loop [(17, 3)] [1, 2, 15, 16] (Plan.two Plan.leaf (Plan.two (Plan.two Plan.leaf Plan.leaf) (Plan.two (Plan.one (Plan.two Plan.leaf (Plan.two Plan.leaf (Plan.two Plan.leaf (Plan.two (Plan.two Plan.leaf Plan.leaf) Plan.leaf))))) Plan.leaf)))))) (Plan.two Plan.leaf Plan.leaf))))
theorem Try.s57 {s11p : Option Addr} {s11l : Nat} {s11c : Nat} {s22p : Option Addr} {s22l : Nat} {s22c : Nat} {eq3g : Nat} {eq3x : Array Value} {eq3y : Array Value} {H : Heap} {R : Value → Heap → Prop} (h : Try.S57 s11p s11l s11c s22p s22l s22c eq3g eq3x eq3y H R) : CallsH Try.prog 57 #[Value.slice s11p s11l s11c, Value.slice s22p s22l s22c, Value.func (.func eq3g) eq3x eq3y] H R :=
  vcFun_sound Try.tab_ok Try.mixed Try.func57 Try.cal57 (p := Try.p57) (args := [Value.slice s11p s11l s11c, Value.slice s22p s22l s22c, Value.func (.func eq3g) eq3x eq3y]) (Eq.mp (by kernel_rfl : Try.S57 s11p s11l s11c s22p s22l s22c eq3g eq3x eq3y H R = vcFun Try.prog Try.tab Try.f57 Try.p57 [Value.slice s11p s11l s11c, Value.slice s22p s22l s22c, Value.func (.func eq3g) eq3x eq3y] H R) h)

/-- scumble/tree.same -/
def Try.S58 (a1 : Array Value) (b2 : Array Value) (H : Heap) (R : Value → Heap → Prop) : Prop :=
 alc H (.cells a1 58) fun b3 H_4 => alc H_4 (.cells b2 58) fun b5 H_6 => ∀ J_7 : List Value → Heap → Prop, (∀ plain8 : Bool, ∀ H_9 : Heap, (br plain8 (∃ P_10p : Option Addr, ∃ P_10l : Nat, ∃ P_10c : Nat, cell H_9 (Addr.add ⟨b3, 0, none⟩ 7) = some (Value.slice P_10p P_10l P_10c) ∧ ∃ P_11p : Option Addr, ∃ P_11l : Nat, ∃ P_11c : Nat, cell H_9 (Addr.add ⟨b5, 0, none⟩ 7) = some (Value.slice P_11p P_11l P_11c) ∧ CallsH Try.prog 84 #[Value.slice P_10p P_10l P_10c, Value.slice P_11p P_11l P_11c] H_9 fun r12 H_13 => ∃ r14 : Bool, r12 = Value.bool r14 ∧ br r14 (∃ Mask15p : Option Addr, ∃ Mask15l : Nat, ∃ Mask15c : Nat, cell H_13 (Addr.add ⟨b3, 0, none⟩ 8) = some (Value.slice Mask15p Mask15l Mask15c) ∧ ∃ Mask16p : Option Addr, ∃ Mask16l : Nat, ∃ Mask16c : Nat, cell H_13 (Addr.add ⟨b5, 0, none⟩ 8) = some (Value.slice Mask16p Mask16l Mask16c) ∧ CallsH Try.prog 85 #[Value.slice Mask15p Mask15l Mask15c, Value.slice Mask16p Mask16l Mask16c] H_13 fun r17 H_18 => ∃ r19 : Bool, r17 = Value.bool r19 ∧ br r19 (∃ Params20p : Option Addr, ∃ Params20l : Nat, ∃ Params20c : Nat, cell H_18 (Addr.add ⟨b3, 0, none⟩ 17) = some (Value.slice Params20p Params20l Params20c) ∧ ∃ Params21p : Option Addr, ∃ Params21l : Nat, ∃ Params21c : Nat, cell H_18 (Addr.add ⟨b5, 0, none⟩ 17) = some (Value.slice Params21p Params21l Params21c) ∧ CallsH Try.prog 84 #[Value.slice Params20p Params20l Params20c, Value.slice Params21p Params21l Params21c] H_18 fun r22 H_23 => ∃ r24 : Bool, r22 = Value.bool r24 ∧ br r24 (∃ Kids25p : Option Addr, ∃ Kids25l : Nat, ∃ Kids25c : Nat, cell H_23 (Addr.add ⟨b3, 0, none⟩ 18) = some (Value.slice Kids25p Kids25l Kids25c) ∧ ∃ Kids26p : Option Addr, ∃ Kids26l : Nat, ∃ Kids26c : Nat, cell H_23 (Addr.add ⟨b5, 0, none⟩ 18) = some (Value.slice Kids26p Kids26l Kids26c) ∧ CallsH Try.prog 57 #[Value.slice Kids25p Kids25l Kids25c, Value.slice Kids26p Kids26l Kids26c, Value.func (.func 58) #[] #[]] H_23 fun r27 H_28 => ∃ r29 : Bool, r27 = Value.bool r29 ∧ R (Value.bool r29) H_28) (R (Value.bool false) H_23)) (R (Value.bool false) H_18)) (R (Value.bool false) H_13)) (R (Value.bool false) H_9)) → J_7 [Value.bool plain8] H_9) →
 ∃ ID30 : Int, cell H_6 (Addr.add ⟨b3, 0, none⟩ 0) = some (Value.int .i64 ID30) ∧ ∃ ID31 : Int, cell H_6 (Addr.add ⟨b5, 0, none⟩ 0) = some (Value.int .i64 ID31) ∧ br ((ID30 : Int) == ID31) (∃ Kind32 : Int, cell H_6 (Addr.add ⟨b3, 0, none⟩ 1) = some (Value.int .i64 Kind32) ∧ ∃ Kind33 : Int, cell H_6 (Addr.add ⟨b5, 0, none⟩ 1) = some (Value.int .i64 Kind33) ∧ br ((Kind32 : Int) == Kind33) (∃ Hidden34 : Bool, cell H_6 (Addr.add ⟨b3, 0, none⟩ 2) = some (Value.bool Hidden34) ∧ ∃ Hidden35 : Bool, cell H_6 (Addr.add ⟨b5, 0, none⟩ 2) = some (Value.bool Hidden35) ∧ br (Hidden34 == Hidden35) (∃ Opacity36 : Int, cell H_6 (Addr.add ⟨b3, 0, none⟩ 3) = some (Value.int .i64 Opacity36) ∧ ∃ Opacity37 : Int, cell H_6 (Addr.add ⟨b5, 0, none⟩ 3) = some (Value.int .i64 Opacity37) ∧ br ((Opacity36 : Int) == Opacity37) (∃ Mode38 : Int, cell H_6 (Addr.add ⟨b3, 0, none⟩ 4) = some (Value.int .i64 Mode38) ∧ ∃ Mode39 : Int, cell H_6 (Addr.add ⟨b5, 0, none⟩ 4) = some (Value.int .i64 Mode39) ∧ br ((Mode38 : Int) == Mode39) (∃ W40 : Int, cell H_6 (Addr.add ⟨b3, 0, none⟩ 5) = some (Value.int .i64 W40) ∧ ∃ W41 : Int, cell H_6 (Addr.add ⟨b5, 0, none⟩ 5) = some (Value.int .i64 W41) ∧ br ((W40 : Int) == W41) (∃ H_42 : Int, cell H_6 (Addr.add ⟨b3, 0, none⟩ 6) = some (Value.int .i64 H_42) ∧ ∃ H_43 : Int, cell H_6 (Addr.add ⟨b5, 0, none⟩ 6) = some (Value.int .i64 H_43) ∧ br ((H_42 : Int) == H_43) (∃ Map44 : Array Value, Map44.size = 6 ∧ rowIn H_6 (Addr.add ⟨b3, 0, none⟩ 9) Map44 ∧ ∃ Map45 : Array Value, Map45.size = 6 ∧ rowIn H_6 (Addr.add ⟨b5, 0, none⟩ 9) Map45 ∧ (1 = 1 ∧ ∃ as_46 bs47 : List Int, as_46.length = 6 ∧ bs47.length = 6 ∧ Map44 = (as_46.map (Value.int .i64)).toArray ∧ Map45 = (bs47.map (Value.int .i64)).toArray ∧ br (decide (as_46 = bs47)) (∃ Smooth48 : Bool, cell H_6 (Addr.add ⟨b3, 0, none⟩ 15) = some (Value.bool Smooth48) ∧ ∃ Smooth49 : Bool, cell H_6 (Addr.add ⟨b5, 0, none⟩ 15) = some (Value.bool Smooth49) ∧ br (Smooth48 == Smooth49) (∃ Table50 : Int, cell H_6 (Addr.add ⟨b3, 0, none⟩ 16) = some (Value.int .i64 Table50) ∧ ∃ Table51 : Int, cell H_6 (Addr.add ⟨b5, 0, none⟩ 16) = some (Value.int .i64 Table51) ∧ J_7 [Value.bool ((Table50 : Int) == Table51)] H_6) (J_7 [Value.bool false] H_6)) (J_7 [Value.bool false] H_6))) (J_7 [Value.bool false] H_6)) (J_7 [Value.bool false] H_6)) (J_7 [Value.bool false] H_6)) (J_7 [Value.bool false] H_6)) (J_7 [Value.bool false] H_6)) (J_7 [Value.bool false] H_6)) (J_7 [Value.bool false] H_6)
def Try.p58 : Plan := (Plan.two Plan.leaf (Plan.two (Plan.join [(5, 4)] [2, 3] Plan.leaf) (Plan.two Plan.leaf Plan.leaf)))
theorem Try.s58 {a1 : Array Value} {b2 : Array Value} {H : Heap} {R : Value → Heap → Prop} (h : Try.S58 a1 b2 H R) : CallsH Try.prog 58 #[Value.agg a1, Value.agg b2] H R :=
  vcFun_sound Try.tab_ok Try.mixed Try.func58 Try.cal58 (p := Try.p58) (args := [Value.agg a1, Value.agg b2]) (Eq.mp (by kernel_rfl : Try.S58 a1 b2 H R = vcFun Try.prog Try.tab Try.f58 Try.p58 [Value.agg a1, Value.agg b2] H R) h)

end Go.Proofs
