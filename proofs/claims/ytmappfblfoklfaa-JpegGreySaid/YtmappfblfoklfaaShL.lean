/-
  OWN WORK. The shallow layer, part 15: lemmas for whoever proves a printed text.
-/
import Derived.Test.YtmappfblfoklfaaShP
namespace Go.Sh

theorem br_i {t : Bool} {A B : Prop} (h : t = true → A) (h' : t = false → B) : br t A B := ⟨h, h'⟩
theorem br_dec {p : Prop} [Decidable p] {A B : Prop} (h : p → A) (h' : ¬ p → B) : br (decide p) A B := ⟨fun e => h (of_decide_eq_true e), fun e => h' (of_decide_eq_false e)⟩
theorem br_eq {a b : Int} {A B : Prop} (h : a = b → A) (h' : a ≠ b → B) : br (a == b) A B := ⟨fun e => h (by simpa using e), fun e => h' (by simpa using e)⟩
theorem br_ne {a b : Int} {A B : Prop} (h : a ≠ b → A) (h' : a = b → B) : br (a != b) A B := ⟨fun e => h (by simpa using e), fun e => h' (by simpa using e)⟩
theorem br_not {t : Bool} {A B : Prop} (h : t = false → A) (h' : t = true → B) : br (!t) A B := ⟨fun e => h (by simpa using e), fun e => h' (by simpa using e)⟩
theorem br_true {A B : Prop} (h : A) : br true A B := ⟨fun _ => h, fun e => (by cases e)⟩
theorem br_false {A B : Prop} (h : B) : br false A B := ⟨fun e => (by cases e), fun _ => h⟩
theorem br_t {t : Bool} {A B : Prop} (ht : t = true) (h : A) : br t A B := by subst ht; exact br_true h
theorem br_f {t : Bool} {A B : Prop} (ht : t = false) (h : B) : br t A B := by subst ht; exact br_false h
theorem br_y {p : Prop} [Decidable p] {A B : Prop} (hp : p) (h : A) : br (decide p) A B := br_dec (fun _ => h) (fun n => absurd hp n)
theorem br_n {p : Prop} [Decidable p] {A B : Prop} (hp : ¬ p) (h : B) : br (decide p) A B := br_dec (fun y => absurd y hp) (fun _ => h)
theorem br_none {α : Type} {p : Option α} {A B : Prop} (h : p = none → A) (h' : ∀ a, p = some a → B) : br (Option.isNone p) A B := by
  cases p with
  | none => exact br_true (h rfl)
  | some a => exact br_false (h' a rfl)
theorem br_some {α : Type} {p : Option α} {A B : Prop} (h : ∀ a, p = some a → A) (h' : p = none → B) : br (!(Option.isNone p)) A B := by
  cases p with
  | none => exact br_false (h' rfl)
  | some a => exact br_true (h a rfl)

/-! ### heaps -/

theorem lt_of_get {H : Heap} {b : Nat} {o : Obj} (h : H[b]? = some o) : b < H.size := (Array.getElem?_eq_some_iff.1 h).1
theorem get_push_self (H : Heap) (o : Obj) : (H.push o)[H.size]? = some o := by simp
theorem get_push {H : Heap} {b : Nat} {o x : Obj} (h : H[b]? = some x) : (H.push o)[b]? = some x := Ext.push H o b x h
theorem get_set_ne {H : Heap} {b r : Nat} {o x : Obj} (hne : r ≠ b) (h : H[b]? = some x) : (H.setIfInBounds r o)[b]? = some x := by
  rw [Array.getElem?_setIfInBounds_ne hne]; exact h
theorem get_set_self {H : Heap} {r : Nat} {o x : Obj} (h : H[r]? = some x) : (H.setIfInBounds r o)[r]? = some o := by
  rw [Array.getElem?_setIfInBounds_self_of_lt (lt_of_get h)]

/-- Two blocks that hold different things are two. -/
theorem ne_of_get {H : Heap} {b r : Nat} {x y : Obj} (h : H[b]? = some x) (h' : H[r]? = some y) (hne : x ≠ y) : b ≠ r := fun e => by
  subst e; rw [h] at h'; exact hne (Option.some.inj h')
theorem ne_of_ty {H : Heap} {b r : Nat} {c d : Array Value} {t u : TypeId} {f g : Nat × Nat} (h : H[b]? = some (.cells c t f)) (h' : H[r]? = some (.cells d u g)) (hne : t ≠ u) : b ≠ r :=
  ne_of_get h h' (fun e => by cases e; exact hne rfl)
theorem ne_of_map {H : Heap} {b r : Nat} {c : Array Value} {t : TypeId} {f : Nat × Nat} {es : Array MapEntry} {k : Nat} (h : H[b]? = some (.cells c t f)) (h' : H[r]? = some (.map es k)) : b ≠ r :=
  ne_of_get h h' (fun e => by cases e)
theorem ne_of_map' {H : Heap} {b r : Nat} {c : Array Value} {t : TypeId} {f : Nat × Nat} {es : Array MapEntry} {k : Nat} (h : H[b]? = some (.map es k)) (h' : H[r]? = some (.cells c t f)) : b ≠ r :=
  ne_of_get h h' (fun e => by cases e)

theorem cell_block {H : Heap} {b i : Nat} {c : Array Value} {t : TypeId} {f : Nat × Nat} (h : H[b]? = some (.cells c t f)) : cell H ⟨b, i, none⟩ = c[i]? := by
  simp [cell, h]
theorem cell_get {H : Heap} {b i : Nat} {c : Array Value} {t : TypeId} {f : Nat × Nat} {v : Value} (h : H[b]? = some (.cells c t f)) (hv : c[i]? = some v) : cell H ⟨b, i, none⟩ = some v := by
  rw [cell_block h]; exact hv

@[simp] theorem add_none (b i n : Nat) : Addr.add ⟨b, i, none⟩ n = ⟨b, i + n, none⟩ := by
  unfold Addr.add; split <;> simp_all

theorem rowIn_block {H : Heap} {b i : Nat} {c cs : Array Value} {t : TypeId} {f : Nat × Nat} (h : H[b]? = some (.cells c t f)) (hc : ∀ j v, cs[j]? = some v → c[i + j]? = some v) :
    rowIn H ⟨b, i, none⟩ cs := by
  intro j v hv
  rw [add_none, cell_block h]
  exact hc j v hv

/-- A whole block is read. -/
theorem rowIn_whole {H : Heap} {b : Nat} {c : Array Value} {t : TypeId} {f : Nat × Nat} (h : H[b]? = some (.cells c t f)) : rowIn H ⟨b, 0, none⟩ c :=
  rowIn_block h fun j v hv => by rw [Nat.zero_add]; exact hv

/-- One cell is written. -/
theorem stAt_one {H : Heap} {b i : Nat} {c : Array Value} {t : TypeId} {v : Value} {f : Heap → Prop} (h : H[b]? = some (.cells c t (0, 0))) (hi : i < c.size) (ho : v.oneCell' = true)
    (hf : f (H.setIfInBounds b (.cells (c.setIfInBounds i v) t (0, 0)))) : stAt H ⟨b, i, none⟩ [v] f := by
  refine ⟨c, t, h, rfl, (by simp; omega), by simpa using ho, ?_⟩
  have : (setL c.toList i [v]).toArray = c.setIfInBounds i v := by
    rw [setL_one (by simpa using hi)]
    apply Array.toList_inj.1
    simp
  simp only [this]
  exact hf

/-- A block is written whole. -/
theorem stAt_whole {H : Heap} {b : Nat} {c : Array Value} {t : TypeId} {vs : List Value} {f : Heap → Prop} (h : H[b]? = some (.cells c t (0, 0))) (hl : vs.length = c.size) (ho : ∀ v ∈ vs, v.oneCell' = true)
    (hf : f (H.setIfInBounds b (.cells vs.toArray t (0, 0)))) : stAt H ⟨b, 0, none⟩ vs f := by
  refine ⟨c, t, h, rfl, by simp; omega, ho, ?_⟩
  have : setL c.toList 0 vs = vs := by simp [setL, hl]
  simp only [this]
  exact hf

theorem wrap_id {n : Int} (h0 : -9223372036854775808 ≤ n) (h1 : n ≤ 9223372036854775807) : IntKind.wrap .i64 n = n := wrap_i64 h0 h1
theorem wrap_u32 {n : Int} (h0 : 0 ≤ n) (h1 : n < 4294967296) : IntKind.wrap .u32 n = n := by
  simp only [IntKind.wrap, IntKind.signed, IntKind.bits]; simp; omega
theorem wrap_u8 {n : Int} (h0 : 0 ≤ n) (h1 : n < 256) : IntKind.wrap .u8 n = n := by
  simp only [IntKind.wrap, IntKind.signed, IntKind.bits]; simp; omega

/-- What is read of a whole block that has just been made or written: it is the block's cells. -/
theorem rowIn_eq {H : Heap} {b : Nat} {c cs : Array Value} {t : TypeId} {f : Nat × Nat} (h : H[b]? = some (.cells c t f)) (hr : rowIn H ⟨b, 0, none⟩ cs) (hs : cs.size = c.size) : cs = c := by
  apply Array.ext hs
  intro j h1 h2
  have := hr j cs[j] (by simp [h1])
  rw [add_none, cell_block h, Nat.zero_add] at this
  simpa [h2] using this.symm

end Go.Sh
