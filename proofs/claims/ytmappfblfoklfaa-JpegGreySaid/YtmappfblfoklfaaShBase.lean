/-
  OWN WORK. The shallow layer, part 1: heaps, environments, and what an operation that leaves the world alone yields.
-/
import Derived.WalkKit
import Derived.StillTail
namespace Go.Sh

abbrev Heap := Array Obj

def cell (H : Heap) (a : Addr) : Option Value :=
  match H[a.block]? with
  | some (.cells c _ _) => if a.spot.isSome then none else c[a.off]?
  | _ => none

theorem cell_eq (w : World) (a : Addr) : w.cell? a = cell w.heap a := rfl

/-- Every block that there was is as it was. -/
def Ext (H H' : Heap) : Prop := ∀ (b : Nat) (o : Obj), H[b]? = some o → H'[b]? = some o

theorem Ext.refl (H : Heap) : Ext H H := fun _ _ h => h
theorem Ext.trans {A B C : Heap} (h : Ext A B) (h' : Ext B C) : Ext A C := fun b o hb => h' b o (h b o hb)
theorem Ext.cell {H H' : Heap} (h : Ext H H') {a : Addr} {v : Value} (hc : cell H a = some v) : cell H' a = some v := by
  unfold Sh.cell at hc ⊢
  cases hb : H[a.block]? with
  | none => simp [hb] at hc
  | some o => rw [h _ _ hb]; rw [hb] at hc; exact hc
theorem Ext.size {H H' : Heap} (h : Ext H H') : H.size ≤ H'.size := by
  rcases Nat.lt_or_ge H'.size H.size with hl | hl
  · have h1 := h H'.size H[H'.size] (by simp [hl])
    simp at h1
  · exact hl
theorem Ext.push (H : Heap) (o : Obj) : Ext H (H.push o) := fun b x hb => by
  have hlt : b < H.size := (Array.getElem?_eq_some_iff.1 hb).1
  rw [Array.getElem?_push_lt hlt]; rw [← hb]; simp [hlt]

/-- A block's frozen stretch. -/
def fz : Option Obj → Nat × Nat
  | some (.cells _ _ r) => r
  | _ => (0, 0)

theorem fz_eq (w : World) (a : Addr) : w.frozen? a = (decide ((fz w.heap[a.block]?).1 ≤ a.off) && decide (a.off < (fz w.heap[a.block]?).2)) := by
  unfold World.frozen? fz
  cases h : w.heap[a.block]? with
  | none => simp
  | some o => cases o <;> simp

/-- Nothing is printed, nothing frozen. -/
structure Out (w w' : World) : Prop where
  output : w'.output = w.output
  froz : ∀ a, w'.frozen? a = w.frozen? a

theorem Out.refl (w : World) : Out w w := ⟨rfl, fun _ => rfl⟩
theorem Out.trans {a b c : World} (h : Out a b) (h' : Out b c) : Out a c := ⟨h'.output.trans h.output, fun x => (h'.froz x).trans (h.froz x)⟩
theorem Out.of {w w' : World} (h : w'.output = w.output) (hf : ∀ b : Nat, fz w'.heap[b]? = fz w.heap[b]?) : Out w w' := ⟨h, fun a => by rw [fz_eq, fz_eq, hf]⟩
theorem fz_push (H : Heap) {o : Obj} (ho : fz (some o) = (0, 0)) (b : Nat) : fz (H.push o)[b]? = fz H[b]? := by
  rw [Array.getElem?_push]
  split
  · rename_i h; subst h; rw [ho]; simp [fz]
  · rfl
theorem fz_set {H : Heap} {r : Nat} {x o : Obj} (h : H[r]? = some x) (ho : fz (some o) = fz (some x)) (b : Nat) : fz (H.setIfInBounds r o)[b]? = fz H[b]? := by
  rw [Array.getElem?_setIfInBounds]
  split
  · rename_i hb
    subst hb
    have := (Array.getElem?_eq_some_iff.1 h).1
    rw [if_pos this, ho, h]
  · rfl
theorem Out.push (w : World) {o : Obj} (ho : fz (some o) = (0, 0)) : Out w { w with heap := w.heap.push o } := Out.of rfl (fz_push w.heap ho)
theorem Out.set {w : World} {r : Nat} {x o : Obj} (h : w.heap[r]? = some x) (ho : fz (some o) = fz (some x)) : Out w { w with heap := w.heap.setIfInBounds r o } := Out.of rfl (fz_set h ho)

/-! ### types -/

/-- What a type is, as far as operations look at it. -/
inductive D where
  | int (k : IntKind) | bool | str | ptr (e : TypeId) | sl (e : TypeId) | arr (n : Nat) (e : TypeId) | struct (fs : List (Nat × TypeId))
  | map (k e : TypeId) | fn | iface | tuple (ts : List TypeId) | other
  deriving DecidableEq

def D.of : TypeDesc → D
  | .int k => .int k
  | .bool => .bool
  | .string => .str
  | .pointer e => .ptr e
  | .slice e => .sl e
  | .array n e => .arr n e
  | .struct fs => .struct (fs.toList.map fun f => (f.offset, f.type))
  | .map k e => .map k e
  | .func _ _ _ => .fn
  | .interface _ => .iface
  | .tuple ts => .tuple ts.toList
  | _ => .other

structure TI where
  d : D
  size : Nat
  bytes : Nat
  zero : Value

def TIok (P : Program) (t : TypeId) (i : TI) : Prop :=
  (P.underlying t).map D.of = some i.d ∧ (P.info? t).map (fun x => (x.size, x.bytes, x.zero)) = some (i.size, i.bytes, some i.zero)

def TabOk (P : Program) (T : List (TypeId × TI)) : Prop := ∀ x ∈ T, TIok P x.1 x.2

/-- A type's row in the table. -/
def ti : List (TypeId × TI) → TypeId → Option TI
  | [], _ => none
  | (t, i) :: r, s => match Nat.beq t s with
    | true => some i
    | false => ti r s

theorem ti_mem {T : List (TypeId × TI)} {t : TypeId} {i : TI} (h : ti T t = some i) : (t, i) ∈ T := by
  induction T with
  | nil => simp [ti] at h
  | cons x r ih =>
    obtain ⟨s, j⟩ := x
    simp only [ti] at h
    cases hb : Nat.beq s t with
    | true => rw [hb] at h; simp at h; subst h; have := Nat.eq_of_beq_eq_true hb; subst this; exact List.mem_cons_self
    | false => rw [hb] at h; exact List.mem_cons_of_mem _ (ih h)

theorem TabOk.get {P : Program} {T : List (TypeId × TI)} (h : TabOk P T) {t : TypeId} {i : TI} (hi : ti T t = some i) : TIok P t i := h _ (ti_mem hi)

/-! ### environments -/

abbrev Env := List (Nat × Value)

def look : Env → Nat → Option Value
  | [], _ => none
  | (t, v) :: r, s => match Nat.beq t s with
    | true => some v
    | false => look r s

def lookB : List (Nat × Option Bool) → Nat → Option Bool
  | [], _ => none
  | (t, v) :: r, s => match Nat.beq t s with
    | true => v
    | false => lookB r s

def ev (e : Env) : Operand → Option Value
  | .tmp t => look e t
  | .const v => some v
  | .global g => some (.pointer (some ⟨g, 0, none⟩))
  | .func f => some (.func (.func f) #[] #[])

structure Rep (n : Nat) (e : Env) (a : Act) : Prop where
  size : a.tmps.size = n
  defers : a.defers = []
  val : ∀ t v, look e t = some v → a.tmps[t]? = some v

theorem look_cons_eq (t : Nat) (v : Value) (e : Env) : look ((t, v) :: e) t = some v := by
  have : Nat.beq t t = true := Nat.beq_refl t
  simp only [look, this]
theorem look_cons_ne {t s : Nat} (v : Value) (e : Env) (h : t ≠ s) : look ((t, v) :: e) s = look e s := by
  have : Nat.beq t s = false := by
    cases hb : Nat.beq t s with
    | true => exact absurd (Nat.eq_of_beq_eq_true hb) h
    | false => rfl
  simp only [look, this]


theorem Rep.put {n : Nat} {e : Env} {a : Act} (h : Rep n e a) {d : Nat} (v : Value) (hd : d < n) : Rep n ((d, v) :: e) (a.put (some d) v) := by
  refine ⟨by simp [Act.put, h.size], h.defers, fun t u hu => ?_⟩
  by_cases ht : d = t
  · subst ht
    rw [look_cons_eq] at hu
    simp only [Option.some.injEq] at hu
    subst hu
    simp [Act.put, h.size, hd]
  · rw [look_cons_ne v e ht] at hu
    simp only [Act.put]
    rw [Array.getElem?_setIfInBounds_ne ht]
    exact h.val t u hu

theorem Rep.none {n : Nat} {e : Env} {a : Act} (h : Rep n e a) (v : Value) : Rep n e (a.put none v) := h

theorem Rep.ev {n : Nat} {e : Env} {a : Act} (h : Rep n e a) {x : Operand} {v : Value} (hx : ev e x = some v) : a.eval x = v := by
  cases x with
  | tmp t =>
    have := h.val t v hx
    simp [Act.eval, this]
  | const u => simpa [Sh.ev, Act.eval] using hx
  | global g => simpa [Sh.ev, Act.eval] using hx
  | func f => simpa [Sh.ev, Act.eval] using hx

/-- An environment that knows less. -/
theorem Rep.less {n : Nat} {e e' : Env} {a : Act} (h : Rep n e a) (hs : ∀ t v, look e' t = some v → look e t = some v) : Rep n e' a :=
  ⟨h.size, h.defers, fun t v hv => h.val t v (hs t v hv)⟩

end Go.Sh
