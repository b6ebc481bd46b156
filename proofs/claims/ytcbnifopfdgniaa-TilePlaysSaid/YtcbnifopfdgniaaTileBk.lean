/-
  OWN WORK. The statement's own book: its form in the heap; what its functions read.
-/
import Derived.Test.YtcbnifopfdgniaaTileFrees
set_option linter.unusedVariables false
set_option linter.unusedSimpArgs false
namespace Go.Proofs
open Go.Sh Go.Tile

/-- A plane of the book: pixels, tiles' numbers; where they lie. -/
structure BPl where
  px : List Int
  tl : List Int
  pb : Nat
  tb : Nat
  pc : Nat
  tc : Nat

def ints (l : List Int) : List Value := l.map (Value.int .i64)
def BPl.pxV (p : BPl) : Value := .slice (some ⟨p.pb, 0, none⟩) p.px.length p.pc
def BPl.tlV (p : BPl) : Value := .slice (some ⟨p.tb, 0, none⟩) p.tl.length p.tc

structure Bk where
  B : Nat
  w : Int
  h : Int
  wide : Int
  cap : Int
  next : Int
  lb : Nat
  lc : Nat
  pl : List BPl

def bookO (k : Bk) : Obj := .cells #[.int .i64 k.w, .int .i64 k.h, .int .i64 k.wide, .int .i64 k.cap, .int .i64 k.next, .slice (some ⟨k.lb, 0, none⟩) k.pl.length k.lc] 49

structure BIn (H : Heap) (k : Bk) : Prop where
  book : H[k.B]? = some (bookO k)
  l : ∃ cs, H[k.lb]? = some (.cells cs 51) ∧ (k.pl.length ≤ k.lc ∧ cs.size = 2 * k.lc) ∧ ∀ (i : Nat) p, k.pl[i]? = some p → cs[2 * i]? = some p.pxV ∧ cs[2 * i + 1]? = some p.tlV
  px : ∀ p ∈ k.pl, SL 0 H (some ⟨p.pb, 0, none⟩) p.px.length p.pc 3 (ints p.px)
  tl : ∀ p ∈ k.pl, SL 0 H (some ⟨p.tb, 0, none⟩) p.tl.length p.tc 3 (ints p.tl)

theorem BIn.ext {H H' : Heap} {k : Bk} (h : BIn H k) (he : Ext H H') : BIn H' k := by
  obtain ⟨cs, h1, h2⟩ := h.l
  exact ⟨he _ _ h.book, ⟨cs, he _ _ h1, h2⟩, fun p hp => (h.px p hp).ext he, fun p hp => (h.tl p hp).ext he⟩

theorem SL.cell' {n0 : Nat} {H : Heap} {b l c : Nat} {el : TypeId} {vs : List Value} (h : SL n0 H (some ⟨b, 0, none⟩) l c el vs) {i : Nat} {v : Value} (hv : vs[i]? = some v) : Go.Sh.cell H ⟨b, i, none⟩ = some v := by
  obtain ⟨blk, h1, h2⟩ := h.cell hv
  cases h1
  exact h2

theorem ints_get {l : List Int} {i : Nat} {v : Int} (h : l[i]? = some v) : (ints l)[i]? = some (Value.int .i64 v) := by simp [ints, h]

theorem c33 {H : Heap} {a b : Int} {R : Value → Heap → Prop} (h : R (.int .i64 (if 0 ≤ a then b else IntKind.wrap .i64 (b + a))) H) : CallsH Try.prog 33 #[.int .i64 a, .int .i64 b] H R := by
  refine Try.s33 ?_
  unfold Try.S33
  refine br_dec (fun h1 => ?_) (fun h1 => ?_)
  · rwa [if_pos h1] at h
  · rwa [if_neg h1] at h

/-- What the book's head and a plane's head read. -/
theorem BIn.cells {H : Heap} {k : Bk} (h : BIn H k) : cell H ⟨k.B, 0, none⟩ = some (.int .i64 k.w) ∧ cell H ⟨k.B, 1, none⟩ = some (.int .i64 k.h) ∧ cell H ⟨k.B, 2, none⟩ = some (.int .i64 k.wide) ∧ cell H ⟨k.B, 3, none⟩ = some (.int .i64 k.cap) ∧
    cell H ⟨k.B, 4, none⟩ = some (.int .i64 k.next) ∧ cell H ⟨k.B, 5, none⟩ = some (.slice (some ⟨k.lb, 0, none⟩) k.pl.length k.lc) :=
  ⟨cell_get h.book rfl, cell_get h.book rfl, cell_get h.book rfl, cell_get h.book rfl, cell_get h.book rfl, cell_get h.book rfl⟩

theorem BIn.plane {H : Heap} {k : Bk} (h : BIn H k) {i : Nat} {p : BPl} (hp : k.pl[i]? = some p) : cell H ⟨k.lb, i * 2, none⟩ = some p.pxV ∧ cell H ⟨k.lb, i * 2 + 1, none⟩ = some p.tlV ∧ rowIn H ⟨k.lb, i * 2, none⟩ #[p.pxV, p.tlV] := by
  obtain ⟨cs, h1, _, h2⟩ := h.l
  obtain ⟨h3, h4⟩ := h2 i p hp
  rw [Nat.mul_comm] at h3 h4
  refine ⟨cell_get h1 h3, cell_get h1 h4, rowIn_block h1 fun j v hv => ?_⟩
  match j, hv with
  | 0, hv => simp at hv; subst hv; exact h3
  | 1, hv => simp at hv; subst hv; exact h4
  | j + 2, hv => simp at hv

/-- Does another plane have the tile at a place? -/
def sharedB (k : Bk) (i a : Nat) (q : BPl) : Prop := ∃ j p, j ≠ i ∧ k.pl[j]? = some p ∧ p.tl[a]? = q.tl[a]?

theorem copy_pl {H : Heap} {p : BPl} {f : Heap → Prop} (h : ∀ H', Ext H H' → H'[H.size]? = some (.cells #[p.pxV, p.tlV] 51) → f H') :
    stAt (H.push (.cells #[Value.slice none 0 0, Value.slice none 0 0] 51)) ⟨H.size, 0, none⟩ (Array.toList #[p.pxV, p.tlV]) f := by
  refine stAt_whole (get_push_self _ _) rfl (by simp [BPl.pxV, BPl.tlV, Value.oneCell']) ?_
  exact h _ (fun b u hb => get_set_ne (Nat.ne_of_gt (lt_of_get hb)) (get_push hb)) (get_set_self (get_push_self _ _))

theorem c34 {H : Heap} {k : Bk} (h : BIn H k) {i a : Nat} {q : BPl} (hq : k.pl[i]? = some q) (ha : ∀ p ∈ k.pl, a < p.tl.length) (hlen : k.pl.length ≤ 1000) {R : Value → Heap → Prop}
    (hR : ∀ H' (r : Bool), Ext H H' → (r = true ↔ sharedB k i a q) → R (.bool r) H') : CallsH Try.prog 34 #[.pointer (some ⟨k.B, 0, none⟩), .int .i64 i, .int .i64 a] H R := by
  refine Try.s34 ?_
  unfold Try.S34
  obtain ⟨_, _, _, _, _, b5⟩ := h.cells
  refine ⟨_, rfl, some ⟨k.lb, 0, none⟩, k.pl.length, k.lc, by simpa using b5, ?_⟩
  intro X hX
  have hil := (List.getElem?_eq_some_iff.1 hq).1
  have loop : ∀ (m j : Nat) (H1 : Heap), k.pl.length - j = m → j ≤ k.pl.length → Ext H H1 → (∀ j' p, j' < j → j' ≠ i → k.pl[j']? = some p → p.tl[a]? ≠ q.tl[a]?) → X [.int .i64 j] H1 := by
    intro m
    induction m with
    | zero =>
      intro j H1 hm hj e1 hno
      refine hX _ H1 (br_n (by omega) (hR H1 false e1 ⟨fun hf => (by cases hf), fun hs => ?_⟩))
      obtain ⟨j', p, h1, h2, h3⟩ := hs
      have := (List.getElem?_eq_some_iff.1 h2).1
      exact absurd h3 (hno j' p (by omega) h1 h2)
    | succ m ih =>
      intro j H1 hm hj e1 hno
      have ew : IntKind.wrap .i64 ((j : Int) + 1) = ((j + 1 : Nat) : Int) := by rw [wrap_id (by omega) (by omega)]; omega
      obtain ⟨p, hp⟩ : ∃ p, k.pl[j]? = some p := ⟨_, List.getElem?_eq_getElem (by omega)⟩
      have h1 := h.ext e1
      obtain ⟨_, _, hrow⟩ := h1.plane hp
      refine hX _ H1 (br_y (by omega) ⟨_, rfl, by omega, by omega, #[p.pxV, p.tlV], rfl, by simpa using hrow, ?_⟩)
      unfold alc
      refine ⟨rfl, copy_pl fun H2 e2 hc => ?_⟩
      rw [ew]
      have e12 := e1.trans e2
      refine br_ne (fun hne => ?_) (fun heq => ?_)
      · have h2 := h.ext e12
        have hpa := ha p (List.mem_of_getElem? hp)
        have hqa := ha q (List.mem_of_getElem? hq)
        have hpv : p.tl[a]? = some p.tl[a] := List.getElem?_eq_getElem hpa
        have hqv : q.tl[a]? = some q.tl[a] := List.getElem?_eq_getElem hqa
        have hpc := (h2.tl p (List.mem_of_getElem? hp)).cell' (ints_get hpv)
        have hqc := (h2.tl q (List.mem_of_getElem? hq)).cell' (ints_get hqv)
        obtain ⟨_, _, _, _, _, b5'⟩ := h2.cells
        obtain ⟨_, qt, _⟩ := h2.plane hq
        refine ⟨some ⟨p.tb, 0, none⟩, p.tl.length, p.tc, ?_, _, rfl, by omega, by omega, p.tl[a], by simpa using hpc, _, rfl, some ⟨k.lb, 0, none⟩, k.pl.length, k.lc, by simpa using b5', _, rfl, by omega, by omega, some ⟨q.tb, 0, none⟩, q.tl.length, q.tc, by simpa [BPl.tlV] using qt, _, rfl, by omega, by omega, q.tl[a], by simpa using hqc, ?_⟩
        · rw [add_none, Nat.zero_add]
          exact cell_get hc rfl
        · refine br_eq (fun he => hR H2 true e12 ⟨fun _ => ⟨j, p, fun hh => hne (by rw [hh]), hp, by rw [hpv, hqv, he]⟩, fun _ => rfl⟩) (fun hne2 => ?_)
          refine ih (j + 1) H2 (by omega) (by omega) e12 fun j' p' hj' hji hp' => ?_
          by_cases hjj : j' = j
          · subst hjj
            rw [hp] at hp'; cases hp'
            rw [hpv, hqv]
            exact fun hh => hne2 (Option.some.inj hh)
          · exact hno j' p' (by omega) hji hp'
      · refine ih (j + 1) H2 (by omega) (by omega) e12 fun j' p' hj' hji hp' => ?_
        exact hno j' p' (by omega) hji hp'
  exact loop _ 0 H rfl (by omega) (Ext.refl H) (fun j' p hj => absurd hj (by omega))

theorem c32 {H : Heap} {k : Bk} (h : BIn H k) {i a : Nat} {q : BPl} (hq : k.pl[i]? = some q) (ha : ∀ p ∈ k.pl, a < p.tl.length) (hlen : k.pl.length ≤ 1000) {R : Value → Heap → Prop}
    (hR : ∀ H' (r : Bool), Ext H H' → (r = true ↔ (q.tl[a]? = some 0 ∨ sharedB k i a q)) → R (.bool r) H') : CallsH Try.prog 32 #[.pointer (some ⟨k.B, 0, none⟩), .int .i64 i, .int .i64 a] H R := by
  refine Try.s32 ?_
  unfold Try.S32
  obtain ⟨_, _, _, _, _, b5⟩ := h.cells
  obtain ⟨_, qt, _⟩ := h.plane hq
  have hil := (List.getElem?_eq_some_iff.1 hq).1
  have hqa := ha q (List.mem_of_getElem? hq)
  have hqv : q.tl[a]? = some q.tl[a] := List.getElem?_eq_getElem hqa
  have hqc := (h.tl q (List.mem_of_getElem? hq)).cell' (ints_get hqv)
  refine ⟨_, rfl, some ⟨k.lb, 0, none⟩, k.pl.length, k.lc, by simpa using b5, _, rfl, by omega, by omega, some ⟨q.tb, 0, none⟩, q.tl.length, q.tc, by simpa [BPl.tlV] using qt, _, rfl, by omega, by omega, q.tl[a], by simpa using hqc, ?_⟩
  refine br_eq (fun h0 => hR H true (Ext.refl H) ⟨fun _ => .inl (by rw [hqv, h0]), fun _ => rfl⟩) (fun h0 => ?_)
  refine c34 h hq ha hlen fun H' r e hr => ⟨r, rfl, hR H' r e ?_⟩
  rw [hr]
  refine ⟨.inr, fun hh => ?_⟩
  rcases hh with hh | hh
  · rw [hqv] at hh; exact absurd (Option.some.inj hh) h0
  · exact hh

end Go.Proofs
