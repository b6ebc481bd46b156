/-
  OWN WORK. Items in a row of memory; orders, permutations of a stretch. The library's sort: insertion.
-/
import Derived.Test.YtmimlpfnhmokeaaHuffGFun
import Derived.Test.YtmimlpfnhmokeaaShL
set_option linter.unusedVariables false
set_option linter.unusedSimpArgs false
namespace Go.Proofs
open Go.Sh

theorem wrap_id {n : Int} (h0 : -9223372036854775808 ≤ n) (h1 : n ≤ 9223372036854775807) : IntKind.wrap .i64 n = n := by simp [IntKind.wrap, IntKind.bits, IntKind.signed]; omega

/-- An item; its tag is of the proof alone. -/
structure It where
  c : Int
  v : Value
  t : Nat

def It.cells (x : It) : Array Value := #[.int .i64 x.c, x.v]

def Lex (x y : It) : Prop := x.c < y.c ∨ (x.c = y.c ∧ x.t < y.t)
theorem Lex.trans {x y z : It} (h : Lex x y) (h' : Lex y z) : Lex x z := by unfold Lex at *; omega
theorem Lex.le {x y : It} (h : Lex x y) : x.c ≤ y.c := by unfold Lex at *; omega

def Srt (a b : Nat) (f : Nat → It) : Prop := ∀ p q, a ≤ p → p < q → q < b → Lex (f p) (f q)
def Tags (a b : Nat) (f : Nat → It) : Prop := ∀ p q, a ≤ p → p < q → q < b → (f p).t < (f q).t
def Bnd (n : Nat) (f : Nat → It) : Prop := ∀ i, i < n → 0 ≤ (f i).c ∧ (f i).c ≤ 1152921504606846976

structure PermOn (a b : Nat) (f f' : Nat → It) : Prop where
  ex : ∃ π : Nat → Nat, (∀ i, a ≤ i → i < b → a ≤ π i ∧ π i < b) ∧ (∀ i j, a ≤ i → i < b → a ≤ j → j < b → π i = π j → i = j) ∧ (∀ i, a ≤ i → i < b → f' i = f (π i))
  out : ∀ i, ¬ (a ≤ i ∧ i < b) → f' i = f i

theorem PermOn.refl (a b : Nat) (f : Nat → It) : PermOn a b f f := ⟨⟨id, fun _ h h' => ⟨h, h'⟩, fun _ _ _ _ _ _ h => h, fun _ _ _ => rfl⟩, fun _ _ => rfl⟩
theorem PermOn.trans {a b : Nat} {f g h : Nat → It} (h1 : PermOn a b f g) (h2 : PermOn a b g h) : PermOn a b f h := by
  obtain ⟨p, p1, p2, p3⟩ := h1.ex
  obtain ⟨q, q1, q2, q3⟩ := h2.ex
  refine ⟨⟨fun i => p (q i), fun i hi hj => p1 _ (q1 i hi hj).1 (q1 i hi hj).2, fun i j a1 a2 a3 a4 he => ?_, fun i hi hj => ?_⟩, fun i hi => ?_⟩
  · exact q2 i j a1 a2 a3 a4 (p2 _ _ (q1 i a1 a2).1 (q1 i a1 a2).2 (q1 j a3 a4).1 (q1 j a3 a4).2 he)
  · rw [q3 i hi hj, p3 _ (q1 i hi hj).1 (q1 i hi hj).2]
  · rw [h2.out i hi, h1.out i hi]
theorem PermOn.widen {a b a' b' : Nat} {f g : Nat → It} (h : PermOn a b f g) (ha : a' ≤ a) (hb : b ≤ b') : PermOn a' b' f g := by
  obtain ⟨p, p1, p2, p3⟩ := h.ex
  have inn : ∀ i, (¬ (a ≤ i ∧ i < b)) → True := fun _ _ => trivial
  refine ⟨⟨fun i => if a ≤ i ∧ i < b then p i else i, fun i hi hj => ?_, fun i j a1 a2 a3 a4 he => ?_, fun i hi hj => ?_⟩, fun i hi => h.out i (by omega)⟩
  · show a' ≤ (if _ then _ else _) ∧ (if _ then _ else _) < b'
    split
    · rename_i hh; have := p1 i hh.1 hh.2; omega
    · exact ⟨hi, hj⟩
  · simp only at he
    split at he
    · rename_i h1
      split at he
      · rename_i h2; exact p2 i j h1.1 h1.2 h2.1 h2.2 he
      · rename_i h2; have := p1 i h1.1 h1.2; omega
    · rename_i h1
      split at he
      · rename_i h2; have := p1 j h2.1 h2.2; omega
      · exact he
  · show g i = f (if _ then _ else _)
    split
    · rename_i hh; exact p3 i hh.1 hh.2
    · rename_i hh; exact h.out i hh
/-- What holds of all in a stretch goes over. -/
theorem PermOn.all {a b : Nat} {f g : Nat → It} (h : PermOn a b f g) {P : It → Prop} (hf : ∀ i, a ≤ i → i < b → P (f i)) : ∀ i, a ≤ i → i < b → P (g i) := fun i hi hj => by
  obtain ⟨p, p1, _, p3⟩ := h.ex
  rw [p3 i hi hj]
  exact hf _ (p1 i hi hj).1 (p1 i hi hj).2
theorem PermOn.bnd {a b n : Nat} {f g : Nat → It} (h : PermOn a b f g) (hb : b ≤ n) (hf : Bnd n f) : Bnd n g := fun i hi => by
  by_cases hh : a ≤ i ∧ i < b
  · exact h.all (P := fun x => 0 ≤ x.c ∧ x.c ≤ 1152921504606846976) (fun j _ hj => hf j (by omega)) i hh.1 hh.2
  · rw [h.out i hh]; exact hf i hi

def upd (f : Nat → It) (i : Nat) (x : It) : Nat → It := fun j => if j = i then x else f j
def swp (f : Nat → It) (p q : Nat) : Nat → It := fun j => if j = p then f q else if j = q then f p else f j

theorem swp_perm {a b p q : Nat} (f : Nat → It) (hp : a ≤ p ∧ p < b) (hq : a ≤ q ∧ q < b) : PermOn a b f (swp f p q) := by
  refine ⟨⟨fun j => if j = p then q else if j = q then p else j, fun i hi hj => ?_, fun i j _ _ _ _ he => ?_, fun i hi hj => ?_⟩, fun i hi => ?_⟩
  · simp only; split <;> (try split) <;> omega
  · simp only at he; repeat' split at he
    all_goals omega
  · show (if i = p then f q else if i = q then f p else f i) = f (if i = p then q else if i = q then p else i)
    by_cases h1 : i = p
    · rw [if_pos h1, if_pos h1]
    · by_cases h2 : i = q
      · rw [if_neg h1, if_neg h1, if_pos h2, if_pos h2]
      · rw [if_neg h1, if_neg h1, if_neg h2, if_neg h2]
  · unfold swp; rw [if_neg (by omega), if_neg (by omega)]

/-! ### memory -/

def DS (H : Heap) (blk n : Nat) (f : Nat → It) : Prop :=
  ∃ cs, H[blk]? = some (.cells cs 44) ∧ 2 * n ≤ cs.size ∧ ∀ i, i < n → cs[2 * i]? = some (.int .i64 (f i).c) ∧ cs[2 * i + 1]? = some (f i).v ∧ (f i).v.oneCell' = true

/-- All but a block stays. -/
def But (blk : Nat) (H H' : Heap) : Prop := ∀ (b : Nat) (o : Obj), H[b]? = some o → b ≠ blk → H'[b]? = some o
theorem But.refl (blk : Nat) (H : Heap) : But blk H H := fun _ _ h _ => h
theorem But.trans {blk : Nat} {A B C : Heap} (h : But blk A B) (h' : But blk B C) : But blk A C := fun b o hb hn => h' b o (h b o hb hn) hn
theorem But.ext {blk : Nat} {A B : Heap} (h : Ext A B) : But blk A B := fun b o hb _ => h b o hb

theorem DS.ext {H H' : Heap} {blk n : Nat} {f : Nat → It} (h : DS H blk n f) (he : Ext H H') : DS H' blk n f := by
  obtain ⟨cs, h1, h2⟩ := h
  exact ⟨cs, he _ _ h1, h2⟩

theorem DS.congr {H : Heap} {blk n : Nat} {f g : Nat → It} (h : DS H blk n f) (he : ∀ i, i < n → g i = f i) : DS H blk n g := by
  obtain ⟨cs, h1, h2, h3⟩ := h
  exact ⟨cs, h1, h2, fun i hi => by rw [he i hi]; exact h3 i hi⟩

theorem DS.row {H : Heap} {blk n : Nat} {f : Nat → It} (h : DS H blk n f) {i : Nat} (hi : i < n) : rowIn H ⟨blk, i * 2, none⟩ (f i).cells := by
  obtain ⟨cs, h1, h2, h3⟩ := h
  obtain ⟨a, b, _⟩ := h3 i hi
  refine rowIn_block h1 fun j v hv => ?_
  match j, hv with
  | 0, hv => simp [It.cells] at hv; subst hv; rw [Nat.mul_comm] at a; exact a
  | 1, hv => simp [It.cells] at hv; subst hv; rw [Nat.mul_comm] at b; exact b
  | j + 2, hv => simp [It.cells] at hv

theorem DS.one {H : Heap} {blk n : Nat} {f : Nat → It} (h : DS H blk n f) {i : Nat} (hi : i < n) : (f i).v.oneCell' = true := by
  obtain ⟨cs, h1, h2, h3⟩ := h
  exact (h3 i hi).2.2

theorem setL_get {c vs : List Value} {i : Nat} (h : i + vs.length ≤ c.length) (j : Nat) : (setL c i vs)[j]? = if i ≤ j ∧ j < i + vs.length then vs[j - i]? else c[j]? := by
  unfold setL
  by_cases h1 : j < i
  · rw [if_neg (by omega), List.append_assoc, List.getElem?_append_left (by simp; omega), List.getElem?_take_of_lt h1]
  · by_cases h2 : j < i + vs.length
    · rw [if_pos ⟨by omega, h2⟩, List.append_assoc, List.getElem?_append_right (by simp; omega), List.getElem?_append_left (by simp; omega)]
      congr 1
      simp; omega
    · rw [if_neg (by omega), List.getElem?_append_right (by simp; omega), List.getElem?_drop]
      congr 1
      simp; omega

theorem setL_len {c vs : List Value} {i : Nat} (h : i + vs.length ≤ c.length) : (setL c i vs).length = c.length := by unfold setL; simp; omega

theorem stAt_some {H : Heap} {b i : Nat} {c : Array Value} {t : TypeId} {vs : List Value} {f : Heap → Prop} (h : H[b]? = some (.cells c t (0, 0))) (hl : i + vs.length ≤ c.size) (ho : ∀ v ∈ vs, v.oneCell' = true)
    (hf : ∀ c' : Array Value, c'.size = c.size → (∀ j : Nat, c'[j]? = if i ≤ j ∧ j < i + vs.length then vs[j - i]? else c[j]?) → f (H.setIfInBounds b (.cells c' t (0, 0)))) : stAt H ⟨b, i, none⟩ vs f := by
  have hl' : i + vs.length ≤ c.toList.length := by simpa using hl
  refine ⟨c, t, h, rfl, hl, ho, ?_⟩
  refine hf (setL c.toList i vs).toArray (by simp [setL_len hl']) fun j => ?_
  rw [List.getElem?_toArray, setL_get hl' j, Array.getElem?_toList (xs := c)]

theorem DS.put {H : Heap} {blk n : Nat} {f : Nat → It} (h : DS H blk n f) {i : Nat} (hi : i < n) {x : It} (hx : x.v.oneCell' = true) {K : Heap → Prop} (hK : ∀ H', DS H' blk n (upd f i x) → But blk H H' → K H') : stAt H ⟨blk, i * 2, none⟩ (Array.toList x.cells) K := by
  obtain ⟨cs, h1, h2, h3⟩ := h
  refine stAt_some h1 (by simp [It.cells]; omega) (by intro v hv; simp [It.cells] at hv; rcases hv with rfl | rfl <;> first | rfl | exact hx) fun c' hc' hg => hK _ ⟨c', get_set_self h1, by omega, fun j hj => ?_⟩ fun b o hb hn => get_set_ne (Ne.symm hn) hb
  have hl : (Array.toList x.cells).length = 2 := rfl
  rw [hl] at hg
  obtain ⟨a, b, c⟩ := h3 j hj
  unfold upd
  by_cases hji : j = i
  · rw [if_pos hji, hg, hg, if_pos (by omega), if_pos (by omega)]
    have e1 : 2 * j - i * 2 = 0 := by omega
    have e2 : 2 * j + 1 - i * 2 = 1 := by omega
    rw [e1, e2]
    exact ⟨rfl, rfl, hx⟩
  · rw [if_neg hji, hg, hg, if_neg (by omega), if_neg (by omega)]
    exact ⟨a, b, c⟩

/-! ### the order asked -/

def Cmp (g : Nat) : Prop := ∀ (x y : It) (H : Heap) (R : Value → Heap → Prop), (0 ≤ x.c ∧ x.c ≤ 1152921504606846976) → (0 ≤ y.c ∧ y.c ≤ 1152921504606846976) → (∀ H', Ext H H' → R (.int .i64 (x.c - y.c)) H') →
  CallsH Try.prog g #[.agg x.cells, .agg y.cells] H R

theorem cmp23 : Cmp 23 := fun x y H R hx hy h => by
  refine Try.s23 ?_
  unfold Try.S23 alc
  have e1 : Ext H (H.push (.cells x.cells 44)) := Ext.push _ _
  have h1 := get_push_self H (.cells x.cells 44)
  generalize H.push (.cells x.cells 44) = H1 at e1 h1
  have e2 : Ext H1 (H1.push (.cells y.cells 44)) := Ext.push _ _
  have h2 := get_push_self H1 (.cells y.cells 44)
  refine ⟨x.c, by rw [add_none]; exact cell_get (e2 _ _ h1) rfl, y.c, by rw [add_none]; exact cell_get h2 rfl, ?_⟩
  rw [wrap_id (by omega) (by omega)]
  exact h _ (e1.trans e2)
theorem cmp29 : Cmp 29 := fun x y H R hx hy h => by
  refine Try.s29 ?_
  unfold Try.S29 alc
  have e1 : Ext H (H.push (.cells x.cells 44)) := Ext.push _ _
  have h1 := get_push_self H (.cells x.cells 44)
  generalize H.push (.cells x.cells 44) = H1 at e1 h1
  have e2 : Ext H1 (H1.push (.cells y.cells 44)) := Ext.push _ _
  have h2 := get_push_self H1 (.cells y.cells 44)
  refine ⟨x.c, by rw [add_none]; exact cell_get (e2 _ _ h1) rfl, y.c, by rw [add_none]; exact cell_get h2 rfl, ?_⟩
  rw [wrap_id (by omega) (by omega)]
  exact h _ (e1.trans e2)

theorem upd_swp (f : Nat → It) {p q : Nat} (hpq : p ≠ q) : upd (upd f q (f p)) p (f q) = swp f p q := by
  funext j
  unfold upd swp
  by_cases h1 : j = p
  · rw [if_pos h1]
  · rw [if_neg h1]

set_option maxHeartbeats 1000000 in
theorem c31 {g : Nat} (hc : Cmp g) {H : Heap} {blk n a b c : Nat} {f : Nat → It} (h : DS H blk n f) (hb : Bnd n f) (hab : a ≤ b) (hbn : b ≤ n) (hn : n ≤ 1000000) (ht : Tags a b f) {R : Value → Heap → Prop}
    (hR : ∀ H' f', DS H' blk n f' → But blk H H' → PermOn a b f f' → Srt a b f' → R (.tuple #[]) H') :
    CallsH Try.prog 31 #[.slice (some ⟨blk, 0, none⟩) n c, .int .i64 a, .int .i64 b, .func (.func g) #[] #[]] H R := by
  refine Try.s31 ?_
  unfold Try.S31
  intro X hX
  have outer : ∀ (m i : Nat) (H1 : Heap) (f1 : Nat → It), b - i = m → a + 1 ≤ i → (i ≤ b ∨ i = a + 1) → DS H1 blk n f1 → But blk H H1 → PermOn a b f f1 → Srt a i f1 → (∀ j, i ≤ j → f1 j = f j) → (∀ p q, a ≤ p → p < i → i ≤ q → q < b → (f1 p).t < (f1 q).t) → X [.int .i64 i] H1 := by
    intro m
    induction m with
    | zero =>
      intro i H1 f1 hm hi hib d1 b1 p1 s1 _ _
      refine hX _ H1 (br_n (by omega) (hR H1 f1 d1 b1 p1 fun p q h1 h2 h3 => s1 p q h1 h2 (by omega)))
    | succ m ih =>
      intro i H1 f1 hm hi hib d1 b1 p1 s1 old cross
      have ewi : IntKind.wrap .i64 ((i : Int) + 1) = ((i + 1 : Nat) : Int) := by rw [wrap_id (by omega) (by omega)]; omega
      refine hX _ H1 (br_y (by omega) ?_)
      rw [ewi]
      intro Y hY
      have inner : ∀ (j : Nat) (H2 : Heap) (f2 : Nat → It), a ≤ j → j ≤ i → DS H2 blk n f2 → But blk H H2 → PermOn a (i + 1) f1 f2 → f2 j = f1 i →
          (∀ p q, a ≤ p → p < q → q ≤ i → p ≠ j → q ≠ j → Lex (f2 p) (f2 q)) → (∀ q, j < q → q ≤ i → (f2 j).c < (f2 q).c) → (∀ p, a ≤ p → p ≤ i → p ≠ j → (f2 p).t < (f2 j).t) → Y [.int .i64 j] H2 := by
        intro j
        induction j with
        | zero =>
          intro H2 f2 haj hji d2 b2 p2 hx srt big tg
          refine hY _ H2 ?_
          intro J hJ
          refine br_n (by omega) ?_
          refine ih (i + 1) H2 f2 (by omega) (by omega) (by omega) d2 b2 (p1.trans (p2.widen (Nat.le_refl _) (by omega))) (fun p q h1 h2 h3 => ?_) (fun k hk => by rw [p2.out k (by omega), old k (by omega)]) (fun p q h1 h2 h3 h4 => ?_)
          · by_cases hp : p = 0
            · subst hp; left; exact big q h2 (by omega)
            · exact srt p q h1 h2 (by omega) hp (by omega)
          · rw [p2.out q (by omega)]
            have := p2.all (P := fun x => x.t < (f1 q).t) (fun k hk1 hk2 => ?_) p h1 (by omega)
            · exact this
            · by_cases hki : k < i
              · exact cross k q hk1 hki (by omega) h4
              · have : k = i := by omega
                subst this
                rw [old k (Nat.le_refl _), old q (by omega)]
                exact ht k q hk1 (by omega) h4
        | succ j ihj =>
          intro H2 f2 haj hji d2 b2 p2 hx srt big tg
          refine hY _ H2 ?_
          have ew : IntKind.wrap .i64 (((j + 1 : Nat) : Int) - 1) = (j : Int) := by rw [wrap_id (by omega) (by omega)]; omega
          have done : Y [.int .i64 ((j + 1 : Nat) : Int)] H2 → True := fun _ => trivial
          have bnd2 : Bnd n f2 := p2.bnd (by omega) (p1.bnd hbn hb)
          have stop : ∀ H3, Ext H2 H3 → (a = j + 1 ∨ (a ≤ j ∧ (f2 j).c ≤ (f2 (j + 1)).c)) → X [.int .i64 ((i + 1 : Nat) : Int)] H3 := fun H3 e3 hs => by
            refine ih (i + 1) H3 f2 (by omega) (by omega) (by omega) (d2.ext e3) (b2.trans (But.ext e3)) (p1.trans (p2.widen (Nat.le_refl _) (by omega))) (fun p q h1 h2 h3 => ?_) (fun k hk => by rw [p2.out k (by omega), old k (by omega)]) (fun p q h1 h2 h3 h4 => ?_)
            · by_cases hp : p = j + 1
              · subst hp; left; exact big q h2 (by omega)
              · by_cases hq : q = j + 1
                · subst hq
                  rcases hs with hs | ⟨hs, hs'⟩
                  · omega
                  · have h5 : Lex (f2 j) (f2 (j + 1)) := by
                      have := tg j hs (by omega) (by omega)
                      unfold Lex; omega
                    by_cases hpj : p = j
                    · subst hpj; exact h5
                    · exact (srt p j h1 (by omega) (by omega) hp (by omega)).trans h5
                · exact srt p q h1 h2 (by omega) hp hq
            · rw [p2.out q (by omega)]
              refine p2.all (P := fun x => x.t < (f1 q).t) (fun k hk1 hk2 => ?_) p h1 (by omega)
              by_cases hki : k < i
              · exact cross k q hk1 hki (by omega) h4
              · have : k = i := by omega
                subst this
                rw [old k (Nat.le_refl _), old q (by omega)]
                exact ht k q hk1 (by omega) h4
          intro J hJ
          refine br_dec (fun hgt => ?_) (fun hle => stop H2 (Ext.refl _) (.inl (by omega)))
          have haj' : a ≤ j := by omega
          refine ⟨_, rfl, by omega, by omega, (f2 (j + 1)).cells, rfl, by simpa using d2.row (i := j + 1) (by omega), _, rfl, by rw [ew]; omega, by rw [ew]; omega, (f2 j).cells, rfl, by rw [ew]; simpa using d2.row (i := j) (by omega), ?_⟩
          refine hc (f2 (j + 1)) (f2 j) H2 _ (bnd2 _ (by omega)) (bnd2 _ (by omega)) fun H3 e3 => ⟨_, rfl, br_dec (fun hlt => ?_) (fun hge => stop H3 e3 (.inr ⟨haj', by omega⟩))⟩
          refine hJ H3 ?_
          have d3 := d2.ext e3
          refine ⟨_, rfl, by rw [ew]; omega, by rw [ew]; omega, (f2 j).cells, rfl, by rw [ew]; simpa using d3.row (i := j) (by omega), _, rfl, by omega, by omega, (f2 (j + 1)).cells, rfl, by simpa using d3.row (i := j + 1) (by omega), _, rfl, by omega, by omega, rfl, ?_⟩
          simp only [add_none, Nat.zero_add, Int.toNat_natCast]
          refine d3.put (i := j + 1) (by omega) (x := f2 j) (d3.one (by omega)) fun H4 d4 b4 => ⟨_, rfl, by rw [ew]; omega, by rw [ew]; omega, rfl, ?_⟩
          rw [ew]
          simp only [add_none, Nat.zero_add, Int.toNat_natCast]
          refine d4.put (i := j) (by omega) (x := f2 (j + 1)) (d3.one (by omega)) fun H5 d5 b5 => ?_
          rw [upd_swp f2 (p := j) (q := j + 1) (by omega)] at d5
          have sj : swp f2 j (j + 1) j = f2 (j + 1) := by simp [swp]
          have sj1 : swp f2 j (j + 1) (j + 1) = f2 j := by simp [swp]
          have so : ∀ k, k ≠ j → k ≠ j + 1 → swp f2 j (j + 1) k = f2 k := fun k h1 h2 => by simp [swp, h1, h2]
          refine ihj H5 _ haj' (by omega) d5 (b2.trans ((But.ext e3).trans (b4.trans b5))) (p2.trans (swp_perm f2 ⟨haj', by omega⟩ ⟨by omega, by omega⟩)) (by rw [sj, hx]) (fun p q h1 h2 h3 h4 h5 => ?_) (fun q h1 h2 => ?_) (fun p h1 h2 h3 => ?_)
          · by_cases hq1 : q = j + 1
            · subst hq1
              rw [sj1, so p h4 (by omega)]
              exact srt p j h1 (by omega) (by omega) (by omega) (by omega)
            · by_cases hp1 : p = j + 1
              · subst hp1
                rw [sj1, so q (by omega) (by omega)]
                exact srt j q haj' (by omega) h3 (by omega) (by omega)
              · rw [so p h4 hp1, so q h5 hq1]
                exact srt p q h1 h2 h3 hp1 hq1
          · rw [sj]
            by_cases hq1 : q = j + 1
            · subst hq1; rw [sj1]; omega
            · rw [so q (by omega) hq1]; exact big q (by omega) h2
          · rw [sj]
            by_cases hp1 : p = j + 1
            · subst hp1; rw [sj1]; exact tg j haj' (by omega) (by omega)
            · rw [so p h3 hp1]; exact tg p h1 h2 hp1
      refine inner i H1 f1 (by omega) (Nat.le_refl _) d1 b1 (PermOn.refl _ _ _) rfl (fun p q h1 h2 h3 h4 h5 => s1 p q h1 h2 (by omega)) (fun q h1 h2 => by omega) (fun p h1 h2 h3 => ?_)
      exact cross p i h1 (by omega) (Nat.le_refl _) (by omega)
  have ew : IntKind.wrap .i64 ((a : Int) + 1) = ((a + 1 : Nat) : Int) := by rw [wrap_id (by omega) (by omega)]; omega
  rw [ew]
  refine outer _ (a + 1) H f rfl (Nat.le_refl _) (.inr rfl) h (But.refl _ _) (PermOn.refl _ _ _) (fun p q h1 h2 h3 => by omega) (fun _ _ => rfl) (fun p q h1 h2 h3 h4 => ht p q h1 (by omega) h4)

end Go.Proofs
