/-
  OWN WORK. The document's 'level' and 'Least' over heaps.
-/
import Derived.Test.YtmimlpfnhmokeaaHuffR
set_option linter.unusedVariables false
set_option linter.unusedSimpArgs false
namespace Go.Proofs
open Go.Sh

def enc : Option Int → Int
  | none => -1
  | some v => v
def gE (n : Nat) (S : Nat → Int) (e i p : Nat) : Int := enc (val n S e (n - i) p)

/-- Rows of a table; they lie ahead of block N. -/
structure Rows (H : Heap) (blk n : Nat) (D : Nat → Prop) (g : Nat → Nat → Int) (N : Nat) : Prop where
  ex : ∃ cs, H[blk]? = some (.cells cs 22) ∧ cs.size = n + 1 ∧ ∀ i, i ≤ n → D i → ∃ rb row, cs[i]? = some (.slice (some ⟨rb, 0, none⟩) (n + 1) (n + 1)) ∧ rb < N ∧ H[rb]? = some (.cells row 3) ∧ ∀ p, p ≤ n → row[p]? = some (.int .i64 (g i p))

theorem Rows.keep {H H' : Heap} {blk n N : Nat} {D : Nat → Prop} {g : Nat → Nat → Int} (h : Rows H blk n D g N) (hk : ∀ (b : Nat) (o : Obj), H[b]? = some o → (b < N ∨ b = blk) → H'[b]? = some o) : Rows H' blk n D g N := by
  obtain ⟨cs, h1, h2, h3⟩ := h.ex
  refine ⟨cs, hk _ _ h1 (.inr rfl), h2, fun i hi hd => ?_⟩
  obtain ⟨rb, row, a, b, c, d⟩ := h3 i hi hd
  exact ⟨rb, row, a, b, hk _ _ c (.inl b), d⟩
theorem Rows.ext {H H' : Heap} {blk n N : Nat} {D : Nat → Prop} {g : Nat → Nat → Int} (h : Rows H blk n D g N) (he : Ext H H') : Rows H' blk n D g N := h.keep fun b o hb _ => he b o hb
theorem Rows.get {H : Heap} {blk n N : Nat} {D : Nat → Prop} {g : Nat → Nat → Int} (h : Rows H blk n D g N) {i : Nat} (hi : i ≤ n) (hd : D i) : ∃ rb, cell H ⟨blk, i, none⟩ = some (.slice (some ⟨rb, 0, none⟩) (n + 1) (n + 1)) ∧ ∀ p, p ≤ n → cell H ⟨rb, p, none⟩ = some (.int .i64 (g i p)) := by
  obtain ⟨cs, h1, h2, h3⟩ := h.ex
  obtain ⟨rb, row, a, b, c, d⟩ := h3 i hi hd
  exact ⟨rb, cell_get h1 a, fun p hp => cell_get c (d p hp)⟩

theorem Rows.mono {H : Heap} {blk n N N' : Nat} {D D' : Nat → Prop} {g : Nat → Nat → Int} (h : Rows H blk n D g N) (hN : N ≤ N') (hD : ∀ i, i ≤ n → D' i → D i) : Rows H blk n D' g N' := by
  obtain ⟨cs, h1, h2, h3⟩ := h.ex
  refine ⟨cs, h1, h2, fun i hi hd => ?_⟩
  obtain ⟨rb, row, a, b, c, d⟩ := h3 i hi (hD i hi hd)
  exact ⟨rb, row, a, by omega, c, d⟩

/-- A row more. -/
theorem Rows.add {H : Heap} {blk n N nb i : Nat} {D : Nat → Prop} {g : Nat → Nat → Int} {vs : List Int} (h : Rows H blk n D g N) (hc : cell H ⟨blk, i, none⟩ = some (.slice (some ⟨nb, 0, none⟩) (n + 1) (n + 1))) (hf : FS 0 H (some ⟨nb, 0, none⟩) (n + 1) (n + 1) 3 1 (ints vs))
    (hv : ∀ p, p ≤ n → vs[p]? = some (g i p)) : Rows H blk n (fun j => D j ∨ j = i) g (max N (nb + 1)) := by
  obtain ⟨cs, h1, h2, h3⟩ := h.ex
  refine ⟨cs, h1, h2, fun j hj hd => ?_⟩
  by_cases hji : j = i
  · subst hji
    rcases hf.at_ with ⟨h0, _⟩ | ⟨blk', row, hq, _, hg, hsz, hgt⟩
    · cases h0
    · cases hq
      refine ⟨nb, row, ?_, by omega, hg, fun p hp => hgt p _ (ints_get (hv p hp))⟩
      rw [cell_block h1] at hc
      exact hc
  · have hd' : D j := hd.resolve_right hji
    obtain ⟨rb, row, a, b, c, d⟩ := h3 j hj hd'
    exact ⟨rb, row, a, by omega, c, d⟩

theorem val_rng {n : Nat} {S : Nat → Int} (h0 : S 0 = 0) (hS : ∀ k, 0 ≤ S k ∧ S k ≤ 1000000000000000) {e f p : Nat} {v : Int} (h : val n S e f p = some v) (he : e ≤ 16) : 0 ≤ v ∧ v ≤ 16000000000000000 := by
  obtain ⟨Z, a, b, c, d⟩ := val_low h0 e f p v h
  have : ∀ Z : List Nat, 0 ≤ (Z.map S).sum ∧ (Z.map S).sum ≤ 1000000000000000 * Z.length := fun Z => by
    induction Z with
    | nil => simp
    | cons x y ih => simp only [List.map_cons, List.sum_cons, List.length_cons]; have := hS x; omega
  have := this Z
  omega

theorem c26 {H : Heap} {bd bh bs n e m Nh Nd i p : Nat} {S : Nat → Int} {sl : List Int} (h0 : S 0 = 0) (hS : ∀ k, 0 ≤ S k ∧ S k ≤ 1000000000000000) (hn : n ≤ 1000) (he : e < m) (hm : m ≤ 16) (hi : i ≤ n) (hp : p ≤ n)
    (hh : Rows H bh n (fun j => i < j) (gE n S e) Nh) (hd : 0 < e → Rows H bd n (fun _ => True) (gE n S (e - 1)) Nd) (hs : RS H (some ⟨bs, 0, none⟩) (n + 1) 3 1 (ints sl)) (hsl : ∀ j, j ≤ n → sl[j]? = some (S (n - j))) {R : Value → Heap → Prop}
    (hR : ∀ H', Ext H H' → R (.int .i64 (gE n S e i p)) H') :
    CallsH Try.prog 26 #[.slice (some ⟨bd, 0, none⟩) (n + 1) (n + 1), .slice (some ⟨bh, 0, none⟩) (n + 1) (n + 1), .slice (some ⟨bs, 0, none⟩) (n + 1) (n + 1), .agg #[.int .i64 i, .int .i64 p, .int .i64 ((m - e : Nat) : Int)], .int .i64 m] H R := by
  refine Try.s26 ?_
  unfold Try.S26 alc
  have hb1 := get_push_self H (.cells #[Value.int .i64 i, Value.int .i64 p, Value.int .i64 ((m - e : Nat) : Int)] 51)
  have e1 : Ext H (H.push (.cells #[Value.int .i64 i, Value.int .i64 p, Value.int .i64 ((m - e : Nat) : Int)] 51)) := Ext.push _ _
  generalize H.push (.cells #[Value.int .i64 i, Value.int .i64 p, Value.int .i64 ((m - e : Nat) : Int)] 51) = H1 at hb1 e1
  have fin := hR H1 e1
  have hh1 := hh.ext e1
  have hs1 := hs.ext e1
  have wn : IntKind.wrap .i64 (((n + 1 : Nat) : Int) - 1) = (n : Int) := by rw [wrap_id (by omega) (by omega)]; omega
  have w2 : IntKind.wrap .i64 ((2 : Int) * p) = ((2 * p : Nat) : Int) := by rw [wrap_id (by omega) (by omega)]; omega
  have sget : cell H1 ⟨bs, i, none⟩ = some (.int .i64 (S (n - i))) := by
    obtain ⟨blk, q1, v1⟩ := hs1.cell (ints_get (hsl i hi))
    cases q1; exact v1
  refine ⟨by omega, by omega, i, cell_get hb1 rfl, by omega, by omega, p, cell_get hb1 rfl, ?_⟩
  rw [wn, w2]
  refine br_eq (fun heq => ?_) (fun hne => ?_)
  · have : gE n S e i p = 0 := by
      unfold gE
      have : n - i = 0 := by omega
      rw [this, val_zero]; rfl
    rw [this] at fin; exact fin
  obtain ⟨f, hf⟩ : ∃ f, n - i = f + 1 := ⟨n - i - 1, by omega⟩
  have hg : gE n S e i p = enc (val n S e (f + 1) p) := by unfold gE; rw [hf]
  intro J hJ
  cases p with
  | zero =>
    rw [hg, val_none] at fin
    refine br_n (by omega) (hJ _ H1 ?_)
    intro J2 hJ2
    exact br_n (by omega) (hJ2 _ H1 fin)
  | succ p =>
    have wi : IntKind.wrap .i64 ((i : Int) + 1) = ((i + 1 : Nat) : Int) := by rw [wrap_id (by omega) (by omega)]; omega
    have wp : IntKind.wrap .i64 (((p + 1 : Nat) : Int) - 1) = (p : Int) := by rw [wrap_id (by omega) (by omega)]; omega
    rw [wi, wp]
    obtain ⟨rb, g1, g2⟩ := hh1.get (i := i + 1) (by omega) (by omega)
    have g2 := g2 p (by omega)
    have hhere : gE n S e (i + 1) p = enc (val n S e f p) := by unfold gE; congr 2; omega
    rw [hhere] at g2
    refine br_y (by omega) ⟨_, rfl, by omega, by omega, some ⟨rb, 0, none⟩, n + 1, n + 1, by simpa using g1, _, rfl, by omega, by omega, enc (val n S e f p), by simpa using g2, hJ _ H1 ?_⟩
    intro J2 hJ2
    refine br_y (by omega) ⟨by omega, by omega, ((m - e : Nat) : Int), cell_get hb1 rfl, ?_⟩
    cases e with
    | zero =>
      rw [hg, val_last] at fin
      exact br_n (by omega) (hJ2 _ H1 fin)
    | succ e =>
      refine br_y (by omega) ?_
      rw [hg, val_step] at fin
      have hd1 := (hd (by omega)).ext e1
      rw [Nat.add_sub_cancel] at hd1
      intro J3 hJ3
      -- the row below
      have below : ∀ q : Nat, q = min (2 * (p + 1)) n → J3 [.int .i64 q] H1 := fun q hq => by
        obtain ⟨rd, d1, d2⟩ := hd1.get (i := i) hi trivial
        have d2 := d2 q (by omega)
        have hx : gE n S e i q = enc (val n S e (f + 1) (min (2 * (p + 1)) n)) := by unfold gE; rw [hf, hq]
        rw [hx] at d2
        rw [hf] at sget
        refine hJ3 _ H1 ⟨_, rfl, by omega, by omega, some ⟨rd, 0, none⟩, n + 1, n + 1, by simpa using d1, _, rfl, by omega, by omega, _, by simpa using d2, ?_⟩
        cases hb : val n S e (f + 1) (min (2 * (p + 1)) n) with
        | none =>
          rw [hb] at fin
          refine br_n (by show ¬ (-1 : Int) ≥ 0; omega) (hJ2 _ H1 ?_)
          cases ha : val n S (e + 1) f p with
          | none => rw [ha] at fin; exact fin
          | some a => rw [ha] at fin; exact fin
        | some b =>
          rw [hb] at fin
          have rb' := val_rng h0 hS hb (by omega)
          have rS := hS (f + 1)
          have wx : IntKind.wrap .i64 (b + S (f + 1)) = b + S (f + 1) := wrap_id (by omega) (by omega)
          refine br_y (by show b ≥ 0; omega) ?_
          cases ha : val n S (e + 1) f p with
          | none =>
            rw [ha] at fin
            refine br_y (by show (-1 : Int) < 0; omega) ⟨_, rfl, by omega, by omega, S (f + 1), by simpa using sget, ?_⟩
            show J2 [.int .i64 (IntKind.wrap .i64 (b + S (f + 1)))] H1
            rw [wx]
            exact hJ2 _ H1 fin
          | some a =>
            rw [ha] at fin
            have ra := val_rng h0 hS ha (by omega)
            refine br_n (by show ¬ a < 0; omega) ⟨_, rfl, by omega, by omega, S (f + 1), by simpa using sget, ?_⟩
            show br (decide (IntKind.wrap .i64 (b + S (f + 1)) < a)) _ _
            rw [wx]
            simp only [mn, Option.map_some] at fin
            refine br_dec (fun hlt => ⟨_, rfl, by omega, by omega, S (f + 1), by simpa using sget, ?_⟩) (fun hge => ?_)
            · show J2 [.int .i64 (IntKind.wrap .i64 (b + S (f + 1)))] H1
              rw [if_pos hlt] at fin
              rw [wx]
              exact hJ2 _ H1 fin
            · rw [if_neg hge] at fin
              exact hJ2 _ H1 fin
      refine br_dec (fun hgt => ?_) (fun hle => ?_)
      · exact below n (by omega)
      · exact below (2 * (p + 1)) (by omega)

end Go.Proofs
