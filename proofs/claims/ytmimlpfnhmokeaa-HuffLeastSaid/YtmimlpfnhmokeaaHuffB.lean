/-
  OWN WORK. The library's stable sort: swapping and turning stretches, merging, whole.
-/
import Derived.Test.YtmimlpfnhmokeaaHuffA
set_option linter.unusedVariables false
set_option linter.unusedSimpArgs false
namespace Go.Proofs
open Go.Sh

theorem mid_eq {x y : Nat} (h : x + y ≤ 4000000) : IntKind.wrap .i64 (shrI .u64 (IntKind.wrap .u64 (IntKind.wrap .i64 ((x : Int) + y))) (1 : Int)) = (((x + y) / 2 : Nat) : Int) := by
  have h1 : IntKind.wrap .i64 ((x : Int) + y) = (x : Int) + y := wrap_id (by omega) (by omega)
  have h2 : IntKind.wrap .u64 ((x : Int) + y) = (x : Int) + y := by simp [IntKind.wrap, IntKind.bits, IntKind.signed]; omega
  have h3 : shrI .u64 ((x : Int) + y) (1 : Int) = (((x + y) / 2 : Nat) : Int) := by
    have : shrI .u64 ((x : Int) + y) (1 : Int) = ((x : Int) + y).fdiv 2 := by simp [shrI, IntKind.bits]
    rw [this, Int.fdiv_eq_ediv_of_nonneg _ (by omega)]
    omega
  rw [h1, h2, h3]
  exact wrap_id (by omega) (by omega)

/-- Two stretches change places. -/
def swr (f : Nat → It) (a b n : Nat) : Nat → It := fun i => if a ≤ i ∧ i < a + n then f (b + (i - a)) else if b ≤ i ∧ i < b + n then f (a + (i - b)) else f i

theorem c36 {H : Heap} {blk n c a b k : Nat} {cm : Value} {f : Nat → It} (h : DS H blk n f) (hab : a + k ≤ b) (hbn : b + k ≤ n) (hn : n ≤ 1000000) {gg : Nat} {R : Value → Heap → Prop}
    (hR : ∀ H', DS H' blk n (swr f a b k) → But blk H H' → R (.tuple #[]) H') :
    CallsH Try.prog 36 #[.slice (some ⟨blk, 0, none⟩) n c, .int .i64 a, .int .i64 b, .int .i64 k, .func (.func gg) #[] #[]] H R := by
  refine Try.s36 ?_
  unfold Try.S36
  intro X hX
  have loop : ∀ (m i : Nat) (H1 : Heap), k - i = m → i ≤ k → DS H1 blk n (swr f a b i) → But blk H H1 → X [.int .i64 i] H1 := by
    intro m
    induction m with
    | zero =>
      intro i H1 hm hi d1 b1
      have : i = k := by omega
      subst this
      exact hX _ H1 (br_n (by omega) (hR H1 d1 b1))
    | succ m ih =>
      intro i H1 hm hi d1 b1
      have e1 : IntKind.wrap .i64 ((b : Int) + i) = ((b + i : Nat) : Int) := by rw [wrap_id (by omega) (by omega)]; omega
      have e2 : IntKind.wrap .i64 ((a : Int) + i) = ((a + i : Nat) : Int) := by rw [wrap_id (by omega) (by omega)]; omega
      have e3 : IntKind.wrap .i64 ((i : Int) + 1) = ((i + 1 : Nat) : Int) := by rw [wrap_id (by omega) (by omega)]; omega
      refine hX _ H1 (br_y (by omega) ?_)
      rw [e1, e2, e3]
      have vb : swr f a b i (b + i) = f (b + i) := by unfold swr; rw [if_neg (by omega), if_neg (by omega)]
      have va : swr f a b i (a + i) = f (a + i) := by unfold swr; rw [if_neg (by omega), if_neg (by omega)]
      have rb := d1.row (i := b + i) (by omega)
      have ra := d1.row (i := a + i) (by omega)
      have ob := d1.one (i := b + i) (by omega)
      have oa := d1.one (i := a + i) (by omega)
      rw [vb] at rb ob
      rw [va] at ra oa
      refine ⟨_, rfl, by omega, by omega, (f (b + i)).cells, rfl, by rw [Int.toNat_natCast]; simpa using rb, _, rfl, by omega, by omega, (f (a + i)).cells, rfl, by rw [Int.toNat_natCast]; simpa using ra, _, rfl, by omega, by omega, rfl, ?_⟩
      simp only [add_none, Nat.zero_add, Int.toNat_natCast]
      refine d1.put (i := a + i) (by omega) ob fun H2 d2 b2 => ⟨_, rfl, by omega, by omega, rfl, ?_⟩
      simp only [add_none, Nat.zero_add, Int.toNat_natCast]
      refine d2.put (i := b + i) (by omega) oa fun H3 d3 b3 => ?_
      refine ih (i + 1) H3 (by omega) (by omega) (d3.congr fun j hj => ?_) (b1.trans (b2.trans b3))
      unfold upd swr
      by_cases h1 : j = b + i
      · rw [if_pos h1, if_neg (by omega), if_pos (by omega)]; congr 1; omega
      · rw [if_neg h1]
        by_cases h2 : j = a + i
        · rw [if_pos h2, if_pos (by omega)]; congr 1; omega
        · rw [if_neg h2]
          by_cases h3 : a ≤ j ∧ j < a + i
          · rw [if_pos h3, if_pos (by omega)]
          · rw [if_neg h3, if_neg (by omega)]
            by_cases h4 : b ≤ j ∧ j < b + i
            · rw [if_pos h4, if_pos (by omega)]
            · rw [if_neg h4, if_neg (by omega)]
  refine loop k 0 H (by omega) (by omega) (h.congr fun j hj => ?_) (But.refl _ _)
  unfold swr; rw [if_neg (by omega), if_neg (by omega)]

/-- A stretch is turned: what stands from m on comes first. -/
def rot (f : Nat → It) (a m b : Nat) : Nat → It := fun i => if a ≤ i ∧ i < a + (b - m) then f (i + (m - a)) else if a + (b - m) ≤ i ∧ i < b then f (i - (b - m)) else f i

theorem rot_perm {f : Nat → It} {a m b : Nat} (h1 : a ≤ m) (h2 : m ≤ b) : PermOn a b f (rot f a m b) := by
  refine ⟨⟨fun i => if i < a + (b - m) then i + (m - a) else i - (b - m), fun i hi hj => ?_, fun i j _ _ _ _ he => ?_, fun i hi hj => ?_⟩, fun i hi => ?_⟩
  · simp only; split <;> omega
  · simp only at he; split at he <;> split at he <;> omega
  · show rot f a m b i = f (if _ then _ else _)
    unfold rot
    by_cases h : i < a + (b - m)
    · rw [if_pos ⟨hi, h⟩, if_pos h]
    · rw [if_neg (by omega), if_pos (by omega), if_neg h]
  · unfold rot; rw [if_neg (by omega), if_neg (by omega)]

set_option maxHeartbeats 1000000 in
theorem c35 {H : Heap} {blk n c a m b : Nat} {f : Nat → It} (h : DS H blk n f) (ham : a < m) (hmb : m < b) (hbn : b ≤ n) (hn : n ≤ 1000000) {gg : Nat} {R : Value → Heap → Prop}
    (hR : ∀ H', DS H' blk n (rot f a m b) → But blk H H' → R (.tuple #[]) H') :
    CallsH Try.prog 35 #[.slice (some ⟨blk, 0, none⟩) n c, .int .i64 a, .int .i64 m, .int .i64 b, .func (.func gg) #[] #[]] H R := by
  refine Try.s35 ?_
  unfold Try.S35
  intro X hX
  have e1 : IntKind.wrap .i64 ((m : Int) - a) = ((m - a : Nat) : Int) := by rw [wrap_id (by omega) (by omega)]; omega
  have e2 : IntKind.wrap .i64 ((b : Int) - m) = ((b - m : Nat) : Int) := by rw [wrap_id (by omega) (by omega)]; omega
  rw [e1, e2]
  have loop : ∀ (s i j : Nat) (H1 : Heap) (g : Nat → It), i + j ≤ s → 0 < i → 0 < j → i ≤ m → a ≤ m - i → m + j ≤ b → DS H1 blk n g → But blk H H1 → (∀ k, rot g (m - i) m (m + j) k = rot f a m b k) → X [.int .i64 i, .int .i64 j] H1 := by
    intro s
    induction s with
    | zero => intro i j H1 g hs hi hj; omega
    | succ s ih =>
      intro i j H1 g hs hi hj him hai hjb d1 b1 hg
      have w1 : IntKind.wrap .i64 ((m : Int) - i) = ((m - i : Nat) : Int) := by rw [wrap_id (by omega) (by omega)]; omega
      have w2 : IntKind.wrap .i64 ((m : Int) + j) = ((m + j : Nat) : Int) := by rw [wrap_id (by omega) (by omega)]; omega
      refine hX _ _ H1 (br_ne (fun hne => br_dec (fun hgt => ?_) (fun hle => ?_)) (fun heq => ?_))
      · have w3 : IntKind.wrap .i64 ((i : Int) - j) = ((i - j : Nat) : Int) := by rw [wrap_id (by omega) (by omega)]; omega
        rw [w1, w3]
        refine c36 (cm := .nilFunc) d1 (a := m - i) (b := m) (k := j) (by omega) (by omega) hn fun H2 d2 b2 => ⟨rfl, ?_⟩
        refine ih (i - j) j H2 _ (by omega) (by omega) hj (by omega) (by omega) hjb d2 (b1.trans b2) fun k => ?_
        rw [← hg k]
        unfold rot swr
        repeat' split
        all_goals first | omega | (congr 1; omega) | rfl
      · have w3 : IntKind.wrap .i64 ((j : Int) - i) = ((j - i : Nat) : Int) := by rw [wrap_id (by omega) (by omega)]; omega
        have w4 : IntKind.wrap .i64 (((m + j : Nat) : Int) - i) = ((m + j - i : Nat) : Int) := by rw [wrap_id (by omega) (by omega)]; omega
        rw [w1, w2, w3, w4]
        refine c36 (cm := .nilFunc) d1 (a := m - i) (b := m + j - i) (k := i) (by omega) (by omega) hn fun H2 d2 b2 => ⟨rfl, ?_⟩
        refine ih i (j - i) H2 _ (by omega) hi (by omega) him hai (by omega) d2 (b1.trans b2) fun k => ?_
        rw [← hg k]
        unfold rot swr
        repeat' split
        all_goals first | omega | (congr 1; omega) | rfl
      · rw [w1]
        refine c36 (cm := .nilFunc) d1 (a := m - i) (b := m) (k := i) (by omega) (by omega) hn fun H2 d2 b2 => ⟨rfl, hR H2 (d2.congr fun k hk => ?_) (b1.trans b2)⟩
        rw [← hg k]
        have : i = j := by omega
        subst this
        unfold rot swr
        repeat' split
        all_goals first | omega | (congr 1; omega) | rfl
  refine loop (m - a + (b - m)) (m - a) (b - m) H f (Nat.le_refl _) (by omega) (by omega) (by omega) (by omega) (by omega) h (But.refl _ _) fun k => ?_
  have x1 : m - (m - a) = a := by omega
  have x2 : m + (b - m) = b := by omega
  rw [x1, x2]

end Go.Proofs
