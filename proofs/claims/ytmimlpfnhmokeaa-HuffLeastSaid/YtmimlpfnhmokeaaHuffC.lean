/-
  OWN WORK. The library's stable sort: merging two sorted stretches in place.
-/
import Derived.Test.YtmimlpfnhmokeaaHuffB
set_option linter.unusedVariables false
set_option linter.unusedSimpArgs false
namespace Go.Proofs
open Go.Sh

set_option maxHeartbeats 4000000 in
theorem c32 {g : Nat} (hc : Cmp g) : ∀ (s : Nat) {H : Heap} {blk n c a m b : Nat} {f : Nat → It}, b - a ≤ s → DS H blk n f → Bnd n f → a < m → m < b → b ≤ n → n ≤ 1000000 → Srt a m f → Srt m b f →
    (∀ p q, a ≤ p → p < m → m ≤ q → q < b → (f p).t < (f q).t) → ∀ {R : Value → Heap → Prop}, (∀ H' f', DS H' blk n f' → But blk H H' → PermOn a b f f' → Srt a b f' → R (.tuple #[]) H') →
    CallsH Try.prog 32 #[.slice (some ⟨blk, 0, none⟩) n c, .int .i64 a, .int .i64 m, .int .i64 b, .func (.func g) #[] #[]] H R := by
  intro s
  induction s with
  | zero => intro H blk n c a m b f hs _ _ ham hmb; omega
  | succ s ihs =>
  intro H blk n c a m b f hs d bd ham hmb hbn hn sa sb tg R hR
  refine Try.s32 ?_
  unfold Try.S32
  have w1 : IntKind.wrap .i64 ((m : Int) - a) = ((m - a : Nat) : Int) := by rw [wrap_id (by omega) (by omega)]; omega
  have w2 : IntKind.wrap .i64 ((b : Int) - m) = ((b - m : Nat) : Int) := by rw [wrap_id (by omega) (by omega)]; omega
  rw [w1, w2]
  have inc : ∀ {x : Nat}, x ≤ 4000000 → IntKind.wrap .i64 ((x : Int) + 1) = ((x + 1 : Nat) : Int) := fun {x} h => by rw [wrap_id (by omega) (by omega)]; omega
  refine br_eq (fun h1 => ?_) (fun h1 => br_eq (fun h2 => ?_) (fun h2 => ?_))
  · -- one item ahead
    have hm : m = a + 1 := by omega
    intro X hX
    have search : ∀ (k i j : Nat) (H1 : Heap), j - i ≤ k → m ≤ i → i ≤ j → j ≤ b → Ext H H1 → (∀ q, m ≤ q → q < i → (f q).c < (f a).c) → (∀ q, j ≤ q → q < b → (f a).c ≤ (f q).c) → X [.int .i64 i, .int .i64 j] H1 := by
      intro k
      induction k with
      | zero =>
        intro i j H1 hk hi hij hjb e1 lo hi2
        have : i = j := by omega
        subst this
        have w3 : IntKind.wrap .i64 ((i : Int) - 1) = ((i - 1 : Nat) : Int) := by rw [wrap_id (by omega) (by omega)]; omega
        refine hX _ _ H1 (br_n (by omega) ?_)
        rw [w3]
        intro Y hY
        have shift : ∀ (r k : Nat) (H2 : Heap), i - 1 - k = r → a ≤ k → k ≤ i - 1 → DS H2 blk n (rot f a (a + 1) (k + 1)) → But blk H H2 → Y [.int .i64 k] H2 := by
          intro r
          induction r with
          | zero =>
            intro k H2 hr hak hki d2 b2
            have hk1 : k + 1 = i := by omega
            rw [hk1] at d2
            refine hY _ H2 (br_n (by omega) (hR H2 _ d2 b2 ((rot_perm (by omega) (by omega)).widen (Nat.le_refl _) (by omega)) fun p q p1 p2 p3 => ?_))
            unfold rot
            by_cases hp : p < i - 1
            · rw [if_pos (by omega)]
              by_cases hq : q < i - 1
              · rw [if_pos (by omega)]; exact sb _ _ (by omega) (by omega) (by omega)
              · rw [if_neg (by omega)]
                by_cases hq2 : q < i
                · rw [if_pos (by omega)]
                  have : q - (i - (a + 1)) = a := by omega
                  rw [this]; left; exact lo _ (by omega) (by omega)
                · rw [if_neg (by omega)]; exact sb _ _ (by omega) (by omega) (by omega)
            · rw [if_neg (by omega)]
              by_cases hp2 : p < i
              · rw [if_pos (by omega), if_neg (by omega), if_neg (by omega)]
                have : p - (i - (a + 1)) = a := by omega
                rw [this]
                have := hi2 q (by omega) p3
                have := tg a q (Nat.le_refl _) ham (by omega) p3
                unfold Lex; omega
              · rw [if_neg (by omega), if_neg (by omega), if_neg (by omega)]; exact sb _ _ (by omega) p2 p3
          | succ r ihr =>
            intro k H2 hr hak hki d2 b2
            have e1 := inc (x := k) (by omega)
            refine hY _ H2 (br_y (by omega) ?_)
            rw [e1]
            have v1 : rot f a (a + 1) (k + 1) (k + 1) = f (k + 1) := by unfold rot; rw [if_neg (by omega), if_neg (by omega)]
            have v0 : rot f a (a + 1) (k + 1) k = f a := by unfold rot; rw [if_neg (by omega), if_pos (by omega)]; congr 1; omega
            have r1 := d2.row (i := k + 1) (by omega)
            have r0 := d2.row (i := k) (by omega)
            have o1 := d2.one (i := k + 1) (by omega)
            have o0 := d2.one (i := k) (by omega)
            rw [v1] at r1 o1
            rw [v0] at r0 o0
            refine ⟨_, rfl, by omega, by omega, (f (k + 1)).cells, rfl, by rw [Int.toNat_natCast]; simpa using r1, _, rfl, by omega, by omega, (f a).cells, rfl, by rw [Int.toNat_natCast]; simpa using r0, _, rfl, by omega, by omega, rfl, ?_⟩
            simp only [add_none, Nat.zero_add, Int.toNat_natCast]
            refine d2.put (i := k) (by omega) o1 fun H3 d3 b3 => ⟨_, rfl, by omega, by omega, rfl, ?_⟩
            simp only [add_none, Nat.zero_add, Int.toNat_natCast]
            refine d3.put (i := k + 1) (by omega) o0 fun H4 d4 b4 => ?_
            refine ihr (k + 1) H4 (by omega) (by omega) (by omega) (d4.congr fun j hj => ?_) (b2.trans (b3.trans b4))
            unfold upd rot
            by_cases h1 : j = k + 1
            · rw [if_pos h1, if_neg (by omega), if_pos (by omega)]; congr 1; omega
            · rw [if_neg h1]
              by_cases h2 : j = k
              · rw [if_pos h2, if_pos (by omega)]; congr 1; omega
              · rw [if_neg h2]
                by_cases h3 : a ≤ j ∧ j < k
                · rw [if_pos (by omega), if_pos (by omega)]
                · rw [if_neg (by omega), if_neg (by omega), if_neg (by omega), if_neg (by omega)]
        refine shift _ a H1 rfl (Nat.le_refl _) (by omega) ((d.ext e1).congr fun j hj => ?_) (But.ext e1)
        unfold rot
        by_cases h1 : j = a
        · rw [if_neg (by omega), if_pos (by omega)]; congr 1; omega
        · rw [if_neg (by omega), if_neg (by omega)]
      | succ k ihk =>
        intro i j H1 hk hi hij hjb e1 lo hi2
        by_cases hlt : i < j
        · have hmid := mid_eq (x := i) (y := j) (by omega)
          refine hX _ _ H1 (br_y (by omega) ?_)
          rw [hmid]
          have d1 := d.ext e1
          generalize hq : (i + j) / 2 = h
          have g1 : i ≤ h := by omega
          have g2 : h < j := by omega
          refine ⟨by omega, _, rfl, by omega, by omega, (f h).cells, rfl, by rw [Int.toNat_natCast]; simpa using d1.row (i := h) (by omega), _, rfl, by omega, by omega, (f a).cells, rfl, by rw [Int.toNat_natCast]; simpa using d1.row (i := a) (by omega), ?_⟩
          refine hc (f h) (f a) H1 _ (bd _ (by omega)) (bd _ (by omega)) fun H2 e2 => ⟨_, rfl, br_dec (fun hl => ?_) (fun hl => ?_)⟩
          · rw [inc (by omega)]
            refine ihk (h + 1) j H2 (by omega) (by omega) (by omega) hjb (e1.trans e2) (fun q q1 q2 => ?_) hi2
            by_cases hqh : q = h
            · subst hqh; omega
            · have := (sb q h q1 (by omega) (by omega)).le; omega
          · refine ihk i h H2 (by omega) hi (by omega) (by omega) (e1.trans e2) lo (fun q q1 q2 => ?_)
            by_cases hqh : q = h
            · subst hqh; omega
            · have := (sb h q (by omega) (by omega) q2).le; omega
        · exact ihk i j H1 (by omega) hi hij hjb e1 lo hi2
    exact search _ m b H (Nat.le_refl _) (Nat.le_refl _) (by omega) (Nat.le_refl _) (Ext.refl _) (fun q q1 q2 => by omega) (fun q q1 q2 => by omega)
  · -- one item behind
    have hb : b = m + 1 := by omega
    intro X hX
    have search : ∀ (k i j : Nat) (H1 : Heap), j - i ≤ k → a ≤ i → i ≤ j → j ≤ m → Ext H H1 → (∀ q, a ≤ q → q < i → (f q).c ≤ (f m).c) → (∀ q, j ≤ q → q < m → (f m).c < (f q).c) → X [.int .i64 i, .int .i64 j] H1 := by
      intro k
      induction k with
      | zero =>
        intro i j H1 hk hi hij hjb e1 lo hi2
        have : i = j := by omega
        subst this
        refine hX _ _ H1 (br_n (by omega) ?_)
        intro Y hY
        have shift : ∀ (r k : Nat) (H2 : Heap), k - i = r → i ≤ k → k ≤ m → DS H2 blk n (rot f k m (m + 1)) → But blk H H2 → Y [.int .i64 k] H2 := by
          intro r
          induction r with
          | zero =>
            intro k H2 hr hak hki d2 b2
            have hk1 : k = i := by omega
            subst hk1
            refine hY _ H2 (br_n (by omega) (hR H2 _ d2 b2 ((rot_perm (by omega) (by omega)).widen (by omega) (by omega)) fun p q p1 p2 p3 => ?_))
            unfold rot
            by_cases hp : p < k
            · rw [if_neg (by omega), if_neg (by omega)]
              by_cases hq : q < k
              · rw [if_neg (by omega), if_neg (by omega)]; exact sa _ _ (by omega) (by omega) (by omega)
              · by_cases hq2 : q = k
                · rw [if_pos (by omega)]
                  have : q + (m - k) = m := by omega
                  rw [this]
                  have := lo p p1 hp
                  have := tg p m p1 (by omega) (Nat.le_refl _) hmb
                  unfold Lex; omega
                · rw [if_neg (by omega), if_pos (by omega)]; exact sa _ _ (by omega) (by omega) (by omega)
            · by_cases hp2 : p = k
              · rw [if_pos (by omega), if_neg (by omega), if_pos (by omega)]
                have : p + (m - k) = m := by omega
                rw [this]
                left; exact hi2 _ (by omega) (by omega)
              · rw [if_neg (by omega), if_pos (by omega), if_neg (by omega), if_pos (by omega)]; exact sa _ _ (by omega) (by omega) (by omega)
          | succ r ihr =>
            intro k H2 hr hak hki d2 b2
            have e1 : IntKind.wrap .i64 ((k : Int) - 1) = ((k - 1 : Nat) : Int) := by rw [wrap_id (by omega) (by omega)]; omega
            refine hY _ H2 (br_y (by omega) ?_)
            rw [e1]
            have v1 : rot f k m (m + 1) (k - 1) = f (k - 1) := by unfold rot; rw [if_neg (by omega), if_neg (by omega)]
            have v0 : rot f k m (m + 1) k = f m := by unfold rot; rw [if_pos (by omega)]; congr 1; omega
            have r1 := d2.row (i := k - 1) (by omega)
            have r0 := d2.row (i := k) (by omega)
            have o1 := d2.one (i := k - 1) (by omega)
            have o0 := d2.one (i := k) (by omega)
            rw [v1] at r1 o1
            rw [v0] at r0 o0
            refine ⟨_, rfl, by omega, by omega, (f (k - 1)).cells, rfl, by rw [Int.toNat_natCast]; simpa using r1, _, rfl, by omega, by omega, (f m).cells, rfl, by rw [Int.toNat_natCast]; simpa using r0, _, rfl, by omega, by omega, rfl, ?_⟩
            simp only [add_none, Nat.zero_add, Int.toNat_natCast]
            refine d2.put (i := k) (by omega) o1 fun H3 d3 b3 => ⟨_, rfl, by omega, by omega, rfl, ?_⟩
            simp only [add_none, Nat.zero_add, Int.toNat_natCast]
            refine d3.put (i := k - 1) (by omega) o0 fun H4 d4 b4 => ?_
            refine ihr (k - 1) H4 (by omega) (by omega) (by omega) (d4.congr fun j hj => ?_) (b2.trans (b3.trans b4))
            unfold upd rot
            by_cases h1 : j = k - 1
            · rw [if_pos h1, if_pos (by omega)]; congr 1; omega
            · rw [if_neg h1]
              by_cases h2 : j = k
              · rw [if_pos h2, if_neg (by omega), if_pos (by omega)]; congr 1; omega
              · rw [if_neg h2]
                by_cases h3 : k + 1 ≤ j ∧ j < m + 1
                · rw [if_neg (by omega), if_pos (by omega), if_neg (by omega), if_pos (by omega)]
                · rw [if_neg (by omega), if_neg (by omega), if_neg (by omega), if_neg (by omega)]
        refine shift _ m H1 rfl (by omega) (Nat.le_refl _) ((d.ext e1).congr fun j hj => ?_) (But.ext e1)
        unfold rot
        by_cases h1 : j = m
        · rw [if_pos (by omega)]; congr 1; omega
        · rw [if_neg (by omega), if_neg (by omega)]
      | succ k ihk =>
        intro i j H1 hk hi hij hjb e1 lo hi2
        by_cases hlt : i < j
        · have hmid := mid_eq (x := i) (y := j) (by omega)
          refine hX _ _ H1 (br_y (by omega) ?_)
          rw [hmid]
          have d1 := d.ext e1
          generalize hq : (i + j) / 2 = h
          have g1 : i ≤ h := by omega
          have g2 : h < j := by omega
          refine ⟨by omega, _, rfl, by omega, by omega, (f m).cells, rfl, by rw [Int.toNat_natCast]; simpa using d1.row (i := m) (by omega), _, rfl, by omega, by omega, (f h).cells, rfl, by rw [Int.toNat_natCast]; simpa using d1.row (i := h) (by omega), ?_⟩
          refine hc (f m) (f h) H1 _ (bd _ (by omega)) (bd _ (by omega)) fun H2 e2 => ⟨_, rfl, br_not (fun hl => ?_) (fun hl => ?_)⟩
          · have hl := of_decide_eq_false hl
            rw [inc (by omega)]
            refine ihk (h + 1) j H2 (by omega) (by omega) (by omega) hjb (e1.trans e2) (fun q q1 q2 => ?_) hi2
            by_cases hqh : q = h
            · subst hqh; omega
            · have := (sa q h q1 (by omega) (by omega)).le; omega
          · have hl := of_decide_eq_true hl
            refine ihk i h H2 (by omega) hi (by omega) (by omega) (e1.trans e2) lo (fun q q1 q2 => ?_)
            by_cases hqh : q = h
            · subst hqh; omega
            · have := (sa h q (by omega) (by omega) q2).le; omega
        · exact ihk i j H1 (by omega) hi hij hjb e1 lo hi2
    exact search _ a m H (Nat.le_refl _) (Nat.le_refl _) (by omega) (Nat.le_refl _) (Ext.refl _) (fun q q1 q2 => by omega) (fun q q1 q2 => by omega)
  · -- the general way
    have hmid := mid_eq (x := a) (y := b) (by omega)
    rw [hmid]
    generalize hmd : (a + b) / 2 = mid
    have w3 : IntKind.wrap .i64 ((mid : Int) + m) = ((mid + m : Nat) : Int) := by rw [wrap_id (by omega) (by omega)]; omega
    have w4 : IntKind.wrap .i64 (((mid + m : Nat) : Int) - 1) = ((mid + m - 1 : Nat) : Int) := by rw [wrap_id (by omega) (by omega)]; omega
    rw [w3, w4]
    refine ⟨by omega, ?_⟩
    intro J hJ
    have go : ∀ lo hi : Nat, a ≤ lo → lo ≤ hi → hi ≤ m → hi ≤ mid → (∀ c, lo ≤ c → c < hi → m + c + 1 ≤ mid + m ∧ mid + m < b + c + 1) → (lo = a ∨ mid + m = lo + b) → (hi = m ∨ hi = mid) → mid + m ≤ lo + b → J [.int .i64 lo, .int .i64 hi] H := by
      intro lo hi F1 F1' F1'' F5 F2 F3 F4 F6
      refine hJ _ _ H ?_
      intro X hX
      have search : ∀ (k i j : Nat) (H1 : Heap), j - i ≤ k → lo ≤ i → i ≤ j → j ≤ hi → Ext H H1 → (∀ q, lo ≤ q → q < i → (f q).c ≤ (f (mid + m - 1 - q)).c) → (∀ q, j ≤ q → q < hi → (f (mid + m - 1 - q)).c < (f q).c) → X [.int .i64 i, .int .i64 j] H1 := by
        intro k
        induction k with
        | zero =>
          intro st j H1 hk hlo hij hjb e1 pl ph
          have : st = j := by omega
          subst this
          have w5 : IntKind.wrap .i64 (((mid + m : Nat) : Int) - st) = ((mid + m - st : Nat) : Int) := by rw [wrap_id (by omega) (by omega)]; omega
          refine hX _ _ H1 (br_n (by omega) ?_)
          rw [w5]
          generalize hE : mid + m - st = E
          have E1 : m ≤ E := by omega
          have E2 : E ≤ b := by omega
          have E3 : st ≤ m := by omega
          have d1 := d.ext e1
          -- what stands there when the middle has been turned
          have cross : ∀ p q, a ≤ p → p < mid → mid ≤ q → q < b → Lex (rot f st m E p) (rot f st m E q) := by
            intro p q p1 p2 q1 q2
            unfold rot
            by_cases hp : p < st
            · rw [if_neg (by omega), if_neg (by omega), if_neg (by omega)]
              by_cases hq : q < E
              · rw [if_pos (by omega)]; exact sa _ _ p1 (by omega) (by omega)
              · rw [if_neg (by omega)]
                have hsl : lo < st := by rcases F3 with h | h <;> omega
                have z1 := pl (st - 1) (by omega) (by omega)
                have z2 : mid + m - 1 - (st - 1) = E := by omega
                rw [z2] at z1
                have z3 : (f p).c ≤ (f (st - 1)).c := by
                  by_cases h : p = st - 1
                  · rw [h]; exact Int.le_refl _
                  · exact (sa p (st - 1) p1 (by omega) (by omega)).le
                have z4 : (f E).c ≤ (f q).c := by
                  by_cases h : E = q
                  · rw [h]; exact Int.le_refl _
                  · exact (sb E q E1 (by omega) q2).le
                have z5 := tg p q p1 (by omega) (by omega) q2
                unfold Lex; omega
            · rw [if_pos (by omega), if_neg (by omega)]
              by_cases hq : q < E
              · rw [if_pos (by omega)]
                have hsh : st < hi := by rcases F4 with h | h <;> omega
                have z1 := ph st (Nat.le_refl _) hsh
                have z2 : mid + m - 1 - st = E - 1 := by omega
                rw [z2] at z1
                left
                have z3 : (f (p + (m - st))).c ≤ (f (E - 1)).c := by
                  by_cases h : p + (m - st) = E - 1
                  · rw [h]; exact Int.le_refl _
                  · exact (sb _ _ (by omega) (by omega) (by omega)).le
                have z4 : (f st).c ≤ (f (q - (E - m))).c := by
                  by_cases h : st = q - (E - m)
                  · rw [← h]; exact Int.le_refl _
                  · exact (sa _ _ (by omega) (by omega) (by omega)).le
                omega
              · rw [if_neg (by omega)]; exact sb _ _ (by omega) (by omega) q2
          have sl : Srt a st (rot f st m E) := fun p q p1 p2 p3 => by unfold rot; rw [if_neg (by omega), if_neg (by omega), if_neg (by omega), if_neg (by omega)]; exact sa p q p1 p2 (by omega)
          have sm : Srt st mid (rot f st m E) := fun p q p1 p2 p3 => by unfold rot; rw [if_pos (by omega), if_pos (by omega)]; exact sb _ _ (by omega) (by omega) (by omega)
          have sm2 : Srt mid E (rot f st m E) := fun p q p1 p2 p3 => by unfold rot; rw [if_neg (by omega), if_pos (by omega), if_neg (by omega), if_pos (by omega)]; exact sa _ _ (by omega) (by omega) (by omega)
          have sr : Srt E b (rot f st m E) := fun p q p1 p2 p3 => by unfold rot; rw [if_neg (by omega), if_neg (by omega), if_neg (by omega), if_neg (by omega)]; exact sb _ _ (by omega) p2 p3
          have tl : ∀ p q, a ≤ p → p < st → st ≤ q → q < mid → (rot f st m E p).t < (rot f st m E q).t := fun p q p1 p2 q1 q2 => by
            unfold rot; rw [if_neg (by omega), if_neg (by omega), if_pos (by omega)]; exact tg _ _ p1 (by omega) (by omega) (by omega)
          have tr : ∀ p q, mid ≤ p → p < E → E ≤ q → q < b → (rot f st m E p).t < (rot f st m E q).t := fun p q p1 p2 q1 q2 => by
            unfold rot; rw [if_neg (by omega), if_pos (by omega), if_neg (by omega), if_neg (by omega)]; exact tg _ _ (by omega) (by omega) (by omega) q2
          have pr : PermOn a b f (rot f st m E) := (rot_perm E3 E1).widen (by omega) E2
          have bg := pr.bnd hbn bd
          intro J1 hJ1
          have after : ∀ H2, DS H2 blk n (rot f st m E) → But blk H H2 → J1 [] H2 := by
            intro H2 d2 b2
            generalize rot f st m E = g at d2 cross sl sm sm2 sr tl tr pr bg
            refine hJ1 H2 ?_
            intro J2 hJ2
            have right : ∀ (H3 : Heap) (g2 : Nat → It), DS H3 blk n g2 → But blk H H3 → PermOn a mid g g2 → Srt a mid g2 → J2 [] H3 := by
              intro H3 g2 d3 b3 p3 s3
              refine hJ2 H3 ?_
              have gr : ∀ i, mid ≤ i → g2 i = g i := fun i hi => p3.out i (by omega)
              have fin : ∀ (H4 : Heap) (g3 : Nat → It), DS H4 blk n g3 → But blk H H4 → PermOn mid b g2 g3 → Srt mid b g3 → R (.tuple #[]) H4 := by
                intro H4 g3 d4 b4 p4 s4
                refine hR H4 g3 d4 b4 (pr.trans ((p3.widen (Nat.le_refl _) (by omega)).trans (p4.widen (by omega) (Nat.le_refl _)))) fun p q p1 p2 q2 => ?_
                by_cases hp : p < mid
                · rw [p4.out p (by omega)]
                  by_cases hq : q < mid
                  · rw [p4.out q (by omega)]; exact s3 p q p1 p2 hq
                  · refine p4.all (P := fun y => Lex (g2 p) y) (fun i i1 i2 => ?_) q (by omega) q2
                    rw [gr i i1]
                    exact p3.all (P := fun x => Lex x (g i)) (fun k k1 k2 => cross k i k1 k2 i1 i2) p p1 hp
                · exact s4 p q (by omega) p2 q2
              refine br_dec (fun hme => br_dec (fun heb => ?_) (fun heb => ?_)) (fun hme => ?_)
              · refine ihs (by omega) d3 (p3.bnd (by omega) bg) (by omega) (by omega) hbn hn (fun p q p1 p2 q2 => ?_) (fun p q p1 p2 q2 => ?_) (fun p q p1 p2 q1 q2 => ?_) (fun H4 g3 d4 b4 p4 s4 => ⟨rfl, fin H4 g3 d4 (b3.trans b4) p4 s4⟩)
                · rw [gr p p1, gr q (by omega)]; exact sm2 p q p1 p2 q2
                · rw [gr p (by omega), gr q (by omega)]; exact sr p q p1 p2 q2
                · rw [gr p p1, gr q (by omega)]; exact tr p q p1 p2 q1 q2
              · refine fin H3 g2 d3 b3 (PermOn.refl _ _ _) fun p q p1 p2 q2 => ?_
                rw [gr p p1, gr q (by omega)]; exact sm2 p q p1 p2 (by omega)
              · refine fin H3 g2 d3 b3 (PermOn.refl _ _ _) fun p q p1 p2 q2 => ?_
                rw [gr p p1, gr q (by omega)]; exact sr p q (by omega) p2 q2
            refine br_dec (fun has => br_dec (fun hsm => ?_) (fun hsm => ?_)) (fun has => ?_)
            · refine ihs (by omega) d2 bg (by omega) (by omega) (by omega) hn sl sm tl (fun H3 g2 d3 b3 p3 s3 => ⟨rfl, right H3 g2 d3 (b2.trans b3) p3 s3⟩)
            · exact right H2 g d2 b2 (PermOn.refl _ _ _) fun p q p1 p2 q2 => sl p q p1 p2 (by omega)
            · exact right H2 g d2 b2 (PermOn.refl _ _ _) fun p q p1 p2 q2 => sm p q (by omega) p2 q2
          have idn : ¬ (st < m ∧ m < E) → ∀ i, i < n → rot f st m E i = f i := fun hn i hi => by
            unfold rot
            by_cases h1 : st ≤ i ∧ i < st + (E - m)
            · rw [if_pos h1]; congr 1; omega
            · rw [if_neg h1]
              by_cases h2 : st + (E - m) ≤ i ∧ i < E
              · rw [if_pos h2]; congr 1; omega
              · rw [if_neg h2]
          refine br_dec (fun hsm => br_dec (fun hmE => ?_) (fun hmE => ?_)) (fun hsm => ?_)
          · refine c35 d1 (by omega) (by omega) (by omega) hn fun H2 d2 b2 => ⟨rfl, after H2 d2 ((But.ext e1).trans b2)⟩
          · exact after H1 (d1.congr (idn (by omega))) (But.ext e1)
          · exact after H1 (d1.congr (idn (by omega))) (But.ext e1)
        | succ k ihk =>
          intro i j H1 hk hi' hij hjb e1 pl ph
          by_cases hlt : i < j
          · have hmid := mid_eq (x := i) (y := j) (by omega)
            refine hX _ _ H1 (br_y (by omega) ?_)
            rw [hmid]
            have d1 := d.ext e1
            generalize hq : (i + j) / 2 = h
            have g1 : i ≤ h := by omega
            have g2 : h < j := by omega
            have f2 := F2 h (by omega) (by omega)
            have w6 : IntKind.wrap .i64 (((mid + m - 1 : Nat) : Int) - (h : Nat)) = ((mid + m - 1 - h : Nat) : Int) := by rw [wrap_id (by omega) (by omega)]; omega
            rw [w6]
            refine ⟨by omega, _, rfl, by omega, by omega, (f (mid + m - 1 - h)).cells, rfl, by rw [Int.toNat_natCast]; simpa using d1.row (i := mid + m - 1 - h) (by omega), _, rfl, by omega, by omega, (f h).cells, rfl, by rw [Int.toNat_natCast]; simpa using d1.row (i := h) (by omega), ?_⟩
            refine hc (f (mid + m - 1 - h)) (f h) H1 _ (bd _ (by omega)) (bd _ (by omega)) fun H2 e2 => ⟨_, rfl, br_not (fun hl => ?_) (fun hl => ?_)⟩
            · have hl := of_decide_eq_false hl
              rw [inc (by omega)]
              refine ihk (h + 1) j H2 (by omega) (by omega) (by omega) hjb (e1.trans e2) (fun q q1 q2 => ?_) ph
              by_cases hqh : q = h
              · subst hqh; omega
              · have z1 := (sa q h (by omega) (by omega) (by omega)).le
                have z2 := (sb (mid + m - 1 - h) (mid + m - 1 - q) (by omega) (by omega) (by have := F2 q (by omega) (by omega); omega)).le
                omega
            · have hl := of_decide_eq_true hl
              refine ihk i h H2 (by omega) hi' (by omega) (by omega) (e1.trans e2) pl (fun q q1 q2 => ?_)
              by_cases hqh : q = h
              · subst hqh; omega
              · have z1 := (sa h q (by omega) (by omega) (by omega)).le
                have z2 := (sb (mid + m - 1 - q) (mid + m - 1 - h) (by have := F2 q (by omega) (by omega); omega) (by have := F2 q (by omega) (by omega); omega) (by omega)).le
                omega
          · exact ihk i j H1 (by omega) hi' hij hjb e1 pl ph
      exact search _ lo hi H (Nat.le_refl _) (Nat.le_refl _) F1' (Nat.le_refl _) (Ext.refl _) (fun q q1 q2 => by omega) (fun q q1 q2 => by omega)
    refine br_dec (fun hgt => ?_) (fun hle => ?_)
    · have w5 : IntKind.wrap .i64 (((mid + m : Nat) : Int) - b) = ((mid + m - b : Nat) : Int) := by rw [wrap_id (by omega) (by omega)]; omega
      rw [w5]
      exact go _ _ (by omega) (by omega) (by omega) (by omega) (fun c c1 c2 => by omega) (.inr (by omega)) (.inr rfl) (by omega)
    · exact go _ _ (by omega) (by omega) (by omega) (by omega) (fun c c1 c2 => by omega) (.inl rfl) (.inl rfl) (by omega)

end Go.Proofs
