/-
  OWN WORK. The library's stable sort, whole.
-/
import Derived.Test.YtmimlpfnhmokeaaHuffC
set_option linter.unusedVariables false
set_option linter.unusedSimpArgs false
namespace Go.Proofs
open Go.Sh

/-- Sorted between bounds, tags rise over bounds. -/
structure Cut (n : Nat) (f : Nat → It) (bd : Nat → Prop) (f1 : Nat → It) : Prop where
  perm : PermOn 0 n f f1
  lex : ∀ p q, p < q → q < n → (∀ r, p < r → r ≤ q → ¬ bd r) → Lex (f1 p) (f1 q)
  tag : ∀ p q r, p < r → r ≤ q → q < n → bd r → (f1 p).t < (f1 q).t

theorem Cut.congr {n : Nat} {f f1 : Nat → It} {bd bd' : Nat → Prop} (h : Cut n f bd f1) (hb : ∀ r, 0 < r → r < n → (bd r ↔ bd' r)) : Cut n f bd' f1 :=
  ⟨h.perm, fun p q hpq hq hn => h.lex p q hpq hq fun r r1 r2 hr => hn r r1 r2 ((hb r (by omega) (by omega)).1 hr), fun p q r r1 r2 hq hr => h.tag p q r r1 r2 hq ((hb r (by omega) (by omega)).2 hr)⟩

theorem Cut.step {n : Nat} {f f1 f2 : Nat → It} {bd : Nat → Prop} (h : Cut n f bd f1) {a b : Nat} (ha : a = 0 ∨ bd a) (hb : b = n ∨ bd b) (hbn : b ≤ n) (hp : PermOn a b f1 f2) (hs : Srt a b f2) : Cut n f (fun r => bd r ∧ ¬ (a < r ∧ r < b)) f2 := by
  refine ⟨h.perm.trans (hp.widen (by omega) hbn), fun p q hpq hq hn => ?_, fun p q r r1 r2 hq hr => ?_⟩
  · by_cases h1 : a ≤ p
    · by_cases h2 : q < b
      · exact hs p q h1 hpq h2
      · by_cases h3 : b ≤ p
        · rw [hp.out p (by omega), hp.out q (by omega)]
          exact h.lex p q hpq hq fun r r1 r2 hr => hn r r1 r2 ⟨hr, by omega⟩
        · rcases hb with hb | hb
          · omega
          · exact absurd ⟨hb, by omega⟩ (hn b (by omega) (by omega))
    · by_cases h2 : a ≤ q
      · rcases ha with ha | ha
        · omega
        · exact absurd ⟨ha, by omega⟩ (hn a (by omega) h2)
      · rw [hp.out p (by omega), hp.out q (by omega)]
        exact h.lex p q hpq hq fun r r1 r2 hr => hn r r1 r2 ⟨hr, by omega⟩
  · obtain ⟨hr, hrn⟩ := hr
    by_cases h1 : r ≤ a
    · rw [hp.out p (by omega)]
      by_cases h2 : a ≤ q ∧ q < b
      · exact hp.all (P := fun y => (f1 p).t < y.t) (fun i i1 i2 => h.tag p i r r1 (by omega) (by omega) hr) q h2.1 h2.2
      · rw [hp.out q h2]; exact h.tag p q r r1 r2 hq hr
    · rw [hp.out q (by omega)]
      by_cases h2 : a ≤ p ∧ p < b
      · exact hp.all (P := fun y => y.t < (f1 q).t) (fun i i1 i2 => h.tag i q r (by omega) r2 hq hr) p h2.1 h2.2
      · rw [hp.out p h2]; exact h.tag p q r r1 r2 hq hr

theorem dvd_gap {d a r : Nat} (h1 : d ∣ a) (h2 : d ∣ r) (h : a < r) : a + d ≤ r := by
  have := Nat.le_of_dvd (by omega) (Nat.dvd_sub h2 h1)
  omega

set_option maxHeartbeats 2000000 in
theorem c27 {g : Nat} (hc : Cmp g) {H : Heap} {blk n c : Nat} {f : Nat → It} (h : DS H blk n f) (hb : Bnd n f) (hn : n ≤ 1000000) (ht : Tags 0 n f) {R : Value → Heap → Prop}
    (hR : ∀ H' f', DS H' blk n f' → But blk H H' → PermOn 0 n f f' → Srt 0 n f' → R (.tuple #[]) H') :
    CallsH Try.prog 27 #[.slice (some ⟨blk, 0, none⟩) n c, .int .i64 n, .func (.func g) #[] #[]] H R := by
  refine Try.s27 ?_
  unfold Try.S27
  intro X hX
  -- the merges
  have merges : ∀ (H1 : Heap) (f1 : Nat → It), DS H1 blk n f1 → But blk H H1 → Cut n f (fun r => 20 ∣ r) f1 → ∀ Y : List Value → Heap → Prop, (∀ blockSize13 : Int, ∀ H_14 : Heap, (br (decide ((blockSize13 : Int) < (n : Int)))
 (∀ X_15 : List Value → Heap → Prop, (∀ a16 : Int, ∀ b17 : Int, ∀ H_18 : Heap, (br (decide ((b17 : Int) ≤ (n : Int)))
 (CallsH Try.prog 32 #[Value.slice (some ⟨blk, 0, none⟩) n c, Value.int .i64 a16, Value.int .i64 (IntKind.wrap .i64 (a16 + blockSize13)), Value.int .i64 b17, Value.func (.func g) #[] #[]] H_18 fun r19 H_20 => r19 = Value.tuple #[] ∧ X_15 [Value.int .i64 b17, Value.int .i64 (IntKind.wrap .i64 (b17 + (IntKind.wrap .i64 ((2 : Int) * blockSize13))))] H_20)
 (br (decide (((IntKind.wrap .i64 (a16 + blockSize13)) : Int) < (n : Int)))
 (CallsH Try.prog 32 #[Value.slice (some ⟨blk, 0, none⟩) n c, Value.int .i64 a16, Value.int .i64 (IntKind.wrap .i64 (a16 + blockSize13)), Value.int .i64 (n : Int), Value.func (.func g) #[] #[]] H_18 fun r21 H_22 => r21 = Value.tuple #[] ∧ Y [Value.int .i64 (IntKind.wrap .i64 (blockSize13 * (2 : Int)))] H_22)
 (Y [Value.int .i64 (IntKind.wrap .i64 (blockSize13 * (2 : Int)))] H_18))) → X_15 [Value.int .i64 a16, Value.int .i64 b17] H_18) → X_15 [Value.int .i64 (0 : Int), Value.int .i64 (IntKind.wrap .i64 ((2 : Int) * blockSize13))] H_14)
 (R (Value.tuple #[]) H_14)) → Y [Value.int .i64 blockSize13] H_14) → Y [Value.int .i64 (20 : Int)] H1 := by
    intro H1 f1 d1 b1 k1 Y hY
    have rounds : ∀ (m bs : Nat) (H2 : Heap) (f2 : Nat → It), n - bs ≤ m → 0 < bs → DS H2 blk n f2 → But blk H H2 → Cut n f (fun r => bs ∣ r) f2 → Y [.int .i64 bs] H2 := by
      intro m
      induction m with
      | zero =>
        intro bs H2 f2 hm hbs d2 b2 k2
        refine hY _ H2 (br_n (by omega) (hR H2 f2 d2 b2 k2.perm fun p q p1 p2 p3 => k2.lex p q p2 p3 fun r r1 r2 hr => ?_))
        have := Nat.le_of_dvd (by omega) hr
        omega
      | succ m ih =>
        intro bs H2 f2 hm hbs d2 b2 k2
        by_cases hlt : bs < n
        · have w1 : IntKind.wrap .i64 ((2 : Int) * bs) = ((2 * bs : Nat) : Int) := by rw [wrap_id (by omega) (by omega)]; omega
          have w2 : IntKind.wrap .i64 ((bs : Int) * 2) = ((2 * bs : Nat) : Int) := by rw [wrap_id (by omega) (by omega)]; omega
          refine hY _ H2 (br_y (by omega) ?_)
          rw [w1, w2]
          intro Z hZ
          have h2bs : ∀ r, 2 * bs ∣ r → bs ∣ r := fun r hr => Nat.dvd_trans (Nat.dvd_mul_left _ _) hr
          have inner : ∀ (m2 a : Nat) (H3 : Heap) (f3 : Nat → It), n - a ≤ m2 → 2 * bs ∣ a → a ≤ n → DS H3 blk n f3 → But blk H H3 → Cut n f (fun r => bs ∣ r ∧ (r ≤ a → 2 * bs ∣ r)) f3 → Z [.int .i64 a, .int .i64 ((a + 2 * bs : Nat) : Int)] H3 := by
            intro m2
            induction m2 with
            | zero =>
              intro a H3 f3 hm2 hda han d3 b3 k3
              have w3 : IntKind.wrap .i64 ((a : Int) + bs) = ((a + bs : Nat) : Int) := by rw [wrap_id (by omega) (by omega)]; omega
              refine hZ _ _ H3 (br_n (by omega) ?_)
              rw [w3]
              refine br_n (by omega) (ih (2 * bs) H3 f3 (by omega) (by omega) d3 b3 (k3.congr fun r r0 rn => ⟨fun hh => hh.2 (by omega), fun hh => ⟨h2bs r hh, fun _ => hh⟩⟩))
            | succ m2 ih2 =>
              intro a H3 f3 hm2 hda han d3 b3 k3
              have w3 : IntKind.wrap .i64 ((a : Int) + bs) = ((a + bs : Nat) : Int) := by rw [wrap_id (by omega) (by omega)]; omega
              have bnd3 : Bnd n f3 := k3.perm.bnd (Nat.le_refl _) hb
              have hab : bs ∣ a := h2bs a hda
              have hs1 : ∀ e, e ≤ a + bs → e ≤ n → Srt a e f3 := fun e he hen p q p1 p2 p3 => k3.lex p q p2 (by omega) fun r r1 r2 hr => by
                have := dvd_gap hab hr.1 (by omega); omega
              have hs2 : ∀ e, e ≤ a + 2 * bs → e ≤ n → Srt (a + bs) e f3 := fun e he hen p q p1 p2 p3 => k3.lex p q p2 (by omega) fun r r1 r2 hr => by
                have := dvd_gap (Nat.dvd_add hab (Nat.dvd_refl bs)) hr.1 (by omega); omega
              have htg : ∀ e, e ≤ n → ∀ p q, a ≤ p → p < a + bs → a + bs ≤ q → q < e → (f3 p).t < (f3 q).t := fun e hen p q p1 p2 q1 q2 => k3.tag p q (a + bs) p2 q1 (by omega) ⟨Nat.dvd_add hab (Nat.dvd_refl bs), fun hh => by omega⟩
              refine hZ _ _ H3 (br_dec (fun hle => ?_) (fun hgt => ?_))
              · rw [w3]
                have w4 : IntKind.wrap .i64 (((a + 2 * bs : Nat) : Int) + ((2 * bs : Nat) : Int)) = ((a + 2 * bs + 2 * bs : Nat) : Int) := by rw [wrap_id (by omega) (by omega)]; omega
                rw [w4]
                refine c32 hc _ (Nat.le_refl _) d3 bnd3 (by omega) (by omega) (by omega) hn (hs1 _ (Nat.le_refl _) (by omega)) (hs2 _ (Nat.le_refl _) (by omega)) (htg _ (by omega)) (fun H4 f4 d4 b4 p4 s4 => ⟨rfl, ?_⟩)
                have hd2 : 2 * bs ∣ a + 2 * bs := Nat.dvd_add hda (Nat.dvd_refl _)
                refine ih2 (a + 2 * bs) H4 f4 (by omega) hd2 (by omega) d4 (b3.trans b4) ((k3.step (.inr ⟨hab, fun _ => hda⟩) (.inr ⟨h2bs _ hd2, fun _ => hd2⟩) (by omega) p4 s4).congr fun r r0 rn => ⟨fun hh => ⟨hh.1.1, fun hle2 => ?_⟩, fun hh => ⟨⟨hh.1, fun hra => hh.2 (by omega)⟩, fun hc => ?_⟩⟩)
                · by_cases hra : r ≤ a
                  · exact hh.1.2 hra
                  · have : r = a + 2 * bs := by
                      have := hh.2; omega
                    rw [this]; exact hd2
                · have := dvd_gap hda (hh.2 (by omega)) hc.1; omega
              · rw [w3]
                refine br_dec (fun hlt2 => ?_) (fun hge => ?_)
                · refine c32 hc _ (Nat.le_refl _) d3 bnd3 (by omega) (by omega) (Nat.le_refl _) hn (hs1 _ (Nat.le_refl _) (by omega)) (hs2 _ (by omega) (Nat.le_refl _)) (htg _ (Nat.le_refl _)) (fun H4 f4 d4 b4 p4 s4 => ⟨rfl, ?_⟩)
                  refine ih (2 * bs) H4 f4 (by omega) (by omega) d4 (b3.trans b4) ((k3.step (.inr ⟨hab, fun _ => hda⟩) (.inl rfl) (Nat.le_refl _) p4 s4).congr fun r r0 rn => ⟨fun hh => hh.1.2 (by have := hh.2; omega), fun hh => ⟨⟨h2bs r hh, fun _ => hh⟩, fun hc => ?_⟩⟩)
                  have := dvd_gap hda hh hc.1; omega
                · refine ih (2 * bs) H3 f3 (by omega) (by omega) d3 b3 (k3.congr fun r r0 rn => ⟨fun hh => ?_, fun hh => ⟨h2bs r hh, fun _ => hh⟩⟩)
                  by_cases hra : r ≤ a
                  · exact hh.2 hra
                  · have := dvd_gap hab hh.1 (by omega); omega
          have := inner n 0 H2 f2 (by omega) ⟨0, rfl⟩ (by omega) d2 b2 (k2.congr fun r r0 rn => ⟨fun hh => ⟨hh, fun h0 => by omega⟩, fun hh => hh.1⟩)
          simpa using this
        · exact ih bs H2 f2 (by omega) hbs d2 b2 k2
    exact rounds n 20 H1 f1 (by omega) (by omega) d1 b1 k1
  have blocks : ∀ (m a : Nat) (H1 : Heap) (f1 : Nat → It), n - a ≤ m → 20 ∣ a → a ≤ n → DS H1 blk n f1 → But blk H H1 → (∀ i, a ≤ i → f1 i = f i) → Cut n f (fun r => 0 < r ∧ (r ≤ a → 20 ∣ r)) f1 → X [.int .i64 a, .int .i64 ((a + 20 : Nat) : Int)] H1 := by
    have last : ∀ (a : Nat) (H1 : Heap) (f1 : Nat → It), n < a + 20 → 20 ∣ a → a ≤ n → DS H1 blk n f1 → But blk H H1 → (∀ i, a ≤ i → f1 i = f i) → Cut n f (fun r => 0 < r ∧ (r ≤ a → 20 ∣ r)) f1 → X [.int .i64 a, .int .i64 ((a + 20 : Nat) : Int)] H1 := by
      intro a H1 f1 hlt hda han d1 b1 old k1
      refine hX _ _ H1 (br_n (by omega) ?_)
      refine c31 hc d1 (k1.perm.bnd (Nat.le_refl _) hb) han (Nat.le_refl _) hn (fun p q p1 p2 p3 => by rw [old p p1, old q (by omega)]; exact ht p q (by omega) p2 p3) fun H2 f2 d2 b2 p2 s2 => ⟨rfl, ?_⟩
      intro Y hY
      refine merges H2 f2 d2 (b1.trans b2) ((k1.step (a := a) (b := n) ?_ (.inl rfl) (Nat.le_refl _) p2 s2).congr fun r r0 rn => ⟨fun hh => hh.1.2 (by have := hh.2; omega), fun hh => ⟨⟨r0, fun _ => hh⟩, fun hc => ?_⟩⟩) Y hY
      · by_cases h0 : a = 0
        · exact .inl h0
        · exact .inr ⟨by omega, fun _ => hda⟩
      · have := dvd_gap hda hh hc.1; omega
    intro m
    induction m with
    | zero =>
      intro a H1 f1 hm hda han
      exact last a H1 f1 (by omega) hda han
    | succ m ih =>
      intro a H1 f1 hm hda han d1 b1 old k1
      by_cases hle : a + 20 ≤ n
      · have w : IntKind.wrap .i64 (((a + 20 : Nat) : Int) + (20 : Int)) = ((a + 20 + 20 : Nat) : Int) := by rw [wrap_id (by omega) (by omega)]; omega
        refine hX _ _ H1 (br_y (by omega) ?_)
        rw [w]
        refine c31 hc d1 (k1.perm.bnd (Nat.le_refl _) hb) (by omega) hle hn (fun p q p1 p2 p3 => by rw [old p p1, old q (by omega)]; exact ht p q (by omega) p2 (by omega)) fun H2 f2 d2 b2 p2 s2 => ⟨rfl, ?_⟩
        refine ih (a + 20) H2 f2 (by omega) (by omega) hle d2 (b1.trans b2) (fun i hi => by rw [p2.out i (by omega), old i (by omega)]) ((k1.step (a := a) (b := a + 20) ?_ (.inr ⟨by omega, fun h => by omega⟩) hle p2 s2).congr fun r r0 rn => ⟨fun hh => ⟨r0, fun h20 => ?_⟩, fun hh => ⟨⟨r0, fun h => hh.2 (by omega)⟩, fun hc => ?_⟩⟩)
        · by_cases h0 : a = 0
          · exact .inl h0
          · exact .inr ⟨by omega, fun _ => hda⟩
        · have := hh.2
          have := hh.1.2
          omega
        · have := hh.2 (by omega)
          omega
      · exact last a H1 f1 (by omega) hda han d1 b1 old k1
  have := blocks n 0 H f (by omega) ⟨0, rfl⟩ (by omega) h (But.refl _ _) (fun _ _ => rfl) ⟨PermOn.refl _ _ _, fun p q p1 p2 hn => absurd ⟨by omega, fun h => by omega⟩ (hn q p1 (Nat.le_refl _)), fun p q r r1 r2 hq hr => ht p q (by omega) (by omega) hq⟩
  simpa using this

theorem c22 {g : Nat} (hc : Cmp g) {H : Heap} {blk n c : Nat} {f : Nat → It} (h : DS H blk n f) (hb : Bnd n f) (hn : n ≤ 1000000) (ht : Tags 0 n f) {R : Value → Heap → Prop}
    (hR : ∀ H' f', DS H' blk n f' → But blk H H' → PermOn 0 n f f' → Srt 0 n f' → R (.tuple #[]) H') :
    CallsH Try.prog 22 #[.slice (some ⟨blk, 0, none⟩) n c, .func (.func g) #[] #[]] H R := by
  refine Try.s22 ?_
  unfold Try.S22
  exact c27 hc h hb hn ht fun H' f' d b p s => ⟨rfl, hR H' f' d b p s⟩

end Go.Proofs
