/-
  OWN WORK. The lengths cost least, plain: packages against the document's table.
-/
import Derived.Test.YtmimlpfnhmokeaaHuffO
set_option linter.unusedVariables false
set_option linter.unusedSimpArgs false
namespace Go.Proofs
open Go.Sh

theorem csum_le : ∀ {U V : List Pk}, U.length = V.length → (∀ u ∈ U, ∀ v ∈ V, u.c ≤ v.c) → csum U ≤ csum V
  | [], [], _, _ => Int.le_refl _
  | u :: U, v :: V, hl, h => by
    have h1 := h u List.mem_cons_self v List.mem_cons_self
    have h2 := csum_le (U := U) (V := V) (by simpa using hl) fun a ha b hb => h a (List.mem_cons_of_mem _ ha) b (List.mem_cons_of_mem _ hb)
    unfold csum at *
    simp only [List.map_cons, List.sum_cons]
    omega
  | [], v :: V, hl, _ => by simp at hl
  | u :: U, [], hl, _ => by simp at hl

theorem csum_nonneg {L : List Pk} (h : ∀ x ∈ L, 0 < x.c) : 0 ≤ csum L := by
  induction L with
  | nil => simp [csum]
  | cons a r ih =>
    have h1 := h a List.mem_cons_self
    have h2 := ih fun x hx => h x (List.mem_cons_of_mem _ hx)
    unfold csum at *
    simp only [List.map_cons, List.sum_cons]
    omega

theorem take_split (L : List Pk) {a b : Nat} (h : a ≤ b) : L.take b = L.take a ++ (L.take b).drop a := by
  have := List.take_append_drop a (L.take b)
  rw [List.take_take, Nat.min_eq_left h] at this
  exact this.symm

theorem csum_mono {L : List Pk} (h : ∀ x ∈ L, 0 < x.c) {a b : Nat} (hab : a ≤ b) : csum (L.take a) ≤ csum (L.take b) := by
  rw [take_split L hab, csum_append]
  have := csum_nonneg (L := (L.take b).drop a) fun x hx => h x (List.mem_of_mem_take (List.mem_of_mem_drop hx))
  omega

theorem prefix_min {A B : List Pk} (hA : SortedC A) (hB : SortedC B) {x y : Nat} (hx : x ≤ A.length) (hy : y ≤ B.length) : csum ((ssort (A ++ B)).take (x + y)) ≤ csum (A.take x) + csum (B.take y) := by
  obtain ⟨x', y', h1, h2, h3, h4, h5⟩ := merge_take hA hB (q := x + y) (by omega)
  rw [csum_perm h4, csum_append]
  rcases Nat.lt_or_ge x x' with h | h
  · rw [take_split A (Nat.le_of_lt h), take_split B (show y' ≤ y by omega), csum_append, csum_append]
    have := csum_le (U := (A.take x').drop x) (V := (B.take y).drop y') (by simp; omega) fun u hu v hv => by
      refine h5 u (List.mem_append_left _ (List.mem_of_mem_drop hu)) v (List.mem_append_right _ ?_)
      rw [List.drop_take] at hv
      exact List.mem_of_mem_take hv
    omega
  · rw [take_split A h, take_split B (show y ≤ y' by omega), csum_append, csum_append]
    have := csum_le (U := (B.take y').drop y) (V := (A.take x).drop x') (by simp; omega) fun u hu v hv => by
      refine h5 u (List.mem_append_right _ (List.mem_of_mem_drop hu)) v (List.mem_append_left _ ?_)
      rw [List.drop_take] at hv
      exact List.mem_of_mem_take hv
    omega

/-- Whatever is taken of the levels: what the row has ahead costs no more. -/
theorem row_least {LS : List Pk} (hs : SortedC LS) (hp : ∀ x ∈ LS, 0 < x.c) : ∀ X : List Nat, (∀ x ∈ X, x ≤ LS.length) →
    wsum X * 2 / 2 ^ X.length ≤ (rowM LS X.length).length ∧ csum ((rowM LS X.length).take (wsum X * 2 / 2 ^ X.length)) ≤ (X.map fun x => csum (LS.take x)).sum
  | [], _ => by simp [wsum, rowM, csum]
  | x :: X, h => by
    obtain ⟨i1, i2⟩ := row_least hs hp X fun y hy => h y (List.mem_cons_of_mem _ hy)
    have hx := h x List.mem_cons_self
    have hpp : 0 < 2 ^ X.length := Nat.two_pow_pos _
    have hq : wsum (x :: X) * 2 / 2 ^ (x :: X).length = x + wsum X * 2 / 2 ^ X.length / 2 := by
      simp only [wsum, List.length_cons]
      rw [Nat.pow_succ, Nat.mul_div_mul_right _ _ (by omega), Nat.div_div_eq_div_mul, Nat.mul_div_mul_right _ _ (by omega), Nat.add_comm, Nat.add_mul_div_right _ _ hpp, Nat.add_comm]
    rw [hq, List.length_cons, rowM_len]
    have hB := pairsM_sorted (rowM_sorted LS X.length)
    have hBl := pairsM_len (rowM LS X.length)
    generalize hqr : wsum X * 2 / 2 ^ X.length = qr at i1 i2
    refine ⟨by omega, ?_⟩
    have h1 := prefix_min hs hB hx (y := qr / 2) (by omega)
    have h2 := pairsM_take (qr / 2) (rowM LS X.length) (by omega)
    have hml : ((rowM LS X.length).take (2 * (qr / 2))).length = 2 * (qr / 2) := by simp; omega
    have h3 : csum (pairsM ((rowM LS X.length).take (2 * (qr / 2)))) = csum ((rowM LS X.length).take (2 * (qr / 2))) := (pairsM_syms _ _ hml).2
    have h4 := csum_mono (rowM_pos hp X.length) (show 2 * (qr / 2) ≤ qr by omega)
    rw [h2, h3] at h1
    show csum ((ssort (LS ++ pairsM (rowM LS X.length))).take (x + qr / 2)) ≤ _
    simp only [List.map_cons, List.sum_cons]
    omega

/-! ### the document's table -/

def mn : Option Int → Option Int → Option Int
  | none, b => b
  | some a, none => some a
  | some a, some b => some (if b < a then b else a)

def val (n : Nat) (S : Nat → Int) : Nat → Nat → Nat → Option Int
  | _, 0, _ => some 0
  | _, _ + 1, 0 => none
  | 0, f + 1, p + 1 => val n S 0 f p
  | e + 1, f + 1, p + 1 => mn (val n S (e + 1) f p) ((val n S e (f + 1) (min (2 * (p + 1)) n)).map (· + S (f + 1)))
  termination_by e f _ => (e, f)

theorem val_zero (n : Nat) (S : Nat → Int) (e p : Nat) : val n S e 0 p = some 0 := by cases e <;> rw [val]
theorem val_none (n : Nat) (S : Nat → Int) (e f : Nat) : val n S e (f + 1) 0 = none := by cases e <;> rw [val]
theorem val_last (n : Nat) (S : Nat → Int) (f p : Nat) : val n S 0 (f + 1) (p + 1) = val n S 0 f p := by rw [val]
theorem val_step (n : Nat) (S : Nat → Int) (e f p : Nat) : val n S (e + 1) (f + 1) (p + 1) = mn (val n S (e + 1) f p) ((val n S e (f + 1) (min (2 * (p + 1)) n)).map (· + S (f + 1))) := by rw [val]

theorem val_low {n : Nat} {S : Nat → Int} (h0 : S 0 = 0) : ∀ (e f p : Nat) (v : Int), val n S e f p = some v → ∃ Z : List Nat, Z.length = e ∧ (∀ z ∈ Z, z ≤ f) ∧ v = (Z.map S).sum ∧ f * 2 ^ e ≤ p * 2 ^ e + wsum Z := by
  intro e
  induction e with
  | zero =>
    intro f
    induction f with
    | zero => intro p v h; rw [val_zero] at h; cases h; exact ⟨[], rfl, by simp, rfl, by simp⟩
    | succ f ih =>
      intro p v h
      cases p with
      | zero => rw [val_none] at h; cases h
      | succ p =>
        rw [val_last] at h
        obtain ⟨Z, a, b, c, d⟩ := ih p v h
        have : Z = [] := List.length_eq_zero_iff.1 a
        subst this
        refine ⟨[], rfl, by simp, c, ?_⟩
        simp [wsum] at d ⊢
        omega
  | succ e ihe =>
    intro f
    induction f with
    | zero =>
      intro p v h
      rw [val_zero] at h; cases h
      refine ⟨List.replicate (e + 1) 0, by simp, fun z hz => by have := (List.mem_replicate.1 hz).2; omega, ?_, by simp⟩
      have : ∀ k : Nat, ((List.replicate k 0).map S).sum = 0 := fun k => by
        induction k with
        | zero => rfl
        | succ k ih => rw [List.replicate_succ, List.map_cons, List.sum_cons, ih, h0]; rfl
      rw [this]
    | succ f ih =>
      intro p v h
      cases p with
      | zero => rw [val_none] at h; cases h
      | succ p =>
        rw [val_step] at h
        have here : ∀ w, val n S (e + 1) f p = some w → ∃ Z : List Nat, Z.length = e + 1 ∧ (∀ z ∈ Z, z ≤ f + 1) ∧ w = (Z.map S).sum ∧ (f + 1) * 2 ^ (e + 1) ≤ (p + 1) * 2 ^ (e + 1) + wsum Z := fun w hw => by
          obtain ⟨Z, a, b, c, d⟩ := ih p w hw
          refine ⟨Z, a, fun z hz => by have := b z hz; omega, c, ?_⟩
          rw [Nat.add_mul, Nat.add_mul]; omega
        have deep : ∀ w, val n S e (f + 1) (min (2 * (p + 1)) n) = some w → ∃ Z : List Nat, Z.length = e + 1 ∧ (∀ z ∈ Z, z ≤ f + 1) ∧ w + S (f + 1) = (Z.map S).sum ∧ (f + 1) * 2 ^ (e + 1) ≤ (p + 1) * 2 ^ (e + 1) + wsum Z := fun w hw => by
          obtain ⟨Z, a, b, c, d⟩ := ihe (f + 1) _ w hw
          refine ⟨(f + 1) :: Z, by simp [a], fun z hz => ?_, by simp only [List.map_cons, List.sum_cons]; omega, ?_⟩
          · rcases List.mem_cons.1 hz with rfl | hz
            · omega
            · exact b z hz
          · simp only [wsum]
            rw [a, Nat.pow_succ]
            have hm : min (2 * (p + 1)) n * 2 ^ e ≤ (2 * (p + 1)) * 2 ^ e := Nat.mul_le_mul_right _ (Nat.min_le_left _ _)
            generalize 2 ^ e = P at *
            have e1 : (f + 1) * (P * 2) = (f + 1) * P + (f + 1) * P := by rw [← Nat.mul_assoc]; omega
            have e2 : (p + 1) * (P * 2) = 2 * (p + 1) * P := by rw [Nat.mul_comm P 2, ← Nat.mul_assoc, Nat.mul_comm (p + 1) 2]
            omega
        cases h1 : val n S (e + 1) f p with
        | none =>
          rw [h1] at h
          simp only [mn] at h
          obtain ⟨w, hw, rfl⟩ := Option.map_eq_some_iff.1 h
          exact deep w hw
        | some a =>
          cases h2 : val n S e (f + 1) (min (2 * (p + 1)) n) with
          | none =>
            rw [h1, h2] at h
            simp only [mn, Option.map_none] at h
            cases h
            exact here _ h1
          | some b =>
            rw [h1, h2] at h
            simp only [mn, Option.map_some] at h
            split at h
            · cases h; exact deep _ h2
            · cases h; exact here _ h1

theorem wsum_le {f : Nat} : ∀ {Z : List Nat}, (∀ z ∈ Z, z ≤ f) → wsum Z + f ≤ f * 2 ^ Z.length
  | [], _ => by simp [wsum]
  | z :: Z, h => by
    have h1 := h z List.mem_cons_self
    have h2 := wsum_le (Z := Z) fun y hy => h y (List.mem_cons_of_mem _ hy)
    simp only [wsum, List.length_cons]
    rw [Nat.pow_succ]
    have h3 : z * 2 ^ Z.length ≤ f * 2 ^ Z.length := Nat.mul_le_mul_right _ h1
    have h4 : f * (2 ^ Z.length * 2) = f * 2 ^ Z.length + f * 2 ^ Z.length := by rw [← Nat.mul_assoc]; omega
    omega

theorem val_high {n : Nat} {S : Nat → Int} : ∀ (e f p : Nat) (Z : List Nat), Z.length = e → Z.Pairwise (· ≥ ·) → (∀ z ∈ Z, z ≤ f) → f * 2 ^ e ≤ p * 2 ^ e + wsum Z → f ≤ n → (∀ k, 0 ≤ S k) → ∃ v, val n S e f p = some v ∧ v ≤ (Z.map S).sum := by
  have nn : ∀ (S : Nat → Int), (∀ k, 0 ≤ S k) → ∀ Z : List Nat, 0 ≤ (Z.map S).sum := fun S h Z => by
    induction Z with
    | nil => simp
    | cons a b ih => simp only [List.map_cons, List.sum_cons]; have := h a; omega
  intro e
  induction e with
  | zero =>
    intro f
    induction f with
    | zero => intro p Z _ _ _ _ _ hS; exact ⟨0, val_zero _ _ _ _, nn S hS Z⟩
    | succ f ih =>
      intro p Z hZ hd hz hk hn hS
      have : Z = [] := List.length_eq_zero_iff.1 hZ
      subst this
      cases p with
      | zero => simp [wsum] at hk
      | succ p =>
        rw [val_last]
        exact ih p [] rfl hd (by simp) (by simp [wsum] at hk ⊢; omega) (by omega) hS
  | succ e ihe =>
    intro f
    induction f with
    | zero => intro p Z _ _ _ _ _ hS; exact ⟨0, val_zero _ _ _ _, nn S hS Z⟩
    | succ f ih =>
      intro p Z hZ hd hz hk hn hS
      cases p with
      | zero =>
        have := wsum_le hz
        rw [hZ] at this
        omega
      | succ p =>
        rw [val_step]
        match Z, hZ, hd, hz, hk with
        | z :: Z, hZ, hd, hz, hk =>
          have hZe : Z.length = e := by simpa using hZ
          have hd' := List.pairwise_cons.1 hd
          have hz1 := hz z List.mem_cons_self
          simp only [wsum] at hk
          rw [hZe, Nat.pow_succ] at hk
          by_cases hzf : z = f + 1
          · subst hzf
            obtain ⟨w, hw, hle⟩ := ihe (f + 1) (min (2 * (p + 1)) n) Z hZe hd'.2 (fun y hy => hz y (List.mem_cons_of_mem _ hy)) (by
              by_cases hmn : 2 * (p + 1) ≤ n
              · rw [Nat.min_eq_left hmn]
                generalize 2 ^ e = P at *
                have e1 : (f + 1) * (P * 2) = (f + 1) * P + (f + 1) * P := by rw [← Nat.mul_assoc]; omega
                have e2 : (p + 1) * (P * 2) = 2 * (p + 1) * P := by rw [Nat.mul_comm P 2, ← Nat.mul_assoc, Nat.mul_comm (p + 1) 2]
                omega
              · rw [Nat.min_eq_right (by omega)]
                have : (f + 1) * 2 ^ e ≤ n * 2 ^ e := Nat.mul_le_mul_right _ hn
                omega) hn hS
            rw [hw, Option.map_some]
            simp only [List.map_cons, List.sum_cons]
            cases h1 : val n S (e + 1) f p with
            | none => exact ⟨_, rfl, by omega⟩
            | some a =>
              simp only [mn]
              by_cases hb : w + S (f + 1) < a
              · rw [if_pos hb]; exact ⟨_, rfl, by omega⟩
              · rw [if_neg hb]; exact ⟨_, rfl, by omega⟩
          · have hall : ∀ y ∈ z :: Z, y ≤ f := fun y hy => by
              rcases List.mem_cons.1 hy with rfl | hy
              · omega
              · have := hd'.1 y hy; omega
            obtain ⟨w, hw, hle⟩ := ih p (z :: Z) hZ hd hall (by
              simp only [wsum]
              rw [hZe, Nat.pow_succ]
              rw [Nat.add_mul, Nat.add_mul p 1] at hk
              omega) (by omega) hS
            rw [hw]
            cases h2 : (val n S e (f + 1) (min (2 * (p + 1)) n)).map (· + S (f + 1)) with
            | none => exact ⟨_, rfl, hle⟩
            | some b =>
              simp only [mn]
              by_cases hb : b < w
              · rw [if_pos hb]; exact ⟨_, rfl, by omega⟩
              · rw [if_neg hb]; exact ⟨_, rfl, hle⟩

/-- The table's answer is what our lengths cost. -/
theorem least_is {LS : List Pk} {m : Nat} {X : List Nat} (hs : SortedC LS) (hp : ∀ x ∈ LS, 0 < x.c) (h2 : 2 ≤ LS.length) (hm : 1 ≤ m) (sel : Sel LS m (2 * LS.length - 2) X) (pos : ∀ r, r < LS.length → 1 ≤ lenAt X r) :
    ∃ v, val LS.length (fun k => csum (LS.take k)) (m - 1) LS.length 2 = some v ∧ v + csum LS = (X.map fun x => csum (LS.take x)).sum := by
  obtain ⟨e, rfl⟩ : ∃ e, m = e + 1 := ⟨m - 1, by omega⟩
  rw [Nat.add_sub_cancel]
  have hlen := sel.len
  have hw := sel.wid
  have hS : ∀ k, 0 ≤ csum (LS.take k) := fun k => csum_nonneg fun x hx => hp x (List.mem_of_mem_take hx)
  match X, sel, hlen, hw, pos with
  | x0 :: Z, sel, hlen, hw, pos =>
    have hd := List.pairwise_cons.1 sel.dec
    have hZe : Z.length = e := by simpa using hlen
    have hx0 : x0 = LS.length := by
      have h1 := sel.le x0 List.mem_cons_self
      have h3 := pos (LS.length - 1) (by omega)
      obtain ⟨y, hy, hlt⟩ := List.countP_pos_iff.1 (show 0 < (x0 :: Z).countP (fun x => decide (LS.length - 1 < x)) from h3)
      simp only [decide_eq_true_eq] at hlt
      rcases List.mem_cons.1 hy with rfl | hy
      · omega
      · have := hd.1 y hy; omega
    subst hx0
    simp only [wsum] at hw
    rw [hZe, Nat.pow_succ] at hw
    have hwid : LS.length * 2 ^ e ≤ 2 * 2 ^ e + wsum Z := by
      generalize 2 ^ e = P at *
      have e1 : (2 * LS.length - 2) * (P * 2) = 2 * (2 * (LS.length * P)) - 2 * (2 * P) := by
        rw [Nat.sub_mul]
        have : 2 * LS.length * (P * 2) = 2 * (2 * (LS.length * P)) := by rw [Nat.mul_comm P 2, Nat.mul_assoc, Nat.mul_left_comm LS.length 2 P]
        omega
      have e2 : 2 * P ≤ LS.length * P := Nat.mul_le_mul_right P h2
      omega
    obtain ⟨v, hv, hle⟩ := val_high (n := LS.length) (S := fun k => csum (LS.take k)) e LS.length 2 Z hZe hd.2 (fun z hz => sel.le z (List.mem_cons_of_mem _ hz)) hwid (Nat.le_refl _) hS
    refine ⟨v, hv, ?_⟩
    have htop : csum (LS.take LS.length) = csum LS := by rw [List.take_length]
    simp only [List.map_cons, List.sum_cons]
    rw [htop]
    -- the other way
    obtain ⟨Y, y1, y2, y3, y4⟩ := val_low (n := LS.length) (S := fun k => csum (LS.take k)) (by simp [csum]) e LS.length 2 v hv
    obtain ⟨r1, r2⟩ := row_least hs hp (LS.length :: Y) fun z hz => by
      rcases List.mem_cons.1 hz with rfl | hz
      · exact Nat.le_refl _
      · exact y2 z hz
    have hlY : (LS.length :: Y).length = e + 1 := by simp [y1]
    rw [hlY] at r1 r2
    have hq : 2 * LS.length - 2 ≤ wsum (LS.length :: Y) * 2 / 2 ^ (e + 1) := by
      refine (Nat.le_div_iff_mul_le (Nat.two_pow_pos _)).2 ?_
      simp only [wsum]
      rw [y1, Nat.pow_succ]
      generalize 2 ^ e = P at *
      have e1 : (2 * LS.length - 2) * (P * 2) = 2 * (2 * (LS.length * P)) - 2 * (2 * P) := by
        rw [Nat.sub_mul]
        have : 2 * LS.length * (P * 2) = 2 * (2 * (LS.length * P)) := by rw [Nat.mul_comm P 2, Nat.mul_assoc, Nat.mul_left_comm LS.length 2 P]
        omega
      omega
    have h3 := csum_mono (rowM_pos hp (e + 1)) hq
    have h4 := sel.cost
    simp only [List.map_cons, List.sum_cons] at h4 r2
    rw [htop] at h4 r2
    have hy3 : v = (Y.map fun x => csum (LS.take x)).sum := y3
    omega

/-- What the lengths cost, symbol by symbol. -/
theorem cost_rows (LS : List Pk) : ∀ X : List Nat, ((List.range LS.length).map fun r => (LS.getD r default).c * (lenAt X r : Int)).sum = (X.map fun x => csum (LS.take x)).sum
  | [] => by
    have : ∀ l : List Nat, (l.map fun r => (LS.getD r default).c * ((lenAt [] r : Nat) : Int)).sum = 0 := fun l => by
      induction l with
      | nil => rfl
      | cons a b ih => simp only [List.map_cons, List.sum_cons, ih]; simp [lenAt]
    rw [this]; rfl
  | x :: X => by
    have hadd : ∀ (f g : Nat → Int) (l : List Nat), (l.map fun r => f r + g r).sum = (l.map f).sum + (l.map g).sum := fun f g l => by
      induction l with
      | nil => rfl
      | cons a b ih => simp only [List.map_cons, List.sum_cons, ih]; omega
    have h1 : ((List.range LS.length).map fun r => (LS.getD r default).c * (lenAt (x :: X) r : Int)) = (List.range LS.length).map fun r => (LS.getD r default).c * (lenAt X r : Int) + (if r < x then (LS.getD r default).c else 0) := by
      refine List.map_congr_left fun r _ => ?_
      have hc : lenAt (x :: X) r = lenAt X r + if r < x then 1 else 0 := by
        unfold lenAt; rw [List.countP_cons]; by_cases h : r < x <;> simp [h]
      rw [hc]
      by_cases h : r < x
      · rw [if_pos h, if_pos h, Int.natCast_add, Int.mul_add]; simp
      · rw [if_neg h, if_neg h]; simp
    rw [h1, hadd, cost_rows LS X, List.map_cons, List.sum_cons]
    have h2 : ∀ (L : List Pk) (k : Nat), ((List.range L.length).map fun r => if r < k then (L.getD r default).c else 0).sum = csum (L.take k) := fun L => by
      induction L with
      | nil => intro k; simp [csum]
      | cons a b ih =>
        intro k
        rw [List.length_cons, List.range_succ_eq_map, List.map_cons, List.sum_cons, List.map_map]
        cases k with
        | zero =>
          have := ih 0
          simp only [Nat.not_lt_zero, if_false, List.take_zero] at this ⊢
          have e : ((fun (_ : Nat) => (0 : Int)) ∘ Nat.succ) = fun _ => 0 := rfl
          rw [e, this]; simp
        | succ k =>
          have := ih k
          have e : ((fun r => if r < k + 1 then ((a :: b).getD r default).c else 0) ∘ Nat.succ) = fun r => if r < k then (b.getD r default).c else 0 := by
            funext r
            simp only [Function.comp_apply, Nat.succ_eq_add_one, Nat.add_lt_add_iff_right, List.getD_cons_succ]
          rw [e, this]
          simp [csum]
    rw [h2]; omega

end Go.Proofs
