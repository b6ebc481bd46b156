/-
  OWN WORK. The lengths, plain: whole, in order, in bounds.
-/
import Derived.Test.YtmimlpfnhmokeaaHuffN
import Derived.Test.YtmimlpfnhmokeaaHuffI
set_option linter.unusedVariables false
set_option linter.unusedSimpArgs false
namespace Go.Proofs
open Go.Sh

def sy (x : Pk) : Int := x.s.headD 0

theorem leaves_sy {cs : List Int} {x : Pk} (h : x ∈ leavesM cs) : ∃ (k : Nat) (n : Int), cs[k]? = some n ∧ n > 0 ∧ x = ⟨n, [(k : Int)]⟩ := by
  obtain ⟨k, n, h1, h2, h3⟩ := leavesFrom_mem h
  exact ⟨k, n, h1, h2, by rw [h3]; simp⟩

theorem leavesFrom_has {cs : List Int} {k : Nat} {n : Int} (h : cs[k]? = some n) (hn : n > 0) : ∀ i : Nat, ⟨n, [((i + k : Nat) : Int)]⟩ ∈ leavesFrom i cs := by
  induction cs generalizing k with
  | nil => simp at h
  | cons a r ih =>
    intro i
    cases k with
    | zero => simp at h; subst h; simp [leavesFrom, hn]
    | succ k =>
      simp only [List.getElem?_cons_succ] at h
      have := ih h (i + 1)
      have e : i + 1 + k = i + (k + 1) := by omega
      rw [e] at this
      exact List.mem_append_right _ this

theorem leavesFrom_up (cs : List Int) : ∀ i : Nat, (leavesFrom i cs).Pairwise fun a b => sy a < sy b := by
  induction cs with
  | nil => intro i; exact List.Pairwise.nil
  | cons a r ih =>
    intro i
    simp only [leavesFrom]
    split
    · refine List.pairwise_cons.2 ⟨fun z hz => ?_, ih (i + 1)⟩
      obtain ⟨k, n, _, _, rfl⟩ := leavesFrom_mem hz
      show (i : Int) < ((i + 1 + k : Nat) : Int)
      omega
    · simpa using ih (i + 1)

theorem flat_sy : ∀ {L : List Pk}, (∀ x ∈ L, x.s = [sy x]) → L.flatMap (·.s) = L.map sy
  | [], _ => rfl
  | x :: r, h => by
    rw [List.flatMap_cons, List.map_cons, h x List.mem_cons_self, flat_sy fun z hz => h z (List.mem_cons_of_mem _ hz)]
    rfl

/-- Everything about the leaves in order. -/
structure Lv (cs : List Int) (LS : List Pk) : Prop where
  one : ∀ x ∈ LS, x.s = [sy x]
  src : ∀ x ∈ LS, ∃ k : Nat, cs[k]? = some x.c ∧ x.c > 0 ∧ sy x = (k : Int)
  has : ∀ (k : Nat) (n : Int), cs[k]? = some n → n > 0 → ∃ r : Nat, LS[r]? = some ⟨n, [(k : Int)]⟩
  nd : (LS.map sy).Nodup
  srt : SortedC LS

theorem lv_of (cs : List Int) : Lv cs (ssort (leavesM cs)) := by
  have hm := fun x => (ssort_perm (leavesM cs)).mem_iff (a := x)
  refine ⟨fun x hx => ?_, fun x hx => ?_, fun k n h1 h2 => ?_, ?_, ssort_sorted _⟩
  · obtain ⟨k, n, _, _, rfl⟩ := leaves_sy ((hm x).1 hx); rfl
  · obtain ⟨k, n, h1, h2, rfl⟩ := leaves_sy ((hm x).1 hx); exact ⟨k, h1, h2, rfl⟩
  · have := leavesFrom_has h1 h2 0
    rw [Nat.zero_add] at this
    exact List.getElem?_of_mem ((hm _).2 this)
  · have h1 : ((leavesM cs).map sy).Nodup := by
      rw [List.nodup_iff_pairwise_ne, List.pairwise_map]
      exact (leavesFrom_up cs 0).imp fun h => by omega
    exact (((ssort_perm (leavesM cs)).map sy).nodup_iff).2 h1

theorem foldl_bump_get : ∀ (l o : List Int) (i : Nat), i < o.length → (∀ s ∈ l, 0 ≤ s) → (l.foldl bump o)[i]? = some (o.getD i 0 + (l.count (i : Int) : Int))
  | [], o, i, hi, _ => by simp [hi]
  | s :: r, o, i, hi, h => by
    have hs := h s List.mem_cons_self
    rw [List.foldl_cons, foldl_bump_get r (bump o s) i (by rw [bump_len]; exact hi) fun x hx => h x (List.mem_cons_of_mem _ hx), List.count_cons]
    congr 1
    unfold bump
    rw [List.getD_eq_getElem?_getD, List.getElem?_set]
    by_cases hsi : s.toNat = i
    · have : s = (i : Int) := by omega
      rw [if_pos hsi, if_pos (by omega)]
      simp [this]
      omega
    · have : ¬ s = (i : Int) := by omega
      rw [if_neg hsi, ← List.getD_eq_getElem?_getD]
      simp [this]

def lenAt (X : List Nat) (r : Nat) : Nat := X.countP fun x => decide (r < x)

theorem lenAt_le (X : List Nat) (r : Nat) : lenAt X r ≤ X.length := List.countP_le_length
theorem lenAt_anti (X : List Nat) {r r' : Nat} (h : r ≤ r') : lenAt X r' ≤ lenAt X r := by
  unfold lenAt
  refine List.countP_mono_left fun x _ hx => ?_
  simp only [decide_eq_true_eq] at hx ⊢
  omega

theorem count_take {σ : List Int} (hn : σ.Nodup) {r : Nat} {v : Int} (h : σ[r]? = some v) (x : Nat) : (σ.take x).count v = if r < x then 1 else 0 := by
  have hnt : (σ.take x).Nodup := List.Pairwise.sublist (List.take_sublist _ _) hn
  by_cases hr : r < x
  · rw [if_pos hr]
    have hm : v ∈ σ.take x := List.mem_of_getElem? (i := r) (by rw [List.getElem?_take_of_lt hr]; exact h)
    have h1 := List.nodup_iff_count.1 hnt v
    have h2 := List.count_pos_iff.2 hm
    omega
  · rw [if_neg hr]
    refine List.count_eq_zero.2 fun hm => ?_
    obtain ⟨j, hj⟩ := List.getElem?_of_mem hm
    have hjx := (List.getElem?_eq_some_iff.1 hj).1
    have hjx2 : j < x := by simp at hjx; omega
    rw [List.getElem?_take_of_lt hjx2] at hj
    have := (List.getElem?_inj (List.getElem?_eq_some_iff.1 hj).1 hn).1 (hj.trans h.symm)
    omega

theorem count_flat {σ : List Int} (hn : σ.Nodup) {r : Nat} {v : Int} (h : σ[r]? = some v) : ∀ X : List Nat, (X.flatMap fun x => σ.take x).count v = lenAt X r
  | [] => rfl
  | x :: X => by
    rw [List.flatMap_cons, List.count_append, count_take hn h, count_flat hn h X]
    unfold lenAt
    rw [List.countP_cons]
    by_cases hr : r < x <;> simp [hr] <;> omega

theorem count_flat0 {σ : List Int} {v : Int} (h : v ∉ σ) (X : List Nat) : (X.flatMap fun x => σ.take x).count v = 0 := by
  refine List.count_eq_zero.2 fun hm => ?_
  obtain ⟨x, _, hx⟩ := List.mem_flatMap.1 hm
  exact h (List.mem_of_mem_take hx)

/-! ### the sum of the widths -/

def kraft (n : Nat) (X : List Nat) : Nat := ((List.range n).map fun r => 2 ^ (X.length - lenAt X r)).sum

theorem sum_add {α : Type} (f g : α → Nat) : ∀ l : List α, (l.map fun x => f x + g x).sum = (l.map f).sum + (l.map g).sum
  | [] => rfl
  | x :: r => by simp only [List.map_cons, List.sum_cons, sum_add f g r]; omega

theorem sum_above (c x : Nat) : ∀ n : Nat, x ≤ n → ((List.range n).map fun r => if r < x then 0 else c).sum = (n - x) * c
  | 0, h => by simp
  | n + 1, h => by
    rw [List.range_succ, List.map_append, List.sum_append]
    by_cases hx : x = n + 1
    · subst hx
      have : ((List.range n).map fun r => if r < n + 1 then 0 else c) = (List.range n).map fun _ => 0 := List.map_congr_left fun r hr => by
        have := List.mem_range.1 hr
        rw [if_pos (by omega)]
      rw [this]
      have z : ∀ l : List Nat, (l.map fun _ => 0).sum = 0 := fun l => by induction l with
        | nil => rfl
        | cons a b ih => simp only [List.map_cons, List.sum_cons, ih]
      rw [z]
      simp
    · rw [sum_above c x n (by omega)]
      have e : n + 1 - x = n - x + 1 := by omega
      rw [e, Nat.add_mul]
      simp only [List.map_cons, List.map_nil, List.sum_cons, List.sum_nil]
      rw [if_neg (by omega)]
      omega

theorem kraft_eq (n : Nat) : ∀ X : List Nat, X.Pairwise (· ≥ ·) → (∀ x ∈ X, x ≤ n) → kraft n X + wsum X = n * 2 ^ X.length
  | [], _, _ => by
    simp only [kraft, wsum, lenAt, List.length_nil, List.countP_nil, Nat.sub_zero, Nat.pow_zero]
    have : ((List.range n).map fun _ => 1).sum = n := by
      have z : ∀ l : List Nat, (l.map fun _ => 1).sum = l.length := fun l => by induction l with
        | nil => rfl
        | cons a b ih => simp only [List.map_cons, List.sum_cons, ih, List.length_cons]; omega
      rw [z]; simp
    omega
  | x :: X, hd, hle => by
    have hd' := List.pairwise_cons.1 hd
    have ih := kraft_eq n X hd'.2 fun y hy => hle y (List.mem_cons_of_mem _ hy)
    have hx := hle x List.mem_cons_self
    have hk : kraft n (x :: X) = kraft n X + (n - x) * 2 ^ X.length := by
      unfold kraft
      rw [← sum_above (2 ^ X.length) x n hx, ← sum_add]
      congr 1
      refine List.map_congr_left fun r _ => ?_
      have hc : lenAt (x :: X) r = lenAt X r + if r < x then 1 else 0 := by
        unfold lenAt; rw [List.countP_cons]; by_cases h : r < x <;> simp [h]
      have hl := lenAt_le X r
      rw [hc, List.length_cons]
      by_cases h : r < x
      · rw [if_pos h, if_pos h]
        have : X.length + 1 - (lenAt X r + 1) = X.length - lenAt X r := by omega
        rw [this, Nat.add_zero]
      · rw [if_neg h, if_neg h]
        have h0 : lenAt X r = 0 := by
          unfold lenAt
          refine List.countP_eq_zero.2 fun y hy => ?_
          have := hd'.1 y hy
          simp; omega
        rw [h0, Nat.add_zero, Nat.sub_zero, Nat.sub_zero, Nat.pow_succ]
        omega
    simp only [wsum, List.length_cons]
    rw [hk, Nat.pow_succ]
    generalize 2 ^ X.length = p at *
    have e1 : (n - x) * p + x * p = n * p := by rw [← Nat.add_mul]; congr 1; omega
    have e2 : n * (p * 2) = n * p + n * p := by rw [← Nat.mul_assoc]; omega
    omega

theorem sum_ge_one {v : Nat} : ∀ {l : List Nat}, (∀ x ∈ l, 1 ≤ x) → v ∈ l → v + l.length ≤ l.sum + 1
  | x :: r, h, hm => by
    have h1 := h x List.mem_cons_self
    have hall : r.length ≤ r.sum := by
      have : ∀ {l : List Nat}, (∀ x ∈ l, 1 ≤ x) → l.length ≤ l.sum := fun {l} => by
        induction l with
        | nil => intro _; simp
        | cons a b ih => intro hh; have := hh a List.mem_cons_self; have := ih fun z hz => hh z (List.mem_cons_of_mem _ hz); simp; omega
      exact this fun z hz => h z (List.mem_cons_of_mem _ hz)
    simp only [List.length_cons, List.sum_cons]
    rcases List.mem_cons.1 hm with rfl | hm
    · omega
    · have := sum_ge_one (fun z hz => h z (List.mem_cons_of_mem _ hz)) hm
      omega

/-- A sum over places, told by those that count. -/
theorem sum_places {N : Nat} {g : Nat → Int} {T : List Nat} (hn : T.Nodup) (hT : ∀ t ∈ T, t < N) (h0 : ∀ i, i < N → i ∉ T → g i = 0) : ((List.range N).map g).sum = (T.map g).sum := by
  have hp : (List.range N).Perm (T ++ (List.range N).filter fun i => decide (i ∉ T)) := by
    refine (List.perm_ext_iff_of_nodup List.nodup_range ?_).2 fun i => ?_
    · rw [List.nodup_append]
      refine ⟨hn, List.Pairwise.filter _ List.nodup_range, fun a ha b hb hab => ?_⟩
      have := (List.mem_filter.1 hb).2
      simp at this
      exact this (by rw [← hab]; exact ha)
    · rw [List.mem_append, List.mem_filter]
      simp only [List.mem_range, decide_eq_true_eq]
      constructor
      · intro h
        by_cases hi : i ∈ T
        · exact .inl hi
        · exact .inr ⟨h, hi⟩
      · rintro (h | h)
        · exact hT i h
        · exact h.1
  have sp : ∀ {a b : List Int}, a.Perm b → a.sum = b.sum := fun h => by
    induction h with
    | nil => rfl
    | cons x _ ih => simp only [List.sum_cons, ih]
    | swap x y l => simp only [List.sum_cons]; omega
    | trans _ _ ih1 ih2 => rw [ih1, ih2]
  rw [sp (hp.map g), List.map_append, sum_append]
  have : (((List.range N).filter fun i => decide (i ∉ T)).map g) = ((List.range N).filter fun i => decide (i ∉ T)).map fun _ => 0 := List.map_congr_left fun i hi => by
    have := List.mem_filter.1 hi
    exact h0 i (List.mem_range.1 this.1) (by simpa using this.2)
  rw [this]
  have z : ∀ l : List Nat, (l.map fun _ => (0 : Int)).sum = 0 := fun l => by induction l with
    | nil => rfl
    | cons a b ih => simp only [List.map_cons, List.sum_cons, ih]; rfl
  rw [z]; omega

theorem pow_cast (a b : Nat) : ((2 ^ a : Nat) : Int) = (2 : Int) ^ a := by simp

/-- Where there are two leaves or more. -/
structure Two (cs : List Int) (m : Nat) (LS : List Pk) (X : List Nat) : Prop where
  sel : Sel LS m (2 * LS.length - 2) X
  lv : Lv cs LS
  n2 : 2 ≤ LS.length
  len : (lenM cs m).length = cs.length
  leaf : ∀ (r : Nat) x (i : Nat), LS[r]? = some x → sy x = (i : Int) → i < cs.length ∧ (lenM cs m)[i]? = some (lenAt X r : Int)
  none : ∀ i : Nat, i < cs.length → (∀ x ∈ LS, sy x ≠ (i : Int)) → (lenM cs m)[i]? = some 0
  pos : ∀ r, r < LS.length → 1 ≤ lenAt X r ∧ lenAt X r ≤ m

theorem two_of {cs : List Int} {most : Int} (ok : OkL cs most) (h2 : 2 ≤ (leavesM cs).length) : ∃ X, Two cs most.toNat (ssort (leavesM cs)) X := by
  have m1 := ok.m1
  have hlv := lv_of cs
  have hsl := ssort_len (leavesM cs)
  have hlenM : lenM cs most.toNat = (((rowM (ssort (leavesM cs)) most.toNat).take (2 * (leavesM cs).length - 2)).flatMap (·.s)).foldl bump (List.replicate cs.length 0) := by
    unfold lenM; rw [if_neg (by omega)]
  generalize ssort (leavesM cs) = LS at hlv hsl hlenM
  have hpos : ∀ x ∈ LS, 0 < x.c := fun x hx => by obtain ⟨k, _, h, _⟩ := hlv.src x hx; exact h
  have hq := rowM_whole (ls := LS) (m := most.toNat) (by omega) (by rw [hsl]; exact ok.few)
  obtain ⟨X, sel⟩ := sel_ex hlv.srt hpos most.toNat (2 * LS.length - 2) hq
  rw [hsl.symm] at hlenM
  have hsy : ∀ x : Nat, (LS.take x).flatMap (·.s) = (LS.map sy).take x := fun x => by
    rw [flat_sy fun z hz => hlv.one z (List.mem_of_mem_take hz), List.map_take]
  have hfl : (X.flatMap fun x => (LS.take x).flatMap (·.s)) = X.flatMap fun x => (LS.map sy).take x := by
    congr 1; funext x; exact hsy x
  have hperm := sel.sym
  rw [hfl] at hperm
  have hs0 : ∀ s ∈ ((rowM LS most.toNat).take (2 * LS.length - 2)).flatMap (·.s), 0 ≤ s := fun s hs => by
    have := hperm.mem_iff.1 hs
    obtain ⟨x, _, hx⟩ := List.mem_flatMap.1 this
    obtain ⟨z, hz, rfl⟩ := List.mem_map.1 (List.mem_of_mem_take hx)
    obtain ⟨k, _, _, e⟩ := hlv.src z hz
    omega
  have hget : ∀ i : Nat, i < cs.length → (lenM cs most.toNat)[i]? = some (((X.flatMap fun x => (LS.map sy).take x).count (i : Int) : Nat) : Int) := fun i hi => by
    rw [hlenM, foldl_bump_get _ _ i (by simpa using hi) hs0, hperm.count_eq]
    have : (List.replicate cs.length (0 : Int)).getD i 0 = 0 := by rw [List.getD_eq_getElem?_getD, List.getElem?_replicate, if_pos hi]; rfl
    rw [this, Int.zero_add]
  have hk := kraft_eq LS.length X sel.dec sel.le
  have hw := sel.wid
  rw [sel.len] at hk
  have hkr : kraft LS.length X = 2 ^ most.toNat := by
    generalize 2 ^ most.toNat = p at *
    have e1 : wsum X * 2 = 2 * (LS.length * p) - 2 * p := by rw [hw, Nat.sub_mul, Nat.mul_assoc]
    have e2 : 2 * p ≤ 2 * (LS.length * p) := by
      have : 1 * p ≤ LS.length * p := Nat.mul_le_mul_right p (by omega)
      omega
    omega
  refine ⟨X, sel, hlv, by omega, ?_, fun r x i hr hi => ?_, fun i hi hno => ?_, fun r hr => ⟨?_, ?_⟩⟩
  · rw [hlenM, foldl_bump_len]; simp
  · obtain ⟨k, h1, _, h3⟩ := hlv.src x (List.mem_of_getElem? hr)
    have hki : k = i := by omega
    subst hki
    have hkl := (List.getElem?_eq_some_iff.1 h1).1
    refine ⟨hkl, ?_⟩
    rw [hget k hkl, count_flat hlv.nd (r := r) (by rw [List.getElem?_map, hr, ← h3]; rfl)]
  · rw [hget i hi, count_flat0 fun hm => ?_]
    · rfl
    · obtain ⟨z, hz, he⟩ := List.mem_map.1 hm
      exact hno z hz he
  · rcases Nat.eq_zero_or_pos (lenAt X r) with h0 | h0
    · have hm : 2 ^ (X.length - lenAt X r) ∈ (List.range LS.length).map fun r => 2 ^ (X.length - lenAt X r) := List.mem_map.2 ⟨r, List.mem_range.2 hr, rfl⟩
      have := sum_ge_one (fun x hx => by
        obtain ⟨j, _, rfl⟩ := List.mem_map.1 hx
        exact Nat.one_le_two_pow) hm
      rw [h0, Nat.sub_zero, sel.len] at this
      have hkk : ((List.range LS.length).map fun r => 2 ^ (X.length - lenAt X r)).sum = 2 ^ most.toNat := hkr
      rw [sel.len] at hkk
      simp only [List.length_map, List.length_range] at this
      omega
    · exact h0
  · have := lenAt_le X r
    rw [sel.len] at this; exact this

theorem wt_nat {t m : Nat} (h1 : 1 ≤ t) (h2 : t ≤ m) (h3 : m ≤ 16) : wt (t : Int) = 2 ^ (16 - m) * ((2 ^ (m - t) : Nat) : Int) := by
  unfold wt
  rw [if_pos (by omega)]
  have e : (16 - (t : Int)).toNat = 16 - m + (m - t) := by omega
  rw [e, Int.pow_add]
  simp

theorem Two.whole {cs : List Int} {m : Nat} {LS : List Pk} {X : List Nat} (t : Two cs m LS X) (hm : m ≤ 16) : wtM (lenM cs m) = 65536 := by
  have hl := t.len
  have hmap : (lenM cs m).map wt = (List.range cs.length).map fun i => wt ((lenM cs m).getD i 0) := by
    apply List.ext_getElem?
    intro i
    by_cases hi : i < cs.length
    · rw [List.getElem?_map, List.getElem?_map, List.getElem?_range hi]
      simp only [Option.map_some]
      rw [List.getD_eq_getElem?_getD, List.getElem?_eq_getElem (by omega)]; rfl
    · rw [List.getElem?_eq_none_iff.2 (by simp; omega), List.getElem?_eq_none_iff.2 (by simp; omega)]
  unfold wtM
  rw [hmap]
  have hT : ∀ x ∈ LS, ∃ k : Nat, sy x = (k : Int) ∧ k < cs.length := fun x hx => by
    obtain ⟨k, h1, _, h3⟩ := t.lv.src x hx
    exact ⟨k, h3, (List.getElem?_eq_some_iff.1 h1).1⟩
  have hnd : (LS.map fun x => (sy x).toNat).Nodup := by
    have := t.lv.nd
    rw [List.nodup_iff_pairwise_ne, List.pairwise_map] at this ⊢
    refine List.Pairwise.imp_of_mem (fun ha hb hab he => hab ?_) this
    obtain ⟨k, h1, _⟩ := hT _ ha
    obtain ⟨k', h2, _⟩ := hT _ hb
    omega
  rw [sum_places (T := LS.map fun x => (sy x).toNat) hnd (fun i hi => ?_) (fun i hi hni => ?_)]
  · have hg : ((LS.map fun x => (sy x).toNat).map fun i => wt ((lenM cs m).getD i 0)) = (List.range LS.length).map fun r => 2 ^ (16 - m) * ((2 ^ (m - lenAt X r) : Nat) : Int) := by
      apply List.ext_getElem?
      intro r
      by_cases hr : r < LS.length
      · have hx : LS[r]? = some LS[r] := List.getElem?_eq_getElem hr
        obtain ⟨k, h1, h2⟩ := hT _ (List.mem_of_getElem? hx)
        obtain ⟨_, h3⟩ := t.leaf r _ k hx h1
        obtain ⟨p1, p2⟩ := t.pos r hr
        rw [List.getElem?_map, List.getElem?_map, hx, List.getElem?_map, List.getElem?_range hr]
        simp only [Option.map_some]
        have e : (sy LS[r]).toNat = k := by omega
        rw [e, List.getD_eq_getElem?_getD, h3]
        congr 1
        exact wt_nat p1 p2 hm
      · rw [List.getElem?_eq_none_iff.2 (by simp; omega), List.getElem?_eq_none_iff.2 (by simp; omega)]
    rw [hg]
    have hsum : ∀ (c : Int) (f : Nat → Nat) (l : List Nat), (l.map fun r => c * (f r : Int)).sum = c * (((l.map f).sum : Nat) : Int) := fun c f l => by
      induction l with
      | nil => simp
      | cons a b ih => simp only [List.map_cons, List.sum_cons, ih]; rw [Int.natCast_add, Int.mul_add]
    rw [hsum]
    have hk := kraft_eq LS.length X t.sel.dec t.sel.le
    have hw := t.sel.wid
    rw [t.sel.len] at hk
    have hkr : ((List.range LS.length).map fun r => 2 ^ (m - lenAt X r)).sum = 2 ^ m := by
      have hkk : ((List.range LS.length).map fun r => 2 ^ (m - lenAt X r)).sum = kraft LS.length X := by unfold kraft; rw [t.sel.len]
      rw [hkk]
      have n2 := t.n2
      generalize 2 ^ m = p at *
      have e1 : wsum X * 2 = 2 * (LS.length * p) - 2 * p := by rw [hw, Nat.sub_mul, Nat.mul_assoc]
      have e2 : 2 * p ≤ 2 * (LS.length * p) := by
        have : 1 * p ≤ LS.length * p := Nat.mul_le_mul_right p (by omega)
        omega
      omega
    rw [hkr]
    have : (2 : Int) ^ (16 - m) * ((2 ^ m : Nat) : Int) = 2 ^ (16 - m + m) := by rw [Int.pow_add]; simp
    rw [this]
    have e : 16 - m + m = 16 := by omega
    rw [e]; decide
  · obtain ⟨x, hx, rfl⟩ := List.mem_map.1 hi
    obtain ⟨k, h1, h2⟩ := hT x hx
    omega
  · have : (lenM cs m)[i]? = some 0 := t.none i hi fun x hx he => hni (List.mem_map.2 ⟨x, hx, by omega⟩)
    show wt ((lenM cs m).getD i 0) = 0
    rw [List.getD_eq_getElem?_getD, this]
    rfl

theorem wt_replicate (n : Nat) : wtM (List.replicate n 0) = 0 := by
  unfold wtM
  induction n with
  | zero => rfl
  | succ n ih => rw [List.replicate_succ, List.map_cons, List.sum_cons, ih]; rfl

theorem wt_set_le : ∀ (n i : Nat), wtM ((List.replicate n 0).set i 1) ≤ 32768
  | 0, i => by simp [wtM]
  | n + 1, 0 => by
    have := wt_replicate n
    unfold wtM at *
    rw [List.replicate_succ, List.set_cons_zero, List.map_cons, List.sum_cons, this]
    decide
  | n + 1, i + 1 => by
    have := wt_set_le n i
    unfold wtM at *
    rw [List.replicate_succ, List.set_cons_succ, List.map_cons, List.sum_cons]
    have : wt 0 = 0 := rfl
    omega

theorem lenM_ok {cs : List Int} {most : Int} (ok : OkL cs most) : OkC (lenM cs most.toNat) ∧ (lenM cs most.toNat).length = cs.length := by
  have m1 := ok.m1
  have m2 := ok.m2
  have l300 := ok.len
  by_cases h2 : 2 ≤ (leavesM cs).length
  · obtain ⟨X, t⟩ := two_of ok h2
    refine ⟨⟨⟨by rw [t.len]; omega, fun v hv => ?_⟩, by rw [t.whole (by omega)]; omega⟩, t.len⟩
    obtain ⟨i, hi⟩ := List.getElem?_of_mem hv
    have hil := (List.getElem?_eq_some_iff.1 hi).1
    rw [t.len] at hil
    by_cases hx : ∃ x ∈ ssort (leavesM cs), sy x = (i : Int)
    · obtain ⟨x, hx, hs⟩ := hx
      obtain ⟨r, hr⟩ := List.getElem?_of_mem hx
      obtain ⟨_, h⟩ := t.leaf r x i hr hs
      rw [hi] at h; cases h
      have := t.pos r (List.getElem?_eq_some_iff.1 hr).1
      omega
    · have := t.none i hil fun x hx' hs => hx ⟨x, hx', hs⟩
      rw [hi] at this; cases this; omega
  · by_cases h1 : (leavesM cs).length = 1
    · have e : lenM cs most.toNat = (List.replicate cs.length 0).set (((leavesM cs).headD default).s.headD 0).toNat 1 := by unfold lenM; rw [if_pos h1]
      rw [e]
      refine ⟨⟨⟨by simp; omega, fun v hv => ?_⟩, Int.le_trans (wt_set_le _ _) (by omega)⟩, by simp⟩
      rcases List.mem_or_eq_of_mem_set hv with hv | rfl
      · have := (List.mem_replicate.1 hv).2; omega
      · omega
    · have h0 : (leavesM cs).length = 0 := by omega
      have e : lenM cs most.toNat = List.replicate cs.length 0 := by
        unfold lenM
        rw [if_neg h1, h0]
        simp
      rw [e]
      refine ⟨⟨⟨by simp; omega, fun v hv => ?_⟩, by rw [wt_replicate]; omega⟩, by simp⟩
      have := (List.mem_replicate.1 hv).2; omega

/-- What is there more often has no longer code. -/
theorem lenM_order {cs : List Int} {most : Int} (ok : OkL cs most) {i j : Nat} {a b u v : Int} (hi : cs[i]? = some a) (hj : cs[j]? = some b) (hab : a > b) (hb : b > 0) (hu : (lenM cs most.toNat)[i]? = some u) (hv : (lenM cs most.toNat)[j]? = some v) : u ≤ v := by
  have hlv := lv_of cs
  obtain ⟨r, hr⟩ := hlv.has i a hi (by omega)
  obtain ⟨r', hr'⟩ := hlv.has j b hj hb
  have hne : r ≠ r' := fun hh => by rw [hh, hr'] at hr; cases hr; omega
  have h2 : 2 ≤ (leavesM cs).length := by
    rw [← ssort_len]
    have := (List.getElem?_eq_some_iff.1 hr).1
    have := (List.getElem?_eq_some_iff.1 hr').1
    omega
  obtain ⟨X, t⟩ := two_of ok h2
  obtain ⟨_, h3⟩ := t.leaf r _ i hr rfl
  obtain ⟨_, h4⟩ := t.leaf r' _ j hr' rfl
  rw [hu] at h3
  rw [hv] at h4
  have hlt : r' < r := by
    rcases Nat.lt_or_ge r' r with h | h
    · exact h
    · have hs := List.pairwise_iff_getElem.1 hlv.srt r r' (List.getElem?_eq_some_iff.1 hr).1 (List.getElem?_eq_some_iff.1 hr').1 (by omega)
      rw [(List.getElem?_eq_some_iff.1 hr).2, (List.getElem?_eq_some_iff.1 hr').2] at hs
      have hs : a ≤ b := hs
      omega
  have := lenAt_anti X (show r' ≤ r by omega)
  have e3 := Option.some.inj h3
  have e4 := Option.some.inj h4
  omega

end Go.Proofs
