/-
  OWN WORK. Several texts in one: HuffO, FlN, ShU, LzB, FlM, FlO, ShV, FlQ, HuffM, FlX, FlMt, FlY, FlZ, FlR.
-/
import Derived.Test.YtckbndhljfijhaaMgFlateRightD
import Derived.Test.YtckbndhljfijhaaMgFlateRightC
import Derived.Test.YtckbndhljfijhaaMgFlateRightB

set_option linter.unusedVariables false
set_option linter.unusedSimpArgs false
namespace Go.Proofs
open Go.Sh
def sy (x : Pk) : Int := x.s.headD 0
theorem leaves_sy {cs : List Int} {x : Pk} (h : x ∈ leavesM cs) : ∃ (k : Nat) (n : Int), cs[k]? = some n ∧ n > 0 ∧ x = ⟨n, [(k : Int)]⟩ := by
 obtain ⟨k, n, h1, h2, h3⟩ := leavesFrom_mem h
 exact ⟨k, n, h1, h2, by rw [h3]; simp⟩
theorem leavesFrom_has {cs : List Int} {k : Nat} {n : Int} (h : cs[k]? = some n) (hn : n > 0) : ∀ i : Nat, ⟨n, [((i + k : Nat) : Int)]⟩ ∈ leavesFrom i cs := by
 induction cs generalizing k with
 | nil => simp at h
 | cons a r ih =>
  intro i
  cases k with
  | zero => simp at h; subst h; simp [leavesFrom, hn]
  | succ k =>
   simp only [List.getElem?_cons_succ] at h
   have := ih h (i + 1)
   have e : i + 1 + k = i + (k + 1) := by omega
   rw [e] at this
   exact List.mem_append_right _ this
theorem leavesFrom_up (cs : List Int) : ∀ i : Nat, (leavesFrom i cs).Pairwise fun a b => sy a < sy b := by
 induction cs with
 | nil => intro i; exact List.Pairwise.nil
 | cons a r ih =>
  intro i
  simp only [leavesFrom]
  split
  ·refine List.pairwise_cons.2 ⟨fun z hz => ?_, ih (i + 1)⟩
   obtain ⟨k, n, _, _, rfl⟩ := leavesFrom_mem hz
   show (i : Int) < ((i + 1 + k : Nat) : Int)
   omega
  ·simpa using ih (i + 1)
theorem flat_sy : ∀ {L : List Pk}, (∀ x ∈ L, x.s = [sy x]) → L.flatMap (·.s) = L.map sy
 | [], _ => rfl
 | x :: r, h => by
  rw [List.flatMap_cons, List.map_cons, h x List.mem_cons_self, flat_sy fun z hz => h z (List.mem_cons_of_mem _ hz)]
  rfl
structure Lv (cs : List Int) (LS : List Pk) : Prop where
 one : ∀ x ∈ LS, x.s = [sy x]
 src : ∀ x ∈ LS, ∃ k : Nat, cs[k]? = some x.c ∧ x.c > 0 ∧ sy x = (k : Int)
 has : ∀ (k : Nat) (n : Int), cs[k]? = some n → n > 0 → ∃ r : Nat, LS[r]? = some ⟨n, [(k : Int)]⟩
 nd : (LS.map sy).Nodup
 srt : SortedC LS
theorem lv_of (cs : List Int) : Lv cs (ssort (leavesM cs)) := by
 have hm := fun x => (ssort_perm (leavesM cs)).mem_iff (a := x)
 refine ⟨fun x hx => ?_, fun x hx => ?_, fun k n h1 h2 => ?_, ?_, ssort_sorted _⟩
 ·obtain ⟨k, n, _, _, rfl⟩ := leaves_sy ((hm x).1 hx); rfl
 ·obtain ⟨k, n, h1, h2, rfl⟩ := leaves_sy ((hm x).1 hx); exact ⟨k, h1, h2, rfl⟩
 ·have := leavesFrom_has h1 h2 0
  rw [Nat.zero_add] at this
  exact List.getElem?_of_mem ((hm _).2 this)
 ·have h1 : ((leavesM cs).map sy).Nodup := by
   rw [List.nodup_iff_pairwise_ne, List.pairwise_map]
   exact (leavesFrom_up cs 0).imp fun h => by omega
  exact (((ssort_perm (leavesM cs)).map sy).nodup_iff).2 h1
theorem foldl_bump_get : ∀ (l o : List Int) (i : Nat), i < o.length → (∀ s ∈ l, 0 ≤ s) → (l.foldl bump o)[i]? = some (o.getD i 0 + (l.count (i : Int) : Int))
 | [], o, i, hi, _ => by simp [hi]
 | s :: r, o, i, hi, h => by
  have hs := h s List.mem_cons_self
  rw [List.foldl_cons, foldl_bump_get r (bump o s) i (by rw [bump_len]; exact hi) fun x hx => h x (List.mem_cons_of_mem _ hx), List.count_cons]
  congr 1
  unfold bump
  rw [List.getD_eq_getElem?_getD, List.getElem?_set]
  by_cases hsi : s.toNat = i
  ·have : s = (i : Int) := by omega
   rw [if_pos hsi, if_pos (by omega)]
   simp [this]
   omega
  ·have : ¬ s = (i : Int) := by omega
   rw [if_neg hsi, ← List.getD_eq_getElem?_getD]
   simp [this]
def lenAt (X : List Nat) (r : Nat) : Nat := X.countP fun x => decide (r < x)
theorem lenAt_le (X : List Nat) (r : Nat) : lenAt X r ≤ X.length := List.countP_le_length
theorem count_take {σ : List Int} (hn : σ.Nodup) {r : Nat} {v : Int} (h : σ[r]? = some v) (x : Nat) : (σ.take x).count v = if r < x then 1 else 0 := by
 have hnt : (σ.take x).Nodup := List.Pairwise.sublist (List.take_sublist _ _) hn
 by_cases hr : r < x
 ·rw [if_pos hr]
  have hm : v ∈ σ.take x := List.mem_of_getElem? (i := r) (by rw [List.getElem?_take_of_lt hr]; exact h)
  have h1 := List.nodup_iff_count.1 hnt v
  have h2 := List.count_pos_iff.2 hm
  omega
 ·rw [if_neg hr]
  refine List.count_eq_zero.2 fun hm => ?_
  obtain ⟨j, hj⟩ := List.getElem?_of_mem hm
  have hjx := (List.getElem?_eq_some_iff.1 hj).1
  have hjx2 : j < x := by simp at hjx; omega
  rw [List.getElem?_take_of_lt hjx2] at hj
  have := (List.getElem?_inj (List.getElem?_eq_some_iff.1 hj).1 hn).1 (hj.trans h.symm)
  omega
theorem count_flat {σ : List Int} (hn : σ.Nodup) {r : Nat} {v : Int} (h : σ[r]? = some v) : ∀ X : List Nat, (X.flatMap fun x => σ.take x).count v = lenAt X r
 | [] => rfl
 | x :: X => by
  rw [List.flatMap_cons, List.count_append, count_take hn h, count_flat hn h X]
  unfold lenAt
  rw [List.countP_cons]
  by_cases hr : r < x <;> simp [hr] <;> omega
theorem count_flat0 {σ : List Int} {v : Int} (h : v ∉ σ) (X : List Nat) : (X.flatMap fun x => σ.take x).count v = 0 := by
 refine List.count_eq_zero.2 fun hm => ?_
 obtain ⟨x, _, hx⟩ := List.mem_flatMap.1 hm
 exact h (List.mem_of_mem_take hx)
def kraft (n : Nat) (X : List Nat) : Nat := ((List.range n).map fun r => 2 ^ (X.length - lenAt X r)).sum
theorem sum_add {α : Type} (f g : α → Nat) : ∀ l : List α, (l.map fun x => f x + g x).sum = (l.map f).sum + (l.map g).sum
 | [] => rfl
 | x :: r => by simp only [List.map_cons, List.sum_cons, sum_add f g r]; omega
theorem sum_above (c x : Nat) : ∀ n : Nat, x ≤ n → ((List.range n).map fun r => if r < x then 0 else c).sum = (n - x) * c
 | 0, h => by simp
 | n + 1, h => by
  rw [List.range_succ, List.map_append, List.sum_append]
  by_cases hx : x = n + 1
  ·subst hx
   have : ((List.range n).map fun r => if r < n + 1 then 0 else c) = (List.range n).map fun _ => 0 := List.map_congr_left fun r hr => by
    have := List.mem_range.1 hr
    rw [if_pos (by omega)]
   rw [this]
   have z : ∀ l : List Nat, (l.map fun _ => 0).sum = 0 := fun l => by induction l with
    | nil => rfl
    | cons a b ih => simp only [List.map_cons, List.sum_cons, ih]
   rw [z]
   simp
  ·rw [sum_above c x n (by omega)]
   have e : n + 1 - x = n - x + 1 := by omega
   rw [e, Nat.add_mul]
   simp only [List.map_cons, List.map_nil, List.sum_cons, List.sum_nil]
   rw [if_neg (by omega)]
   omega
theorem kraft_eq (n : Nat) : ∀ X : List Nat, X.Pairwise (· ≥ ·) → (∀ x ∈ X, x ≤ n) → kraft n X + wsum X = n * 2 ^ X.length
 | [], _, _ => by
  simp only [kraft, wsum, lenAt, List.length_nil, List.countP_nil, Nat.sub_zero, Nat.pow_zero]
  have : ((List.range n).map fun _ => 1).sum = n := by
   have z : ∀ l : List Nat, (l.map fun _ => 1).sum = l.length := fun l => by induction l with
    | nil => rfl
    | cons a b ih => simp only [List.map_cons, List.sum_cons, ih, List.length_cons]; omega
   rw [z]; simp
  omega
 | x :: X, hd, hle => by
  have hd' := List.pairwise_cons.1 hd
  have ih := kraft_eq n X hd'.2 fun y hy => hle y (List.mem_cons_of_mem _ hy)
  have hx := hle x List.mem_cons_self
  have hk : kraft n (x :: X) = kraft n X + (n - x) * 2 ^ X.length := by
   unfold kraft
   rw [← sum_above (2 ^ X.length) x n hx, ← sum_add]
   congr 1
   refine List.map_congr_left fun r _ => ?_
   have hc : lenAt (x :: X) r = lenAt X r + if r < x then 1 else 0 := by
    unfold lenAt; rw [List.countP_cons]; by_cases h : r < x <;> simp [h]
   have hl := lenAt_le X r
   rw [hc, List.length_cons]
   by_cases h : r < x
   ·rw [if_pos h, if_pos h]
    have : X.length + 1 - (lenAt X r + 1) = X.length - lenAt X r := by omega
    rw [this, Nat.add_zero]
   ·rw [if_neg h, if_neg h]
    have h0 : lenAt X r = 0 := by
     unfold lenAt
     refine List.countP_eq_zero.2 fun y hy => ?_
     have := hd'.1 y hy
     simp; omega
    rw [h0, Nat.add_zero, Nat.sub_zero, Nat.sub_zero, Nat.pow_succ]
    omega
  simp only [wsum, List.length_cons]
  rw [hk, Nat.pow_succ]
  generalize 2 ^ X.length = p at *
  have e1 : (n - x) * p + x * p = n * p := by rw [← Nat.add_mul]; congr 1; omega
  have e2 : n * (p * 2) = n * p + n * p := by rw [← Nat.mul_assoc]; omega
  omega
theorem sum_ge_one {v : Nat} : ∀ {l : List Nat}, (∀ x ∈ l, 1 ≤ x) → v ∈ l → v + l.length ≤ l.sum + 1
 | x :: r, h, hm => by
  have h1 := h x List.mem_cons_self
  have hall : r.length ≤ r.sum := by
   have : ∀ {l : List Nat}, (∀ x ∈ l, 1 ≤ x) → l.length ≤ l.sum := fun {l} => by
    induction l with
    | nil => intro _; simp
    | cons a b ih => intro hh; have := hh a List.mem_cons_self; have := ih fun z hz => hh z (List.mem_cons_of_mem _ hz); simp; omega
   exact this fun z hz => h z (List.mem_cons_of_mem _ hz)
  simp only [List.length_cons, List.sum_cons]
  rcases List.mem_cons.1 hm with rfl | hm
  ·omega
  ·have := sum_ge_one (fun z hz => h z (List.mem_cons_of_mem _ hz)) hm
   omega
theorem sum_places {N : Nat} {g : Nat → Int} {T : List Nat} (hn : T.Nodup) (hT : ∀ t ∈ T, t < N) (h0 : ∀ i, i < N → i ∉ T → g i = 0) : ((List.range N).map g).sum = (T.map g).sum := by
 have hp : (List.range N).Perm (T ++ (List.range N).filter fun i => decide (i ∉ T)) := by
  refine (List.perm_ext_iff_of_nodup List.nodup_range ?_).2 fun i => ?_
  ·rw [List.nodup_append]
   refine ⟨hn, List.Pairwise.filter _ List.nodup_range, fun a ha b hb hab => ?_⟩
   have := (List.mem_filter.1 hb).2
   simp at this
   exact this (by rw [← hab]; exact ha)
  ·rw [List.mem_append, List.mem_filter]
   simp only [List.mem_range, decide_eq_true_eq]
   constructor
   ·intro h
    by_cases hi : i ∈ T
    ·exact .inl hi
    ·exact .inr ⟨h, hi⟩
   ·rintro (h | h)
    ·exact hT i h
    ·exact h.1
 have sp : ∀ {a b : List Int}, a.Perm b → a.sum = b.sum := fun h => by
  induction h with
  | nil => rfl
  | cons x _ ih => simp only [List.sum_cons, ih]
  | swap x y l => simp only [List.sum_cons]; omega
  | trans _ _ ih1 ih2 => rw [ih1, ih2]
 rw [sp (hp.map g), List.map_append, sum_append]
 have : (((List.range N).filter fun i => decide (i ∉ T)).map g) = ((List.range N).filter fun i => decide (i ∉ T)).map fun _ => 0 := List.map_congr_left fun i hi => by
  have := List.mem_filter.1 hi
  exact h0 i (List.mem_range.1 this.1) (by simpa using this.2)
 rw [this]
 have z : ∀ l : List Nat, (l.map fun _ => (0 : Int)).sum = 0 := fun l => by induction l with
  | nil => rfl
  | cons a b ih => simp only [List.map_cons, List.sum_cons, ih]; rfl
 rw [z]; omega
structure Two (cs : List Int) (m : Nat) (LS : List Pk) (X : List Nat) : Prop where
 sel : Sel LS m (2 * LS.length - 2) X
 lv : Lv cs LS
 n2 : 2 ≤ LS.length
 len : (lenM cs m).length = cs.length
 leaf : ∀ (r : Nat) x (i : Nat), LS[r]? = some x → sy x = (i : Int) → i < cs.length ∧ (lenM cs m)[i]? = some (lenAt X r : Int)
 none : ∀ i : Nat, i < cs.length → (∀ x ∈ LS, sy x ≠ (i : Int)) → (lenM cs m)[i]? = some 0
 pos : ∀ r, r < LS.length → 1 ≤ lenAt X r ∧ lenAt X r ≤ m
theorem two_of {cs : List Int} {most : Int} (ok : OkL cs most) (h2 : 2 ≤ (leavesM cs).length) : ∃ X, Two cs most.toNat (ssort (leavesM cs)) X := by
 have m1 := ok.m1
 have hlv := lv_of cs
 have hsl := ssort_len (leavesM cs)
 have hlenM : lenM cs most.toNat = (((rowM (ssort (leavesM cs)) most.toNat).take (2 * (leavesM cs).length - 2)).flatMap (·.s)).foldl bump (List.replicate cs.length 0) := by
  unfold lenM; rw [if_neg (by omega)]
 generalize ssort (leavesM cs) = LS at hlv hsl hlenM
 have hpos : ∀ x ∈ LS, 0 < x.c := fun x hx => by obtain ⟨k, _, h, _⟩ := hlv.src x hx; exact h
 have hq := rowM_whole (ls := LS) (m := most.toNat) (by omega) (by rw [hsl]; exact ok.few)
 obtain ⟨X, sel⟩ := sel_ex hlv.srt hpos most.toNat (2 * LS.length - 2) hq
 rw [hsl.symm] at hlenM
 have hsy : ∀ x : Nat, (LS.take x).flatMap (·.s) = (LS.map sy).take x := fun x => by
  rw [flat_sy fun z hz => hlv.one z (List.mem_of_mem_take hz), List.map_take]
 have hfl : (X.flatMap fun x => (LS.take x).flatMap (·.s)) = X.flatMap fun x => (LS.map sy).take x := by
  congr 1; funext x; exact hsy x
 have hperm := sel.sym
 rw [hfl] at hperm
 have hs0 : ∀ s ∈ ((rowM LS most.toNat).take (2 * LS.length - 2)).flatMap (·.s), 0 ≤ s := fun s hs => by
  have := hperm.mem_iff.1 hs
  obtain ⟨x, _, hx⟩ := List.mem_flatMap.1 this
  obtain ⟨z, hz, rfl⟩ := List.mem_map.1 (List.mem_of_mem_take hx)
  obtain ⟨k, _, _, e⟩ := hlv.src z hz
  omega
 have hget : ∀ i : Nat, i < cs.length → (lenM cs most.toNat)[i]? = some (((X.flatMap fun x => (LS.map sy).take x).count (i : Int) : Nat) : Int) := fun i hi => by
  rw [hlenM, foldl_bump_get _ _ i (by simpa using hi) hs0, hperm.count_eq]
  have : (List.replicate cs.length (0 : Int)).getD i 0 = 0 := by rw [List.getD_eq_getElem?_getD, List.getElem?_replicate, if_pos hi]; rfl
  rw [this, Int.zero_add]
 have hk := kraft_eq LS.length X sel.dec sel.le
 have hw := sel.wid
 rw [sel.len] at hk
 have hkr : kraft LS.length X = 2 ^ most.toNat := by
  generalize 2 ^ most.toNat = p at *
  have e1 : wsum X * 2 = 2 * (LS.length * p) - 2 * p := by rw [hw, Nat.sub_mul, Nat.mul_assoc]
  have e2 : 2 * p ≤ 2 * (LS.length * p) := by
   have : 1 * p ≤ LS.length * p := Nat.mul_le_mul_right p (by omega)
   omega
  omega
 refine ⟨X, sel, hlv, by omega, ?_, fun r x i hr hi => ?_, fun i hi hno => ?_, fun r hr => ⟨?_, ?_⟩⟩
 ·rw [hlenM, foldl_bump_len]; simp
 ·obtain ⟨k, h1, _, h3⟩ := hlv.src x (List.mem_of_getElem? hr)
  have hki : k = i := by omega
  subst hki
  have hkl := (List.getElem?_eq_some_iff.1 h1).1
  refine ⟨hkl, ?_⟩
  rw [hget k hkl, count_flat hlv.nd (r := r) (by rw [List.getElem?_map, hr, ← h3]; rfl)]
 ·rw [hget i hi, count_flat0 fun hm => ?_]
  ·rfl
  ·obtain ⟨z, hz, he⟩ := List.mem_map.1 hm
   exact hno z hz he
 ·rcases Nat.eq_zero_or_pos (lenAt X r) with h0 | h0
  ·have hm : 2 ^ (X.length - lenAt X r) ∈ (List.range LS.length).map fun r => 2 ^ (X.length - lenAt X r) := List.mem_map.2 ⟨r, List.mem_range.2 hr, rfl⟩
   have := sum_ge_one (fun x hx => by
    obtain ⟨j, _, rfl⟩ := List.mem_map.1 hx
    exact Nat.one_le_two_pow) hm
   rw [h0, Nat.sub_zero, sel.len] at this
   have hkk : ((List.range LS.length).map fun r => 2 ^ (X.length - lenAt X r)).sum = 2 ^ most.toNat := hkr
   rw [sel.len] at hkk
   simp only [List.length_map, List.length_range] at this
   omega
  ·exact h0
 ·have := lenAt_le X r
  rw [sel.len] at this; exact this
theorem wt_nat {t m : Nat} (h1 : 1 ≤ t) (h2 : t ≤ m) (h3 : m ≤ 16) : wt (t : Int) = 2 ^ (16 - m) * ((2 ^ (m - t) : Nat) : Int) := by
 unfold wt
 rw [if_pos (by omega)]
 have e : (16 - (t : Int)).toNat = 16 - m + (m - t) := by omega
 rw [e, Int.pow_add]
 simp
theorem Two.whole {cs : List Int} {m : Nat} {LS : List Pk} {X : List Nat} (t : Two cs m LS X) (hm : m ≤ 16) : wtM (lenM cs m) = 65536 := by
 have hl := t.len
 have hmap : (lenM cs m).map wt = (List.range cs.length).map fun i => wt ((lenM cs m).getD i 0) := by
  apply List.ext_getElem?
  intro i
  by_cases hi : i < cs.length
  ·rw [List.getElem?_map, List.getElem?_map, List.getElem?_range hi]
   simp only [Option.map_some]
   rw [List.getD_eq_getElem?_getD, List.getElem?_eq_getElem (by omega)]; rfl
  ·rw [List.getElem?_eq_none_iff.2 (by simp; omega), List.getElem?_eq_none_iff.2 (by simp; omega)]
 unfold wtM
 rw [hmap]
 have hT : ∀ x ∈ LS, ∃ k : Nat, sy x = (k : Int) ∧ k < cs.length := fun x hx => by
  obtain ⟨k, h1, _, h3⟩ := t.lv.src x hx
  exact ⟨k, h3, (List.getElem?_eq_some_iff.1 h1).1⟩
 have hnd : (LS.map fun x => (sy x).toNat).Nodup := by
  have := t.lv.nd
  rw [List.nodup_iff_pairwise_ne, List.pairwise_map] at this ⊢
  refine List.Pairwise.imp_of_mem (fun ha hb hab he => hab ?_) this
  obtain ⟨k, h1, _⟩ := hT _ ha
  obtain ⟨k', h2, _⟩ := hT _ hb
  omega
 rw [sum_places (T := LS.map fun x => (sy x).toNat) hnd (fun i hi => ?_) (fun i hi hni => ?_)]
 ·have hg : ((LS.map fun x => (sy x).toNat).map fun i => wt ((lenM cs m).getD i 0)) = (List.range LS.length).map fun r => 2 ^ (16 - m) * ((2 ^ (m - lenAt X r) : Nat) : Int) := by
   apply List.ext_getElem?
   intro r
   by_cases hr : r < LS.length
   ·have hx : LS[r]? = some LS[r] := List.getElem?_eq_getElem hr
    obtain ⟨k, h1, h2⟩ := hT _ (List.mem_of_getElem? hx)
    obtain ⟨_, h3⟩ := t.leaf r _ k hx h1
    obtain ⟨p1, p2⟩ := t.pos r hr
    rw [List.getElem?_map, List.getElem?_map, hx, List.getElem?_map, List.getElem?_range hr]
    simp only [Option.map_some]
    have e : (sy LS[r]).toNat = k := by omega
    rw [e, List.getD_eq_getElem?_getD, h3]
    congr 1
    exact wt_nat p1 p2 hm
   ·rw [List.getElem?_eq_none_iff.2 (by simp; omega), List.getElem?_eq_none_iff.2 (by simp; omega)]
  rw [hg]
  have hsum : ∀ (c : Int) (f : Nat → Nat) (l : List Nat), (l.map fun r => c * (f r : Int)).sum = c * (((l.map f).sum : Nat) : Int) := fun c f l => by
   induction l with
   | nil => simp
   | cons a b ih => simp only [List.map_cons, List.sum_cons, ih]; rw [Int.natCast_add, Int.mul_add]
  rw [hsum]
  have hk := kraft_eq LS.length X t.sel.dec t.sel.le
  have hw := t.sel.wid
  rw [t.sel.len] at hk
  have hkr : ((List.range LS.length).map fun r => 2 ^ (m - lenAt X r)).sum = 2 ^ m := by
   have hkk : ((List.range LS.length).map fun r => 2 ^ (m - lenAt X r)).sum = kraft LS.length X := by unfold kraft; rw [t.sel.len]
   rw [hkk]
   have n2 := t.n2
   generalize 2 ^ m = p at *
   have e1 : wsum X * 2 = 2 * (LS.length * p) - 2 * p := by rw [hw, Nat.sub_mul, Nat.mul_assoc]
   have e2 : 2 * p ≤ 2 * (LS.length * p) := by
    have : 1 * p ≤ LS.length * p := Nat.mul_le_mul_right p (by omega)
    omega
   omega
  rw [hkr]
  have : (2 : Int) ^ (16 - m) * ((2 ^ m : Nat) : Int) = 2 ^ (16 - m + m) := by rw [Int.pow_add]; simp
  rw [this]
  have e : 16 - m + m = 16 := by omega
  rw [e]; decide
 ·obtain ⟨x, hx, rfl⟩ := List.mem_map.1 hi
  obtain ⟨k, h1, h2⟩ := hT x hx
  omega
 ·have : (lenM cs m)[i]? = some 0 := t.none i hi fun x hx he => hni (List.mem_map.2 ⟨x, hx, by omega⟩)
  show wt ((lenM cs m).getD i 0) = 0
  rw [List.getD_eq_getElem?_getD, this]
  rfl
theorem wt_replicate (n : Nat) : wtM (List.replicate n 0) = 0 := by
 unfold wtM
 induction n with
 | zero => rfl
 | succ n ih => rw [List.replicate_succ, List.map_cons, List.sum_cons, ih]; rfl
theorem wt_set_le : ∀ (n i : Nat), wtM ((List.replicate n 0).set i 1) ≤ 32768
 | 0, i => by simp [wtM]
 | n + 1, 0 => by
  have := wt_replicate n
  unfold wtM at *
  rw [List.replicate_succ, List.set_cons_zero, List.map_cons, List.sum_cons, this]
  decide
 | n + 1, i + 1 => by
  have := wt_set_le n i
  unfold wtM at *
  rw [List.replicate_succ, List.set_cons_succ, List.map_cons, List.sum_cons]
  have : wt 0 = 0 := rfl
  omega
theorem lenM_ok {cs : List Int} {most : Int} (ok : OkL cs most) : OkC (lenM cs most.toNat) ∧ (lenM cs most.toNat).length = cs.length := by
 have m1 := ok.m1
 have m2 := ok.m2
 have l300 := ok.len
 by_cases h2 : 2 ≤ (leavesM cs).length
 ·obtain ⟨X, t⟩ := two_of ok h2
  refine ⟨⟨⟨by rw [t.len]; omega, fun v hv => ?_⟩, by rw [t.whole (by omega)]; omega⟩, t.len⟩
  obtain ⟨i, hi⟩ := List.getElem?_of_mem hv
  have hil := (List.getElem?_eq_some_iff.1 hi).1
  rw [t.len] at hil
  by_cases hx : ∃ x ∈ ssort (leavesM cs), sy x = (i : Int)
  ·obtain ⟨x, hx, hs⟩ := hx
   obtain ⟨r, hr⟩ := List.getElem?_of_mem hx
   obtain ⟨_, h⟩ := t.leaf r x i hr hs
   rw [hi] at h; cases h
   have := t.pos r (List.getElem?_eq_some_iff.1 hr).1
   omega
  ·have := t.none i hil fun x hx' hs => hx ⟨x, hx', hs⟩
   rw [hi] at this; cases this; omega
 ·by_cases h1 : (leavesM cs).length = 1
  ·have e : lenM cs most.toNat = (List.replicate cs.length 0).set (((leavesM cs).headD default).s.headD 0).toNat 1 := by unfold lenM; rw [if_pos h1]
   rw [e]
   refine ⟨⟨⟨by simp; omega, fun v hv => ?_⟩, Int.le_trans (wt_set_le _ _) (by omega)⟩, by simp⟩
   rcases List.mem_or_eq_of_mem_set hv with hv | rfl
   ·have := (List.mem_replicate.1 hv).2; omega
   ·omega
  ·have h0 : (leavesM cs).length = 0 := by omega
   have e : lenM cs most.toNat = List.replicate cs.length 0 := by
    unfold lenM
    rw [if_neg h1, h0]
    simp
   rw [e]
   refine ⟨⟨⟨by simp; omega, fun v hv => ?_⟩, by rw [wt_replicate]; omega⟩, by simp⟩
   have := (List.mem_replicate.1 hv).2; omega
end Go.Proofs
namespace Go.Proofs
open Go.Sh
def fndM (base : Nat → Nat × Nat) (v : Nat) : Nat → Nat
 | 0 => 0
 | s + 1 => if (base (s + 1)).1 ≤ v then s + 1 else fndM base v s
theorem fndM_ok {base : Nat → Nat × Nat} {v from_ : Nat} (hv : (base from_).1 ≤ v) : ∀ s, from_ ≤ s → from_ ≤ fndM base v s ∧ fndM base v s ≤ s ∧ (base (fndM base v s)).1 ≤ v ∧ ∀ t, fndM base v s < t → t ≤ s → v < (base t).1
 | 0, h => by
  have : from_ = 0 := by omega
  subst this
  rw [fndM]
  exact ⟨Nat.le_refl _, Nat.le_refl _, hv, fun t h1 h2 => by omega⟩
 | s + 1, h => by
  rw [fndM]
  split
  ·rename_i hle
   exact ⟨h, Nat.le_refl _, hle, fun t h1 h2 => by omega⟩
  ·rename_i hle
   have hne : from_ ≠ s + 1 := fun he => hle (by rw [← he]; exact hv)
   obtain ⟨h1, h2, h3, h4⟩ := fndM_ok (base := base) hv s (by omega)
   refine ⟨h1, by omega, h3, fun t h5 h6 => ?_⟩
   by_cases ht : t = s + 1
   ·rw [ht]; omega
   ·exact h4 t h5 (by omega)
def lenS (n : Nat) : Nat := if n = 258 then 285 else fndM lenB n 284
def dstS (d : Nat) : Nat := fndM dstB d 29
theorem lenS_tab : ∀ n : Fin 259, 3 ≤ n.val → 257 ≤ lenS n.val ∧ lenS n.val ≤ 285 ∧ (lenB (lenS n.val)).1 ≤ n.val ∧ n.val - (lenB (lenS n.val)).1 < 2 ^ (lenB (lenS n.val)).2 := by decide +kernel
theorem lenS_ok {n : Nat} (h : 3 ≤ n ∧ n ≤ 258) : 257 ≤ lenS n ∧ lenS n ≤ 285 ∧ (lenB (lenS n)).1 ≤ n ∧ n - (lenB (lenS n)).1 < 2 ^ (lenB (lenS n)).2 := lenS_tab ⟨n, by omega⟩ h.1
theorem dst_next : ∀ s : Fin 29, (dstB (s.val + 1)).1 = (dstB s.val).1 + 2 ^ (dstB s.val).2 := by decide +kernel
theorem dstS_ok {d : Nat} (h : 1 ≤ d ∧ d ≤ 32768) : dstS d ≤ 29 ∧ (dstB (dstS d)).1 ≤ d ∧ d - (dstB (dstS d)).1 < 2 ^ (dstB (dstS d)).2 := by
 obtain ⟨h1, h2, h3, h4⟩ := fndM_ok (base := dstB) (v := d) (from_ := 0) (by show 1 ≤ d; exact h.1) 29 (by omega)
 refine ⟨h2, h3, ?_⟩
 unfold dstS
 by_cases h29 : fndM dstB d 29 = 29
 ·rw [h29]
  have e1 : (dstB 29).1 = 24577 := by decide
  have e2 : (2 : Nat) ^ (dstB 29).2 = 8192 := by decide
  omega
 ·have := h4 (fndM dstB d 29 + 1) (by omega) (by omega)
  have e := dst_next ⟨fndM dstB d 29, by omega⟩
  simp only at e
  omega
def tokB (ll dl : List Int) (t : Tok) : List Int :=
 if t.n = 0 then symBits ll t.c.toNat
 else symBits ll (lenS t.n) ++ bitsOf false ((t.n - (lenB (lenS t.n)).1 : Nat) : Int) (lenB (lenS t.n)).2 ++ symBits dl (dstS t.d) ++ bitsOf false ((t.d - (dstB (dstS t.d)).1 : Nat) : Int) (dstB (dstS t.d)).2
def toksB (ll dl : List Int) (ts : List Tok) : List Int := ts.flatMap (tokB ll dl) ++ symBits ll 256
def lsym (t : Tok) : Int := if t.n = 0 then t.c else (lenS t.n : Nat)
def dsyms (ts : List Tok) : List Int := (ts.filter fun t => decide (t.n ≠ 0)).map fun t => ((dstS t.d : Nat) : Int)
def cntL (ts : List Tok) : List Int := (ts.map lsym).foldl bump ((List.replicate 286 0).set 256 1)
def cntD (ts : List Tok) : List Int := (dsyms ts).foldl bump (List.replicate 30 0)
def cntH (l : List Int) : List Int := l.foldl bump (List.replicate 19 0)
def posC (l : List Int) : Nat := l.countP fun x => decide (x > 0)
def padG : Nat → Nat → Nat → List Int → List Int
 | 0, _, _, cs => cs
 | f + 1, s, n, cs => if n < 2 then (if cs.getD s 0 = 0 then padG f (s + 1) (n + 1) (cs.set s 1) else padG f (s + 1) n cs) else cs
def padM (cs : List Int) : List Int := padG cs.length 0 (posC cs) cs
def litL (ts : List Tok) : List Int := lenM (padM (cntL ts)) 15
def dstL (ts : List Tok) : List Int := lenM (padM (cntD ts)) 15
def hdrL (ts : List Tok) : List Int := lenM (padM (cntH (litL ts ++ dstL ts))) 7
def dynB (ts : List Tok) (last : Int) : List Int :=
 bitsOf false last 1 ++ bitsOf false 2 2 ++ bitsOf false 29 5 ++ bitsOf false 29 5 ++ bitsOf false 15 4 ++ ordL.flatMap (fun s => bitsOf false ((hdrL ts).getD s 0) 3) ++
  (litL ts ++ dstL ts).flatMap (fun n => symBits (hdrL ts) n.toNat) ++ toksB (litL ts) (dstL ts) ts
def fixB (ts : List Tok) : List Int := bitsOf false 3 3 ++ toksB fixL fixD ts
def storW : Nat → List Int → List Int → List Int
 | 0, ws, _ => ws
 | f + 1, ws, b => if b.length ≤ 65535 then partW ws 1 0 b else storW f (partW ws 0 0 (b.take 65535)) (b.drop 65535)
def storB (b : List Int) : List Int := storW (b.length + 1) [] b
def nby (ws : List Int) : Nat := (ws.length + 7) / 8
def bestB (ts : List Tok) : List Int := if 20 < ts.length ∧ nby (dynB ts 1) < nby (fixB ts) then dynB ts 1 else fixB ts
def defB (b : List Int) (eff : Int) : List Int := if nby (storB b) < nby (bestB (lzM b eff)) then storB b else bestB (lzM b eff)
theorem posC_set {cs : List Int} {s : Nat} (hs : s < cs.length) (h0 : cs.getD s 0 = 0) : posC (cs.set s 1) = posC cs + 1 := by
 have e : cs.set s 1 = cs.take s ++ 1 :: cs.drop (s + 1) := List.set_eq_take_append_cons_drop ▸ by rw [if_pos hs]
 have e2 : cs = cs.take s ++ 0 :: cs.drop (s + 1) := by
  have h3 : cs[s] = 0 := by rw [List.getD_eq_getElem?_getD, List.getElem?_eq_getElem hs] at h0; exact h0
  rw [← h3]
  simp
 unfold posC
 rw [e]
 conv => rhs; rw [e2]
 rw [List.countP_append, List.countP_append, List.countP_cons, List.countP_cons]
 simp
 omega
theorem posC_take (cs : List Int) (s : Nat) : posC (cs.take s) ≤ posC cs := by
 unfold posC
 conv => rhs; rw [← List.take_append_drop s cs, List.countP_append]
 omega
theorem posC_step {cs : List Int} {s : Nat} (hs : s < cs.length) : posC (cs.take (s + 1)) = posC (cs.take s) + if cs.getD s 0 > 0 then 1 else 0 := by
 unfold posC
 rw [List.take_add_one, get_gD cs 0 hs, Option.toList_some, List.countP_append, List.countP_singleton]; simp
theorem padG_ok {M : Int} (hM : 1 ≤ M) : ∀ (f s n : Nat) (cs : List Int), (∀ x ∈ cs, 0 ≤ x ∧ x ≤ M) → n = posC cs → s + f = cs.length → s ≤ posC (cs.take s) → 2 ≤ cs.length →
    (padG f s n cs).length = cs.length ∧ (∀ x ∈ padG f s n cs, 0 ≤ x ∧ x ≤ M) ∧ 2 ≤ posC (padG f s n cs) ∧ ∀ (i : Nat) (a : Int), cs[i]? = some a → a > 0 → (padG f s n cs)[i]? = some a
  | 0, s, n, cs, hr, hn, hs, hp, h2 => by
    rw [padG]
    have := posC_take cs s
    exact ⟨rfl, hr, by omega, fun i a h _ => h⟩
  | f + 1, s, n, cs, hr, hn, hs, hp, h2 => by
    rw [padG]
    have hst := posC_step (cs := cs) (s := s) (by omega)
    have hmem : cs.getD s 0 ∈ cs := List.mem_of_getElem? (get_gD cs 0 (by omega))
    have hge := hr _ hmem
    split
    · split
      · rename_i h0
        have hset := posC_set (cs := cs) (s := s) (by omega) h0
        have ht : (cs.set s 1).take (s + 1) = cs.take s ++ [1] := by
          rw [List.take_add_one, List.take_set_of_le (Nat.le_refl s), List.getElem?_set_self (by omega)]; rfl
        have hp2 : s + 1 ≤ posC ((cs.set s 1).take (s + 1)) := by
          rw [ht]; unfold posC at hp ⊢; rw [List.countP_append]; simp; exact hp
        obtain ⟨h3, h4, h5, h6⟩ := padG_ok hM f (s + 1) (n + 1) (cs.set s 1) (fun x hx => by
          rcases List.mem_or_eq_of_mem_set hx with hx | rfl
          · exact hr x hx
          · omega) (by rw [hset, hn]) (by rw [List.length_set]; omega) hp2 (by rw [List.length_set]; exact h2)
        rw [List.length_set] at h3
        refine ⟨h3, h4, h5, fun i a hi ha => h6 i a ?_ ha⟩
        rw [List.getElem?_set_ne (fun he => by subst he; rw [gD_get hi] at h0; omega)]
        exact hi
      · rename_i h0
        rw [if_pos (by omega)] at hst
        exact padG_ok hM f (s + 1) n cs hr hn (by omega) (by omega) h2
    · exact ⟨rfl, hr, by omega, fun i a h _ => h⟩
theorem padM_ok {cs : List Int} {M : Int} (hM : 1 ≤ M) (hr : ∀ x ∈ cs, 0 ≤ x ∧ x ≤ M) (h2 : 2 ≤ cs.length) :
    (padM cs).length = cs.length ∧ (∀ x ∈ padM cs, 0 ≤ x ∧ x ≤ M) ∧ 2 ≤ posC (padM cs) ∧ ∀ (i : Nat) (a : Int), cs[i]? = some a → a > 0 → (padM cs)[i]? = some a :=
  padG_ok hM cs.length 0 _ cs hr rfl (by omega) (by omega) h2
theorem leaves_count (cs : List Int) : ∀ i, (leavesFrom i cs).length = posC cs := by
 induction cs with
 | nil => intro i; rfl
 | cons n r ih =>
  intro i
  rw [leavesFrom, List.length_append, ih]
  unfold posC
  rw [List.countP_cons]
  by_cases h : n > 0
  ·simp [h]; omega
  ·simp [h]
structure Whole (ls cs : List Int) (m : Nat) : Prop where
 ok : OkC ls
 len : ls.length = cs.length
 wt : wtM ls = 65536
 rng : ∀ x ∈ ls, 0 ≤ x ∧ x ≤ m
 pos : ∀ (i : Nat) (a : Int), cs[i]? = some a → a > 0 → 0 < ls.getD i 0
theorem whole_of {cs : List Int} {m : Nat} (ok : OkL cs m) (h2 : 2 ≤ posC cs) : Whole (lenM cs m) cs m := by
 have hl2 : 2 ≤ (leavesM cs).length := by unfold leavesM; rw [leaves_count]; exact h2
 obtain ⟨X, t⟩ := two_of ok hl2
 have hok := lenM_ok ok
 have hm := ok.m2
 rw [Int.toNat_natCast] at t hok
 refine ⟨hok.1, hok.2, t.whole (by omega), fun v hv => ?_, fun i a hi ha => ?_⟩
 ·obtain ⟨i, hi⟩ := List.getElem?_of_mem hv
  have hil := (List.getElem?_eq_some_iff.1 hi).1
  rw [t.len] at hil
  by_cases hx : ∃ x ∈ ssort (leavesM cs), sy x = (i : Int)
  ·obtain ⟨x, hx, hs⟩ := hx
   obtain ⟨r, hr⟩ := List.getElem?_of_mem hx
   obtain ⟨_, h⟩ := t.leaf r x i hr hs
   rw [hi] at h; cases h
   have := t.pos r (List.getElem?_eq_some_iff.1 hr).1
   omega
  ·have := t.none i hil fun x hx' hs => hx ⟨x, hx', hs⟩
   rw [hi] at this; cases this; omega
 ·obtain ⟨r, hr⟩ := t.lv.has i a hi ha
  obtain ⟨_, h⟩ := t.leaf r _ i hr rfl
  have := t.pos r (List.getElem?_eq_some_iff.1 hr).1
  rw [gD_get h]; omega
theorem posC_le (l : List Int) : posC l ≤ l.length := List.countP_le_length
theorem whole_pad {cs : List Int} {m : Nat} (hm : 1 ≤ m ∧ m ≤ 16) (hr : ∀ x ∈ cs, 0 ≤ x ∧ x ≤ 1099511627776) (h2 : 2 ≤ cs.length) (hl : cs.length ≤ 300) (hp : cs.length ≤ 2 ^ m) : Whole (lenM (padM cs) m) cs m ∧ OkL (padM cs) m := by
 obtain ⟨h3, h4, h5, h6⟩ := padM_ok (M := 1099511627776) (by omega) hr h2
 have hok : OkL (padM cs) m := ⟨by omega, by omega, by omega, h4, by
  unfold leavesM
  rw [leaves_count, Int.toNat_natCast]
  have := posC_le (padM cs)
  omega⟩
 have w := whole_of hok h5
 exact ⟨⟨w.ok, by rw [w.len, h3], w.wt, w.rng, fun i a hi ha => w.pos i a (h6 i a hi ha) ha⟩, hok⟩
theorem bumps_ok {l o : List Int} (hs : ∀ s ∈ l, 0 ≤ s ∧ s < o.length) (ho : ∀ x ∈ o, 0 ≤ x ∧ x ≤ 1) : (l.foldl bump o).length = o.length ∧ (∀ x ∈ l.foldl bump o, 0 ≤ x ∧ x ≤ 1 + l.length) ∧
    (∀ (i : Nat) (a : Int), o[i]? = some a → a > 0 → ∃ b, (l.foldl bump o)[i]? = some b ∧ b > 0) ∧ ∀ s ∈ l, ∃ b, (l.foldl bump o)[s.toNat]? = some b ∧ b > 0 := by
  have hg := foldl_bump_get l o
  have hlen := foldl_bump_len l o
  have hs0 : ∀ s ∈ l, 0 ≤ s := fun s h => (hs s h).1
  have ho' : ∀ i, i < o.length → 0 ≤ o.getD i 0 ∧ o.getD i 0 ≤ 1 := fun i hi => ho _ (List.mem_of_getElem? (get_gD o 0 hi))
  refine ⟨hlen, fun x hx => ?_, fun i a hi ha => ?_, fun s hsl => ?_⟩
  · obtain ⟨i, hi⟩ := List.getElem?_of_mem hx
    have hil := (List.getElem?_eq_some_iff.1 hi).1
    rw [hlen] at hil
    rw [hg i hil hs0] at hi
    cases hi
    have := ho' i hil
    have : l.count (i : Int) ≤ l.length := List.count_le_length
    omega
  · have hil := (List.getElem?_eq_some_iff.1 hi).1
    refine ⟨_, hg i hil hs0, ?_⟩
    rw [gD_get hi]; omega
  · have h := hs s hsl
    refine ⟨_, hg s.toNat (by omega) hs0, ?_⟩
    have := ho' s.toNat (by omega)
    have hc : 0 < l.count ((s.toNat : Nat) : Int) := by rw [Int.toNat_of_nonneg h.1]; exact List.count_pos_iff.2 hsl
    omega
def TokR (t : Tok) : Prop := (t.n = 0 ∧ t.d = 0 ∧ 0 ≤ t.c ∧ t.c < 256) ∨ (3 ≤ t.n ∧ t.n ≤ 258 ∧ 1 ≤ t.d ∧ t.d ≤ 32768 ∧ t.c = 0)
theorem TokOk.r {out : List Int} {t : Tok} (h : TokOk out t) : TokR t := by
 rcases h with h | ⟨h1, h2, h3, h4, _, h6⟩
 ·exact .inl h
 ·exact .inr ⟨h1, h2, h3, h4, h6⟩
theorem Runs.r : ∀ {ts : List Tok} {out b : List Int}, Runs out ts b → ∀ t ∈ ts, TokR t
 | [], _, _, _, t, ht => by cases ht
 | u :: ts, out, b, h, t, ht => by
  rcases List.mem_cons.1 ht with rfl | ht
  ·exact h.1.r
  ·exact h.2.r t ht
theorem lsym_rng {t : Tok} (h : TokR t) : 0 ≤ lsym t ∧ lsym t < 286 := by
 unfold lsym
 rcases h with ⟨h, _, h1, h2⟩ | ⟨h1, h2, _⟩
 ·rw [if_pos h]; omega
 ·rw [if_neg (by omega)]
  have := lenS_ok ⟨h1, h2⟩
  omega
structure Codes (ll dl : List Int) (ts : List Tok) : Prop where
 l : OkC ll
 d : OkC dl
 end_ : 0 < ll.getD 256 0
 lit : ∀ t ∈ ts, 0 < ll.getD (lsym t).toNat 0
 dst : ∀ t ∈ ts, t.n ≠ 0 → 0 < dl.getD (dstS t.d) 0
theorem cntL_ok {ts : List Tok} (h : ∀ t ∈ ts, TokR t) : (cntL ts).length = 286 ∧ (∀ x ∈ cntL ts, 0 ≤ x ∧ x ≤ 1 + ts.length) ∧ (∃ b, (cntL ts)[256]? = some b ∧ b > 0) ∧ ∀ t ∈ ts, ∃ b, (cntL ts)[(lsym t).toNat]? = some b ∧ b > 0 := by
 obtain ⟨h1, h2, h3, h4⟩ := bumps_ok (l := ts.map lsym) (o := (List.replicate 286 0).set 256 1) (fun s hs => by
  obtain ⟨t, ht, rfl⟩ := List.mem_map.1 hs
  have := lsym_rng (h t ht)
  rw [List.length_set, List.length_replicate]; omega) (fun x hx => by
  rcases List.mem_or_eq_of_mem_set hx with hx | rfl
  ·rw [(List.mem_replicate.1 hx).2]; omega
  ·omega)
 refine ⟨by unfold cntL; rw [h1, List.length_set, List.length_replicate], by unfold cntL; rw [List.length_map] at h2; exact h2, h3 256 1 (by rw [List.getElem?_set_self (by rw [List.length_replicate]; decide)]) (by omega), fun t ht => h4 _ (List.mem_map.2 ⟨t, ht, rfl⟩)⟩
theorem cntD_ok {ts : List Tok} (h : ∀ t ∈ ts, TokR t) : (cntD ts).length = 30 ∧ (∀ x ∈ cntD ts, 0 ≤ x ∧ x ≤ 1 + ts.length) ∧ ∀ t ∈ ts, t.n ≠ 0 → ∃ b, (cntD ts)[dstS t.d]? = some b ∧ b > 0 := by
 have hl : (dsyms ts).length ≤ ts.length := by unfold dsyms; rw [List.length_map]; exact List.length_filter_le _ _
 obtain ⟨h1, h2, h3, h4⟩ := bumps_ok (l := dsyms ts) (o := List.replicate 30 0) (fun s hs => by
  obtain ⟨t, ht, rfl⟩ := List.mem_map.1 hs
  rw [List.mem_filter] at ht
  rcases h t ht.1 with h0 | h0
  ·have := ht.2; simp [h0.1] at this
  ·have := dstS_ok ⟨h0.2.2.1, h0.2.2.2.1⟩
   simp; omega) (fun x hx => by rw [(List.mem_replicate.1 hx).2]; omega)
 refine ⟨by unfold cntD; rw [h1, List.length_replicate], fun x hx => by have := h2 x hx; omega, fun t ht hn => ?_⟩
 have := h4 ((dstS t.d : Nat) : Int) (List.mem_map.2 ⟨t, List.mem_filter.2 ⟨ht, by simpa using hn⟩, rfl⟩)
 rw [Int.toNat_natCast] at this
 exact this
structure Dyn (ts : List Tok) : Prop where
 l : Whole (litL ts) (cntL ts) 15
 lo : OkL (padM (cntL ts)) 15
 d : Whole (dstL ts) (cntD ts) 15
 do_ : OkL (padM (cntD ts)) 15
 h : Whole (hdrL ts) (cntH (litL ts ++ dstL ts)) 7
 ho : OkL (padM (cntH (litL ts ++ dstL ts))) 7
 all : ∀ n ∈ litL ts ++ dstL ts, 0 ≤ n ∧ n ≤ 15 ∧ 0 < (hdrL ts).getD n.toNat 0
 c : Codes (litL ts) (dstL ts) ts
 ll : (litL ts).length = 286
 dl : (dstL ts).length = 30
 hl : (hdrL ts).length = 19
theorem dyn_of {ts : List Tok} (h : ∀ t ∈ ts, TokR t) (hl : ts.length ≤ 1000000000) : Dyn ts := by
 obtain ⟨l1, l2, ⟨b, l3, l3'⟩, l4⟩ := cntL_ok h
 obtain ⟨d1, d2, d3⟩ := cntD_ok h
 have e15 : (2 : Nat) ^ 15 = 32768 := by decide
 have e7 : (2 : Nat) ^ 7 = 128 := by decide
 obtain ⟨wl, ol⟩ := whole_pad (cs := cntL ts) (m := 15) (by omega) (fun x hx => by have := l2 x hx; omega) (by omega) (by omega) (by omega)
 obtain ⟨wd, od⟩ := whole_pad (cs := cntD ts) (m := 15) (by omega) (fun x hx => by have := d2 x hx; omega) (by omega) (by omega) (by omega)
 have hll : (litL ts).length = 286 := by have := wl.len; rw [l1] at this; exact this
 have hdl : (dstL ts).length = 30 := by have := wd.len; rw [d1] at this; exact this
 have hall : ∀ n ∈ litL ts ++ dstL ts, 0 ≤ n ∧ n ≤ 15 := fun n hn => by
  rcases List.mem_append.1 hn with hn | hn
  ·exact wl.rng n hn
  ·exact wd.rng n hn
 obtain ⟨h1, h2, _, h4⟩ := bumps_ok (l := litL ts ++ dstL ts) (o := List.replicate 19 0) (fun s hs => by have := hall s hs; rw [List.length_replicate]; omega) (fun x hx => by rw [(List.mem_replicate.1 hx).2]; omega)
 rw [List.length_replicate] at h1
 rw [List.length_append, hll, hdl] at h2
 obtain ⟨wh, oh⟩ := whole_pad (cs := cntH (litL ts ++ dstL ts)) (m := 7) (by omega) (fun x hx => by have := h2 x hx; omega) (by unfold cntH; omega) (by unfold cntH; omega) (by unfold cntH; omega)
 refine ⟨wl, ol, wd, od, wh, oh, fun n hn => ?_, ⟨wl.ok, wd.ok, wl.pos _ _ l3 l3', fun t ht => ?_, fun t ht hn => ?_⟩, hll, hdl, by have := wh.len; unfold cntH at this; rw [h1] at this; exact this⟩
 ·obtain ⟨b, hb, hb'⟩ := h4 n hn
  have := hall n hn
  exact ⟨this.1, this.2, wh.pos _ _ hb hb'⟩
 ·obtain ⟨b, hb, hb'⟩ := l4 t ht
  exact wl.pos _ _ hb hb'
 ·obtain ⟨b, hb, hb'⟩ := d3 t ht hn
  exact wd.pos _ _ hb hb'
end Go.Proofs
namespace Go.Sh
variable {H0 H : Heap} {σ : List Rs}
theorem intsA_size (l : List Int) : (ints l).toArray.size = l.length := by simp [ints]
theorem St.rdA (hs : St H0 H σ) (i : Nat) {b j : Nat} {l : List Int} {ty : TypeId} {x : Int} (hi : σ[i]? = some (.cell b (ints l).toArray ty)) (hx : l[j]? = some x) : Sh.cell H ⟨b, j, none⟩ = some (.int .i64 x) :=
 hs.get i hi (by rw [List.getElem?_toArray]; exact ints_get hx)
theorem St.putA (hs : St H0 H σ) (i : Nat) {b j : Nat} {l : List Int} {ty : TypeId} {x : Int} {f : Heap → Prop} (hi : σ[i]? = some (.cell b (ints l).toArray ty)) (hj : j < l.length)
    (hK : ∀ H', St H0 H' (σ.set i (.cell b (ints (l.set j x)).toArray ty)) → f H') : stAt H ⟨b, j, none⟩ [.int .i64 x] f :=
  hs.put i hi (by rw [intsA_size]; exact hj) rfl fun H' hs' => hK H' (by
    have e : (ints l).toArray.setIfInBounds j (Value.int .i64 x) = (ints (l.set j x)).toArray := by rw [← ints_set]; simp
    rw [← e]; exact hs')
theorem reps_rep (v : Value) : ∀ n, reps n [v] = List.replicate n v
 | 0 => rfl
 | n + 1 => by rw [reps, reps_rep v n, List.replicate_succ]; rfl
theorem repsA (n : Nat) : (reps n (Array.toList #[Value.int .i64 0])).toArray = (ints (List.replicate n 0)).toArray := by
 show (reps n [Value.int .i64 0]).toArray = _
 rw [reps_rep]; simp [ints]
theorem St.isA (hs : St H0 H σ) (i : Nat) {b n : Nat} {l : List Int} {ty : TypeId} (hi : σ[i]? = some (.cell b (ints l).toArray ty)) (hn : l.length = n) : IS H (some ⟨b, 0, none⟩) n (ints l) :=
 ⟨by rw [ints_len]; exact hn, fun j v hv => ⟨_, rfl, by rw [add_none, Nat.zero_add]; exact hs.get i hi (by rw [List.getElem?_toArray]; exact hv)⟩⟩
end Go.Sh
namespace Go.Proofs
open Go.Sh
variable {H0 H : Heap} {σ : List Rs} {R : Value → Heap → Prop}
theorem andI_4095 (a : Int) : andI .i64 a (4095 : Int) = a % 4096 := by
 unfold andI
 rw [show IntKind.bits .i64 = 64 from rfl, BitVec.toNat_and, BitVec.toNat_ofInt, BitVec.toNat_ofInt]
 rw [show ((4095 : Int) % ((2 ^ 64 : Nat) : Int)).toNat = 2 ^ 12 - 1 from by decide, Nat.and_two_pow_sub_one_eq_mod]
 have h2 : (((a % ((2 ^ 64 : Nat) : Int)).toNat % 2 ^ 12 : Nat) : Int) = a % 4096 := by
  rw [show ((2 ^ 64 : Nat) : Int) = 18446744073709551616 from by decide]; omega
 rw [h2]
 exact wrap_id (by omega) (by omega)
theorem is_from {p : Option Addr} {l c a : Nat} {fs : List Value} (h : IS H p l fs) (hlc : l ≤ c) (ha : a ≤ l) : IS H (if c = a then p else Option.map (fun x => Addr.add x (a * 1)) p) (l - a) (fs.drop a) := by
 refine ⟨by rw [List.length_drop, h.len], fun i v hv => ?_⟩
 have hi := (List.getElem?_eq_some_iff.1 hv).1
 rw [List.length_drop, h.len] at hi
 rw [List.getElem?_drop] at hv
 obtain ⟨x, h1, h2⟩ := h.get _ _ hv
 rw [if_neg (by omega), h1]
 exact ⟨_, rfl, by rw [add_add, Nat.mul_one]; exact h2⟩
theorem kints_drop (k : IntKind) (l : List Int) (i : Nat) : (kints k l).drop i = kints k (l.drop i) := by simp [kints]
theorem kints_take (k : IntKind) (l : List Int) (i : Nat) : (kints k l).take i = kints k (l.take i) := by simp [kints]
theorem drop_gD {b : List Int} {a i : Nat} (h : a + i < b.length) : (b.drop a)[i]? = some (b.getD (a + i) 0) := by rw [List.getElem?_drop]; exact get_gD b 0 h
theorem c68 {p : Option Addr} {l c a : Nat} {b : List Int} (h : IS H p l (kints .u8 (b.drop a))) (hb : ∀ x ∈ b, 0 ≤ x ∧ x < 256) (hl : 3 ≤ l) (hR : R (.int .i64 (hashM b a)) H) :
    CallsH Try.prog 68 #[.slice p l c] H R := by
  have e := h.length
  rw [List.length_drop] at e
  have r0 := getD_rng hb a
  have r1 := getD_rng hb (a + 1)
  have r2 := getD_rng hb (a + 2)
  refine Try.s68 (h.rd (x := b.getD a 0) (by omega) (by omega) (by simpa using drop_gD (b := b) (a := a) (i := 0) (by omega)) ⟨by decide, h.rd (by omega) (by omega) (drop_gD (i := 1) (by omega)) ⟨by decide, h.rd (by omega) (by omega) (drop_gD (i := 2) (by omega)) ?_⟩⟩)
  rw [wrap_id (by omega) (by omega), wrap_id (by omega) (by omega), wrap_id (by omega) (by omega), andI_4095]
  exact hR
abbrev fiO (f : Nat) (p : Option Addr) (l c bf ba : Nat) (F A : List Int) : List Rs :=
 [.cell f #[.slice p l c, .slice (some ⟨bf, 0, none⟩) 4096 4096, .slice (some ⟨ba, 0, none⟩) l l] 85, .sl (some ⟨bf, 0, none⟩) 4096 4096 3 1 (ints F), .sl (some ⟨ba, 0, none⟩) l l 3 1 (ints A)]
section
variable {f l c bf ba a : Nat} {p : Option Addr} {b F A : List Int}
theorem c41 (hs : St H0 H (fiO f p l c bf ba F A ++ σ)) (hb : IS H0 p l (kints .u8 b)) (hr : ∀ x ∈ b, 0 ≤ x ∧ x < 256) (hlc : l ≤ c) (ha : a ≤ 1000000000) (hch : Chains b F A a)
    (hR : ∀ H', St H0 H' (fiO f p l c bf ba (addF b F a) (addA b F A a) ++ σ) → R (.tuple #[]) H') : CallsH Try.prog 41 #[.pointer (some ⟨f, 0, none⟩), .int .i64 (a : Nat)] H R := by
  have hbl := hb.length
  refine Try.s41 ⟨_, rfl, _, _, _, hs.get 0 (j := 0) rfl rfl, ?_⟩
  rw [wrap_id (by omega) (by omega)]
  refine br_dec (fun hle => ⟨_, rfl, _, _, _, hs.get 0 (j := 0) rfl rfl, by omega, by omega, ?_⟩) (fun hgt => ?_)
  · rw [Int.toNat_natCast]
    have hi := is_from (hb.ext hs.ext) hlc (a := a) (by omega)
    rw [kints_drop] at hi
    have hh := hashM_rng b a
    refine c68 hi hr (by omega) ⟨_, rfl, _, rfl, _, _, _, hs.get 0 (j := 2) rfl rfl, _, rfl, _, _, _, hs.get 0 (j := 1) rfl rfl, _, rfl, _, _, _, hs.get 0 (j := 1) rfl rfl, ?_⟩
    have hF : IS H (some ⟨bf, 0, none⟩) 4096 (kints .i64 F) := hs.is 1 rfl
    refine hF.rd hh.1 (by omega) (get_gD F 0 (by rw [hch.fl]; omega)) ⟨_, rfl, by omega, by omega, ?_⟩
    rw [add_none, Nat.zero_add, Nat.mul_one]
    refine hs.slPut 2 rfl (by rw [ints_len, hch.al]; omega) rfl fun H2 hs2 => ⟨_, rfl, by omega, by omega, ?_⟩
    rw [add_none, Nat.zero_add, Nat.mul_one, wrap_id (by omega) (by omega)]
    refine hs2.slPut 1 rfl (by rw [ints_len, hch.fl]; omega) rfl fun H3 hs3 => hR H3 ?_
    unfold addF addA
    rw [if_pos (by omega), if_pos (by omega)]
    unfold fiO
    rw [← ints_set, ← ints_set]
    exact hs3
  · refine hR H ?_
    unfold addF addA
    rw [if_neg (by omega), if_neg (by omega)]
    exact hs
theorem c40 (hs : St H0 H (fiO f p l c bf ba F A ++ σ)) (hb : IS H0 p l (kints .u8 b)) (hr : ∀ x ∈ b, 0 ≤ x ∧ x < 256) (hlc : l ≤ c) (hl : l ≤ 1000000000) (ha : a ≤ l) (hch : Chains b F A a) {eff : Int} (he : 0 < eff ∧ eff ≤ 64)
    (hR : R (.tuple #[.int .i64 ((bestM b F A a eff).1 : Nat), .int .i64 ((bestM b F A a eff).2 : Nat)]) H) : CallsH Try.prog 40 #[.pointer (some ⟨f, 0, none⟩), .int .i64 (a : Nat), .int .i64 eff] H R := by
  have hbl := hb.length
  refine Try.s40 ?_
  unfold Try.S40
  refine ⟨_, rfl, _, _, _, hs.get 0 (j := 0) rfl rfl, ?_⟩
  rw [wrap_id (by omega) (by omega)]
  unfold bestM at hR
  refine br_dec (fun hgt => ?_) (fun hle => ?_)
  · rw [if_pos (by omega)] at hR; exact hR
  rw [if_neg (by omega)] at hR
  intro J6 hJ6
  have hR := hJ6 _ _ H hR
  refine ⟨_, rfl, _, _, _, hs.get 0 (j := 1) rfl rfl, _, rfl, _, _, _, hs.get 0 (j := 0) rfl rfl, by omega, by omega, ?_⟩
  rw [Int.toNat_natCast]
  have hi := is_from (hb.ext hs.ext) hlc (a := a) (by omega)
  rw [kints_drop] at hi
  have hh := hashM_rng b a
  refine c68 hi hr (by omega) ⟨_, rfl, .inl (Ext.refl _), ?_⟩
  have hF : IS H (some ⟨bf, 0, none⟩) 4096 (kints .i64 F) := hs.is 1 rfl
  have hA : IS H (some ⟨ba, 0, none⟩) l (kints .i64 A) := hs.is 2 rfl
  have hB := hb.ext hs.ext
  refine hF.rd hh.1 (by omega) (get_gD F 0 (by rw [hch.fl]; omega)) ?_
  have hf0 := hch.fget (hashM b a).toNat
  generalize F.getD (hashM b a).toNat 0 = p0 at hR hf0 ⊢
  intro X19 hX
  have loop : ∀ (g : Nat) (q t : Int) (L D : Nat), q < g → 0 ≤ q → 0 ≤ t → t + q ≤ a → L ≤ 258 → D ≤ 1000000000 → J6 [.int .i64 ((chainM b A a eff g q t L D).1 : Nat), .int .i64 ((chainM b A a eff g q t L D).2 : Nat)] H → X19 [.int .i64 (L : Nat), .int .i64 (D : Nat), .int .i64 t, .int .i64 q] H := by
    intro g
    induction g with
    | zero => intro q t L D h1 h2; omega
    | succ g ih =>
      intro q t L D hqg hq ht htq hL hD hfin
      rw [chainM] at hfin
      refine hX _ _ _ _ H ?_
      rw [wrap_id (n := q - 1) (by omega) (by omega), wrap_id (n := (a : Int) - (q - 1)) (by omega) (by omega), wrap_id (n := t + 1) (by omega) (by omega), wrap_id (n := 8 * eff) (by omega) (by omega)]
      intro J25 hJ25
      refine br_dec (fun hq0 => br_dec (fun hw => hJ25 H ?_) (fun hw => ?_)) (fun hq0 => ?_)
      · rw [if_pos ⟨hq0, hw⟩] at hfin
        obtain ⟨k, hk⟩ := Int.eq_ofNat_of_zero_le (show 0 ≤ q - 1 by omega)
        rw [hk] at hfin ⊢
        rw [Int.toNat_natCast] at hfin
        have hx := hch.aget k
        have hxg : A[k]? = some (A.getD k 0) := get_gD A 0 (by rw [hch.al]; omega)
        generalize A.getD k 0 = x at hx hxg hfin
        -- on along the chain
        intro J27 hJ27
        have on : ∀ L' D' : Nat, L' ≤ 258 → D' ≤ 1000000000 → J6 [.int .i64 ((chainM b A a eff g x (t + 1) L' D').1 : Nat), .int .i64 ((chainM b A a eff g x (t + 1) L' D').2 : Nat)] H → J27 [.int .i64 (L' : Nat), .int .i64 (D' : Nat), .int .i64 (t + 1)] H := fun L' D' h1 h2 h3 => by
          refine hJ27 _ _ _ H ⟨_, rfl, _, _, _, hs.get 0 (j := 2) rfl rfl, ?_⟩
          refine hA.rd (by omega) (by omega) (by rw [Int.toNat_natCast]; exact hxg) ?_
          exact ih x (t + 1) L' D' (by omega) hx.1 (by omega) (by omega) h1 h2 h3
        intro J36 hJ36
        obtain ⟨m1, m2, m3⟩ := preM_ok b k a 258 0 (by omega) (.inl rfl)
        have goal36 : J36 [.int .i64 (preM b k a 258 0 : Nat)] H := by
          generalize preM b k a 258 0 = n at *
          refine hJ36 _ H ?_
          intro J39 hJ39
          have keep : ¬ (n ≥ 3 ∧ n > L) → J39 [.int .i64 (L : Nat), .int .i64 (D : Nat)] H := fun hn => by
            rw [if_neg hn] at hfin
            refine hJ39 _ _ H (br_eq (fun h258 => ?_) (fun h258 => br_dec (fun hL0 => br_dec (fun ht8 => ?_) (fun ht8 => ?_)) (fun hL0 => ?_)))
            · rw [if_pos (.inl (by omega))] at hfin; exact hfin
            · rw [if_pos (.inr (by omega))] at hfin; exact hfin
            · rw [if_neg (by omega)] at hfin; exact on L D hL hD hfin
            · rw [if_neg (by omega)] at hfin; exact on L D hL hD hfin
          refine br_dec (fun h3 => br_dec (fun hgt => ?_) (fun hgt => keep (by omega))) (fun h3 => keep (by omega))
          rw [if_pos (show n ≥ 3 ∧ n > L from ⟨by omega, by omega⟩)] at hfin
          obtain ⟨D', hD'⟩ := Int.eq_ofNat_of_zero_le (show 0 ≤ (a : Int) - k by omega)
          rw [hD'] at hfin ⊢
          rw [Int.toNat_natCast] at hfin
          refine hJ39 _ _ H (br_eq (fun h258 => ?_) (fun h258 => br_dec (fun hL0 => br_dec (fun ht8 => ?_) (fun ht8 => ?_)) (fun hL0 => by omega)))
          · rw [if_pos (.inl (by omega))] at hfin; exact hfin
          · rw [if_pos (.inr ht8)] at hfin; exact hfin
          · rw [if_neg (by omega)] at hfin; exact on n D' (by omega) (by omega) hfin
        intro X43 hX43
        have inner : ∀ (g n : Nat), n + g = 258 → preM b k a g n = preM b k a 258 0 → X43 [.int .i64 (n : Nat)] H := by
          intro g
          induction g with
          | zero =>
            intro n hn he
            rw [preM] at he
            refine hX43 _ H (br_n (by omega) ?_)
            rw [he]; exact goal36
          | succ g ih2 =>
            intro n hn he
            rw [preM] at he
            refine hX43 _ H (br_y (by omega) ⟨_, rfl, _, _, _, hs.get 0 (j := 0) rfl rfl, ?_⟩)
            rw [wrap_id (n := (a : Int) + n) (by omega) (by omega), wrap_id (n := (k : Int) + n) (by omega) (by omega), wrap_id (n := (n : Int) + 1) (by omega) (by omega)]
            refine br_dec (fun hlt => ⟨_, rfl, _, _, _, hs.get 0 (j := 0) rfl rfl, ?_⟩) (fun hge => ?_)
            · refine hB.rd (by omega) (by omega) (by rw [show ((k : Int) + n).toNat = k + n from by omega]; exact get_gD b 0 (by omega)) ⟨_, rfl, _, _, _, hs.get 0 (j := 0) rfl rfl, ?_⟩
              refine hB.rd (by omega) (by omega) (by rw [show ((a : Int) + n).toNat = a + n from by omega]; exact get_gD b 0 (by omega)) (br_eq (fun heq => ?_) (fun hne => ?_))
              · rw [if_pos ⟨by omega, heq⟩] at he
                exact ih2 (n + 1) (by omega) he
              · rw [if_neg (fun h => hne h.2)] at he
                rw [he]; exact goal36
            · rw [if_neg (fun h => by omega)] at he
              rw [he]; exact goal36
        exact inner 258 0 (by omega) rfl
      · rw [if_neg (fun h => hw h.2)] at hfin; exact hfin
      · rw [if_neg (fun h => hq0 h.1)] at hfin; exact hfin
  exact loop (a + 1) p0 0 0 0 (by omega) hf0.1 (by omega) (by omega) (by omega) (by omega) hR
end
def tokC (t : Tok) : List Value := [.int .i64 (t.n : Nat), .int .i64 (t.d : Nat), .int .u8 t.c]
def tokL (l : List Tok) : List Value := l.flatMap tokC
theorem tokL_snoc (l : List Tok) (t : Tok) : tokL (l ++ [t]) = tokL l ++ tokC t := by simp [tokL]
theorem tokC_one (t : Tok) : ∀ v ∈ tokC t, v.oneCell' = true := fun v hv => by
 simp only [tokC, List.mem_cons, List.mem_singleton, List.not_mem_nil, or_false] at hv
 rcases hv with rfl | rfl | rfl <;> rfl
theorem tokL_len (l : List Tok) : (tokL l).length = l.length * 3 := by
 induction l with
 | nil => rfl
 | cons t r ih => simp only [tokL, List.flatMap_cons, List.length_append, List.length_cons] at ih ⊢; rw [ih]; simp [tokC]; omega
theorem lits_tok (l : List Int) (k : Nat) (h : k < l.length) : (l.map fun c => (⟨0, 0, c⟩ : Tok)).take (k + 1) = (l.map fun c => (⟨0, 0, c⟩ : Tok)).take k ++ [⟨0, 0, l.getD k 0⟩] := by
 rw [List.take_add_one, List.getElem?_map, get_gD l 0 h]; rfl
theorem tok_app {q : Option Addr} {n m i : Nat} {ts : List Tok} (hs : St H0 H σ) (hi : σ[i]? = some (.sl q n m 82 3 (tokL ts))) (hn : n ≤ 1000000000) (t : Tok) {K : Option Addr → Nat → Nat → Heap → Prop}
    (hK : ∀ q' m' H', St H0 H' (σ.set i (.sl q' (n + 1) m' 82 3 (tokL (ts ++ [t])))) → K q' (n + 1) m' H') :
    alc H (.cells (List.toArray (tokC t)) 82) fun b9 H10 => appQ 3 24 #[.int .i64 0, .int .i64 0, .int .u8 0] H10 q n m (some ⟨b9, 0, none⟩) 1 82 K := by
  refine hs.alc fun b9 H10 hs10 => ?_
  refine hs10.appC (i + 1) 0 (k := 3) (by simpa using hi) rfl (by rfl) (by simpa using tokC_one t) (by decide) rfl (by omega) (by omega) fun q' m' H' hs' => hK q' m' H' ?_
  rw [tokL_snoc]
  simp only [List.set_cons_succ] at hs'
  exact hs'.tail
theorem c15 {p : Option Addr} {l c : Nat} {b : List Int} {eff : Int} (hb : IS H p l (kints .u8 b)) (hr : ∀ x ∈ b, 0 ≤ x ∧ x < 256) (hlc : l ≤ c) (hl : l ≤ 100000000)
    (hR : ∀ q m H', St H H' [.sl q (lzM b eff).length m 82 3 (tokL (lzM b eff))] → R (.slice q (lzM b eff).length m) H') : CallsH Try.prog 15 #[.slice p l c, .int .i64 eff] H R := by
  have hbl := hb.length
  refine Try.s15 ?_
  unfold Try.S15
  have hlen := (lz_ok hr eff).len
  unfold lzM at hR
  refine br_dec (fun h0 => ?_) (fun h0 => ?_)
  · rw [if_pos h0] at hR
    intro X3 hX
    have go : ∀ k, k ≤ l → ∀ q m H', St H H' [.sl q k m 82 3 (tokL ((b.map fun c => (⟨0, 0, c⟩ : Tok)).take k))] → X3 [.slice q k m, .int .i64 (k : Nat)] H' := upto fun k hk ih q m H' hs => by
      refine hX _ _ _ _ H' (br_dec (fun hlt => ?_) (fun hge => ?_))
      · refine (hb.ext hs.ext).rd (by omega) (by omega) (by rw [Int.toNat_natCast]; exact get_gD b 0 (by omega)) ⟨rfl, by decide, ?_⟩
        refine tok_app hs (i := 0) rfl (by omega) ⟨0, 0, b.getD k 0⟩ fun q' m' H2 hs2 => ?_
        rw [wrap_id (by omega) (by omega)]
        refine ih (by omega) q' m' H2 ?_
        rw [lits_tok b k (by omega)]
        exact hs2
      · have : k = l := by omega
        subst this
        rw [List.take_of_length_le (by rw [List.length_map]; omega)] at hs
        have := hR q m H' (by rw [List.length_map, hbl]; exact hs)
        rw [List.length_map, hbl] at this
        exact this
    exact go 0 (by omega) none 0 H ((St.nil H).nilSl _ 3)
  rw [if_neg h0] at hR
  intro J13 hJ13
  have main : ∀ (f bf ba : Nat) (H1 : Heap), St H H1 (fiO f p l c bf ba (List.replicate 4096 0) (List.replicate l 0)) → J13 [.pointer (some ⟨f, 0, none⟩)] H1 := fun f bf ba H1 hs1 => by
    refine hJ13 _ H1 ?_
    intro X16 hX
    unfold lzM at hlen
    rw [if_neg h0] at hlen
    generalize hall : findG b (min eff 64) (b.length + 1) 0 (List.replicate 4096 0) (List.replicate b.length 0) = all at hR hlen
    have loop : ∀ (g a : Nat) (F A : List Int) (ts : List Tok) (q : Option Addr) (m : Nat) (H2 : Heap), l < a + g → a ≤ l → Chains b F A a → ts ++ findG b (min eff 64) g a F A = all → St H H2 (.sl q ts.length m 82 3 (tokL ts) :: fiO f p l c bf ba F A) → X16 [.slice q ts.length m, .int .i64 (a : Nat)] H2 := by
      intro g
      induction g with
      | zero => intro a F A ts q m H2 h1 h2; omega
      | succ g ih =>
        intro a F A ts q m H2 hg ha hch he hs2
        rw [findG] at he
        have htl : ts.length ≤ all.length := by rw [← he, List.length_append]; omega
        refine hX _ _ _ _ H2 (br_dec (fun hlt => ?_) (fun hge => ?_))
        · rw [if_pos (by omega)] at he
          have hbest := best_ok hch (min eff 64)
          refine c40 (σ := [.sl q ts.length m 82 3 (tokL ts)]) (hs2.perm (by
            rw [show (Rs.sl q ts.length m 82 3 (tokL ts) :: fiO f p l c bf ba F A) = [Rs.sl q ts.length m 82 3 (tokL ts)] ++ fiO f p l c bf ba F A from rfl]
            exact List.perm_append_comm)) hb hr hlc (by omega) ha hch (by omega) ⟨_, _, rfl, ?_⟩
          generalize bestM b F A a (min eff 64) = N at *
          refine br_eq (fun hn0 => ?_) (fun hn0 => ?_)
          · rw [if_pos (by omega)] at he
            refine (hb.ext hs2.ext).rd (by omega) (by omega) (by rw [Int.toNat_natCast]; exact get_gD b 0 (by omega)) ⟨rfl, by decide, ?_⟩
            refine tok_app hs2 (i := 0) rfl (by omega) ⟨0, 0, b.getD a 0⟩ fun q' m' H3 hs3 => ?_
            refine c41 (σ := [.sl q' (ts.length + 1) m' 82 3 (tokL (ts ++ [⟨0, 0, b.getD a 0⟩]))]) (hs3.perm (by
              rw [List.set_cons_zero, show ∀ r : Rs, (r :: fiO f p l c bf ba F A) = [r] ++ fiO f p l c bf ba F A from fun _ => rfl]
              exact List.perm_append_comm)) hb hr hlc (by omega) hch fun H4 hs4 => ⟨rfl, ?_⟩
            rw [wrap_id (by omega) (by omega)]
            have := ih (a + 1) _ _ (ts ++ [⟨0, 0, b.getD a 0⟩]) q' m' H4 (by omega) (by omega) hch.add (by rw [List.append_assoc]; exact he) (by
              rw [List.length_append, List.length_singleton]
              exact hs4.perm List.perm_append_comm)
            rw [List.length_append, List.length_singleton] at this
            exact this
          · rw [if_neg (by omega)] at he
            have hc : 3 ≤ N.1 ∧ N.1 ≤ 258 ∧ N.2 ≤ 32768 ∧ a + N.1 ≤ l := by
              rcases hbest with h | h
              · omega
              · exact ⟨h.1, h.2.1, h.2.2.2.1, by have := h.2.2.2.2.2.1; omega⟩
            refine ⟨rfl, by decide, ?_⟩
            refine tok_app hs2 (i := 0) rfl (by omega) ⟨N.1, N.2, 0⟩ fun q' m' H3 hs3 => ?_
            intro X36 hX36
            have adds : ∀ (r a' : Nat) (F' A' : List Int) (H4 : Heap), a' + r = a + N.1 → a ≤ a' → Chains b F' A' a' → addsM b r a' F' A' = addsM b N.1 a F A → St H H4 (fiO f p l c bf ba F' A' ++ [.sl q' (ts.length + 1) m' 82 3 (tokL (ts ++ [⟨N.1, N.2, 0⟩]))]) → X36 [.int .i64 (a' : Nat), .int .i64 ((N.1 - r : Nat) : Int)] H4 := by
              intro r
              induction r with
              | zero =>
                intro a' F' A' H4 hr' haa hch' had hs4
                refine hX36 _ _ H4 (br_n (by omega) ?_)
                rw [addsM] at had
                rw [← had] at he
                have := ih a' F' A' (ts ++ [⟨N.1, N.2, 0⟩]) q' m' H4 (by omega) (by omega) hch' (by rw [List.append_assoc, show a' = a + N.1 from by omega]; exact he) (by
                  rw [List.length_append, List.length_singleton]
                  exact hs4.perm List.perm_append_comm)
                rw [List.length_append, List.length_singleton] at this
                exact this
              | succ r ih2 =>
                intro a' F' A' H4 hr' haa hch' had hs4
                refine hX36 _ _ H4 (br_y (by omega) ?_)
                refine c41 hs4 hb hr hlc (by omega) hch' fun H5 hs5 => ⟨rfl, ?_⟩
                rw [wrap_id (by omega) (by omega), wrap_id (by omega) (by omega)]
                have := ih2 (a' + 1) _ _ H5 (by omega) (by omega) hch'.add had hs5
                rw [show ((N.1 - r : Nat) : Int) = ((N.1 - (r + 1) : Nat) : Int) + 1 from by omega] at this
                exact this
            have := adds N.1 a F A H3 rfl (Nat.le_refl _) hch rfl (hs3.perm (by
              rw [List.set_cons_zero, show ∀ r : Rs, (r :: fiO f p l c bf ba F A) = [r] ++ fiO f p l c bf ba F A from fun _ => rfl]
              exact List.perm_append_comm))
            rw [Nat.sub_self] at this
            exact this
        · rw [if_neg (by omega), List.append_nil] at he
          subst he
          exact hR q m H2 (hs2.take 1)
    have := loop (b.length + 1) 0 _ _ [] none 0 H1 (by omega) (by omega) (chains_zero b) (by rw [List.nil_append]; exact hall) (by rw [hbl]; exact hs1.nilSl _ 3)
    exact this
  have mk : ∀ (H1 : Heap) (bf ba : Nat), St H H1 [.cell bf (List.toArray (reps 4096 [.int .i64 0])) 3, .cell ba (List.toArray (reps l [.int .i64 0])) 3] → alc H1 (.cells #[.slice p l c, .slice (some ⟨bf, 0, none⟩) 4096 4096, .slice (some ⟨ba, 0, none⟩) l l] 85) fun f H2 => J13 [.pointer (some ⟨f, 0, none⟩)] H2 := fun H1 bf ba hs => by
    rw [reps_rep, reps_rep] at hs
    have hs := (hs.toSl 0 (l := 4096) (k := 1) rfl (by rw [List.size_toArray, List.length_replicate]) rfl (fun v hv => by rw [(List.mem_replicate.1 hv).2]; rfl)).toSl 1 (l := l) (k := 1) rfl (by rw [List.size_toArray, List.length_replicate, Nat.mul_one]) rfl (fun v hv => by rw [(List.mem_replicate.1 hv).2]; rfl)
    refine hs.alc fun f H2 hs2 => main f bf ba H2 ?_
    simp only [List.set_cons_zero, List.set_cons_succ] at hs2
    unfold fiO
    rw [show ints (List.replicate 4096 0) = List.replicate 4096 (Value.int .i64 0) from List.map_replicate, show ints (List.replicate l 0) = List.replicate l (Value.int .i64 0) from List.map_replicate]
    exact hs2
  have i8 : ((8 : Nat) : Int) = 8 := rfl
  rw [i8]
  refine ⟨⟨by decide, by decide, by decide, by decide, ?_⟩, ⟨by omega, by omega, by omega, by omega, ?_⟩⟩
  · refine (St.nil H).alcE fun b1 H1 e1 hs1 => ⟨.inl e1, by omega, by omega, by omega, by omega, hs1.alc fun b2 H2 hs2 => ?_⟩
    rw [Int.toNat_natCast] at *
    exact mk H2 b1 b2 hs2.swap
  · refine (St.nil H).alcE fun b1 H1 e1 hs1 => ⟨by decide, by decide, by decide, by decide, hs1.alc fun b2 H2 hs2 => ?_⟩
    rw [Int.toNat_natCast] at *
    exact mk H2 b2 b1 hs2
end Go.Proofs
namespace Go.Proofs
open Go.Sh
variable {H0 H : Heap} {σ : List Rs} {R : Value → Heap → Prop}
theorem is_till {p : Option Addr} {l c n : Nat} {fs : List Value} (h : IS H p l fs) (hn : n ≤ l) : IS H (if c = 0 then p else Option.map (fun x => Addr.add x (0 * 1)) p) (n - 0) (fs.take n) := by
 refine ⟨by rw [List.length_take, h.len]; omega, fun i v hv => ?_⟩
 rw [List.getElem?_take] at hv
 split at hv
 ·obtain ⟨x, h1, h2⟩ := h.get _ _ hv
  subst h1
  split
  ·exact ⟨x, rfl, h2⟩
  ·exact ⟨_, rfl, by rw [add_add]; simpa using h2⟩
 ·cases hv
theorem ints_drop (l : List Int) (i : Nat) : (ints l).drop i = ints (l.drop i) := by simp [ints]
theorem ints_take (l : List Int) (i : Nat) : (ints l).take i = ints (l.take i) := by simp [ints]
theorem c54 (hR : ∀ b H', St H H' [.sl (some ⟨b, 0, none⟩) 19 19 3 1 (ints (ordL.map Int.ofNat))] → R (.slice (some ⟨b, 0, none⟩) 19 19) H') : CallsH Try.prog 54 #[] H R := by
 refine Try.s54 (_u := ()) ((St.nil H).alc fun b H1 hs => hR b H1 ?_)
 exact hs.toSl 0 (l := 19) (k := 1) rfl rfl rfl (by intro v hv; revert v; decide)
theorem countP_take {l : List Int} {k : Nat} (h : k < l.length) : (l.take (k + 1)).countP (fun x => decide (x > 0)) = (l.take k).countP (fun x => decide (x > 0)) + if l.getD k 0 > 0 then 1 else 0 := by
 rw [take_get h, List.countP_append, List.countP_singleton]; simp
theorem rightM_ok {ls : List Int} {s n : Bool} (h : rightM ls s n = true) : OkC ls := by
 unfold rightM at h
 simp only [Bool.and_eq_true, Bool.or_eq_true, decide_eq_true_eq, List.all_eq_true, beq_iff_eq] at h
 refine ⟨⟨h.1.1, h.1.2⟩, ?_⟩
 rcases h.2 with (h | h) | h <;> omega
theorem rightM_of {ls : List Int} (ok : OkC ls) (s n : Bool) : rightM ls s n = (wtM ls == 65536 || (s && wtM ls == 32768 && ls.countP (fun x => decide (x > 0)) == 1) || (n && wtM ls == 0)) := by
 unfold rightM
 have h1 : decide (ls.length ≤ 300) = true := by simpa using ok.w.len
 have h2 : (ls.all fun n => decide (0 ≤ n ∧ n ≤ 16)) = true := by
  rw [List.all_eq_true]; intro x hx; simpa using ok.w.rng x hx
 rw [h1, h2]; simp
section
variable {f a most : Nat} {B out : List Int} {e : Int}
end
end Go.Proofs
namespace Go.Proofs
open Go.Sh
theorem symBits_pos {ls : List Int} {s : Nat} (h : 0 < ls.getD s 0) : 1 ≤ (symBits ls s).length := by rw [symBits_len]; omega
theorem Codes.tail {ll dl : List Int} {t : Tok} {ts : List Tok} (c : Codes ll dl (t :: ts)) : Codes ll dl ts := ⟨c.l, c.d, c.end_, fun u hu => c.lit u (List.mem_cons_of_mem _ hu), fun u hu => c.dst u (List.mem_cons_of_mem _ hu)⟩
theorem toksB_cons (ll dl : List Int) (t : Tok) (ts : List Tok) : toksB ll dl (t :: ts) = tokB ll dl t ++ toksB ll dl ts := by simp [toksB]
theorem toksB_len {ll dl : List Int} : ∀ {ts : List Tok}, Codes ll dl ts → (∀ t ∈ ts, TokR t) → ts.length + 1 ≤ (toksB ll dl ts).length
 | [], c, _ => by have := symBits_pos c.end_; simp only [toksB, List.flatMap_nil, List.nil_append, List.length_nil]; omega
 | t :: ts, c, hr => by
  have := toksB_len c.tail fun u hu => hr u (List.mem_cons_of_mem _ hu)
  rw [toksB_cons, List.length_append, List.length_cons]
  have h1 := c.lit t List.mem_cons_self
  have h2 : 1 ≤ (tokB ll dl t).length := by
   unfold tokB
   unfold lsym at h1
   split
   ·rename_i h0
    rw [if_pos h0] at h1
    exact symBits_pos h1
   ·rename_i h0
    rw [if_neg h0, Int.toNat_natCast] at h1
    have := symBits_pos h1
    simp only [List.length_append]; omega
  omega
theorem natpow {m n : Nat} (h : m < 2 ^ n) : ((m : Nat) : Int) < 2 ^ n := by rw [← pow_cast]; exact Int.ofNat_lt.2 h
theorem toks_has {B : List Int} {most : Nat} {ll dl : List Int} : ∀ (ts : List Tok) (out b : List Int) (f a : Nat), Runs out ts b → Codes ll dl ts → Has B a (toksB ll dl ts) → out.length ≤ most → ts.length < f →
    symsM B most ll dl f a out = if b.length ≤ most then .ok (a + (toksB ll dl ts).length, b) else .error 24
  | [], out, b, f, a, hr, c, h, ho, hf => by
    obtain ⟨f, rfl⟩ : ∃ g, f = g + 1 := ⟨f - 1, by omega⟩
    cases hr
    rw [if_pos ho, symsM]
    have h' : Has B a (symBits ll 256) := h
    rw [symM_has c.l c.end_ h']
    simp [toksB, symBits_len]
  | t :: ts, out, b, f, a, hr, c, h, ho, hf => by
    obtain ⟨f, rfl⟩ : ∃ g, f = g + 1 := ⟨f - 1, by simp at hf; omega⟩
    have hlen := hr.2.len
    rw [expT_len] at hlen
    rw [toksB_cons] at h ⊢
    obtain ⟨h1, h2⟩ := h.app
    have hlit := c.lit t List.mem_cons_self
    have ih := toks_has (B := B) (most := most) ts (expT out t) b f (a + (tokB ll dl t).length) hr.2 c.tail h2
    rw [expT_len] at ih
    rw [symsM, List.length_append, ← Nat.add_assoc]
    rcases hr.1 with ⟨n0, d0, c0, c1⟩ | ⟨n3, n258, d1, d2, d3, hc0⟩
    · have etok : tokB ll dl t = symBits ll t.c.toNat := by unfold tokB; rw [if_pos n0]
      have eexp : expT out t = out ++ [((t.c.toNat : Nat) : Int)] := by unfold expT; rw [if_pos n0, Int.toNat_of_nonneg c0]
      unfold lsym at hlit
      rw [if_pos n0] at hlit
      rw [etok] at h1 ih ⊢
      rw [eexp] at ih
      rw [symM_has c.l hlit h1]
      simp only
      rw [if_neg (by omega), if_neg (by omega)]
      rw [symBits_len] at ih ⊢
      by_cases hm : (out.length : Int) ≥ most
      · rw [if_pos hm, if_neg (by omega)]
      · rw [if_neg hm]
        exact ih (by omega) (by simp at hf; omega)
    · have hn0 : t.n ≠ 0 := by omega
      obtain ⟨s1, s2, s3, s4⟩ := lenS_ok ⟨n3, n258⟩
      obtain ⟨q1, q2, q3⟩ := dstS_ok ⟨d1, d2⟩
      have hdst := c.dst t List.mem_cons_self hn0
      have etok : tokB ll dl t = symBits ll (lenS t.n) ++ bitsOf false ((t.n - (lenB (lenS t.n)).1 : Nat) : Int) (lenB (lenS t.n)).2 ++ symBits dl (dstS t.d) ++ bitsOf false ((t.d - (dstB (dstS t.d)).1 : Nat) : Int) (dstB (dstS t.d)).2 := by unfold tokB; rw [if_neg hn0]
      have eexp : expT out t = copyM t.d t.n out := by unfold expT; rw [if_neg hn0]
      unfold lsym at hlit
      rw [if_neg hn0, Int.toNat_natCast] at hlit
      rw [eexp] at ih
      have hlt : (tokB ll dl t).length = (ll.getD (lenS t.n) 0).toNat + (lenB (lenS t.n)).2 + (dl.getD (dstS t.d) 0).toNat + (dstB (dstS t.d)).2 := by
        rw [etok]; simp only [List.length_append, symBits_len, bitsOf_len]
      rw [etok] at h1
      obtain ⟨h1, g4⟩ := h1.app
      obtain ⟨h1, g3⟩ := h1.app
      obtain ⟨g1, g2⟩ := h1.app
      simp only [List.length_append, symBits_len, bitsOf_len] at g2 g3 g4
      rw [symM_has c.l hlit g1]
      simp only
      rw [if_neg (by omega), if_pos (by omega)]
      unfold copiesM
      rw [if_neg (by omega), getM_has g2 (by omega) (natpow s4)]
      simp only
      rw [show a + (ll.getD (lenS t.n) 0).toNat + (lenB (lenS t.n)).2 = a + ((ll.getD (lenS t.n) 0).toNat + (lenB (lenS t.n)).2) from by omega, symM_has c.d hdst g3]
      simp only
      rw [if_neg (by omega)]
      rw [show a + ((ll.getD (lenS t.n) 0).toNat + (lenB (lenS t.n)).2) + (dl.getD (dstS t.d) 0).toNat = a + ((ll.getD (lenS t.n) 0).toNat + (lenB (lenS t.n)).2 + (dl.getD (dstS t.d) 0).toNat) from by omega, getM_has g4 (by omega) (natpow q3)]
      simp only
      rw [if_neg (by omega), Int.toNat_natCast, Int.toNat_natCast]
      rw [show (dstB (dstS t.d)).1 + (t.d - (dstB (dstS t.d)).1) = t.d from by omega, show (lenB (lenS t.n)).1 + (t.n - (lenB (lenS t.n)).1) = t.n from by omega]
      by_cases hm : ((lenB (lenS t.n)).1 : Int) + ((t.n - (lenB (lenS t.n)).1 : Nat) : Int) > (most : Int) - out.length
      · rw [if_pos hm, if_neg (by omega)]
      · rw [if_neg hm]
        simp only
        have := ih (by omega) (by simp at hf; omega)
        rw [hlt] at this ⊢
        rw [show a + ((ll.getD (lenS t.n) 0).toNat + (lenB (lenS t.n)).2 + (dl.getD (dstS t.d) 0).toNat) + (dstB (dstS t.d)).2 = a + ((ll.getD (lenS t.n) 0).toNat + (lenB (lenS t.n)).2 + (dl.getD (dstS t.d) 0).toNat + (dstB (dstS t.d)).2) from by omega]
        exact this
theorem first_has {B first : List Int} (hr : ∀ x ∈ first, 0 ≤ x ∧ x < 8) : ∀ (l : List Nat) (a : Nat) (fs : List Int), Has B a (l.flatMap fun s => bitsOf false (first.getD s 0) 3) → firstM B l a fs = .ok (a + 3 * l.length, l.foldl (fun fs s => fs.set s (first.getD s 0)) fs)
  | [], a, fs, h => rfl
  | s :: l, a, fs, h => by
    rw [List.flatMap_cons] at h
    obtain ⟨h1, h2⟩ := h.app
    rw [bitsOf_len] at h2
    have hv : 0 ≤ first.getD s 0 ∧ first.getD s 0 < 8 := by
      rcases getD_mem_or (l := first) s with h | h
      · exact hr _ h
      · omega
    rw [firstM, getM_has h1 hv.1 (by have : (2 : Int) ^ 3 = 8 := by decide
                                     omega)]
    simp only
    rw [first_has hr l _ _ h2, List.length_cons, List.foldl_cons]
    congr 2; omega
theorem ord_fill {first : List Int} (h : first.length = 19) : ordL.foldl (fun fs s => fs.set s (first.getD s 0)) (List.replicate 19 0) = first := by
 match first, h with
 | [x0, x1, x2, x3, x4, x5, x6, x7, x8, x9, x10, x11, x12, x13, x14, x15, x16, x17, x18], _ => simp [ordL, List.replicate]
theorem list_has {B first : List Int} (ok : OkC first) : ∀ (rest ls : List Int) (a f total : Nat), Has B a (rest.flatMap fun n => symBits first n.toNat) → (∀ n ∈ rest, 0 ≤ n ∧ n ≤ 15 ∧ 0 < first.getD n.toNat 0) → ls.length + rest.length = total → rest.length < f →
    listM B first total f a ls = .ok (a + (rest.flatMap fun n => symBits first n.toNat).length, ls ++ rest)
  | [], ls, a, f, total, h, hr, ht, hf => by
    obtain ⟨f, rfl⟩ : ∃ g, f = g + 1 := ⟨f - 1, by simp at hf; omega⟩
    rw [listM, if_pos (by simp at ht; omega)]
    simp
  | n :: rest, ls, a, f, total, h, hr, ht, hf => by
    obtain ⟨f, rfl⟩ : ∃ g, f = g + 1 := ⟨f - 1, by simp at hf; omega⟩
    rw [List.flatMap_cons] at h
    obtain ⟨h1, h2⟩ := h.app
    have hn := hr n List.mem_cons_self
    rw [List.length_cons] at ht hf
    rw [listM, if_neg (by omega), symM_has ok hn.2.2 h1]
    simp only
    rw [if_neg (by omega), if_neg (by omega), if_neg (by omega), Int.toNat_of_nonneg hn.1]
    rw [symBits_len] at h2
    rw [list_has ok rest (ls ++ [n]) _ f total h2 (fun m hm => hr m (List.mem_cons_of_mem _ hm)) (by rw [List.length_append, List.length_singleton]; omega) (by omega)]
    rw [List.flatMap_cons, List.length_append, symBits_len, List.append_assoc]
    congr 2; omega
theorem rightM_whole {ls : List Int} {cs : List Int} {m : Nat} (w : Whole ls cs m) (s n : Bool) : rightM ls s n = true := by
 rw [rightM_of w.ok, w.wt]; rfl
theorem flat_len_ge {first : List Int} : ∀ {l : List Int}, (∀ n ∈ l, 0 < first.getD n.toNat 0) → l.length ≤ (l.flatMap fun n => symBits first n.toNat).length
 | [], _ => by simp
 | n :: l, h => by
  rw [List.flatMap_cons, List.length_append, List.length_cons]
  have h1 := symBits_pos (h n List.mem_cons_self)
  have := flat_len_ge (l := l) fun m hm => h m (List.mem_cons_of_mem _ hm)
  omega
theorem tables_has {B : List Int} {ts : List Tok} (dy : Dyn ts) {a : Nat} (h : Has B a (bitsOf false 29 5 ++ bitsOf false 29 5 ++ bitsOf false 15 4 ++ ordL.flatMap (fun s => bitsOf false ((hdrL ts).getD s 0) 3) ++ (litL ts ++ dstL ts).flatMap (fun n => symBits (hdrL ts) n.toNat))) :
    tablesM B a = .ok (a + 71 + ((litL ts ++ dstL ts).flatMap (fun n => symBits (hdrL ts) n.toNat)).length, litL ts, dstL ts) := by
  have hB := h.1
  obtain ⟨h, h5⟩ := h.app
  obtain ⟨h, h4⟩ := h.app
  obtain ⟨h, h3⟩ := h.app
  obtain ⟨h1, h2⟩ := h.app
  have eo : (ordL.flatMap (fun s => bitsOf false ((hdrL ts).getD s 0) 3)).length = 57 := by simp [ordL, bitsOf_len]
  simp only [List.length_append, bitsOf_len, eo] at h2 h3 h4 h5 hB
  have hr8 : ∀ x ∈ hdrL ts, 0 ≤ x ∧ x < 8 := fun x hx => by have := dy.h.rng x hx; omega
  have hge := flat_len_ge (l := litL ts ++ dstL ts) (first := hdrL ts) fun n hn => (dy.all n hn).2.2
  rw [List.length_append, dy.ll, dy.dl] at hge
  unfold tablesM
  rw [getM_has h1 (by omega) (by decide)]
  simp only
  rw [getM_has h2 (by omega) (by decide)]
  simp only
  rw [show a + 5 + 5 = a + (5 + 5) from by omega, getM_has h3 (by omega) (by decide)]
  simp only
  rw [if_neg (by omega), show ordL.take (Int.toNat 15 + 4) = ordL from rfl, show a + (5 + 5) + 4 = a + (5 + 5 + 4) from by omega, first_has hr8 _ _ _ h4]
  simp only
  rw [ord_fill dy.hl, rightM_whole dy.h]
  simp only [Bool.true_eq_false, if_false]
  rw [show a + (5 + 5 + 4) + 3 * ordL.length = a + (5 + 5 + 4 + 57) from rfl, list_has dy.h.ok (litL ts ++ dstL ts) [] _ _ (Int.toNat 29 + Int.toNat 29 + 258) h5 dy.all (by rw [List.length_append, dy.ll, dy.dl]; rfl) (by rw [List.length_append, dy.ll, dy.dl]; omega)]
  simp only [List.nil_append]
  rw [show Int.toNat 29 + 257 = (litL ts).length from by rw [dy.ll]; rfl, List.take_left, List.drop_left, rightM_whole dy.l, rightM_whole dy.d]
  simp only [Bool.true_eq_false, or_self, if_false]
theorem stored_big {B ws p out : List Int} {last v : Int} {most : Nat} (h : Has B 0 (partW ws last v p)) (hp : ∀ x ∈ p, 0 ≤ x ∧ x < 256) (hl : p.length ≤ 65535) (hl01 : last = 0 ∨ last = 1) :
    getM B 1 ws.length = .ok (last, ws.length + 1) ∧ getM B 2 (ws.length + 1) = .ok (0, ws.length + 3) ∧ storedM B most (ws.length + 3) out = if out.length + p.length ≤ most then .ok ((partW ws last v p).length, out ++ p) else .error 24 := by
  by_cases hm : out.length + p.length ≤ most
  · rw [if_pos hm]; exact stored_has h hp hl hl01 hm
  obtain ⟨g1, g2, _⟩ := stored_has h hp hl hl01 (out := out) (most := out.length + p.length) (Nat.le_refl _)
  refine ⟨g1, g2, ?_⟩
  rw [if_neg hm]
  unfold partW fillM at h
  simp only [List.append_assoc] at h
  obtain ⟨_, h⟩ := h.app
  obtain ⟨h1, h⟩ := h.app
  obtain ⟨h2, h⟩ := h.app
  obtain ⟨_, h⟩ := h.app
  obtain ⟨h3, h⟩ := h.app
  obtain ⟨h4, h5⟩ := h.app
  simp only [bitsOf_len, List.length_append, List.length_replicate, Nat.zero_add] at h1 h2 h3 h4 h5
  have e16 : (2 : Int) ^ 16 = 65536 := by decide
  have ea : (ws.length + 3 + 7) / 8 * 8 = (ws.length + 10) / 8 * 8 := by omega
  have eb : ws.length + 1 + 2 + (8 - (ws.length + (1 + 2)) % 8) % 8 = (ws.length + 10) / 8 * 8 := by omega
  rw [eb] at h3 h4 h5
  unfold storedM
  rw [ea, getM_has h3 (by omega) (by omega)]
  simp only
  rw [getM_has h4 (by omega) (by omega)]
  simp only
  rw [if_neg (by simp), if_pos (by omega)]
theorem storW_pre : ∀ (f : Nat) (ws b : List Int), ∃ t, storW f ws b = ws ++ t
 | 0, ws, b => ⟨[], by simp [storW]⟩
 | f + 1, ws, b => by
  rw [storW]
  split
  ·exact ⟨_, by simp only [partW, fillM, List.append_assoc]; rfl⟩
  ·obtain ⟨t, h⟩ := storW_pre f (partW ws 0 0 (b.take 65535)) (b.drop 65535)
   exact ⟨_, by rw [h]; simp only [partW, fillM, List.append_assoc]; rfl⟩
theorem storW_len : ∀ (f : Nat) (ws b : List Int), b.length < f → ws.length % 8 = 0 → (storW f ws b).length % 8 = 0 ∧ (storW f ws b).length ≤ ws.length + 8 * b.length + 40 * (b.length / 65535 + 1) ∧ ws.length + 8 * b.length + 40 ≤ (storW f ws b).length
 | 0, ws, b, h, _ => by omega
 | f + 1, ws, b, h, h8 => by
  rw [storW]
  split
  ·rw [partW_len]; omega
  ·have hd : (b.drop 65535).length = b.length - 65535 := List.length_drop
   have ht : (b.take 65535).length = 65535 := by rw [List.length_take]; omega
   have hp := partW_len ws 0 0 (b.take 65535)
   rw [ht] at hp
   obtain ⟨h1, h2, h3⟩ := storW_len f (partW ws 0 0 (b.take 65535)) (b.drop 65535) (by omega) (by omega)
   rw [hd] at h2 h3
   have : b.length / 65535 = (b.length - 65535) / 65535 + 1 := by omega
   omega
theorem blocks_stor {T : TabT} {B : List Int} {most : Nat} : ∀ (f : Nat) (ws out b : List Int) (g : Nat), b.length < f → b.length < g → Has B 0 (storW f ws b) → (∀ x ∈ b, 0 ≤ x ∧ x < 256) → out.length ≤ most →
    blocksM T B most g ws.length out = if out.length + b.length ≤ most then .ok ((storW f ws b).length, out ++ b) else .error 24
  | 0, ws, out, b, g, hf, _, _, _, _ => by omega
  | f + 1, ws, out, b, g, hf, hg, h, hr, hm => by
    obtain ⟨g, rfl⟩ : ∃ k, g = k + 1 := ⟨g - 1, by omega⟩
    rw [storW] at h ⊢
    by_cases h65 : b.length ≤ 65535
    · rw [if_pos h65] at h ⊢
      obtain ⟨h1, h2, h3⟩ := stored_big h hr h65 (.inr rfl) (out := out) (most := most)
      rw [blocksM, h1]; simp only
      rw [h2]; simp only
      simp only [if_true]
      rw [h3]
      by_cases hm2 : out.length + b.length ≤ most
      · rw [if_pos hm2]
      · rw [if_neg hm2]
    · rw [if_neg h65] at h ⊢
      have hd : (b.drop 65535).length = b.length - 65535 := List.length_drop
      have ht : (b.take 65535).length = 65535 := by rw [List.length_take]; omega
      obtain ⟨t, hpre⟩ := storW_pre f (partW ws 0 0 (b.take 65535)) (b.drop 65535)
      have h' : Has B 0 (partW ws 0 0 (b.take 65535)) := by rw [hpre] at h; exact h.app.1
      obtain ⟨h1, h2, h3⟩ := stored_big h' (fun x hx => hr x (List.mem_of_mem_take hx)) (by omega) (.inl rfl) (out := out) (most := most)
      rw [blocksM, h1]; simp only
      rw [h2]; simp only
      simp only [if_true]
      rw [h3, ht]
      by_cases hle : out.length + 65535 ≤ most
      · rw [if_pos hle]
        simp only
        rw [if_neg (by decide)]
        have ih := blocks_stor (T := T) (B := B) (most := most) f (partW ws 0 0 (b.take 65535)) (out ++ b.take 65535) (b.drop 65535) g (by omega) (by omega) h (fun x hx => hr x (List.mem_of_mem_drop hx)) (by rw [List.length_append, ht]; exact hle)
        rw [ih, List.length_append, ht, hd, List.append_assoc, List.take_append_drop]
        by_cases hm2 : out.length + b.length ≤ most
        · rw [if_pos hm2, if_pos (by omega)]
        · rw [if_neg hm2, if_neg (by omega)]
      · rw [if_neg hle, if_neg (by omega)]
theorem fix_codes {ts : List Tok} (h : ∀ t ∈ ts, TokR t) : Codes fixL fixD ts :=
 ⟨fixL_ok, fixD_ok, by decide +kernel, fun t ht => by
  have := lsym_rng (h t ht)
  exact fixL_pos (by omega), fun t ht hn => by
  rcases h t ht with h | h
  ·exact absurd h.1 hn
  ·have := dstS_ok ⟨h.2.2.1, h.2.2.2.1⟩
   rw [fixD_get ⟨dstS t.d, by omega⟩]; decide⟩
theorem max_nat (n : Nat) : max ((n : Nat) : Int) 0 = (n : Int) := by omega
theorem infl_best {B b : List Int} {ts : List Tok} (hr : Runs [] ts b) (hl : ts.length ≤ 1000000000) {most : Nat} (h : Has B 0 (bestB ts)) : inflM tablesM B most = if b.length ≤ most then .ok (b, nby (bestB ts)) else .error 24 := by
 have hB := h.1
 unfold inflM
 rw [max_nat]
 unfold bestB at h hB ⊢
 by_cases hc : 20 < ts.length ∧ nby (dynB ts 1) < nby (fixB ts)
 ·rw [if_pos hc] at h hB
  rw [if_pos hc]
  have dy := dyn_of hr.r hl
  unfold dynB at h hB ⊢
  have hlen := toksB_len dy.c hr.r
  rw [show ∀ x1 x2 x3 x4 x5 x6 x7 x8 : List Int, x1 ++ x2 ++ x3 ++ x4 ++ x5 ++ x6 ++ x7 ++ x8 = x1 ++ (x2 ++ ((x3 ++ x4 ++ x5 ++ x6 ++ x7) ++ x8)) from fun _ _ _ _ _ _ _ _ => by simp only [List.append_assoc]] at h
  obtain ⟨h1, h⟩ := h.app
  obtain ⟨h2, h⟩ := h.app
  obtain ⟨h3, h4⟩ := h.app
  have eo : (ordL.flatMap (fun s => bitsOf false ((hdrL ts).getD s 0) 3)).length = 57 := by simp [ordL, bitsOf_len]
  simp only [List.length_append, bitsOf_len, eo, Nat.zero_add] at h2 h3 h4 hB
  rw [blocksM, getM_has h1 (by omega) (by decide)]
  simp only
  rw [Nat.zero_add, getM_has h2 (by omega) (by decide)]
  simp only
  rw [if_neg (by decide), if_neg (by decide), if_pos (by decide), tables_has dy h3]
  simp only
  unfold symbolsM
  rw [show 1 + 2 + 71 = 1 + 2 + (5 + 5 + 4 + 57) from rfl, Nat.add_assoc (1 + 2)]
  rw [toks_has ts [] b _ _ hr dy.c h4 (Nat.zero_le _) (by omega)]
  by_cases hm2 : b.length ≤ most
  ·rw [if_pos hm2, if_pos hm2]
   simp only [if_true]
   unfold nby
   simp only [List.length_append, bitsOf_len, eo]
   congr 2; omega
  ·rw [if_neg hm2, if_neg hm2]
 ·rw [if_neg hc] at h hB
  rw [if_neg hc]
  have fc := fix_codes hr.r
  unfold fixB at h hB ⊢
  have hlen := toksB_len fc hr.r
  rw [show bitsOf false 3 3 = bitsOf false 1 1 ++ bitsOf false 1 2 from by decide +kernel, List.append_assoc] at h
  obtain ⟨h1, h⟩ := h.app
  obtain ⟨h2, h4⟩ := h.app
  simp only [bitsOf_len, Nat.zero_add] at h2 h4
  simp only [List.length_append, bitsOf_len, Nat.zero_add] at hB
  rw [blocksM, getM_has h1 (by omega) (by decide)]
  simp only
  rw [Nat.zero_add, getM_has h2 (by omega) (by decide)]
  simp only
  rw [if_neg (by decide), if_pos (by decide)]
  unfold symbolsM
  rw [toks_has ts [] b _ _ hr fc h4 (Nat.zero_le _) (by omega)]
  by_cases hm2 : b.length ≤ most
  ·rw [if_pos hm2, if_pos hm2]
   simp only [if_true]
   unfold nby
   simp only [List.length_append, bitsOf_len]
  ·rw [if_neg hm2, if_neg hm2]
theorem infl_def {B b : List Int} {eff : Int} (hb : ∀ x ∈ b, 0 ≤ x ∧ x < 256) (hl : b.length ≤ 1000000000) {most : Nat} (h : Has B 0 (defB b eff)) : inflM tablesM B most = if b.length ≤ most then .ok (b, nby (defB b eff)) else .error 24 := by
 have hr := lz_ok hb eff
 have hlen := hr.len
 rw [List.length_nil] at hlen
 unfold defB at h ⊢
 by_cases hc : nby (storB b) < nby (bestB (lzM b eff))
 ·rw [if_pos hc] at h
  rw [if_pos hc]
  have h0 := storW_len (b.length + 1) [] b (by omega) rfl
  have hB := h.1
  unfold storB at hB
  rw [List.length_nil] at h0
  unfold inflM
  rw [max_nat]
  have := blocks_stor (T := tablesM) (B := B) (most := most) (b.length + 1) [] [] b (8 * B.length + 1) (by omega) (by omega) h hb (Nat.zero_le _)
  rw [List.length_nil, Nat.zero_add, List.nil_append] at this
  rw [this]
  by_cases hm2 : b.length ≤ most
  ·rw [if_pos hm2, if_pos hm2]; rfl
  ·rw [if_neg hm2, if_neg hm2]
 ·rw [if_neg hc] at h
  rw [if_neg hc]
  exact infl_best hr (by omega) h
theorem nby_def (b : List Int) (eff : Int) : nby (defB b eff) ≤ b.length + 5 * (b.length / 65535 + 1) ∧ 0 < nby (defB b eff) := by
 have h0 := storW_len (b.length + 1) [] b (by omega) rfl
 rw [List.length_nil] at h0
 have h1 : nby (storB b) ≤ b.length + 5 * (b.length / 65535 + 1) := by unfold nby storB; omega
 have h2 : 0 < nby (storB b) := by unfold nby storB; omega
 unfold defB
 by_cases hc : nby (storB b) < nby (bestB (lzM b eff))
 ·rw [if_pos hc]; exact ⟨h1, h2⟩
 ·rw [if_neg hc]
  refine ⟨by omega, ?_⟩
  unfold bestB
  by_cases hc2 : 20 < (lzM b eff).length ∧ nby (dynB (lzM b eff) 1) < nby (fixB (lzM b eff))
  all_goals first | rw [if_pos hc2] | rw [if_neg hc2]
  ·unfold nby dynB; simp only [List.length_append, bitsOf_len]; omega
  ·unfold nby fixB; simp only [List.length_append, bitsOf_len]; omega
end Go.Proofs
namespace Go.Sh
variable {H0 H H' : Heap} {σ τ : List Rs}
def Rs.pers (Q : Heap → Prop) : Rs where
 at_ H fp := (∀ b ∈ fp, b < H.size) ∧ ∀ H', (∀ b ∈ fp, ∀ o, H[b]? = some o → H'[b]? = some o) → Q H'
 loc := fun {H H' fp} h hk => ⟨fun b hb => by
  have hlt := h.1 b hb
  exact lt_of_get (hk b hb _ (Array.getElem?_eq_getElem hlt)), fun H'' hk2 => h.2 H'' fun b hb o ho => hk2 b hb o (hk b hb o ho)⟩
 has h := h.1
theorem St.persGet (hs : St H0 H σ) (i : Nat) {Q : Heap → Prop} (hi : σ[i]? = some (.pers Q)) : Q H := by
 obtain ⟨_, fps, hl, _⟩ := hs
 obtain ⟨fp, _, h⟩ := hl.get hi
 exact h.2 H fun b _ o ho => ho
theorem Ext.empty (H : Heap) : Ext #[] H := fun b o h => by simp at h
theorem St.persOf {Q : Heap → Prop} (hs : St H0 H (τ ++ σ)) (hq : ∀ H', St #[] H' τ → Q H') : St H0 H (.pers Q :: σ) := by
 obtain ⟨he, fps, hl, hn, hb⟩ := hs
 obtain ⟨a, b, rfl, h1, h2⟩ := hl.split
 have hna : a.flatten.Nodup := by rw [List.flatten_append, List.nodup_append] at hn; exact hn.1
 refine ⟨he, a.flatten :: b, ⟨⟨h1.has, fun H' hk => hq H' ⟨Ext.empty H', a, h1.loc hk, hna, fun x _ => Nat.zero_le x⟩⟩, h2⟩, by simpa using hn, fun x hx => hb x (by simpa using hx)⟩
end Go.Sh
namespace Go.Proofs
open Go.Sh
variable {H0 H : Heap} {σ : List Rs} {R : Value → Heap → Prop}
theorem put_ok (hs : St H0 H σ) {i b : Nat} {hi : Bool} {ws : List Int} (hi' : σ[i]? = some (wrR b hi ws)) {v : Int} {n : Nat} (hn : n ≤ 24) (v0 : 0 ≤ v) (v1 : v < 2 ^ n) (hl : ws.length + n ≤ 1000000000)
    (hR : ∀ H', St H0 H' (σ.set i (wrR b hi (ws ++ bitsOf hi v n))) → R (.bool true) H') : CallsH Try.prog 17 #[.pointer (some ⟨b, 0, none⟩), .int .i64 v, .int .i64 (n : Nat)] H R :=
  c17 hs hi' (by rw [Int.toNat_natCast]; exact hl) (fun h => absurd ⟨Int.natCast_nonneg n, by omega, v0, by rw [Int.toNat_natCast]; exact v1⟩ h) (fun _ H' hs' => hR H' (by rw [Int.toNat_natCast] at hs'; exact hs'))
theorem setget_ne {i j : Nat} (h : i ≠ j) (r : Rs) {x : Rs} (hj : σ[j]? = some x) : (σ.set i r)[j]? = some x := by rw [List.getElem?_set_ne h]; exact hj
theorem c43 (hs : St H0 H σ) {i b : Nat} {ws : List Int} (hi : σ[i]? = some (wrR b false ws)) {code n : Int} (hn : 0 ≤ n ∧ n ≤ 16) (hl : ws.length + 16 ≤ 1000000000)
    (hR : ∀ H', St H0 H' (σ.set i (wrR b false (ws ++ bitsOf true code n.toNat))) → R (.tuple #[]) H') : CallsH Try.prog 43 #[.agg #[.pointer (some ⟨b, 0, none⟩)], .int .i64 code, .int .i64 n] H R := by
  obtain ⟨m, rfl⟩ := Int.eq_ofNat_of_zero_le hn.1
  rw [Int.toNat_natCast] at hR
  refine Try.s43 ?_
  unfold Try.S43
  refine hs.alc fun b4 H5 hs5 => ?_
  intro X6 hX
  have go : ∀ k, k ≤ m → ∀ H1, St H0 H1 (.cell b4 #[.pointer (some ⟨b, 0, none⟩)] 43 :: σ.set i (wrR b false (ws ++ (bitsOf true code m).take k))) → X6 [.int .i64 ((m : Int) - 1 - k)] H1 := upto fun k hk ih H1 hs1 => by
    refine hX _ H1 (br_dec (fun hge => ?_) (fun hlt => ?_))
    · have hk' : k < m := by omega
      refine ⟨_, hs1.get 0 (j := 0) rfl rfl, by omega, ?_⟩
      rw [show (m : Int) - 1 - k = ((m - 1 - k : Nat) : Int) from by omega, shr_of _ (by omega), andI_1]
      refine put_ok hs1 (i := i + 1) (n := 1) (by rw [List.getElem?_cons_succ]; exact setget hi _) (by omega) (by omega) (by omega) (by rw [List.length_append, List.length_take, bitsOf_len]; omega) fun H2 hs2 => ⟨_, rfl, ?_⟩
      rw [wrap_id (by omega) (by omega), show ((m - 1 - k : Nat) : Int) - 1 = (m : Int) - 1 - ((k + 1 : Nat) : Int) from by omega]
      refine ih hk' H2 ?_
      rw [List.set_cons_succ, setset] at hs2
      have e : (bitsOf true code m).take (k + 1) = (bitsOf true code m).take k ++ bitsOf false (code / 2 ^ (m - 1 - k) % 2) 1 := by
        rw [List.take_add_one]
        congr 1
        simp [bitsOf, hk']
      rw [e, ← List.append_assoc]; exact hs2
    · have : k = m := by omega
      subst this
      rw [List.take_of_length_le (by rw [bitsOf_len]; omega)] at hs1
      exact hR H1 hs1.tail
  have h0 := go 0 (by omega) H5 (by
    rw [List.take_zero, List.append_nil]
    obtain ⟨h1, h2⟩ := List.getElem?_eq_some_iff.1 hi
    rw [← h2, List.set_getElem_self]; exact hs5)
  rw [wrap_id (by omega) (by omega)]
  rw [show (m : Int) - 1 - ((0 : Nat) : Int) = (m : Int) - 1 from by omega] at h0
  exact h0
theorem fndM_hit {base : Nat → Nat × Nat} {v s : Nat} (h : (base s).1 ≤ v) : fndM base v s = s := by
 cases s with
 | zero => rfl
 | succ s => rw [fndM, if_pos h]
theorem c45 {g : Nat} {base : Nat → Nat × Nat} {v fr to_ : Nat} (hg : ∀ (s : Nat) (H : Heap) (R : Value → Heap → Prop), fr ≤ s → s ≤ to_ → R (.tuple #[.int .i64 ((base s).1 : Nat), .int .i64 ((base s).2 : Nat)]) H → CallsH Try.prog g #[.int .i64 (s : Nat)] H R)
    (hv : (base fr).1 ≤ v) (hft : fr ≤ to_) (hto : to_ ≤ 1000) (hvb : v ≤ 100000000) (hR : R (.tuple #[.int .i64 (fndM base v to_ : Nat), .int .i64 ((v - (base (fndM base v to_)).1 : Nat) : Int), .int .i64 ((base (fndM base v to_)).2 : Nat)]) H) :
    CallsH Try.prog 45 #[.int .i64 (v : Nat), .int .i64 (fr : Nat), .int .i64 (to_ : Nat), .func (.func g) #[] #[]] H R := by
  refine Try.s45 ?_
  unfold Try.S45
  intro X hX
  have go : ∀ d s, s = fr + d → s ≤ to_ → fndM base v s = fndM base v to_ → X [.int .i64 (s : Nat)] H := by
    intro d
    induction d with
    | zero =>
      intro s hs hst he
      refine hX _ H (hg s H _ (by omega) hst ⟨_, _, rfl, ?_⟩)
      have hb : (base s).1 ≤ v := by rw [hs]; exact hv
      rw [fndM_hit hb] at he
      rw [← he] at hR
      refine br_y (by omega) (br_y (by omega) ?_)
      rw [wrap_id (by omega) (by omega), show (v : Int) - ((base s).1 : Nat) = ((v - (base s).1 : Nat) : Int) from by omega]
      exact hR
    | succ d ih =>
      intro s hs hst he
      refine hX _ H (hg s H _ (by omega) hst ⟨_, _, rfl, ?_⟩)
      refine br_dec (fun hb => br_y (by omega) ?_) (fun hb => ?_)
      · rw [fndM_hit (by omega)] at he
        rw [← he] at hR
        rw [wrap_id (by omega) (by omega), show (v : Int) - ((base s).1 : Nat) = ((v - (base s).1 : Nat) : Int) from by omega]
        exact hR
      · rw [wrap_id (by omega) (by omega), show (s : Int) - 1 = ((fr + d : Nat) : Int) from by omega]
        refine ih (fr + d) rfl (by omega) ?_
        rw [← he, hs, show fr + (d + 1) = (fr + d) + 1 from rfl, fndM, if_neg (by rw [show fr + d + 1 = s from by omega]; omega)]
  exact go (to_ - fr) to_ (by omega) (Nat.le_refl _) rfl
theorem c44 {n : Nat} (h : 3 ≤ n ∧ n ≤ 258) (hR : R (.tuple #[.int .i64 (lenS n : Nat), .int .i64 ((n - (lenB (lenS n)).1 : Nat) : Int), .int .i64 ((lenB (lenS n)).2 : Nat)]) H) : CallsH Try.prog 44 #[.int .i64 (n : Nat)] H R := by
 refine Try.s44 (br_eq (fun h8 => ?_) (fun h8 => ?_))
 ·have : n = 258 := by omega
  subst this
  exact hR
 ·unfold lenS at hR
  rw [if_neg (by omega)] at hR
  exact c45 (g := 70) (base := lenB) (fr := 257) (to_ := 284) (fun s H R h1 h2 hr => c70 ⟨h1, by omega⟩ hr) (by show 3 ≤ n; omega) (by omega) (by omega) (by omega) ⟨_, _, _, rfl, hR⟩
theorem find_dst {d : Nat} (h : 1 ≤ d ∧ d ≤ 32768) (hR : R (.tuple #[.int .i64 (dstS d : Nat), .int .i64 ((d - (dstB (dstS d)).1 : Nat) : Int), .int .i64 ((dstB (dstS d)).2 : Nat)]) H) :
    CallsH Try.prog 45 #[.int .i64 (d : Nat), .int .i64 (0 : Int), .int .i64 (29 : Int), .func (.func 46) #[] #[]] H R :=
  c45 (g := 46) (base := dstB) (fr := 0) (to_ := 29) (fun s H R h1 h2 hr => c46 h2 hr) (by show 1 ≤ d; exact h.1) (by omega) (by omega) (by omega) hR
structure SetI (p1 p2 p3 p4 : Option Addr) (ll dl : List Int) (H : Heap) : Prop where
 l1 : IS H p1 ll.length (kints .i64 ll)
 l2 : IS H p2 dl.length (kints .i64 dl)
 l3 : IS H p3 ll.length (kints .i64 (codesM ll))
 l4 : IS H p4 dl.length (kints .i64 (codesM dl))
theorem c19 {p1 p2 : Option Addr} {c1 c2 : Nat} {ll dl : List Int} (h1 : IS H p1 ll.length (ints ll)) (h2 : IS H p2 dl.length (ints dl)) (okl : OkC ll) (okd : OkC dl)
    (hR : ∀ q3 q4 H', St H H' [.sl q4 dl.length dl.length 3 1 (ints (codesM dl)), .sl q3 ll.length ll.length 3 1 (ints (codesM ll))] → R (.agg #[.slice p1 ll.length c1, .slice p2 dl.length c2, .slice q3 ll.length ll.length, .slice q4 dl.length dl.length]) H') :
    CallsH Try.prog 19 #[.slice p1 ll.length c1, .slice p2 dl.length c2] H R := by
  refine Try.s19 ?_
  unfold Try.S19
  refine (St.nil H).alc fun b3 H4 hs4 => ?_
  refine c47 (h1.ext hs4.ext) (fun hn => absurd okl hn) fun _ H6 b5 f5 e5 => ⟨_, _, _, _, rfl, ?_⟩
  have hs6 := hs4.newSl e5 f5
  refine c47 (h2.ext hs6.ext) (fun hn => absurd okd hn) fun _ H10 b9 f9 e9 => ⟨_, _, _, _, rfl, rfl, ?_⟩
  have hs10 := hs6.newSl e9 f9
  refine hs10.putAll 2 rfl (by simp) (by simp [Value.oneCell']) fun H13 hs13 => ⟨_, rfl, rowIn_whole (hs13.block 2 rfl), ?_⟩
  exact hR _ _ H13 (hs13.take 2)
theorem tokL_get : ∀ {ts : List Tok} {i : Nat} {t : Tok}, ts[i]? = some t → ∀ (j : Nat) (v : Value), (tokC t).toArray[j]? = some v → (tokL ts)[i * 3 + j]? = some v
 | [], i, t, h, _, _, _ => by simp at h
 | u :: ts, 0, t, h, j, v, hv => by
  simp at h; subst h
  have hj : j < 3 := by have := (Array.getElem?_eq_some_iff.1 hv).1; simpa [tokC] using this
  rw [List.getElem?_toArray] at hv
  rw [Nat.zero_mul, Nat.zero_add, show tokL (u :: ts) = tokC u ++ tokL ts from rfl, List.getElem?_append_left (by show j < 3; exact hj)]
  exact hv
 | u :: ts, i + 1, t, h, j, v, hv => by
  rw [show tokL (u :: ts) = tokC u ++ tokL ts from rfl, List.getElem?_append_right (by show 3 ≤ _; omega), show (i + 1) * 3 + j - (tokC u).length = i * 3 + j from by show (i + 1) * 3 + j - 3 = _; omega]
  exact tokL_get (by simpa using h) j v hv
theorem toksP_step {ll dl : List Int} {ts : List Tok} {k : Nat} {t : Tok} (h : ts[k]? = some t) : (ts.take (k + 1)).flatMap (tokB ll dl) = (ts.take k).flatMap (tokB ll dl) ++ tokB ll dl t := by
 rw [List.take_add_one, h, Option.toList_some, List.flatMap_append]; simp
theorem tokB_le {ll dl : List Int} (okl : OkC ll) (okd : OkC dl) {t : Tok} (h : TokR t) : (tokB ll dl t).length ≤ 50 := by
 have hl : ∀ (ls : List Int) (ok : OkC ls) s, (ls.getD s 0).toNat ≤ 16 := fun ls ok s => by
  rcases getD_mem_or (l := ls) s with h | h
  ·have := ok.w.rng _ h; omega
  ·rw [h]; decide
 unfold tokB
 split
 ·rw [symBits_len]; have := hl ll okl t.c.toNat; omega
 ·rename_i hn
  rcases h with h | h
  ·exact absurd h.1 hn
  ·have h1 := lenS_ok ⟨h.1, h.2.1⟩
   have h2 := lenB_le ⟨h1.1, h1.2.1⟩
   have h3 := dstS_ok ⟨h.2.2.1, h.2.2.2.1⟩
   have h4 := dstB_le h3.1
   simp only [List.length_append, symBits_len, bitsOf_len]
   have := hl ll okl (lenS t.n); have := hl dl okd (dstS t.d); omega
theorem toksP_le {ll dl : List Int} (okl : OkC ll) (okd : OkC dl) : ∀ {ts : List Tok}, (∀ t ∈ ts, TokR t) → (ts.flatMap (tokB ll dl)).length ≤ 50 * ts.length
 | [], _ => by simp
 | t :: ts, h => by
  have := tokB_le okl okd (h t List.mem_cons_self)
  have := toksP_le okl okd fun u hu => h u (List.mem_cons_of_mem _ hu)
  rw [List.flatMap_cons, List.length_append, List.length_cons]; omega
theorem c18 (hs : St H0 H σ) {i j k b n m c1 c2 c3 c4 : Nat} {ws : List Int} {ll dl : List Int} {ts : List Tok} {p1 p2 p3 p4 q : Option Addr} (hi : σ[i]? = some (wrR b false ws)) (hj : σ[j]? = some (.pers (SetI p1 p2 p3 p4 ll dl))) (hk : σ[k]? = some (.sl q n m 82 3 (tokL ts)))
    (hij : i ≠ j) (hik : i ≠ k) (cd : Codes ll dl ts) (hr : ∀ t ∈ ts, TokR t) (hl : ws.length + 50 * ts.length + 20 ≤ 1000000000)
    (hR : ∀ H', St H0 H' (σ.set i (wrR b false (ws ++ toksB ll dl ts))) → R (.tuple #[]) H') :
    CallsH Try.prog 18 #[.agg #[.pointer (some ⟨b, 0, none⟩)], .slice q n m, .agg #[.slice p1 ll.length c1, .slice p2 dl.length c2, .slice p3 ll.length c3, .slice p4 dl.length c4]] H R := by
  have hn : n = ts.length := by
    have := (hs.fs k hk).len
    rw [tokL_len] at this; omega
  subst hn
  refine Try.s18 ?_
  unfold Try.S18
  refine hs.alc fun b4 H5 hs5 => hs5.alc fun b6 H7 hs7 => ?_
  intro X8 hX
  have h17 : ∀ (ls : List Int) (ok : OkC ls) (s : Nat), s < ls.length → 0 ≤ ls.getD s 0 ∧ ls.getD s 0 ≤ 16 := fun ls ok s h => ok.w.rng _ (List.mem_of_getElem? (get_gD ls 0 h))
  have inl : ∀ s, 0 < ll.getD s 0 → s < ll.length := fun s h => by
    rcases Nat.lt_or_ge s ll.length with h' | h'
    · exact h'
    · rw [gD_none _ _ h'] at h; omega
  have ind : ∀ s, 0 < dl.getD s 0 → s < dl.length := fun s h => by
    rcases Nat.lt_or_ge s dl.length with h' | h'
    · exact h'
    · rw [gD_none _ _ h'] at h; omega
  have go : ∀ t, t ≤ ts.length → ∀ H1, St H0 H1 (.cell b6 #[.slice p1 ll.length c1, .slice p2 dl.length c2, .slice p3 ll.length c3, .slice p4 dl.length c4] 48 :: .cell b4 #[.pointer (some ⟨b, 0, none⟩)] 43 :: σ.set i (wrR b false (ws ++ (ts.take t).flatMap (tokB ll dl)))) → X8 [.int .i64 (t : Nat)] H1 := upto fun t ht ih H1 hs1 => by
    have hwl := toksP_le cd.l cd.d (ts := ts.take t) fun u hu => hr u (List.mem_of_mem_take hu)
    rw [List.length_take] at hwl
    have S1 := hs1.persGet (j + 2) (by rw [List.getElem?_cons_succ, List.getElem?_cons_succ]; exact setget_ne hij _ hj)
    refine hX _ H1 (br_dec (fun hlt => ?_) (fun hge => ?_))
    · have hlt : t < ts.length := by omega
      obtain ⟨tk, htk⟩ : ∃ x, ts[t]? = some x := ⟨_, List.getElem?_eq_getElem hlt⟩
      have hmem := List.mem_of_getElem? htk
      have hih := ih hlt
      rw [toksP_step htk, ← List.append_assoc] at hih
      have hrs := hs1.rs (k + 2) (by rw [List.getElem?_cons_succ, List.getElem?_cons_succ]; exact setget_ne hik _ hk)
      obtain ⟨blk, hq, hrow⟩ := hrs.row hlt (by decide) (tokL_get htk)
      have hbl := tokB_le cd.l cd.d (hr tk hmem)
      refine ⟨_, hq, by omega, by omega, (tokC tk).toArray, rfl, ?_⟩
      rw [Int.toNat_natCast, add_none, Nat.zero_add]
      refine ⟨hrow, hs1.alc fun b13 H14 hs14 => ⟨rfl, hs14.putAll 0 rfl rfl (by simpa using tokC_one tk) fun H15 hs15 => ?_⟩⟩
      rw [List.set_cons_zero] at hs15
      have S15 := hs15.persGet (j + 3) (by rw [List.getElem?_cons_succ, List.getElem?_cons_succ, List.getElem?_cons_succ]; exact setget_ne hij _ hj)
      have hW : ∀ x : List Int, (Rs.cell b13 (tokC tk).toArray.toList.toArray 82 :: Rs.cell b6 #[.slice p1 ll.length c1, .slice p2 dl.length c2, .slice p3 ll.length c3, .slice p4 dl.length c4] 48 :: Rs.cell b4 #[.pointer (some ⟨b, 0, none⟩)] 43 :: σ.set i (wrR b false x))[i + 3]? = some (wrR b false x) := fun x => by
        rw [List.getElem?_cons_succ, List.getElem?_cons_succ, List.getElem?_cons_succ]; exact setget hi _
      have hlit := cd.lit tk hmem
      unfold lsym at hlit
      unfold tokB at hbl
      have etok : tokB ll dl tk = tokB ll dl tk := rfl
      conv at etok => rhs; unfold tokB
      refine ⟨_, hs15.get 1 (j := 0) rfl rfl |> fun _ => hs15.get 0 (j := 0) rfl rfl, br_eq (fun h0 => ?_) (fun h0 => ?_)⟩
      · have h0 : tk.n = 0 := by omega
        rw [if_pos h0] at hlit hbl etok
        have hc := hr tk hmem
        have hcr : 0 ≤ tk.c := by rcases hc with h | h <;> omega
        have hcl := inl _ hlit
        refine ⟨_, rfl, rowIn_whole (hs15.block 2 rfl), _, _, _, hs15.get 1 (j := 2) rfl rfl, _, hs15.get 0 (j := 2) rfl rfl, S15.l3.rd hcr (by omega) (codesM_get hcl) ?_⟩
        refine ⟨_, _, _, hs15.get 1 (j := 0) rfl rfl, _, hs15.get 0 (j := 2) rfl rfl, S15.l1.rd hcr (by omega) (get_gD ll 0 hcl) ?_⟩
        refine c43 hs15 (hW _) (h17 ll cd.l _ hcl) (by rw [List.length_append]; omega) fun H27 hs27 => ⟨rfl, ?_⟩
        rw [wrap_id (by omega) (by omega)]
        refine hih H27 ?_
        rw [etok]
        have := hs27.tail
        simp only [List.set_cons_succ] at this
        rw [setset] at this
        exact this
      · have h0 : tk.n ≠ 0 := by omega
        rw [if_neg h0] at hlit hbl etok
        rw [Int.toNat_natCast] at hlit
        have hcl := inl _ hlit
        obtain ⟨n3, n258, d1, d2, _⟩ : 3 ≤ tk.n ∧ tk.n ≤ 258 ∧ 1 ≤ tk.d ∧ tk.d ≤ 32768 ∧ tk.c = 0 := by
          rcases hr tk hmem with h | h
          · exact absurd h.1 h0
          · exact h
        have hdst := cd.dst tk hmem h0
        have hdl := ind _ hdst
        obtain ⟨s1, s2, s3, s4⟩ := lenS_ok ⟨n3, n258⟩
        have s5 := lenB_le ⟨s1, s2⟩
        obtain ⟨q1, q2, q3⟩ := dstS_ok ⟨d1, d2⟩
        have q5 := dstB_le q1
        simp only [List.length_append, symBits_len, bitsOf_len] at hbl
        refine ⟨_, hs15.get 0 (j := 0) rfl rfl, c44 ⟨n3, n258⟩ ⟨_, _, _, rfl, ?_⟩⟩
        refine ⟨_, rfl, rowIn_whole (hs15.block 2 rfl), _, _, _, hs15.get 1 (j := 2) rfl rfl, S15.l3.rd (by omega) (by omega) (by rw [Int.toNat_natCast]; exact codesM_get hcl) ?_⟩
        refine ⟨_, _, _, hs15.get 1 (j := 0) rfl rfl, S15.l1.rd (by omega) (by omega) (by rw [Int.toNat_natCast]; exact get_gD ll 0 hcl) ?_⟩
        refine c43 hs15 (hW _) (h17 ll cd.l _ hcl) (by rw [List.length_append]; omega) fun H27 hs27 => ⟨rfl, ?_⟩
        simp only [List.set_cons_succ] at hs27
        rw [setset] at hs27
        refine ⟨_, hs27.get 2 (j := 0) rfl rfl, put_ok hs27 (hW _) (by omega) (by omega) (natpow s4) (by simp only [List.length_append, bitsOf_len]; omega) fun H30 hs30 => ⟨_, rfl, ?_⟩⟩
        simp only [List.set_cons_succ] at hs30
        rw [setset] at hs30
        have S30 := hs30.persGet (j + 3) (by rw [List.getElem?_cons_succ, List.getElem?_cons_succ, List.getElem?_cons_succ]; exact setget_ne hij _ hj)
        refine ⟨_, hs30.get 0 (j := 1) rfl rfl, find_dst ⟨d1, d2⟩ ⟨_, _, _, rfl, ?_⟩⟩
        refine ⟨_, rfl, rowIn_whole (hs30.block 2 rfl), _, _, _, hs30.get 1 (j := 3) rfl rfl, S30.l4.rd (by omega) (by omega) (by rw [Int.toNat_natCast]; exact codesM_get hdl) ?_⟩
        refine ⟨_, _, _, hs30.get 1 (j := 1) rfl rfl, S30.l2.rd (by omega) (by omega) (by rw [Int.toNat_natCast]; exact get_gD dl 0 hdl) ?_⟩
        refine c43 hs30 (hW _) (h17 dl cd.d _ hdl) (by simp only [List.length_append, bitsOf_len]; omega) fun H31 hs31 => ⟨rfl, ?_⟩
        simp only [List.set_cons_succ] at hs31
        rw [setset] at hs31
        refine ⟨_, hs31.get 2 (j := 0) rfl rfl, put_ok hs31 (hW _) (by omega) (by omega) (natpow q3) (by simp only [List.length_append, bitsOf_len]; omega) fun H32 hs32 => ⟨_, rfl, ?_⟩⟩
        simp only [List.set_cons_succ] at hs32
        rw [setset] at hs32
        rw [wrap_id (by omega) (by omega)]
        refine hih H32 ?_
        rw [etok]
        have := hs32.tail
        simp only [List.append_assoc] at this ⊢
        exact this
    · have : t = ts.length := by omega
      subst this
      rw [List.take_of_length_le (Nat.le_refl _)] at hs1 hwl
      have hcl := inl _ cd.end_
      refine ⟨_, rfl, rowIn_whole (hs1.block 1 rfl), _, _, _, hs1.get 0 (j := 2) rfl rfl, S1.l3.rd (i := (256 : Int)) (by omega) (by omega) (show (codesM ll)[256]? = some _ from codesM_get hcl) ?_⟩
      refine ⟨_, _, _, hs1.get 0 (j := 0) rfl rfl, S1.l1.rd (i := (256 : Int)) (by omega) (by omega) (show ll[256]? = some _ from get_gD ll 0 hcl) ?_⟩
      refine c43 hs1 (i := i + 2) (by rw [List.getElem?_cons_succ, List.getElem?_cons_succ]; exact setget hi _) (h17 ll cd.l _ hcl) (by rw [List.length_append]; omega) fun H27 hs27 => ⟨rfl, hR H27 ?_⟩
      simp only [List.set_cons_succ] at hs27
      rw [setset] at hs27
      have := hs27.tail.tail
      rw [List.append_assoc] at this
      exact this
  refine go 0 (by omega) H7 ?_
  rw [List.take_zero, List.flatMap_nil, List.append_nil]
  obtain ⟨h1, h2⟩ := List.getElem?_eq_some_iff.1 hi
  rw [← h2, List.set_getElem_self]; exact hs7
end Go.Proofs
namespace Go.Proofs
open Go.Sh
theorem c83 {H : Heap} {p q : Option Addr} {l c l2 k : Nat} {ls cs : List Int} (h : IS H p l (ints ls)) (hc : IS H q l2 (ints cs)) (hll : l ≤ l2) (hl : l ≤ 1000) {n v : Int} {R : Value → Heap → Prop}
    (hf : ∀ s : Nat, ls[s]? = some n → cs[s]? = some v → R (.int .i64 s) H) (hn : (∀ s : Nat, ls[s]? = some n → cs[s]? ≠ some v) → R (.int .i64 (-1)) H) :
    CallsH Try.prog 83 #[.slice p l c, .slice q l2 k, .int .i64 n, .int .i64 v] H R := by
  have hl1 : ls.length = l := by have := h.len; rw [ints_len] at this; omega
  have hl2 : cs.length = l2 := by have := hc.len; rw [ints_len] at this; omega
  refine Try.s83 ?_
  unfold Try.S83
  intro X hX
  have loop : ∀ (m s : Nat), l - s = m → s ≤ l → (∀ i : Nat, i < s → ls[i]? = some n → cs[i]? ≠ some v) → X [.int .i64 s] H := by
    intro m
    induction m with
    | zero =>
      intro s hm hs hno
      refine hX _ H (br_n (by omega) (hn fun i hi => hno i ?_ hi))
      have := (List.getElem?_eq_some_iff.1 hi).1; omega
    | succ m ih =>
      intro s hm hs hno
      have ws : IntKind.wrap .i64 ((s : Int) + 1) = ((s + 1 : Nat) : Int) := by rw [wrap_id (by omega) (by omega)]; omega
      have hv : ls[s]? = some ls[s] := List.getElem?_eq_getElem (by omega)
      have hw : cs[s]? = some cs[s] := List.getElem?_eq_getElem (by omega)
      generalize ls[s] = a at hv
      generalize cs[s] = b at hw
      obtain ⟨a1, q1, v1⟩ := h.cell (ints_get hv)
      obtain ⟨a2, q2, v2⟩ := hc.cell (ints_get hw)
      have nx : ¬ (a = n ∧ b = v) → X [.int .i64 ((s + 1 : Nat) : Int)] H := fun hne => ih (s + 1) (by omega) (by omega) fun i hi h1 h2 => by
        by_cases his : i = s
        · subst his; rw [hv] at h1; rw [hw] at h2; cases h1; cases h2; exact hne ⟨rfl, rfl⟩
        · exact hno i (by omega) h1 h2
      refine hX _ H (br_y (by omega) ⟨_, q1, by omega, by omega, a, by simpa using v1, br_eq (fun he => ⟨_, q2, by omega, by omega, b, by simpa using v2, br_eq (fun he2 => ?_) (fun he2 => ?_)⟩) (fun he => ?_)⟩)
      · exact hf s (by rw [hv, he]) (by rw [hw, he2])
      · rw [ws]; exact nx fun hh => he2 hh.2
      · rw [ws]; exact nx fun hh => he hh.1
  exact loop l 0 (by omega) (by omega) (fun i hi => by omega)
theorem c84 {H : Heap} {p q : Option Addr} {l c l2 k : Nat} {ls cs : List Int} (h : IS H p l (ints ls)) (hc : IS H q l2 (ints cs)) (hll : l ≤ l2) (hl : l ≤ 1000) (hr : ∀ x ∈ ls, 0 ≤ x ∧ x ≤ 16) {n v : Int} (hn0 : 0 ≤ n) {R : Value → Heap → Prop}
    (ht : ∀ (s : Nat) (a b : Int), ls[s]? = some a → cs[s]? = some b → n < a → b / 2 ^ (a - n).toNat = v → R (.bool true) H) (hf : (∀ (s : Nat) (a b : Int), ls[s]? = some a → cs[s]? = some b → n < a → b / 2 ^ (a - n).toNat ≠ v) → R (.bool false) H) :
    CallsH Try.prog 84 #[.slice p l c, .slice q l2 k, .int .i64 n, .int .i64 v] H R := by
  have hl1 : ls.length = l := by have := h.len; rw [ints_len] at this; omega
  have hl2 : cs.length = l2 := by have := hc.len; rw [ints_len] at this; omega
  refine Try.s84 ?_
  unfold Try.S84
  intro X hX
  have loop : ∀ (m s : Nat), l - s = m → s ≤ l → (∀ (i : Nat) (a b : Int), i < s → ls[i]? = some a → cs[i]? = some b → n < a → b / 2 ^ (a - n).toNat ≠ v) → X [.int .i64 s] H := by
    intro m
    induction m with
    | zero =>
      intro s hm hs hno
      refine hX _ H (br_n (by omega) (hf fun i a b hi => hno i a b ?_ hi))
      have := (List.getElem?_eq_some_iff.1 hi).1; omega
    | succ m ih =>
      intro s hm hs hno
      have ws : IntKind.wrap .i64 ((s : Int) + 1) = ((s + 1 : Nat) : Int) := by rw [wrap_id (by omega) (by omega)]; omega
      have hv : ls[s]? = some ls[s] := List.getElem?_eq_getElem (by omega)
      have hw : cs[s]? = some cs[s] := List.getElem?_eq_getElem (by omega)
      have hra := hr _ (List.mem_of_getElem? hv)
      generalize ls[s] = a at hv hra
      generalize cs[s] = b at hw
      obtain ⟨a1, q1, v1⟩ := h.cell (ints_get hv)
      obtain ⟨a2, q2, v2⟩ := hc.cell (ints_get hw)
      have nx : ¬ (n < a ∧ b / 2 ^ (a - n).toNat = v) → X [.int .i64 ((s + 1 : Nat) : Int)] H := fun hne => ih (s + 1) (by omega) (by omega) fun i a' b' hi h1 h2 h3 h4 => by
        by_cases his : i = s
        · subst his; rw [hv] at h1; rw [hw] at h2; cases h1; cases h2; exact hne ⟨h3, h4⟩
        · exact hno i a' b' (by omega) h1 h2 h3 h4
      refine hX _ H (br_y (by omega) ⟨_, q1, by omega, by omega, a, by simpa using v1, br_dec (fun he => ?_) (fun he => ?_)⟩)
      · have w1 : IntKind.wrap .i64 (a - n) = a - n := wrap_id (by omega) (by omega)
        refine ⟨_, q2, by omega, by omega, b, by simpa using v2, _, q1, by omega, by omega, a, by simpa using v1, ?_⟩
        rw [w1, shr64 (by omega) (by omega)]
        refine ⟨by omega, br_eq (fun he2 => ht s a b hv hw he he2) (fun he2 => ?_)⟩
        rw [ws]; exact nx fun hh => he2 hh.2
      · rw [ws]; exact nx fun hh => he hh.1
  exact loop l 0 (by omega) (by omega) (fun i a b hi => by omega)
end Go.Proofs
namespace Go.Proofs
open Go.Sh
variable {H0 H : Heap} {σ : List Rs} {R : Value → Heap → Prop}
def rfR (r : Nat) (bp : Option Addr) (bl bc a most : Nat) (out : List Int) (e : Int) : Rs :=
 .ex fun (x : Option Addr × Nat) => .pu (a ≤ 8 * bl ∧ bl ≤ 1000000000 ∧ out.length ≤ most ∧ most ≤ 1000000000 ∧ ∀ y ∈ out, 0 ≤ y ∧ y < 256)
  (.star (.cell r #[.slice bp bl bc, .int .i64 a, .slice x.1 out.length x.2, .int .i64 most, .int .i64 e] 71) (.sl x.1 out.length x.2 5 1 (kints .u8 out)))
theorem rfR_op {r bl bc a most : Nat} {bp : Option Addr} {out : List Int} {e : Int} (hs : St H0 H (rfR r bp bl bc a most out e :: σ)) : ∃ p c, (a ≤ 8 * bl ∧ bl ≤ 1000000000 ∧ out.length ≤ most ∧ most ≤ 1000000000 ∧ ∀ y ∈ out, 0 ≤ y ∧ y < 256) ∧
    St H0 H (.cell r #[.slice bp bl bc, .int .i64 a, .slice p out.length c, .int .i64 most, .int .i64 e] 71 :: .sl p out.length c 5 1 (kints .u8 out) :: σ) := by
  obtain ⟨⟨p, c⟩, hs⟩ := hs.unex
  obtain ⟨h, hs⟩ := hs.fact
  exact ⟨p, c, h, hs.cut⟩
theorem rfR_mk {r bl bc a most c : Nat} {bp p : Option Addr} {out : List Int} {e : Int} (h : a ≤ 8 * bl ∧ bl ≤ 1000000000 ∧ out.length ≤ most ∧ most ≤ 1000000000 ∧ ∀ y ∈ out, 0 ≤ y ∧ y < 256)
    (hs : St H0 H (.cell r #[.slice bp bl bc, .int .i64 a, .slice p out.length c, .int .i64 most, .int .i64 e] 71 :: .sl p out.length c 5 1 (kints .u8 out) :: σ)) : St H0 H (rfR r bp bl bc a most out e :: σ) :=
  St.inex (f := fun (x : Option Addr × Nat) => .pu (a ≤ 8 * bl ∧ bl ≤ 1000000000 ∧ out.length ≤ most ∧ most ≤ 1000000000 ∧ ∀ y ∈ out, 0 ≤ y ∧ y < 256)
    (.star (.cell r #[.slice bp bl bc, .int .i64 a, .slice x.1 out.length x.2, .int .i64 most, .int .i64 e] 71) (.sl x.1 out.length x.2 5 1 (kints .u8 out)))) (p, c) (St.with h hs.cat)
section
variable {r bl bc a most : Nat} {bp : Option Addr} {B out : List Int} {e : Int}
theorem rfR_e (hs : St H0 H (rfR r bp bl bc a most out e :: σ)) : cell H ⟨r, 4, none⟩ = some (.int .i64 e) := by
 obtain ⟨p, c, _, hs⟩ := rfR_op hs
 exact hs.get 0 (j := 4) rfl rfl
theorem rfR_a (hs : St H0 H (rfR r bp bl bc a most out e :: σ)) : a ≤ 8 * bl ∧ bl ≤ 1000000000 := by
 obtain ⟨p, c, h, hs⟩ := rfR_op hs
 exact ⟨h.1, h.2.1⟩
theorem c37 (hs : St H0 H (rfR r bp bl bc a most out e :: σ)) {k : Int} (hR : ∀ H', St H0 H' (rfR r bp bl bc a most out (if e = 0 then k else e) :: σ) → R (.tuple #[]) H') : CallsH Try.prog 37 #[.pointer (some ⟨r, 0, none⟩), .int .i64 k] H R := by
 obtain ⟨p, c, h, hs'⟩ := rfR_op hs
 refine Try.s37 ⟨_, rfl, e, hs'.get 0 (j := 4) rfl rfl, br_eq (fun h0 => ⟨_, rfl, ?_⟩) (fun h0 => ?_)⟩
 ·refine hs'.put 0 (j := 4) rfl (by simp) rfl fun H' hs2 => hR H' (rfR_mk (p := p) (c := c) h ?_)
  rw [if_pos h0]; exact hs2
 ·rw [if_neg h0] at hR; exact hR H hs
theorem c32 (hs : St H0 H (rfR r bp bl bc a most out e :: σ)) (hB : IS H0 bp bl (kints .u8 B)) (hr : ∀ x ∈ B, 0 ≤ x ∧ x < 256) {n : Nat} (hn : n ≤ 24)
    (hbad : 8 * B.length < a + n → ∀ H', St H0 H' (rfR r bp bl bc a most out (if e = 0 then 20 else e) :: σ) → R (.int .i64 0) H')
    (hR : a + n ≤ 8 * B.length → ∀ H', St H0 H' (rfR r bp bl bc (a + n) most out e :: σ) → R (.int .i64 (numB false B a n)) H') : CallsH Try.prog 32 #[.pointer (some ⟨r, 0, none⟩), .int .i64 (n : Nat)] H R := by
  have hBl := hB.length
  obtain ⟨p, c, h, hs'⟩ := rfR_op hs
  refine Try.s32 ?_
  unfold Try.S32
  refine ⟨_, rfl, _, hs'.get 0 (j := 1) rfl rfl, _, rfl, _, _, _, hs'.get 0 (j := 0) rfl rfl, ?_⟩
  rw [wrap_id (n := (a : Int) + n) (by omega) (by omega), wrap_id (n := 8 * (bl : Int)) (by omega) (by omega)]
  refine br_dec (fun hgt => c37 hs fun H8 hs8 => ⟨rfl, hbad (by omega) H8 hs8⟩) (fun hle => ?_)
  intro X9 hX
  have go : ∀ k, k ≤ n → ∀ H1, St H0 H1 (rfR r bp bl bc (a + k) most out e :: σ) → X9 [.int .i64 (numB false B a k), .int .i64 (k : Nat)] H1 := upto fun k hk ih H1 hs1 => by
    refine hX _ _ H1 (br_dec (fun hlt => ?_) (fun hge => ?_))
    · have hlt : k < n := by omega
      obtain ⟨p, c, h, hs'⟩ := rfR_op hs1
      have hg := get_gD B 0 (i := (a + k) / 8) (by omega)
      have hv := hr _ (List.mem_of_getElem? hg)
      have hnr := numB_rng false B a k
      have hp : (2 : Int) ^ k ≤ 2 ^ 24 := pow_le (by omega)
      have e24 : (2 : Int) ^ 24 = 16777216 := by decide
      have hbit : bitB false B (a + k) = B.getD ((a + k) / 8) 0 / 2 ^ ((a + k) % 8) % 2 := rfl
      refine ⟨_, rfl, _, _, _, hs'.get 0 (j := 0) rfl rfl, _, rfl, _, hs'.get 0 (j := 1) rfl rfl, by decide, ?_⟩
      rw [wdiv8 _ (by omega)]
      refine (hB.ext hs'.ext).rd (by omega) (by omega) (by rw [Int.toNat_natCast]; exact hg) ⟨_, rfl, _, hs'.get 0 (j := 1) rfl rfl, by decide, ?_⟩
      rw [tmod8]
      refine ⟨by omega, by decide, by omega, _, rfl, _, hs'.get 0 (j := 1) rfl rfl, _, rfl, ?_⟩
      have hd0 := Int.ediv_nonneg hv.1 (Int.le_of_lt (two_pow_pos ((a + k) % 8)))
      rw [wrap_id (n := B.getD ((a + k) / 8) 0) (by omega) (by omega), shr_of _ (by omega), Int.tmod_eq_emod_of_nonneg hd0, ← hbit]
      have hb01 : 0 ≤ bitB false B (a + k) ∧ bitB false B (a + k) ≤ 1 := by rcases bitB_rng false B (a + k) with h | h <;> omega
      have hb2 : bitB false B (a + k) * 2 ^ k ≤ 1 * 2 ^ k := Int.mul_le_mul_of_nonneg_right hb01.2 (by have := two_pow_pos k; omega)
      have hb3 : 0 ≤ bitB false B (a + k) * 2 ^ k := Int.mul_nonneg hb01.1 (Int.le_of_lt (two_pow_pos k))
      rw [shl_of hb01.1 (by omega) (by omega), wrap_id (n := numB false B a k + _) (by omega) (by omega), wrap_id (n := (((a + k : Nat) : Int)) + 1) (by omega) (by omega), wrap_id (n := (k : Int) + 1) (by omega) (by omega)]
      refine hs'.put 0 rfl (by simp) rfl fun H2 hs2 => ?_
      have hnb : numB false B a (k + 1) = numB false B a k + bitB false B (a + k) * 2 ^ k := by rw [numB, if_neg (by decide)]
      have ih := ih hlt H2 (rfR_mk (p := p) (c := c) ⟨by omega, h.2⟩ hs2)
      rw [hnb] at ih
      exact ih
    · have : k = n := by omega
      subst this
      exact hR (by omega) H1 hs1
  exact go 0 (by omega) H (by rw [Nat.add_zero]; exact hs)
structure CodI (lp cp : Option Addr) (ls : List Int) (H : Heap) : Prop where
 l : IS H lp ls.length (ints ls)
 c : IS H cp ls.length (ints (codesM ls))
abbrev codV (lp cp : Option Addr) (lc cc : Nat) (ls : List Int) (W : Int) (ok : Bool) : Array Value := #[.slice lp ls.length lc, .slice cp ls.length cc, .int .i64 W, .bool ok]
theorem c62 (hs : St H0 H (rfR r bp bl bc a most out 0 :: σ)) (hB : IS H0 bp bl (kints .u8 B)) (hr : ∀ x ∈ B, 0 ≤ x ∧ x < 256) {j lc cc : Nat} {lp cp : Option Addr} {ls : List Int} {W : Int} {okb : Bool} {Q : Heap → Prop} (hj : σ[j]? = some (.pers Q)) (hq : ∀ H, Q H → CodI lp cp ls H) (ok : OkC ls)
    (hbad : ∀ k, k ≠ 0 → symM ls B a = .error k → ∀ H' a', St H0 H' (rfR r bp bl bc a' most out k :: σ) → R (.int .i64 0) H')
    (hR : ∀ s a', symM ls B a = .ok (s, a') → ∀ H', St H0 H' (rfR r bp bl bc a' most out 0 :: σ) → R (.int .i64 (s : Nat)) H') :
    CallsH Try.prog 62 #[.pointer (some ⟨r, 0, none⟩), .agg (codV lp cp lc cc ls W okb)] H R := by
  have hBl := hB.length
  have l300 := ok.w.len
  refine Try.s62 ?_
  unfold Try.S62
  refine hs.alc fun b3 H4 hs4 => ?_
  have hs4 := hs4.swap
  intro X hX
  have loop : ∀ (g n : Nat) (v : Int) (a1 : Nat) (H1 : Heap), n + g = 17 → 0 ≤ v ∧ v < 2 ^ n → symG ls B g n v a1 = symM ls B a → St H0 H1 (rfR r bp bl bc a1 most out 0 :: .cell b3 (codV lp cp lc cc ls W okb) 73 :: σ) → X [.int .i64 v, .int .i64 ((n + 1 : Nat) : Int)] H1 := by
    intro g
    induction g with
    | zero =>
      intro n v a1 H1 hn hv he hs1
      rw [symG] at he
      refine hX _ _ H1 (br_n (by omega) (c37 hs1 fun H2 hs2 => ⟨rfl, ?_⟩))
      rw [if_pos rfl] at hs2
      exact hbad 21 (by decide) he.symm H2 _ (hs2.del 1)
    | succ g ih =>
      intro n v a1 H1 hn hv he hs1
      rw [symG] at he
      have hpn : (2 : Int) ^ n ≤ 2 ^ 17 := pow_le (by omega)
      have e17 : (2 : Int) ^ 17 = 131072 := by decide
      refine hX _ _ H1 (br_y (by omega) (c32 (n := 1) hs1 hB hr (by omega) (fun hb H2 hs2 => ?_) (fun hb H2 hs2 => ?_)))
      · rw [getM_bad hb] at he
        rw [if_pos rfl] at hs2
        exact ⟨_, rfl, _, rfl, _, rfR_e hs2, br_t rfl (hbad 20 (by decide) he.symm H2 _ (hs2.del 1))⟩
      · rw [getM_num hb] at he
        simp only at he
        have hb01 := numB_rng false B a1 1
        generalize numB false B a1 1 = b at *
        have e2 : (2 : Int) ^ 1 = 2 := by decide
        refine ⟨_, rfl, _, rfl, _, rfR_e hs2, br_f rfl ?_⟩
        have hC := hq _ (hs2.persGet (j + 2) (by rw [List.getElem?_cons_succ, List.getElem?_cons_succ]; exact hj))
        have w1 : IntKind.wrap .i64 (IntKind.wrap .i64 (2 * v) + b) = 2 * v + b := by rw [wrap_id (n := 2 * v) (by omega) (by omega), wrap_id (by omega) (by omega)]
        rw [w1]
        have hv2 : 0 ≤ 2 * v + b ∧ 2 * v + b < 2 ^ (n + 1) := by rw [Int.pow_succ]; omega
        refine ⟨_, _, _, hs2.get 1 (j := 0) rfl rfl, _, _, _, hs2.get 1 (j := 1) rfl rfl, ?_⟩
        refine c83 hC.l hC.c (Nat.le_refl _) (by omega) (fun s h1 h2 => ?_) (fun hno => ?_)
        · have hsl := (List.getElem?_eq_some_iff.1 h1).1
          rw [codesM_get hsl] at h2
          rw [findM_eq ok (by omega) h1 (Option.some.inj h2)] at he
          exact ⟨_, rfl, br_y (by omega) (hR s _ he.symm H2 (hs2.del 1))⟩
        · have hfn : findM ls (n + 1) (2 * v + b) = none := by
            cases hf : findM ls (n + 1) (2 * v + b) with
            | none => rfl
            | some s =>
              obtain ⟨h1, h2⟩ := findM_some hf
              exact absurd (by rw [codesM_get (List.getElem?_eq_some_iff.1 h1).1, h2]) (hno s h1)
          rw [hfn] at he
          simp only at he
          refine ⟨_, rfl, br_n (by decide) ⟨_, _, _, hs2.get 1 (j := 0) rfl rfl, _, _, _, hs2.get 1 (j := 1) rfl rfl, ?_⟩⟩
          refine c84 hC.l hC.c (Nat.le_refl _) (by omega) ok.w.rng (by omega) (fun s x y h1 h2 h3 h4 => ?_) (fun hno2 => ?_)
          · have hsl := (List.getElem?_eq_some_iff.1 h1).1
            rw [codesM_get hsl] at h2
            obtain ⟨m, rfl⟩ := Int.eq_ofNat_of_zero_le (show 0 ≤ x by omega)
            have hbg : begM ls (n + 1) (2 * v + b) = true := begM_mk h1 (by omega) (by
              rw [Option.some.inj h2, ← h4]
              congr 2
              omega)
            rw [hbg] at he
            simp only [if_true] at he
            refine ⟨_, rfl, br_f rfl ?_⟩
            rw [wrap_id (n := ((n + 1 : Nat) : Int) + 1) (by omega) (by omega)]
            exact ih (n + 1) _ _ H2 (by omega) hv2 he hs2
          · have hbg : begM ls (n + 1) (2 * v + b) = false := by
              cases hbg : begM ls (n + 1) (2 * v + b) with
              | false => rfl
              | true =>
                obtain ⟨s, m, h1, h2, h3⟩ := begM_true ok.w.rng hbg
                exact absurd (by rw [← h3]; congr 2; omega) (hno2 s m _ h1 (codesM_get (List.getElem?_eq_some_iff.1 h1).1) (by omega))
            rw [hbg] at he
            simp only [Bool.false_eq_true, if_false] at he
            refine ⟨_, rfl, br_t rfl (c37 hs2 fun H3 hs3 => ⟨rfl, ?_⟩)⟩
            rw [if_pos rfl] at hs3
            exact hbad 21 (by decide) he.symm H3 _ (hs3.del 1)
  exact loop 17 0 0 a H4 (by omega) (by decide) rfl hs4
theorem c63 (hs : St H0 H (rfR r bp bl bc a most out 0 :: σ)) (hB : IS H0 bp bl (kints .u8 B)) (hr : ∀ x ∈ B, 0 ≤ x ∧ x < 256) {j lc cc : Nat} {lp cp : Option Addr} {dl : List Int} {W : Int} {okb : Bool} {Q : Heap → Prop} (hj : σ[j]? = some (.pers Q)) (hq : ∀ H, Q H → CodI lp cp dl H) (ok : OkC dl) {s : Nat} (hs257 : 257 ≤ s ∧ s ≤ 1000)
    (hbad : ∀ k, k ≠ 0 → copiesM B most dl s a out = .error k → ∀ H' a', St H0 H' (rfR r bp bl bc a' most out k :: σ) → R (.tuple #[]) H')
    (hR : ∀ a' out', copiesM B most dl s a out = .ok (a', out') → ∀ H', St H0 H' (rfR r bp bl bc a' most out' 0 :: σ) → R (.tuple #[]) H') :
    CallsH Try.prog 63 #[.pointer (some ⟨r, 0, none⟩), .int .i64 (s : Nat), .agg (codV lp cp lc cc dl W okb)] H R := by
  have l300 := ok.w.len
  have key : copiesM B most dl s a out = copiesM B most dl s a out := rfl
  conv at key => lhs; unfold copiesM
  refine Try.s63 (hs.alc fun b4 H5 hs5 => ?_)
  have hs5 := hs5.swap
  have hj' : ∀ {x : Rs}, (x :: σ)[j + 1]? = some (.pers Q) := fun {x} => by rw [List.getElem?_cons_succ]; exact hj
  refine br_dec (fun h => c37 hs5 fun H1 hs => ⟨rfl, ?_⟩) (fun h => ?_)
  · rw [if_pos (by omega)] at key
    exact hbad 25 (by decide) key.symm H1 _ (hs.del 1)
  rw [if_neg (by omega)] at key
  have hb := lenB_le (s := s) (by omega)
  refine c85 (by omega) ⟨_, _, rfl, c32 hs5 hB hr (by omega) (fun hlt H1 hs => ?_) (fun hle H1 hs => ?_)⟩
  · rw [getM_bad hlt] at key
    rw [if_pos rfl] at hs
    exact ⟨_, rfl, _, rfl, _, rfR_e hs, br_t rfl (hbad 20 (by decide) key.symm H1 _ (hs.del 1))⟩
  rw [getM_num hle] at key
  have hx := numB_rng false B a (lenB s).2
  have hx2 : (2 : Int) ^ (lenB s).2 ≤ 2 ^ 5 := pow_le hb.1
  generalize numB false B a (lenB s).2 = x at *
  simp only at key
  refine ⟨_, rfl, _, rfl, _, rfR_e hs, br_f rfl ⟨_, rfl, rowIn_whole (hs.block 1 rfl), ?_⟩⟩
  refine c62 hs hB hr hj' hq ok (fun k hk hsy H2 a2 hs => ?_) (fun t a2 hsy H2 hs => ?_)
  · rw [hsy] at key
    exact ⟨_, rfl, _, rfl, _, rfR_e hs, br_ne (fun _ => hbad k hk key.symm H2 _ (hs.del 1)) (fun h => absurd h hk)⟩
  rw [hsy] at key
  simp only at key
  have hadv := symM_adv hsy
  refine ⟨_, rfl, _, rfl, _, rfR_e hs, br_f rfl (br_dec (fun h29 => c37 hs fun H3 hs => ⟨rfl, ?_⟩) (fun h29 => ?_))⟩
  · rw [if_pos (by omega)] at key
    exact hbad 25 (by decide) key.symm H3 _ (hs.del 1)
  rw [if_neg (by omega)] at key
  have hd := dstB_le (s := t) (by omega)
  refine c86 (by omega) ⟨_, _, rfl, c32 hs hB hr (by omega) (fun hlt H3 hs => ?_) (fun hle H3 hs => ?_)⟩
  · rw [getM_bad hlt] at key
    rw [if_pos rfl] at hs
    exact ⟨_, rfl, _, rfl, _, rfR_e hs, br_t rfl (hbad 20 (by decide) key.symm H3 _ (hs.del 1))⟩
  rw [getM_num hle] at key
  have hy := numB_rng false B a2 (dstB t).2
  have hy2 : (2 : Int) ^ (dstB t).2 ≤ 2 ^ 13 := pow_le hd.1
  generalize numB false B a2 (dstB t).2 = y at *
  simp only at key
  obtain ⟨p, c, hh, hs'⟩ := rfR_op hs
  have e5 : (2 : Int) ^ 5 = 32 := by decide
  have e13 : (2 : Int) ^ 13 = 8192 := by decide
  have w1 : IntKind.wrap .i64 ((((dstB t).1 : Nat) : Int) + y) = ((dstB t).1 : Nat) + y := wrap_id (by omega) (by omega)
  have w2 : IntKind.wrap .i64 ((((lenB s).1 : Nat) : Int) + x) = ((lenB s).1 : Nat) + x := wrap_id (by omega) (by omega)
  refine ⟨_, rfl, _, rfl, _, rfR_e hs, br_f rfl ⟨_, rfl, _, _, _, hs'.get 0 (j := 2) rfl rfl, ?_⟩⟩
  rw [w1, w2]
  refine br_dec (fun hgt => c37 hs fun H4 hs => ⟨rfl, ?_⟩) (fun hgt => ⟨_, rfl, _, _, _, hs'.get 0 (j := 2) rfl rfl, _, rfl, _, hs'.get 0 (j := 3) rfl rfl, ?_⟩)
  · rw [if_pos hgt] at key
    exact hbad 22 (by decide) key.symm H4 _ (hs.del 1)
  rw [if_neg hgt] at key
  rw [wrap_id (n := ((out.length : Nat) : Int) + _) (by omega) (by omega)]
  refine br_dec (fun hg2 => c37 hs fun H4 hs => ⟨rfl, ?_⟩) (fun hg2 => ?_)
  · rw [if_pos (by omega)] at key
    exact hbad 24 (by decide) key.symm H4 _ (hs.del 1)
  rw [if_neg (by omega)] at key
  have hR := hR _ _ key.symm
  clear key hbad w1 w2 hs' p c
  obtain ⟨D, hD⟩ := Int.eq_ofNat_of_zero_le (show 0 ≤ (((dstB t).1 : Nat) : Int) + y by omega)
  obtain ⟨N, hN⟩ := Int.eq_ofNat_of_zero_le (show 0 ≤ (((lenB s).1 : Nat) : Int) + x by omega)
  rw [show (dstB t).1 + y.toNat = D from by omega, show (lenB s).1 + x.toNat = N from by omega] at hR
  rw [hD, hN]
  intro X hX
  have loop : ∀ (m k : Nat) (out1 : List Int) (H4 : Heap), k + m = N → out1.length = out.length + k → copyM D m out1 = copyM D N out → St H0 H4 (rfR r bp bl bc (a2 + (dstB t).2) most out1 0 :: .cell b4 (codV lp cp lc cc dl W okb) 73 :: σ) → X [.int .i64 k] H4 := by
    intro m
    induction m with
    | zero =>
      intro k out1 H4 hk hl hc hs
      refine hX _ H4 (br_n (by omega) (hR H4 ?_))
      rw [← hc]; exact hs.del 1
    | succ m ih =>
      intro k out1 H4 hk hl hc hs
      obtain ⟨p, c, hh, hs'⟩ := rfR_op hs
      have w1 : IntKind.wrap .i64 (((out1.length : Nat) : Int) - (D : Int)) = ((out1.length - D : Nat) : Int) := by rw [wrap_id (by omega) (by omega)]; omega
      have wk : IntKind.wrap .i64 ((k : Int) + 1) = ((k + 1 : Nat) : Int) := by rw [wrap_id (by omega) (by omega)]; omega
      refine hX _ H4 (br_y (by omega) ⟨_, rfl, _, _, _, hs'.get 0 (j := 2) rfl rfl, _, rfl, _, _, _, hs'.get 0 (j := 2) rfl rfl, _, rfl, _, _, _, hs'.get 0 (j := 2) rfl rfl, ?_⟩)
      rw [w1, wk]
      have hv := get_gD out1 0 (i := out1.length - D) (by omega)
      have hvr := hh.2.2.2.2 _ (List.mem_of_getElem? hv)
      rw [copyM] at hc
      generalize out1.getD (out1.length - D) 0 = v at hv hvr hc
      refine (hs'.is 1 rfl).rd (by omega) (by omega) (by rw [Int.toNat_natCast]; exact hv) ?_
      refine hs'.alcE fun b H5 he hs5 => ⟨.inl he, ?_⟩
      refine hs5.appC 2 0 (el := 5) (k := 1) rfl rfl rfl (one1 rfl) (by decide) rfl (by omega) (by omega) fun p' c' H6 hs6 => ⟨_, rfl, ?_⟩
      refine hs6.put 1 (j := 2) rfl (by simp) rfl fun H7 hs7 => ?_
      refine ih (k + 1) (out1 ++ [v]) H7 (by omega) (by simp; omega) hc ?_
      refine rfR_mk (p := p') (c := c') ⟨hh.1, hh.2.1, by simp; omega, hh.2.2.2.1, fun z hz => ?_⟩ ?_
      · rcases List.mem_append.1 hz with hz | hz
        · exact hh.2.2.2.2 z hz
        · rw [List.mem_singleton.1 hz]; exact hvr
      · rw [kints_append, List.length_append, List.length_singleton]
        exact hs7.tail
  exact loop N 0 out H3 (by omega) (by omega) rfl hs
theorem rsymbols_e (hs : St H0 H (rfR r bp bl bc a most out e :: σ)) (he : e ≠ 0) {v1 v2 : Array Value} (hR : ∀ H', St H0 H' (rfR r bp bl bc a most out e :: σ) → R (.tuple #[]) H') :
    CallsH Try.prog 35 #[.pointer (some ⟨r, 0, none⟩), .agg v1, .agg v2] H R := by
  refine Try.s35 ?_
  unfold Try.S35
  refine hs.alc fun b4 H5 hs5 => hs5.alc fun b6 H7 hs7 => ?_
  intro X hX
  have hs7 := hs7.front 2 rfl
  exact hX H7 ⟨_, rfl, _, rfR_e hs7, br_eq (fun h => absurd h he) (fun _ => hR H7 ((hs7.del 1).del 1))⟩
theorem c35 (hs : St H0 H (rfR r bp bl bc a most out 0 :: σ)) (hB : IS H0 bp bl (kints .u8 B)) (hr : ∀ x ∈ B, 0 ≤ x ∧ x < 256) {j1 j2 lc1 cc1 lc2 cc2 : Nat} {lp1 cp1 lp2 cp2 : Option Addr} {ll dl : List Int} {W1 W2 : Int} {ok1 ok2 : Bool}
    {Q1 Q2 : Heap → Prop} (hj1 : σ[j1]? = some (.pers Q1)) (hq1 : ∀ H, Q1 H → CodI lp1 cp1 ll H) (hj2 : σ[j2]? = some (.pers Q2)) (hq2 : ∀ H, Q2 H → CodI lp2 cp2 dl H) (okl : OkC ll) (okd : OkC dl)
    (hbad : ∀ k, k ≠ 0 → symbolsM B most ll dl a out = .error k → ∀ H' a' out', St H0 H' (rfR r bp bl bc a' most out' k :: σ) → R (.tuple #[]) H')
    (hR : ∀ a' out', symbolsM B most ll dl a out = .ok (a', out') → ∀ H', St H0 H' (rfR r bp bl bc a' most out' 0 :: σ) → R (.tuple #[]) H') :
    CallsH Try.prog 35 #[.pointer (some ⟨r, 0, none⟩), .agg (codV lp1 cp1 lc1 cc1 ll W1 ok1), .agg (codV lp2 cp2 lc2 cc2 dl W2 ok2)] H R := by
  have l300 := okl.w.len
  have hBl := hB.length
  refine Try.s35 ?_
  unfold Try.S35
  refine hs.alc fun b4 H5 hs5 => hs5.alc fun b6 H7 hs7 => ?_
  have hs7 := hs7.front 2 rfl
  simp only [List.eraseIdx] at hs7
  have hj1' : ∀ {x y : Rs}, (x :: y :: σ)[j1 + 2]? = some (.pers Q1) := fun {x y} => by rw [List.getElem?_cons_succ, List.getElem?_cons_succ]; exact hj1
  have hj2' : ∀ {x y : Rs}, (x :: y :: σ)[j2 + 2]? = some (.pers Q2) := fun {x y} => by rw [List.getElem?_cons_succ, List.getElem?_cons_succ]; exact hj2
  intro X hX
  have bad : ∀ k, k ≠ 0 → symbolsM B most ll dl a out = .error k → ∀ H' a' out', St H0 H' (rfR r bp bl bc a' most out' k :: .cell b6 (codV lp2 cp2 lc2 cc2 dl W2 ok2) 73 :: .cell b4 (codV lp1 cp1 lc1 cc1 ll W1 ok1) 73 :: σ) → X [] H' := fun k hk he H' a' out' hs =>
    hX H' ⟨_, rfl, _, rfR_e hs, br_eq (fun h => absurd h hk) (fun _ => hbad k hk he H' a' out' ((hs.del 1).del 1))⟩
  unfold symbolsM at bad hbad hR
  generalize hT : symsM B most ll dl (8 * B.length + 1) a out = T at bad hbad hR
  have loop : ∀ (g a1 : Nat) (out1 : List Int) (H1 : Heap), 8 * B.length < a1 + g → symsM B most ll dl g a1 out1 = T → St H0 H1 (rfR r bp bl bc a1 most out1 0 :: .cell b6 (codV lp2 cp2 lc2 cc2 dl W2 ok2) 73 :: .cell b4 (codV lp1 cp1 lc1 cc1 ll W1 ok1) 73 :: σ) → X [] H1 := by
    intro g
    induction g with
    | zero =>
      intro a1 out1 H1 hg he hs1
      have := rfR_a hs1; omega
    | succ g ih =>
      intro a1 out1 H1 hg he hs1
      rw [symsM] at he
      refine hX H1 ⟨_, rfl, _, rfR_e hs1, br_t rfl ⟨_, rfl, rowIn_whole (hs1.block 2 rfl), c62 hs1 hB hr hj1' hq1 okl (fun k hk hsy H2 a2 hs2 => ?_) (fun s a2 hsy H2 hs2 => ?_)⟩⟩
      · rw [hsy] at he
        refine ⟨_, rfl, ?_⟩
        intro J hJ
        exact ⟨_, rfl, _, rfR_e hs2, br_ne (fun _ => hbad k hk he.symm H2 a2 out1 ((hs2.del 1).del 1)) (fun h => absurd h hk)⟩
      · obtain ⟨ha1, ha2, hsl⟩ := symM_adv hsy
        rw [hsy] at he
        simp only at he
        refine ⟨_, rfl, ?_⟩
        intro J hJ
        refine ⟨_, rfl, _, rfR_e hs2, br_f rfl (br_eq (fun h256 => ?_) (fun h256 => hJ H2 (br_dec (fun hgt => ?_) (fun hle => ?_))))⟩
        · rw [if_pos (by omega)] at he
          exact hR _ _ he.symm H2 ((hs2.del 1).del 1)
        · rw [if_neg (by omega), if_pos (by omega)] at he
          refine ⟨_, rfl, rowIn_whole (hs2.block 1 rfl), c63 hs2 hB hr hj2' hq2 okd (by omega) (fun k hk hc H3 a3 hs3 => ⟨rfl, ?_⟩) (fun a3 out3 hc H3 hs3 => ⟨rfl, ?_⟩)⟩
          · rw [hc] at he
            exact bad k hk he.symm H3 a3 out1 hs3
          · rw [hc] at he
            have := copiesM_adv hc
            exact ih a3 out3 H3 (by omega) he hs3
        · rw [if_neg (by omega), if_neg (by omega)] at he
          obtain ⟨p, c, hh, hs'⟩ := rfR_op hs2
          refine ⟨_, rfl, _, _, _, hs'.get 0 (j := 2) rfl rfl, _, rfl, _, hs'.get 0 (j := 3) rfl rfl, ?_⟩
          rw [wrap_id (n := ((out1.length : Nat) : Int) + 1) (by omega) (by omega)]
          refine br_dec (fun hge => c37 hs2 fun H3 hs3 => ⟨rfl, ?_⟩) (fun hlt => ⟨_, rfl, _, _, _, hs'.get 0 (j := 2) rfl rfl, ?_⟩)
          · rw [if_pos (by omega)] at he
            rw [if_pos rfl] at hs3
            exact hbad 24 (by decide) he.symm H3 _ _ ((hs3.del 1).del 1)
          · rw [if_neg (by omega)] at he
            rw [wrap_u8 (by omega) (by omega)]
            refine hs'.alc fun b H5 hs5 => ?_
            refine hs5.appC 2 0 (el := 5) (k := 1) rfl rfl rfl (one1 rfl) (by decide) rfl (by omega) (by omega) fun p' c' H6 hs6 => ⟨_, rfl, ?_⟩
            refine hs6.put 1 (j := 2) rfl (by simp) rfl fun H7 hs7 => ?_
            refine ih a2 (out1 ++ [(s : Int)]) H7 (by omega) he ?_
            refine rfR_mk (p := p') (c := c') ⟨hh.1, hh.2.1, by simp; omega, hh.2.2.2.1, fun z hz => ?_⟩ ?_
            · rcases List.mem_append.1 hz with hz | hz
              · exact hh.2.2.2.2 z hz
              · rw [List.mem_singleton.1 hz]; omega
            · rw [kints_append, List.length_append, List.length_singleton]
              exact hs7.tail
  exact loop _ a out H7 (by omega) hT hs7
theorem and_all (n : Fin 65536) : n.val &&& (65535 - n.val) = 0 := by
 have hx := xor_all n
 rw [← hx]
 apply Nat.eq_of_testBit_eq
 intro i
 rw [Nat.testBit_and, Nat.testBit_xor, Nat.zero_testBit]
 by_cases hi : i < 16
 ·rw [show (65535 : Nat) = 2 ^ 16 - 1 from rfl, Nat.testBit_two_pow_sub_one]
  simp [hi]
 ·have : n.val.testBit i = false := Nat.testBit_lt_two_pow (Nat.lt_of_lt_of_le n.isLt (Nat.pow_le_pow_right (n := 2) (by omega) (show 16 ≤ i by omega)))
  simp [this]
theorem and_ffff {n m : Int} (hn : 0 ≤ n ∧ n < 65536) (h : m = 65535 - n) : andI .i64 n m = 0 := by
 obtain ⟨x, rfl⟩ := Int.eq_ofNat_of_zero_le hn.1
 obtain ⟨y, hy⟩ := Int.eq_ofNat_of_zero_le (show 0 ≤ m by omega)
 subst hy
 have e64 : (2 : Int) ^ 64 = 18446744073709551616 := by decide
 unfold andI
 rw [show IntKind.bits .i64 = 64 from rfl, BitVec.toNat_and, ofInt_nat (by omega) (by omega), ofInt_nat (by omega) (by omega), Int.toNat_natCast, Int.toNat_natCast]
 have := and_all ⟨x, by omega⟩
 simp only at this
 rw [show y = 65535 - x from by omega, this]
 rfl
theorem c33 (hs : St H0 H (rfR r bp bl bc a most out 0 :: σ)) (hB : IS H0 bp bl (kints .u8 B)) (hr : ∀ x ∈ B, 0 ≤ x ∧ x < 256)
    (hbad : ∀ k, k ≠ 0 → storedM B most a out = .error k → ∀ H' a' out', St H0 H' (rfR r bp bl bc a' most out' k :: σ) → R (.tuple #[]) H')
    (hR : ∀ a' out', storedM B most a out = .ok (a', out') → ∀ H', St H0 H' (rfR r bp bl bc a' most out' 0 :: σ) → R (.tuple #[]) H') :
    CallsH Try.prog 33 #[.pointer (some ⟨r, 0, none⟩)] H R := by
  have key : storedM B most a out = storedM B most a out := rfl
  conv at key => lhs; unfold storedM
  have hBl := hB.length
  obtain ⟨p, c, hh, hs'⟩ := rfR_op hs
  have e16 : (2 : Int) ^ 16 = 65536 := by decide
  refine Try.s33 ⟨_, rfl, _, hs'.get 0 (j := 1) rfl rfl, by decide, _, rfl, ?_⟩
  rw [wrap_id (n := (a : Int) + 7) (by omega) (by omega), show (a : Int) + 7 = ((a + 7 : Nat) : Int) from rfl, wdiv8 _ (by omega), wrap_id (by omega) (by omega), show (((a + 7) / 8 : Nat) : Int) * 8 = (((a + 7) / 8 * 8 : Nat) : Int) from by omega]
  refine hs'.put 0 rfl (by simp) rfl fun H1 hs1 => ?_
  have hs1 : St H0 H1 (rfR r bp bl bc ((a + 7) / 8 * 8) most out 0 :: σ) := rfR_mk (p := p) (c := c) ⟨by omega, hh.2⟩ hs1
  clear hs'
  generalize (a + 7) / 8 * 8 = a1 at *
  have bad0 : ∀ {H2 a2 out2}, storedM B most a out = .error 20 → St H0 H2 (rfR r bp bl bc a2 most out2 20 :: σ) → R (.tuple #[]) H2 := fun h hs => hbad 20 (by decide) h _ _ _ hs
  refine c32 (n := 16) hs1 hB hr (by omega) (fun hlt H2 hs2 => ⟨_, rfl, ?_⟩) (fun hle H2 hs2 => ⟨_, rfl, ?_⟩)
  · rw [getM_bad (n := 16) hlt] at key
    rw [if_pos rfl] at hs2
    refine c32 (n := 16) hs2 hB hr (by omega) (fun hlt H3 hs3 => ⟨_, rfl, ?_⟩) (fun hle H3 hs3 => ⟨_, rfl, ?_⟩)
    · rw [if_neg (by decide)] at hs3
      exact ⟨_, rfl, _, rfR_e hs3, br_t rfl (bad0 key.symm hs3)⟩
    · exact ⟨_, rfl, _, rfR_e hs3, br_t rfl (bad0 key.symm hs3)⟩
  rw [getM_num (n := 16) hle] at key
  simp only at key
  have hn := numB_rng false B a1 16
  refine c32 (n := 16) hs2 hB hr (by omega) (fun hlt H3 hs3 => ⟨_, rfl, ?_⟩) (fun hle2 H3 hs3 => ⟨_, rfl, ?_⟩)
  · rw [getM_bad (n := 16) hlt] at key
    rw [if_pos rfl] at hs3
    exact ⟨_, rfl, _, rfR_e hs3, br_t rfl (bad0 key.symm hs3)⟩
  rw [getM_num (n := 16) hle2] at key
  simp only at key
  have hm := numB_rng false B (a1 + 16) 16
  generalize numB false B a1 16 = n at *
  generalize numB false B (a1 + 16) 16 = m at *
  refine ⟨_, rfl, _, rfR_e hs3, br_f rfl ?_⟩
  rw [wrap_id (n := n + m) (by omega) (by omega)]
  intro J14 hJ14
  have go : m = 65535 - n → J14 [] H3 := fun hmn => by
    rw [if_neg (fun h => h hmn)] at key
    refine hJ14 H3 ?_
    obtain ⟨p, c, hh, hs3'⟩ := rfR_op hs3
    refine ⟨_, rfl, _, _, _, hs3'.get 0 (j := 2) rfl rfl, _, rfl, _, hs3'.get 0 (j := 3) rfl rfl, ?_⟩
    rw [wrap_id (n := ((out.length : Nat) : Int) + n) (by omega) (by omega)]
    refine br_dec (fun hgt => c37 hs3 fun H4 hs4 => ⟨rfl, ?_⟩) (fun hle3 => ?_)
    · rw [if_pos (by omega)] at key
      exact hbad 24 (by decide) key.symm H4 _ _ hs4
    rw [if_neg (by omega)] at key
    obtain ⟨N, rfl⟩ := Int.eq_ofNat_of_zero_le hn.1
    rw [Int.toNat_natCast] at key
    intro X hX
    have loop : ∀ (g k a2 : Nat) (out2 : List Int) (H4 : Heap), k + g = N → out2.length = out.length + k → bytesM B g a2 out2 = storedM B most a out → St H0 H4 (rfR r bp bl bc a2 most out2 0 :: σ) → X [.int .i64 k] H4 := by
      intro g
      induction g with
      | zero =>
        intro k a2 out2 H4 hk hl hb hs4
        rw [bytesM] at hb
        exact hX _ H4 (br_n (by omega) (hR _ _ hb.symm H4 hs4))
      | succ g ih =>
        intro k a2 out2 H4 hk hl hb hs4
        have wk : IntKind.wrap .i64 ((k : Int) + 1) = ((k + 1 : Nat) : Int) := by rw [wrap_id (by omega) (by omega)]; omega
        refine hX _ H4 (br_y (by omega) (c32 (n := 8) hs4 hB hr (by omega) (fun hlt H5 hs5 => ⟨_, rfl, ?_⟩) (fun hle H5 hs5 => ⟨_, rfl, ?_⟩)))
        · rw [bytesM, getM_bad (n := 8) hlt] at hb
          rw [if_pos rfl] at hs5
          exact ⟨_, rfl, _, rfR_e hs5, br_t rfl (bad0 hb.symm hs5)⟩
        · rw [bytesM, getM_num (n := 8) hle] at hb
          simp only at hb
          have hv := numB_rng false B a2 8
          generalize numB false B a2 8 = v at *
          rw [show (2 : Int) ^ 8 = 256 from by decide] at hv
          obtain ⟨p, c, hh, hs5'⟩ := rfR_op hs5
          refine ⟨_, rfl, _, rfR_e hs5, br_f rfl ⟨_, rfl, _, _, _, hs5'.get 0 (j := 2) rfl rfl, ?_⟩⟩
          rw [wrap_u8 (by omega) (by omega), wk]
          refine hs5'.alc fun b H6 hs6 => ?_
          refine hs6.appC 2 0 (el := 5) (k := 1) rfl rfl rfl (one1 rfl) (by decide) rfl (by omega) (by omega) fun p' c' H7 hs7 => ⟨_, rfl, ?_⟩
          refine hs7.put 1 (j := 2) rfl (by simp) rfl fun H8 hs8 => ?_
          refine ih (k + 1) (a2 + 8) (out2 ++ [v]) H8 (by omega) (by simp; omega) hb ?_
          refine rfR_mk (p := p') (c := c') ⟨hh.1, hh.2.1, by simp; omega, hh.2.2.2.1, fun z hz => ?_⟩ ?_
          · rcases List.mem_append.1 hz with hz | hz
            · exact hh.2.2.2.2 z hz
            · rw [List.mem_singleton.1 hz]; omega
          · rw [kints_append, List.length_append, List.length_singleton]
            exact hs8.tail
    exact loop N 0 _ out H3 (by omega) (by omega) key hs3
  have bad25 : m ≠ 65535 - n → CallsH Try.prog 37 #[.pointer (some ⟨r, 0, none⟩), .int .i64 25] H3 (fun q H' => q = .tuple #[] ∧ R (.tuple #[]) H') := fun hne => by
    rw [if_pos hne] at key
    exact c37 hs3 fun H4 hs4 => ⟨rfl, hbad 25 (by decide) key.symm H4 _ _ hs4⟩
  refine br_ne (fun hne => bad25 (by omega)) (fun heq => br_ne (fun hne => ?_) (fun _ => go (by omega)))
  exact absurd (and_ffff (by omega) (by omega)) hne
end
end Go.Proofs
namespace Go.Proofs
open Go.Sh
variable {H0 H : Heap} {σ : List Rs} {R : Value → Heap → Prop}
theorem firstM_snoc {B : List Int} : ∀ (l : List Nat) (s at_ : Nat) (fs : List Int), firstM B (l ++ [s]) at_ fs = match firstM B l at_ fs with
    | .error e => .error e
    | .ok (a, gs) => match getM B 3 a with
      | .error e => .error e
      | .ok (v, a1) => .ok (a1, gs.set s v)
  | [], s, at_, fs => by
    rw [List.nil_append, firstM]
    simp only [firstM]
    cases getM B 3 at_ with
    | error e => rfl
    | ok x => rfl
  | t :: l, s, at_, fs => by
    rw [List.cons_append, firstM, firstM]
    cases h : getM B 3 at_ with
    | error e => rfl
    | ok x => exact firstM_snoc l s _ _
theorem ordL_lt : ∀ k : Fin 19, ordL.getD k.val 0 < 19 := by decide +kernel
theorem ordI_get {k : Nat} (h : k < 19) : (ordL.map Int.ofNat)[k]? = some ((ordL.getD k 0 : Nat) : Int) := by
 rw [List.getElem?_map, get_gD ordL 0 (by show k < 19; exact h)]; rfl
theorem ordL_take {n k : Nat} (h : k < n) (hn : n ≤ 19) : (ordL.take n).take (k + 1) = (ordL.take n).take k ++ [ordL.getD k 0] := by
 rw [List.take_take, List.take_take, Nat.min_eq_left (by omega), Nat.min_eq_left (by omega), List.take_add_one, get_gD ordL 0 (by show k < 19; omega)]; rfl
theorem pow_e {n : Nat} {d : Int} (h : (2 : Int) ^ n = d) {B : List Int} {a : Nat} : 0 ≤ numB false B a n ∧ numB false B a n < d := by rw [← h]; exact numB_rng false B a n
theorem firstM_len {B : List Int} : ∀ (l : List Nat) {a a' : Nat} {fs gs : List Int}, firstM B l a fs = .ok (a', gs) → gs.length = fs.length ∧ a ≤ a'
 | [], a, a', fs, gs, h => by cases h; exact ⟨rfl, Nat.le_refl _⟩
 | s :: l, a, a', fs, gs, h => by
  rw [firstM] at h
  cases hg : getM B 3 a with
  | error e => rw [hg] at h; cases h
  | ok x =>
   obtain ⟨v, a1⟩ := x
   rw [hg] at h
   obtain ⟨h1, h2⟩ := firstM_len l h
   rw [List.length_set] at h1
   exact ⟨h1, Nat.le_trans (getM_adv hg) h2⟩
theorem last_get {ls : List Int} {v : Int} (h : ls.getLast? = some v) : ls[ls.length - 1]? = some v := by rw [← List.getLast?_eq_getElem?]; exact h
end Go.Proofs
namespace Go.Proofs
open Go.Sh
variable {H0 H : Heap} {σ : List Rs} {R : Value → Heap → Prop}
theorem rmake {p : Option Addr} {l c : Nat} {ls : List Int} (h : IS H p l (ints ls))
    (hbad : ¬ OkC ls → ∀ W H', Ext H H' → R (.agg #[.slice p l c, .slice none 0 0, .int .i64 W, .bool false]) H')
    (hgood : OkC ls → ∀ b H', St H H' [.sl (some ⟨b, 0, none⟩) l l 3 1 (ints (codesM ls))] → R (.agg #[.slice p l c, .slice (some ⟨b, 0, none⟩) l l, .int .i64 (wtM ls), .bool true]) H') :
    CallsH Try.prog 61 #[.slice p l c] H R := by
  by_cases ok : OkC ls
  · exact c61 h ok (hgood ok)
  refine Try.s61 ?_
  unfold Try.S61
  refine (St.nil H).alc fun b2 H1 hs1 => ?_
  have go : ∀ W y, ∃ r6 r7, Value.tuple #[.int .i64 W, .bool y] = .tuple #[.int .i64 r6, .bool r7] ∧ Try.C 82 #[.slice p l c] H1 fun r8 H9 => ∃ r10p r10l r10c r11, r8 = .tuple #[.slice r10p r10l r10c, .bool r11] ∧ #[Value.slice p l c, Value.slice r10p r10l r10c, Value.int .i64 r6, Value.bool r11].size = 4 ∧ stAt H9 ⟨b2, 0, none⟩ (Array.toList #[.slice p l c, .slice r10p r10l r10c, .int .i64 r6, .bool r11]) fun H12 => ∃ re13, re13.size = 4 ∧ rowIn H12 ⟨b2, 0, none⟩ re13 ∧ R (.agg re13) H12 := fun W y => by
    refine ⟨_, _, rfl, c82 (h.ext hs1.ext) (fun hn => ⟨_, _, _, _, rfl, rfl, ?_⟩) (fun hy => absurd hy ok)⟩
    refine hs1.putAll 0 rfl (by simp) (by simp [Value.oneCell']) fun H3 hs3 => ?_
    exact ⟨_, rfl, rowIn_whole (hs3.block 0 rfl), hbad hn W H3 hs3.ext⟩
  exact c81 (h.ext hs1.ext) (fun _ => go _ _) (fun _ => go _ _)
theorem c87 {p : Option Addr} {l c : Nat} {ls : List Int} (h : IS H p l (ints ls)) (hl : l ≤ 1000000) (hR : R (.int .i64 (ls.countP (fun x => decide (x > 0)) : Nat)) H) : CallsH Try.prog 87 #[.slice p l c] H R := by
 have h' : IS H p l (kints .i64 ls) := h
 have e := h'.length
 refine Try.s87 ?_
 intro X hX
 have go : ∀ k, k ≤ l → X [.int .i64 ((ls.take k).countP (fun x => decide (x > 0)) : Nat), .int .i64 (k : Nat)] H := upto fun k hk ih => by
  have hc : (ls.take k).countP (fun x => decide (x > 0)) ≤ (ls.take k).length := List.countP_le_length
  rw [List.length_take] at hc
  refine hX _ _ H (br_dec (fun hlt => ?_) (fun hge => ?_))
  ·have ih := ih (by omega)
   rw [countP_take (by omega)] at ih
   refine h'.rd (by omega) (by omega) (by rw [Int.toNat_natCast]; exact get_gD ls 0 (by omega)) ?_
   rw [wrap_id (by omega) (by omega), wrap_id (by omega) (by omega)]
   refine br_dec (fun hp => ?_) (fun hp => ?_)
   ·rw [if_pos hp] at ih; exact ih
   ·rw [if_neg hp] at ih; exact ih
  ·have : k = l := by omega
   subst this
   rw [List.take_of_length_le (by omega)]
   exact hR
 exact go 0 (by omega)
theorem rright_ok {p cp : Option Addr} {l c cl cc : Nat} {ls : List Int} {s n : Bool} (h : IS H p l (ints ls)) (ok : OkC ls) (hl : l ≤ 1000000) (hR : ∀ H', Ext H H' → R (.bool (rightM ls s n)) H') :
    CallsH Try.prog 64 #[.agg #[.slice p l c, .slice cp cl cc, .int .i64 (wtM ls), .bool true], .bool s, .bool n] H R := by
  have hrm := rightM_of ok s n
  refine Try.s64 ((St.nil H).alc fun b4 H5 hs5 => ?_)
  have hR := hR H5 hs5.ext
  have gW : Sh.cell H5 ⟨b4, 2, none⟩ = some (.int .i64 (wtM ls)) := hs5.get 0 (j := 2) rfl rfl
  refine ⟨_, hs5.get 0 (j := 3) rfl rfl, br_f rfl ⟨_, gW, br_eq (fun hw => ?_) (fun hw => ?_)⟩⟩
  · rw [hrm, hw] at hR; exact hR
  have e1 : (wtM ls == 65536) = false := by simpa using hw
  rw [e1, Bool.false_or] at hrm
  have last : (s && wtM ls == 32768 && ls.countP (fun x => decide (x > 0)) == 1) = false → br n (∃ W13, Sh.cell H5 (Addr.add ⟨b4, 0, none⟩ 2) = some (.int .i64 W13) ∧ R (.bool (W13 == 0)) H5) (R (.bool false) H5) := fun hz => by
    rw [hz, Bool.false_or] at hrm
    refine br_i (fun hn => ⟨_, gW, ?_⟩) (fun hn => ?_)
    · rw [hrm, hn] at hR; exact hR
    · rw [hrm, hn] at hR; exact hR
  refine br_i (fun hsg => ⟨_, gW, br_i (fun h3 => ⟨_, _, _, hs5.get 0 (j := 0) rfl rfl, ?_⟩) (fun h3 => last ?_)⟩) (fun hsg => last ?_)
  · refine c87 (h.ext hs5.ext) hl ⟨_, rfl, ?_⟩
    have hc1 : (((ls.countP (fun x => decide (x > 0)) : Nat) : Int) == 1) = (ls.countP (fun x => decide (x > 0)) == 1) := by
      rw [Bool.eq_iff_iff]; simp; omega
    rw [hc1]
    refine br_i (fun hc => ?_) (fun hc => last ?_)
    · rw [hrm, hsg, h3, hc] at hR; exact hR
    · rw [hsg, h3, hc]; rfl
  · rw [hsg, h3]; rfl
  · rw [hsg]; rfl
theorem rright_bad {x y z : Value} {s n : Bool} (hR : ∀ H', Ext H H' → R (.bool false) H') : CallsH Try.prog 64 #[.agg #[x, y, z, .bool false], .bool s, .bool n] H R := by
 refine Try.s64 ((St.nil H).alc fun b4 H5 hs5 => ?_)
 exact ⟨_, hs5.get 0 (j := 3) rfl rfl, br_t rfl (hR H5 hs5.ext)⟩
section
variable {r bl bc a most : Nat} {bp : Option Addr} {B out : List Int} {e : Int}
set_option maxHeartbeats 1000000 in
theorem c65 {q : Option Addr} {m T g : Nat} {ls first : List Int} (hs : St H0 H (rfR r bp bl bc a most out 0 :: .sl q ls.length m 3 1 (ints ls) :: σ)) (hB : IS H0 bp bl (kints .u8 B)) (hr : ∀ x ∈ B, 0 ≤ x ∧ x < 256) {j lc cc : Nat} {lp cp : Option Addr} {W0 : Int} {okb : Bool}
    {Q : Heap → Prop} (hj : σ[j]? = some (.pers Q)) (hq : ∀ H, Q H → CodI lp cp first H) (ok : OkC first) (hT : T ≤ 1000) (hlt : ls.length < T) {W : Except Int (Nat × List Int)} (hW : listM B first T (g + 1) a ls = W)
    (hbad : ∀ k, k ≠ 0 → W = .error k → ∀ H' a' q n m ls', St H0 H' (rfR r bp bl bc a' most out k :: .sl q n m 3 1 (ints ls') :: σ) → R (.slice q n m) H')
    (hR : ∀ a' ls', a < a' → listM B first T g a' ls' = W → ls'.length ≤ T → ∀ H' q m, St H0 H' (rfR r bp bl bc a' most out 0 :: .sl q ls'.length m 3 1 (ints ls') :: σ) → R (.slice q ls'.length m) H') :
    CallsH Try.prog 65 #[.pointer (some ⟨r, 0, none⟩), .agg (codV lp cp lc cc first W0 okb), .slice q ls.length m, .int .i64 (T : Nat)] H R := by
  have l300 := ok.w.len
  have he := hW
  rw [listM, if_neg (by omega)] at he
  refine Try.s65 (hs.alc fun b5 H6 hs6 => ?_)
  have hs6 : St H0 H6 (rfR r bp bl bc a most out 0 :: .sl q ls.length m 3 1 (ints ls) :: .cell b5 (codV lp cp lc cc first W0 okb) 73 :: σ) := (hs6.front 1 rfl).perm (List.Perm.cons _ (List.Perm.swap _ _ _))
  have hj' : ∀ {x y : Rs}, (x :: y :: σ)[j + 2]? = some (.pers Q) := fun {x y} => by rw [List.getElem?_cons_succ, List.getElem?_cons_succ]; exact hj
  refine ⟨_, rfl, rowIn_whole (hs6.block 2 rfl), c62 hs6 hB hr hj' hq ok (fun k hk hsy H7 a7 hs7 => ?_) (fun s a7 hsy H7 hs7 => ?_)⟩
  · rw [hsy] at he
    exact ⟨_, rfl, _, rfl, _, rfR_e hs7, br_ne (fun _ => hbad k hk he.symm H7 a7 q _ m ls (hs7.del 2)) (fun h => absurd h hk)⟩
  have hadv := symM_adv hsy
  rw [hsy] at he
  simp only at he
  refine ⟨_, rfl, _, rfl, _, rfR_e hs7, br_f rfl ?_⟩
  -- the list grows
  have body : ∀ (e v : Int) (n a8 : Nat) (H8 : Heap), n ≤ 200 → St H0 H8 (rfR r bp bl bc a8 most out e :: .sl q ls.length m 3 1 (ints ls) :: .cell b5 (codV lp cp lc cc first W0 okb) 73 :: σ) →
      (∀ q' m' H9, St H0 H9 (rfR r bp bl bc a8 most out (if e = 0 ∧ T < ls.length + n then 21 else e) :: .sl q' (ls ++ List.replicate n v).length m' 3 1 (ints (ls ++ List.replicate n v)) :: σ) → R (.slice q' (ls ++ List.replicate n v).length m') H9) →
      ∀ J25 : List Value → Heap → Prop, (∀ H26, (∀ X27 : List Value → Heap → Prop, (∀ (li28p : Option Addr) (li28l li28c : Nat) (k29 : Int) H30, (br (decide (k29 < (n : Int)))
        (alc H30 (.cells #[.int .i64 v] 3) fun b31 H32 => appQ 1 8 #[.int .i64 0] H32 li28p li28l li28c (some ⟨b31, 0, none⟩) 1 3 fun li33p li33l li33c H34 => X27 [.slice li33p li33l li33c, .int .i64 (IntKind.wrap .i64 (k29 + 1))] H34)
        (R (.slice li28p li28l li28c) H30)) → X27 [.slice li28p li28l li28c, .int .i64 k29] H30) → X27 [.slice q ls.length m, .int .i64 0] H26) → J25 [] H26) →
      ∃ a35, (some (⟨r, 0, none⟩ : Addr)) = some a35 ∧ ∃ E36, Sh.cell H8 (Addr.add a35 4) = some (.int .i64 E36) ∧ br (E36 == 0) (br (decide ((IntKind.wrap .i64 ((ls.length : Int) + n)) > (T : Int)))
        (CallsH Try.prog 37 #[.pointer (some ⟨r, 0, none⟩), .int .i64 21] H8 fun r37 H38 => r37 = .tuple #[] ∧ J25 [] H38)
        (J25 [] H8)) (J25 [] H8) := fun e v n a8 H8 hn hs8 hfin J25 hJ25 => by
    have app : ∀ e' H9, e' = (if e = 0 ∧ T < ls.length + n then 21 else e) → St H0 H9 (rfR r bp bl bc a8 most out e' :: .sl q ls.length m 3 1 (ints ls) :: .cell b5 (codV lp cp lc cc first W0 okb) 73 :: σ) → J25 [] H9 := fun e' H9 he' hs9 => by
      refine hJ25 H9 ?_
      intro X27 hX27
      have go : ∀ k, k ≤ n → ∀ q' m' H10, St H0 H10 (rfR r bp bl bc a8 most out e' :: .sl q' (ls.length + k) m' 3 1 (ints (ls ++ List.replicate k v)) :: .cell b5 (codV lp cp lc cc first W0 okb) 73 :: σ) → X27 [.slice q' (ls.length + k) m', .int .i64 (k : Nat)] H10 := upto fun k hk ih q' m' H10 hs10 => by
        refine hX27 _ _ _ _ H10 (br_dec (fun hlt => ?_) (fun hge => ?_))
        · refine hs10.alc fun b H11 hs11 => ?_
          refine hs11.appC 2 0 (el := 3) (k := 1) rfl rfl rfl (one1 rfl) (by decide) rfl (by omega) (by omega) fun p' c' H12 hs12 => ?_
          rw [wrap_id (by omega) (by omega)]
          refine ih (by omega) p' c' H12 ?_
          rw [List.replicate_succ', ← List.append_assoc, ints_append]
          exact hs12.tail
        · have : k = n := by omega
          subst this
          have := hfin q' m' H10 (by rw [← he', List.length_append, List.length_replicate]; exact hs10.del 2)
          rw [List.length_append, List.length_replicate] at this
          exact this
      exact go 0 (by omega) q m H9 (by simpa using hs9)
    refine ⟨_, rfl, _, rfR_e hs8, ?_⟩
    rw [wrap_id (by omega) (by omega)]
    refine br_eq (fun h0 => br_dec (fun hgt => c37 hs8 fun H9 hs9 => ⟨rfl, app _ H9 (by rw [if_pos h0, if_pos ⟨h0, by omega⟩]) hs9⟩) (fun hle => app _ H8 (by rw [if_neg (fun h => hle (by omega))]) hs8)) (fun h0 => app _ H8 (by rw [if_neg (fun h => h0 h.1)]) hs8)
  -- behind the bits of a repeat
  have fin0 : ∀ (v : Int) (n a8 : Nat), a7 ≤ a8 → (if (n : Int) > (T : Int) - ls.length then .error 21 else listM B first T g a8 (ls ++ List.replicate n v)) = W → ∀ q' m' H9, St H0 H9 (rfR r bp bl bc a8 most out (if (0 : Int) = 0 ∧ T < ls.length + n then 21 else 0) :: .sl q' (ls ++ List.replicate n v).length m' 3 1 (ints (ls ++ List.replicate n v)) :: σ) → R (.slice q' (ls ++ List.replicate n v).length m') H9 := fun v n a8 ha he q' m' H9 hs9 => by
    by_cases hgt : T < ls.length + n
    · rw [if_pos ⟨rfl, hgt⟩] at hs9
      rw [if_pos (by omega)] at he
      exact hbad 21 (by decide) he.symm H9 _ _ _ _ _ hs9
    · rw [if_neg (fun h => hgt h.2)] at hs9
      rw [if_neg (by omega)] at he
      exact hR a8 _ (by omega) he (by rw [List.length_append, List.length_replicate]; omega) H9 _ _ hs9
  have fin20 : ∀ (v : Int) (n a8 : Nat), W = .error 20 → ∀ q' m' H9, St H0 H9 (rfR r bp bl bc a8 most out (if (20 : Int) = 0 ∧ T < ls.length + n then 21 else 20) :: .sl q' (ls ++ List.replicate n v).length m' 3 1 (ints (ls ++ List.replicate n v)) :: σ) → R (.slice q' (ls ++ List.replicate n v).length m') H9 := fun v n a8 hT q' m' H9 hs9 => by
    rw [if_neg (fun h => absurd h.1 (by decide))] at hs9
    exact hbad 20 (by decide) hT H9 _ _ _ _ _ hs9
  have lsr : ∀ {H8 : Heap} {e8 : Int} {a8 : Nat}, St H0 H8 (rfR r bp bl bc a8 most out e8 :: .sl q ls.length m 3 1 (ints ls) :: .cell b5 (codV lp cp lc cc first W0 okb) 73 :: σ) → IS H8 q ls.length (kints .i64 ls) := fun hs8 => hs8.is 1 rfl
  have wN : ∀ (c : Nat) (x : Int), 0 ≤ x → (c : Int) + x ≤ 200 → IntKind.wrap .i64 ((c : Int) + x) = (((c : Int) + x).toNat : Int) := fun c x h1 h2 => by rw [wrap_id (by omega) (by omega)]; omega
  intro J13 hJ13
  refine br_eq (fun h16 => ?_) (fun h16 => ?_)
  · rw [if_pos (by omega)] at he
    refine c32 (n := 2) hs7 hB hr (by omega) (fun hb H8 hs8 => ⟨_, rfl, ?_⟩) (fun hb H8 hs8 => ⟨_, rfl, ?_⟩)
    · rw [getM_bad (n := 2) hb] at he
      rw [if_pos rfl] at hs8
      refine br_eq (fun hl0 => c37 hs8 fun H9 hs9 => ⟨rfl, ?_⟩) (fun hl0 => ?_)
      · rw [if_neg (by decide)] at hs9
        exact hbad 20 (by decide) he.symm H9 _ _ _ _ _ (hs9.del 2)
      · rw [wrap_id (n := ((ls.length : Nat) : Int) - 1) (by omega) (by omega)]
        refine (lsr hs8).rd (by omega) (by omega) (get_gD ls 0 (by omega)) ?_
        refine hJ13 _ _ H8 ?_
        intro J17 hJ17
        refine br_eq (fun h => by omega) (fun _ => hJ17 _ _ H8 ?_)
        intro J21 hJ21
        refine br_eq (fun h => by omega) (fun _ => hJ21 _ _ H8 ?_)
        exact body 20 _ 3 _ H8 (by omega) hs8 (fin20 _ 3 _ he.symm)
    · rw [getM_num (n := 2) hb] at he
      simp only at he
      have hx := pow_e (n := 2) (d := 4) (by decide) (B := B) (a := a7)
      generalize numB false B a7 2 = x at *
      refine br_eq (fun hl0 => c37 hs8 fun H9 hs9 => ⟨rfl, ?_⟩) (fun hl0 => ?_)
      · rw [if_pos rfl] at hs9
        have : ls = [] := List.length_eq_zero_iff.1 (by omega)
        rw [this, List.getLast?_nil] at he
        exact hbad 21 (by decide) he.symm H9 _ _ _ _ _ (hs9.del 2)
      · rw [wrap_id (n := ((ls.length : Nat) : Int) - 1) (by omega) (by omega)]
        cases hv : ls.getLast? with
        | none => rw [List.getLast?_eq_none_iff] at hv; rw [hv] at hl0; exact absurd rfl hl0
        | some v =>
          rw [hv] at he
          simp only at he
          refine (lsr hs8).rd (x := v) (by omega) (by omega) (by rw [show (((ls.length : Nat) : Int) - 1).toNat = ls.length - 1 from by omega]; exact last_get hv) ?_
          rw [show (3 : Int) + x = ((3 : Nat) : Int) + x from rfl, wN 3 x hx.1 (by omega)]
          refine hJ13 _ _ H8 ?_
          intro J17 hJ17
          refine br_eq (fun h => by omega) (fun _ => hJ17 _ _ H8 ?_)
          intro J21 hJ21
          refine br_eq (fun h => by omega) (fun _ => hJ21 _ _ H8 ?_)
          refine body 0 v _ _ H8 (by omega) hs8 (fin0 v _ _ (by omega) ?_)
          rw [← he]
          rw [show (((((3 : Nat) : Int) + x).toNat : Nat) : Int) = 3 + x from by omega]
          rfl
  · rw [if_neg (by omega)] at he
    refine hJ13 _ _ H7 ?_
    intro J17 hJ17
    refine br_eq (fun h17 => ?_) (fun h17 => ?_)
    · rw [if_pos (by omega)] at he
      refine c32 (n := 3) hs7 hB hr (by omega) (fun hb H8 hs8 => ⟨_, rfl, ?_⟩) (fun hb H8 hs8 => ⟨_, rfl, ?_⟩)
      · rw [getM_bad (n := 3) hb] at he
        rw [if_pos rfl] at hs8
        refine hJ17 _ _ H8 ?_
        intro J21 hJ21
        refine br_eq (fun h => by omega) (fun _ => hJ21 _ _ H8 ?_)
        exact body 20 0 3 _ H8 (by omega) hs8 (fin20 _ 3 _ he.symm)
      · rw [getM_num (n := 3) hb] at he
        simp only at he
        have hx := pow_e (n := 3) (d := 8) (by decide) (B := B) (a := a7)
        generalize numB false B a7 3 = x at *
        rw [show (3 : Int) + x = ((3 : Nat) : Int) + x from rfl, wN 3 x hx.1 (by omega)]
        refine hJ17 _ _ H8 ?_
        intro J21 hJ21
        refine br_eq (fun h => by omega) (fun _ => hJ21 _ _ H8 ?_)
        refine body 0 0 _ _ H8 (by omega) hs8 (fin0 0 _ _ (by omega) ?_)
        rw [← he]
        rw [show (((((3 : Nat) : Int) + x).toNat : Nat) : Int) = 3 + x from by omega]
        rfl
    · rw [if_neg (by omega)] at he
      refine hJ17 _ _ H7 ?_
      intro J21 hJ21
      refine br_eq (fun h18 => ?_) (fun h18 => ?_)
      · rw [if_pos (by omega)] at he
        refine c32 (n := 7) hs7 hB hr (by omega) (fun hb H8 hs8 => ⟨_, rfl, ?_⟩) (fun hb H8 hs8 => ⟨_, rfl, ?_⟩)
        · rw [getM_bad (n := 7) hb] at he
          rw [if_pos rfl] at hs8
          refine hJ21 _ _ H8 ?_
          exact body 20 0 11 _ H8 (by omega) hs8 (fin20 _ 11 _ he.symm)
        · rw [getM_num (n := 7) hb] at he
          simp only at he
          have hx := pow_e (n := 7) (d := 128) (by decide) (B := B) (a := a7)
          generalize numB false B a7 7 = x at *
          rw [show (11 : Int) + x = ((11 : Nat) : Int) + x from rfl, wN 11 x hx.1 (by omega)]
          refine hJ21 _ _ H8 ?_
          refine body 0 0 _ _ H8 (by omega) hs8 (fin0 0 _ _ (by omega) ?_)
          rw [← he]
          rw [show (((((11 : Nat) : Int) + x).toNat : Nat) : Int) = 11 + x from by omega]
          rfl
      · rw [if_neg (by omega)] at he
        refine hJ21 _ _ H7 ?_
        refine body 0 (s : Int) 1 _ H7 (by omega) hs7 (fin0 (s : Int) 1 _ (Nat.le_refl _) ?_)
        rw [← he, if_neg (by omega)]
        rfl
end
end Go.Proofs
namespace Go.Proofs
open Go.Sh
variable {H0 H : Heap} {σ : List Rs} {R : Value → Heap → Prop}
theorem firstM_bad {B : List Int} : ∀ (l r : List Nat) (x : Nat) (fs : List Int) {e : Int}, firstM B l x fs = .error e → firstM B (l ++ r) x fs = .error e
 | [], r, x, fs, e, h => by cases h
 | t :: l, r, x, fs, e, h => by
  rw [List.cons_append, firstM]
  rw [firstM] at h
  cases hg : getM B 3 x with
  | error e' => rw [hg] at h; exact h
  | ok y => rw [hg] at h; exact firstM_bad l r _ _ h
theorem codZ_one : ∀ x ∈ (Array.toList #[Value.slice none 0 0, Value.slice none 0 0, Value.int .i64 0, Value.bool false]), x.oneCell' = true := by decide
section
variable {r bl bc a most : Nat} {bp : Option Addr} {B out : List Int} {e : Int}
set_option maxHeartbeats 2000000 in
theorem c36 (hs : St H0 H (rfR r bp bl bc a most out 0 :: σ)) (hB : IS H0 bp bl (kints .u8 B)) (hr : ∀ x ∈ B, 0 ≤ x ∧ x < 256)
    (hbad : ∀ k, k ≠ 0 → tablesM B a = .error k → ∀ H' a' v1 v2 τ, v1.size = 4 → v2.size = 4 → (∀ x ∈ v1.toList, x.oneCell' = true) → (∀ x ∈ v2.toList, x.oneCell' = true) → St H0 H' (rfR r bp bl bc a' most out k :: τ ++ σ) → R (.tuple #[.agg v1, .agg v2]) H')
    (hR : ∀ a' ll dl, tablesM B a = .ok (a', ll, dl) → a ≤ a' → OkC ll → OkC dl → ∀ H' lp1 cp1 lc1 cc1 lp2 cp2 lc2 cc2 τ, St H0 H' (rfR r bp bl bc a' most out 0 :: .pers (fun H => CodI lp1 cp1 ll H ∧ CodI lp2 cp2 dl H) :: τ ++ σ) → R (.tuple #[.agg (codV lp1 cp1 lc1 cc1 ll (wtM ll) true), .agg (codV lp2 cp2 lc2 cc2 dl (wtM dl) true)]) H') :
    CallsH Try.prog 36 #[.pointer (some ⟨r, 0, none⟩)] H R := by
  have key : tablesM B a = tablesM B a := rfl
  conv at key => lhs; unfold tablesM
  have e5 : (2 : Int) ^ 5 = 32 := by decide
  have e4 : (2 : Int) ^ 4 = 16 := by decide
  refine Try.s36 ?_
  unfold Try.S36
  refine hs.alc fun b2 H3 hs3 => hs3.alc fun b4 H5 hs5 => ?_
  have hs5 : St H0 H5 (rfR r bp bl bc a most out 0 :: .cell b4 #[.slice none 0 0, .slice none 0 0, .int .i64 0, .bool false] 73 :: .cell b2 #[.slice none 0 0, .slice none 0 0, .int .i64 0, .bool false] 73 :: σ) := hs5.front 2 rfl
  generalize hC4 : Rs.cell b4 #[.slice none 0 0, .slice none 0 0, .int .i64 0, .bool false] 73 = C4 at hs5
  generalize hC2 : Rs.cell b2 #[.slice none 0 0, .slice none 0 0, .int .i64 0, .bool false] 73 = C2 at hs5
  -- three numbers
  have three : ∀ (Q : Int → Int → Int → Heap → Prop),
      (∀ H' hl hd hc a' e, 0 ≤ hl ∧ hl < 32 → 0 ≤ hd ∧ hd < 32 → 0 ≤ hc ∧ hc < 16 → (e = 0 ∧ getM B 5 a = .ok (hl, a + 5) ∧ getM B 5 (a + 5) = .ok (hd, a + 10) ∧ getM B 4 (a + 10) = .ok (hc, a + 14) ∧ a' = a + 14) ∨ (e = 20 ∧ tablesM B a = .error 20) →
        St H0 H' (rfR r bp bl bc a' most out e :: C4 :: C2 :: σ) → Q hl hd hc H') →
      CallsH Try.prog 32 #[.pointer (some ⟨r, 0, none⟩), .int .i64 5] H5 fun r2 H3 => ∃ hl4, r2 = .int .i64 hl4 ∧ CallsH Try.prog 32 #[.pointer (some ⟨r, 0, none⟩), .int .i64 5] H3 fun r5 H6 => ∃ hd7, r5 = .int .i64 hd7 ∧
        CallsH Try.prog 32 #[.pointer (some ⟨r, 0, none⟩), .int .i64 4] H6 fun r8 H9 => ∃ hc10, r8 = .int .i64 hc10 ∧ Q hl4 hd7 hc10 H9 := fun Q hQ => by
    have err3 : ∀ H6 a' hl hd, 0 ≤ hl ∧ hl < 32 → 0 ≤ hd ∧ hd < 32 → tablesM B a = .error 20 → St H0 H6 (rfR r bp bl bc a' most out 20 :: C4 :: C2 :: σ) → CallsH Try.prog 32 #[.pointer (some ⟨r, 0, none⟩), .int .i64 4] H6 fun r8 H9 => ∃ hc10, r8 = .int .i64 hc10 ∧ Q hl hd hc10 H9 := fun H6 a' hl hd h1 h2 hT hs6 =>
      c32 (n := 4) hs6 hB hr (by omega) (fun _ H9 hs9 => ⟨_, rfl, hQ H9 hl hd 0 a' 20 h1 h2 (by omega) (.inr ⟨rfl, hT⟩) hs9⟩) (fun _ H9 hs9 => ⟨_, rfl, hQ H9 hl hd _ _ 20 h1 h2 (pow_e e4) (.inr ⟨rfl, hT⟩) hs9⟩)
    have err2 : ∀ H3 a' hl, 0 ≤ hl ∧ hl < 32 → tablesM B a = .error 20 → St H0 H3 (rfR r bp bl bc a' most out 20 :: C4 :: C2 :: σ) → CallsH Try.prog 32 #[.pointer (some ⟨r, 0, none⟩), .int .i64 5] H3 fun r5 H6 => ∃ hd7, r5 = .int .i64 hd7 ∧ CallsH Try.prog 32 #[.pointer (some ⟨r, 0, none⟩), .int .i64 4] H6 fun r8 H9 => ∃ hc10, r8 = .int .i64 hc10 ∧ Q hl hd7 hc10 H9 := fun H3 a' hl h1 hT hs3 =>
      c32 (n := 5) hs3 hB hr (by omega) (fun _ H6 hs6 => ⟨_, rfl, err3 H6 a' hl 0 h1 (by omega) hT hs6⟩) (fun _ H6 hs6 => ⟨_, rfl, err3 H6 _ hl _ h1 (pow_e e5) hT hs6⟩)
    refine c32 (n := 5) hs5 hB hr (by omega) (fun hlt H3 hs3 => ⟨_, rfl, err2 H3 a 0 (by omega) ?_ hs3⟩) (fun hle H3 hs3 => ⟨_, rfl, ?_⟩)
    · rw [getM_bad (n := 5) hlt] at key; exact key.symm
    have g1 := getM_num (n := 5) hle
    rw [g1] at key
    simp only at key
    refine c32 (n := 5) hs3 hB hr (by omega) (fun hlt H6 hs6 => ⟨_, rfl, err3 H6 _ _ 0 (pow_e e5) (by omega) ?_ hs6⟩) (fun hle2 H6 hs6 => ⟨_, rfl, ?_⟩)
    · rw [getM_bad (n := 5) hlt] at key; exact key.symm
    have g2 := getM_num (n := 5) hle2
    rw [g2] at key
    simp only at key
    refine c32 (n := 4) hs6 hB hr (by omega) (fun hlt H9 hs9 => ⟨_, rfl, hQ H9 _ _ 0 _ 20 (pow_e e5) (pow_e e5) (by omega) (.inr ⟨rfl, ?_⟩) hs9⟩) (fun hle3 H9 hs9 => ⟨_, rfl, ?_⟩)
    · rw [getM_bad (n := 4) hlt] at key; exact key.symm
    have g3 := getM_num (n := 4) hle3
    exact hQ H9 _ _ _ _ 0 (pow_e e5) (pow_e e5) (pow_e e4) (.inl ⟨rfl, g1, g2, g3, rfl⟩) hs9
  refine three _ fun H9 hl hd hc a9 e9 bhl bhd bhc hcase hs9 => ?_
  clear three e5 e4
  -- what is left behind an error
  have zero : ∀ e H', e ≠ 0 → tablesM B a = .error e → ∀ a' τ, St H0 H' (rfR r bp bl bc a' most out e :: C4 :: C2 :: (τ ++ σ)) → #[Value.slice none 0 0, Value.slice none 0 0, Value.int .i64 0, Value.bool false].size = 4 ∧ stAt H' ⟨b2, 0, none⟩ (Array.toList #[.slice none 0 0, .slice none 0 0, .int .i64 0, .bool false]) fun H45 => #[Value.slice none 0 0, Value.slice none 0 0, Value.int .i64 0, Value.bool false].size = 4 ∧ stAt H45 ⟨b4, 0, none⟩ (Array.toList #[.slice none 0 0, .slice none 0 0, .int .i64 0, .bool false]) fun H46 => ∃ re47, re47.size = 4 ∧ rowIn H46 ⟨b2, 0, none⟩ re47 ∧ ∃ re48, re48.size = 4 ∧ rowIn H46 ⟨b4, 0, none⟩ re48 ∧ R (.tuple #[.agg re47, .agg re48]) H46 := fun e H' he hT a' τ hs' => by
    refine ⟨rfl, hs'.putAll 2 (by rw [← hC2]; rfl) rfl codZ_one fun H45 hs45 => ⟨rfl, hs45.putAll 1 (by rw [← hC4]; rfl) rfl codZ_one fun H46 hs46 => ?_⟩⟩
    simp only [List.set_cons_succ, List.set_cons_zero] at hs46
    refine ⟨_, rfl, rowIn_whole (hs46.block 2 rfl), _, rfl, rowIn_whole (hs46.block 1 rfl), ?_⟩
    exact hbad e he hT H46 a' _ _ (_ :: _ :: τ) rfl rfl codZ_one codZ_one hs46
  intro J15 hJ15
  have w1 : IntKind.wrap .i64 (hc + 4) = ((hc.toNat + 4 : Nat) : Int) := by rw [wrap_id (by omega) (by omega)]; omega
  have w2 : IntKind.wrap .i64 (hl + 257) = ((hl.toNat + 257 : Nat) : Int) := by rw [wrap_id (by omega) (by omega)]; omega
  have w3 : IntKind.wrap .i64 (IntKind.wrap .i64 (hl + hd) + 258) = ((hl.toNat + hd.toNat + 258 : Nat) : Int) := by rw [wrap_id (n := hl + hd) (by omega) (by omega), wrap_id (by omega) (by omega)]; omega
  have main : ∀ H1 a1 e1, (e1 = 0 ∧ tablesM B a = (match firstM B (ordL.take (hc.toNat + 4)) a1 (List.replicate 19 0) with
      | .error e => .error e
      | .ok (at4, first) => if rightM first false false = false then .error 21 else match listM B first (hl.toNat + hd.toNat + 258) (8 * B.length + 2) at4 [] with
        | .error e => .error e
        | .ok (at5, ls) => if rightM (ls.take (hl.toNat + 257)) true false = false ∨ rightM (ls.drop (hl.toNat + 257)) true true = false then .error 21 else .ok (at5, ls.take (hl.toNat + 257), ls.drop (hl.toNat + 257))) ∧ a ≤ a1) ∨
      (e1 ≠ 0 ∧ tablesM B a = .error e1) → St H0 H1 (rfR r bp bl bc a1 most out e1 :: C4 :: C2 :: σ) → J15 [] H1 := fun H1 a1 e1 hc1 hs1 => by
    refine hJ15 H1 (hs1.alc fun b17 H18 hs18 => ⟨rfl, hs18.putAll 0 rfl rfl (by decide) fun H19 hs19 => ⟨by decide, by decide, by decide, by decide, ?_⟩⟩)
    rw [List.set_cons_zero] at hs19
    refine hs19.alc fun b20 H21 hs21 => ?_
    rw [show (List.toArray (reps (Int.toNat 19) (Array.toList #[Value.int .i64 0]))) = (ints (List.replicate 19 0)).toArray from repsA 19] at hs21
    have hs21 : St H0 H21 (rfR r bp bl bc a1 most out e1 :: C4 :: C2 :: .cell b20 (ints (List.replicate 19 0)).toArray 3 :: .cell b17 (ints (ordL.map Int.ofNat)).toArray 116 :: σ) := hs21.perm ((List.perm_append_comm (l₁ := [_, _]) (l₂ := [_, _, _])).append_right σ)
    rw [w1]
    intro X22 hX22
    have loop : ∀ k, k ≤ hc.toNat + 4 → ∀ (a2 : Nat) (e2 : Int) (fs : List Int) (H4 : Heap), fs.length = 19 → (∀ x ∈ fs, 0 ≤ x ∧ x < 8) → (e2 = 0 ∧ e1 = 0 ∧ firstM B ((ordL.take (hc.toNat + 4)).take k) a1 (List.replicate 19 0) = .ok (a2, fs)) ∨ (e2 ≠ 0 ∧ tablesM B a = .error e2) →
        St H0 H4 (rfR r bp bl bc a2 most out e2 :: C4 :: C2 :: .cell b20 (ints fs).toArray 3 :: .cell b17 (ints (ordL.map Int.ofNat)).toArray 116 :: σ) → X22 [.int .i64 (k : Nat)] H4 := upto fun k hk ih a2 e2 fs H4 hfl hfr hc2 hs4 => by
      refine hX22 _ H4 (br_dec (fun hlt => ?_) (fun hge => ?_))
      · have hlt : k < hc.toNat + 4 := by omega
        have ho := ordL_lt ⟨k, by omega⟩
        simp only at ho
        have hnext := ih hlt
        rw [ordL_take hlt (by omega), firstM_snoc] at hnext
        have hg := ordI_get (k := k) (by omega)
        have hcut : ordL.take (hc.toNat + 4) = ((ordL.take (hc.toNat + 4)).take k ++ [ordL.getD k 0]) ++ (ordL.take (hc.toNat + 4)).drop (k + 1) := by
          rw [← ordL_take hlt (by omega), List.take_append_drop]
        generalize ordL.getD k 0 = s at ho hg hnext hcut
        have hcell := hs4.rdA 4 (j := k) rfl hg
        refine ⟨by omega, by omega, _, by rw [Int.toNat_natCast, Nat.mul_one, add_none, Nat.zero_add]; exact hcell, ?_⟩
        have wk : IntKind.wrap .i64 ((k : Int) + 1) = ((k + 1 : Nat) : Int) := by rw [wrap_id (by omega) (by omega)]; omega
        rw [wk]
        refine c32 (n := 3) hs4 hB hr (by omega) (fun hb H5 hs5 => ⟨_, rfl, .inr ⟨_, by rw [Int.toNat_natCast, Nat.mul_one, add_none, Nat.zero_add]; exact hs5.rdA 4 (j := k) rfl hg, rfl⟩, _, rfl, by omega, by omega, ?_⟩) (fun hb H5 hs5 => ⟨_, rfl, .inr ⟨_, by rw [Int.toNat_natCast, Nat.mul_one, add_none, Nat.zero_add]; exact hs5.rdA 4 (j := k) rfl hg, rfl⟩, _, rfl, by omega, by omega, ?_⟩)
        · simp only [Int.toNat_natCast, Nat.mul_one]
          rw [add_none, Nat.zero_add]
          refine hs5.putA 3 rfl (by omega) fun H6 hs6 => hnext a2 _ _ H6 (by simpa using hfl) (fun x hx => ?_) (.inr ?_) hs6
          · rcases List.mem_or_eq_of_mem_set hx with hx | rfl
            · exact hfr x hx
            · omega
          · rcases hc2 with ⟨h1, h2, h3⟩ | ⟨h1, h2⟩
            · rw [if_pos h1]
              refine ⟨by decide, ?_⟩
              rcases hc1 with ⟨_, hT, _⟩ | ⟨hne, _⟩
              · have hbd : firstM B (ordL.take (hc.toNat + 4)) a1 (List.replicate 19 0) = .error 20 := by
                  rw [hcut]
                  refine firstM_bad _ _ _ _ ?_
                  rw [firstM_snoc, h3]
                  simp only
                  rw [getM_bad (n := 3) hb]
                rw [hbd] at hT
                exact hT
              · exact absurd h2 hne
            · rw [if_neg h1]; exact ⟨h1, h2⟩
        · simp only [Int.toNat_natCast, Nat.mul_one]
          rw [add_none, Nat.zero_add]
          refine hs5.putA 3 rfl (by omega) fun H6 hs6 => hnext _ _ _ H6 (by simpa using hfl) (fun x hx => ?_) ?_ hs6
          · rcases List.mem_or_eq_of_mem_set hx with hx | rfl
            · exact hfr x hx
            · exact pow_e (n := 3) (by decide)
          · rcases hc2 with ⟨h1, h2, h3⟩ | h
            · left
              refine ⟨h1, h2, ?_⟩
              rw [h3]
              simp only
              rw [getM_num (n := 3) hb]
            · exact .inr h
      · have hk : k = hc.toNat + 4 := by omega
        subst hk
        rw [List.take_take, Nat.min_self] at hc2
        -- behind the first lengths
        have hs4 : St H0 H4 (rfR r bp bl bc a2 most out e2 :: C4 :: C2 :: ([.cell b20 (ints fs).toArray 3, .cell b17 (ints (ordL.map Int.ofNat)).toArray 116] ++ σ)) := hs4
        have hfirst : IS H4 (some ⟨b20, 0, none⟩) 19 (ints fs) := hs4.isA 3 rfl hfl
        generalize hT9 : hl.toNat + hd.toNat + 258 = T at *
        generalize hN : hl.toNat + 257 = N at *
        refine CallsH.mono (rmake (R := fun rv H33 => ∃ (cv : Array Value) (ρ : List Rs), rv = .agg cv ∧ cv.size = 4 ∧ (∀ x ∈ cv.toList, x.oneCell' = true) ∧ St H0 H33 (rfR r bp bl bc a2 most out e2 :: C4 :: C2 :: (ρ ++ σ)) ∧
          ((¬ OkC fs ∧ ∃ x y z, cv = #[x, y, z, .bool false]) ∨ (OkC fs ∧ ∃ bc', cv = codV (some ⟨b20, 0, none⟩) (some ⟨bc', 0, none⟩) 19 19 fs (wtM fs) true ∧ ∃ ρ', ρ = .pers (CodI (some ⟨b20, 0, none⟩) (some ⟨bc', 0, none⟩) fs) :: ρ')))
          hfirst (fun hn W H33 e33 => ⟨_, _, rfl, rfl, by simp [Value.oneCell'], hs4.step e33, .inl ⟨hn, _, _, _, rfl⟩⟩) (fun ok bc' H33 hs33 => ⟨_, .pers (CodI (some ⟨b20, 0, none⟩) (some ⟨bc', 0, none⟩) fs) :: [.cell b17 (ints (ordL.map Int.ofNat)).toArray 116], rfl, rfl, by simp [Value.oneCell'], ?_, .inr ⟨ok, bc', by unfold codV; rw [hfl]; rfl, _, rfl⟩⟩)) (fun rv H33 hrv => ?_)
        · have h1 := hs4.call hs33
          have h2 : St H0 H33 ([.sl (some ⟨bc', 0, none⟩) 19 19 3 1 (ints (codesM fs)), .cell b20 (ints fs).toArray 3] ++ (rfR r bp bl bc a2 most out e2 :: C4 :: C2 :: .cell b17 (ints (ordL.map Int.ofNat)).toArray 116 :: σ)) :=
            h1.perm (List.Perm.cons _ ((List.perm_append_comm (l₁ := [_, _, _]) (l₂ := [_])).append_right (_ :: σ)))
          have h3 := h2.persOf (Q := CodI (some ⟨b20, 0, none⟩) (some ⟨bc', 0, none⟩) fs) fun H' h => ⟨by rw [hfl]; exact h.isA 1 rfl hfl, by rw [hfl]; exact h.is 0 rfl⟩
          exact h3.perm ((List.perm_append_comm (l₁ := [_]) (l₂ := [_, _, _])).append_right (_ :: σ))
        obtain ⟨cv, ρ, rfl, h4, h1, hs33, hspec⟩ := hrv
        clear hs4 hfirst hs21 hs19 hs18
        refine ⟨_, rfl, hs33.alc fun b35 H36 hs36 => ⟨h4, hs36.putAll 0 rfl (by rw [Array.length_toList, h4]; rfl) h1 fun H37 hs37 => ?_⟩⟩
        rw [List.set_cons_zero] at hs37
        have hs37 : St H0 H37 (rfR r bp bl bc a2 most out e2 :: C4 :: C2 :: (.cell b35 cv 73 :: ρ ++ σ)) := hs37.perm ((List.perm_append_comm (l₁ := [_]) (l₂ := [_, _, _])).append_right (ρ ++ σ))
        intro J38 hJ38
        rw [w2, w3] at hJ38
        have errL : ∀ e H39 a' τ, e ≠ 0 → tablesM B a = .error e → St H0 H39 (rfR r bp bl bc a' most out e :: C4 :: C2 :: (τ ++ σ)) → J38 [] H39 := fun e H39 a' τ he hT hs39 => by
          refine hJ38 H39 ?_
          intro J40 hJ40
          have hj : J40 [.slice none 0 0] H39 := hJ40 _ _ _ H39 ⟨_, rfl, _, rfR_e hs39, br_ne (fun _ => zero e H39 he hT a' τ hs39) (fun h => absurd h he)⟩
          intro X82 hX82
          refine hX82 _ _ _ H39 ?_
          intro J85 hJ85
          exact br_dec (fun _ => ⟨_, rfl, _, rfR_e hs39, br_eq (fun h => absurd h he) (fun _ => hj)⟩) (fun _ => hj)
        refine ⟨_, rfl, _, rfR_e hs37, br_eq (fun h20 => ?_) (fun h20 => ?_)⟩
        case refine_2 =>
          rcases hc2 with ⟨h, _⟩ | ⟨_, hT⟩
          · exact absurd h h20
          · exact errL e2 H37 a2 _ h20 hT hs37
        subst h20
        rcases hc2 with ⟨_, h2, h3⟩ | ⟨h, _⟩
        case inr => exact absurd rfl h
        rcases hc1 with ⟨_, hT, haa⟩ | ⟨hne, _⟩
        case inr => exact absurd h2 hne
        rw [h3] at hT
        simp only at hT
        have haa2 := (firstM_len _ h3).2
        refine ⟨_, h4, rowIn_whole (hs37.block 3 rfl), ?_⟩
        have bad21 : rightM fs false false = false → ∀ H97, Ext H37 H97 → CallsH Try.prog 37 #[.pointer (some ⟨r, 0, none⟩), .int .i64 21] H97 (fun r99 H100 => r99 = .tuple #[] ∧ J38 [] H100) := fun hf H97 e97 => by
          rw [if_pos hf] at hT
          refine c37 (hs37.step e97) fun H100 hs100 => ⟨rfl, ?_⟩
          rw [if_pos rfl] at hs100
          exact errL 21 H100 a2 _ (by decide) hT hs100
        rcases hspec with ⟨hn, x, y, z, rfl⟩ | ⟨ok, bc', rfl, ρ', rfl⟩
        · have hf : rightM fs false false = false := by
            cases hr : rightM fs false false with
            | false => rfl
            | true => exact absurd (rightM_ok hr) hn
          exact rright_bad fun H97 e97 => ⟨_, rfl, br_t rfl (bad21 hf H97 e97)⟩
        have hP := hs37.persGet 4 rfl
        refine rright_ok (l := fs.length) hP.l ok (by omega) fun H97 e97 => ⟨_, rfl, br_not (fun hf => bad21 hf H97 e97) (fun hright => ?_)⟩
        have hs97 := hs37.step e97
        rw [if_neg (by rw [hright]; decide)] at hT
        refine hJ38 H97 ?_
        intro J40 hJ40
        intro X82 hX82
        generalize hW : listM B fs T (8 * B.length + 2) a2 [] = W at hT
        generalize hcv : codV (some ⟨b20, 0, none⟩) (some ⟨bc', 0, none⟩) 19 19 fs (wtM fs) true = cv at *
        have errX : ∀ e q n m a' ls' H6, e ≠ 0 → tablesM B a = .error e → St H0 H6 (rfR r bp bl bc a' most out e :: .sl q n m 3 1 (ints ls') :: C4 :: C2 :: (.cell b35 cv 73 :: .pers (CodI (some ⟨b20, 0, none⟩) (some ⟨bc', 0, none⟩) fs) :: ρ' ++ σ)) → X82 [.slice q n m] H6 := fun e q n m a' ls' H6 he hTe hs6 => by
          have hs6' : St H0 H6 (rfR r bp bl bc a' most out e :: C4 :: C2 :: ((.sl q n m 3 1 (ints ls') :: .cell b35 cv 73 :: .pers (CodI (some ⟨b20, 0, none⟩) (some ⟨bc', 0, none⟩) fs) :: ρ') ++ σ)) :=
            hs6.perm (List.Perm.cons _ ((List.perm_append_comm (l₁ := [_]) (l₂ := [_, _])).append_right _))
          have hj : J40 [.slice q n m] H6 := hJ40 _ _ _ H6 ⟨_, rfl, _, rfR_e hs6, br_ne (fun _ => zero e H6 he hTe a' _ hs6') (fun h => absurd h he)⟩
          refine hX82 _ _ _ H6 ?_
          intro J85 hJ85
          exact br_dec (fun _ => ⟨_, rfl, _, rfR_e hs6, br_eq (fun h => absurd h he) (fun _ => hj)⟩) (fun _ => hj)
        have grow : ∀ (g a1 : Nat) (ls : List Int) (q : Option Addr) (m : Nat) (H6 : Heap), 8 * B.length + 1 < a1 + g → a2 ≤ a1 → ls.length ≤ T → listM B fs T g a1 ls = W → St H0 H6 (rfR r bp bl bc a1 most out 0 :: .sl q ls.length m 3 1 (ints ls) :: C4 :: C2 :: (.cell b35 cv 73 :: .pers (CodI (some ⟨b20, 0, none⟩) (some ⟨bc', 0, none⟩) fs) :: ρ' ++ σ)) → X82 [.slice q ls.length m] H6 := by
          intro g
          induction g with
          | zero =>
            intro a1 ls q m H6 h1 h2 h3 he hs6
            have := rfR_a hs6
            have := hB.length
            omega
          | succ g ihg =>
            intro a1 ls q m H6 hg ha12 hlT he hs6
            refine hX82 _ _ _ H6 ?_
            intro J85 hJ85
            refine br_dec (fun hlt => ⟨_, rfl, _, rfR_e hs6, br_t rfl (hJ85 H6 ⟨_, h4, rowIn_whole (hs6.block 4 rfl), ?_⟩)⟩) (fun hge => ?_)
            · rw [← hcv]
              refine c65 (g := g) (W := W) (j := 3) hs6 hB hr rfl (fun H h => h) ok (by omega) (by omega) he (fun k hk hWk H' a' q' n' m' ls' hs' => ⟨_, _, _, rfl, ?_⟩) (fun a' ls' ha' hW' hl' H' q' m' hs' => ⟨_, _, _, rfl, ?_⟩)
              · rw [hWk] at hT
                exact errX k _ _ _ _ _ H' hk hT hs'
              · exact ihg a' ls' q' m' H' (by omega) (by omega) hl' hW' hs'
            · rw [listM, if_pos (by omega)] at he
              subst he
              simp only at hT
              have hcap := (hs6.fs 1 rfl).le
              have l1 : (ls.take N).length = N := by rw [List.length_take]; omega
              have l2 : (ls.drop N).length = ls.length - N := List.length_drop
              generalize hX : (Rs.cell b35 cv 73 :: .pers (CodI (some ⟨b20, 0, none⟩) (some ⟨bc', 0, none⟩) fs) :: ρ' : List Rs) = X at *
              have hs6 : St H0 H6 (rfR r bp bl bc a1 most out 0 :: C4 :: C2 :: .sl q ls.length m 3 1 (ints ls) :: (X ++ σ)) :=
                hs6.perm (List.Perm.cons _ ((List.perm_append_comm (l₁ := [_]) (l₂ := [_, _])).append_right _))
              have i1 : ∀ {H' : Heap}, IS H' q ls.length (ints ls) → IS H' (if m = 0 then q else Option.map (fun x => Addr.add x (0 * 1)) q) (N - 0) (ints (ls.take N)) := fun h => by
                have := is_till h (c := m) (n := N) (by omega)
                rwa [ints_take] at this
              have i2 : ∀ {H' : Heap}, IS H' q ls.length (ints ls) → IS H' (if m = N then q else Option.map (fun x => Addr.add x (N * 1)) q) (ls.length - N) (ints (ls.drop N)) := fun h => by
                have := is_from h hcap (a := N) (by omega)
                rwa [ints_drop] at this
              refine hJ40 _ _ _ H6 ⟨_, rfl, _, rfR_e hs6, br_f rfl ⟨by omega, by omega, ?_⟩⟩
              rw [Int.toNat_natCast]
              generalize (if m = 0 then q else Option.map (fun x => Addr.add x (0 * 1)) q) = p1 at i1 ⊢
              generalize (if m = N then q else Option.map (fun x => Addr.add x (N * 1)) q) = p2 at i2 ⊢
              refine CallsH.mono (rmake (R := fun rv H50 => ∃ (cv1 : Array Value) (ρ1 : List Rs), rv = .agg cv1 ∧ cv1.size = 4 ∧ (∀ x ∈ cv1.toList, x.oneCell' = true) ∧ St H0 H50 (rfR r bp bl bc a1 most out 0 :: C4 :: C2 :: .sl q ls.length m 3 1 (ints ls) :: (ρ1 ++ (X ++ σ))) ∧
                ((¬ OkC (ls.take N) ∧ ∃ x y z, cv1 = #[x, y, z, .bool false]) ∨ (OkC (ls.take N) ∧ ∃ c1, cv1 = codV p1 (some ⟨c1, 0, none⟩) (m - 0) N (ls.take N) (wtM (ls.take N)) true ∧ ρ1 = [.sl (some ⟨c1, 0, none⟩) N N 3 1 (ints (codesM (ls.take N)))])))
                (i1 (hs6.is 3 rfl)) (fun hn W H50 e50 => ⟨_, [], rfl, rfl, by simp [Value.oneCell'], hs6.step e50, .inl ⟨hn, _, _, _, rfl⟩⟩) (fun ok1 c1 H50 hs50 => ⟨_, [_], rfl, rfl, by simp [Value.oneCell'], (hs6.call hs50).perm ((List.perm_append_comm (l₁ := [_]) (l₂ := [_, _, _, _])).append_right (X ++ σ)), .inr ⟨ok1, c1, by unfold codV; rw [l1]; rfl, rfl⟩⟩)) (fun rv H50 hrv => ?_)
              obtain ⟨cv1, ρ1, rfl, q1, q2, hs50, hspec1⟩ := hrv
              refine ⟨_, rfl, hs50.alc fun b52 H53 hs53 => ⟨q1, hs53.putAll 0 rfl (by rw [Array.length_toList, q1]; rfl) q2 fun H54 hs54 => ⟨by omega, by omega, ?_⟩⟩⟩
              rw [List.set_cons_zero] at hs54
              refine CallsH.mono (rmake (R := fun rv H56 => ∃ (cv2 : Array Value) (ρ2 : List Rs), rv = .agg cv2 ∧ cv2.size = 4 ∧ (∀ x ∈ cv2.toList, x.oneCell' = true) ∧ St H0 H56 (rfR r bp bl bc a1 most out 0 :: C4 :: C2 :: .cell b52 cv1 73 :: .sl q ls.length m 3 1 (ints ls) :: (ρ2 ++ (ρ1 ++ (X ++ σ)))) ∧
                ((¬ OkC (ls.drop N) ∧ ∃ x y z, cv2 = #[x, y, z, .bool false]) ∨ (OkC (ls.drop N) ∧ ∃ c2, cv2 = codV p2 (some ⟨c2, 0, none⟩) (m - N) (ls.length - N) (ls.drop N) (wtM (ls.drop N)) true ∧ ρ2 = [.sl (some ⟨c2, 0, none⟩) (ls.length - N) (ls.length - N) 3 1 (ints (codesM (ls.drop N)))])))
                (i2 (hs54.is 4 rfl)) (fun hn W H56 e56 => ⟨_, [], rfl, rfl, by simp [Value.oneCell'], (hs54.step e56).perm ((List.perm_append_comm (l₁ := [_]) (l₂ := [_, _, _])).append_right _), .inl ⟨hn, _, _, _, rfl⟩⟩) (fun ok2 c2 H56 hs56 => ⟨_, [_], rfl, rfl, by simp [Value.oneCell'], (hs54.call hs56).perm ((List.perm_append_comm (l₁ := [_, _]) (l₂ := [_, _, _])).append_right _ |>.trans ?_), .inr ⟨ok2, c2, by unfold codV; rw [l2], rfl⟩⟩)) (fun rv H56 hrv => ?_)
              · exact List.Perm.cons _ (List.Perm.cons _ (List.Perm.cons _ ((List.perm_append_comm (l₁ := [_]) (l₂ := [_, _])).append_right _)))
              obtain ⟨cv2, ρ2, rfl, q3, q4, hs56, hspec2⟩ := hrv
              refine ⟨_, rfl, hs56.alc fun b58 H59 hs59 => ⟨q3, hs59.putAll 0 rfl (by rw [Array.length_toList, q3]; rfl) q4 fun H60 hs60 => ?_⟩⟩
              rw [List.set_cons_zero] at hs60
              have hs60 : St H0 H60 (rfR r bp bl bc a1 most out 0 :: C4 :: C2 :: .cell b58 cv2 73 :: .cell b52 cv1 73 :: .sl q ls.length m 3 1 (ints ls) :: (ρ2 ++ (ρ1 ++ (X ++ σ)))) := hs60.perm ((List.perm_append_comm (l₁ := [_]) (l₂ := [_, _, _])).append_right _)
              intro J61 hJ61
              have fin61 : ∀ (e : Int) (H62 : Heap), St H0 H62 (rfR r bp bl bc a1 most out e :: C4 :: C2 :: .cell b58 cv2 73 :: .cell b52 cv1 73 :: .sl q ls.length m 3 1 (ints ls) :: (ρ2 ++ (ρ1 ++ (X ++ σ)))) →
                  (∀ H66 K1 K2, St H0 H66 (rfR r bp bl bc a1 most out e :: K1 :: K2 :: .cell b58 cv2 73 :: .cell b52 cv1 73 :: .sl q ls.length m 3 1 (ints ls) :: (ρ2 ++ (ρ1 ++ (X ++ σ)))) → R (.tuple #[.agg cv1, .agg cv2]) H66) → J61 [] H62 := fun e H62 hs62 hK => by
                refine hJ61 H62 ⟨cv1, q1, rowIn_whole (hs62.block 4 rfl), cv2, q3, rowIn_whole (hs62.block 3 rfl), q1, hs62.putAll 2 (by rw [← hC2]; rfl) (by rw [Array.length_toList, q1]; rfl) q2 fun H65 hs65 => ⟨.inr ⟨cv2, q3, rowIn_whole (hs65.block 3 rfl), rfl⟩, q3, hs65.putAll 1 (by rw [← hC4]; rfl) (by rw [Array.length_toList, q3]; rfl) q4 fun H66 hs66 => ?_⟩⟩
                simp only [List.set_cons_succ, List.set_cons_zero] at hs66
                exact ⟨cv1, q1, rowIn_whole (hs66.block 2 rfl), cv2, q3, rowIn_whole (hs66.block 1 rfl), hK H66 _ _ hs66⟩
              have bad21' : rightM (ls.take N) true false = false ∨ rightM (ls.drop N) true true = false → ∀ H97, Ext H60 H97 → CallsH Try.prog 37 #[.pointer (some ⟨r, 0, none⟩), .int .i64 21] H97 (fun r99 H100 => r99 = .tuple #[] ∧ J61 [] H100) := fun hf H97 e97 => by
                rw [if_pos hf] at hT
                refine c37 (hs60.step e97) fun H100 hs100 => ⟨rfl, ?_⟩
                rw [if_pos rfl] at hs100
                refine fin61 21 H100 hs100 fun H66 K1 K2 hs66 => hbad 21 (by decide) hT H66 a1 cv1 cv2 (K1 :: K2 :: .cell b58 cv2 73 :: .cell b52 cv1 73 :: .sl q ls.length m 3 1 (ints ls) :: (ρ2 ++ (ρ1 ++ X))) q1 q3 q2 q4 (by simpa using hs66)
              have r1 : ∀ {Q : Value → Heap → Prop}, (∀ H', Ext H60 H' → Q (.bool (rightM (ls.take N) true false)) H') → CallsH Try.prog 64 #[.agg cv1, .bool true, .bool false] H60 Q := fun hQ => by
                rcases hspec1 with ⟨hn, x, y, z, rfl⟩ | ⟨ok1, c1, rfl, _⟩
                · refine rright_bad fun H97 e97 => ?_
                  have hf : rightM (ls.take N) true false = false := by
                    cases hr : rightM (ls.take N) true false with
                    | false => rfl
                    | true => exact absurd (rightM_ok hr) hn
                  rw [← hf]; exact hQ H97 e97
                · refine rright_ok (l := (ls.take N).length) ?_ ok1 (by omega) hQ
                  have := i1 (hs60.is 5 rfl)
                  rw [l1]; exact this
              have r2 : ∀ {H72 : Heap} {Q : Value → Heap → Prop}, Ext H60 H72 → (∀ H', Ext H60 H' → Q (.bool (rightM (ls.drop N) true true)) H') → CallsH Try.prog 64 #[.agg cv2, .bool true, .bool true] H72 Q := fun {H72 Q} e72 hQ => by
                rcases hspec2 with ⟨hn, x, y, z, rfl⟩ | ⟨ok2, c2, rfl, _⟩
                · refine rright_bad fun H97 e97 => ?_
                  have hf : rightM (ls.drop N) true true = false := by
                    cases hr : rightM (ls.drop N) true true with
                    | false => rfl
                    | true => exact absurd (rightM_ok hr) hn
                  rw [← hf]; exact hQ H97 (e72.trans e97)
                · refine rright_ok (l := (ls.drop N).length) ?_ ok2 (by omega) fun H' e' => hQ H' (e72.trans e')
                  have := i2 ((hs60.is 5 rfl).ext e72)
                  rw [l2]; exact this
              refine ⟨cv1, q1, rowIn_whole (hs60.block 4 rfl), r1 fun H72 e72 => ⟨_, rfl, br_not (fun hf => bad21' (.inl hf) H72 e72) (fun ht1 => ?_)⟩⟩
              refine ⟨cv2, q3, rowIn_whole ((hs60.step e72).block 3 rfl), r2 e72 fun H78 e78 => ⟨_, rfl, br_not (fun hf => bad21' (.inr hf) H78 e78) (fun ht2 => ?_)⟩⟩
              rw [if_neg (by rw [ht1, ht2]; decide)] at hT
              rcases hspec1 with ⟨hn, _⟩ | ⟨ok1, c1, rfl, rfl⟩
              · exact absurd (rightM_ok ht1) hn
              rcases hspec2 with ⟨hn, _⟩ | ⟨ok2, c2, rfl, rfl⟩
              · exact absurd (rightM_ok ht2) hn
              refine fin61 0 H78 (hs60.step e78) fun H66 K1 K2 hs66 => ?_
              have h9 : St H0 H66 ([.sl (some ⟨c2, 0, none⟩) (ls.length - N) (ls.length - N) 3 1 (ints (codesM (ls.drop N))), .sl (some ⟨c1, 0, none⟩) N N 3 1 (ints (codesM (ls.take N))), .sl q ls.length m 3 1 (ints ls)] ++ (rfR r bp bl bc a1 most out 0 :: K1 :: K2 :: .cell b58 (codV p2 (some ⟨c2, 0, none⟩) (m - N) (ls.length - N) (ls.drop N) (wtM (ls.drop N)) true) 73 :: .cell b52 (codV p1 (some ⟨c1, 0, none⟩) (m - 0) N (ls.take N) (wtM (ls.take N)) true) 73 :: (X ++ σ))) :=
                hs66.perm (((List.perm_append_comm (l₁ := [_, _, _, _, _]) (l₂ := [_, _, _])).append_right (X ++ σ)).trans ((List.perm_append_comm (l₁ := [_]) (l₂ := [_, _])).append_right _))
              have h10 := h9.persOf (Q := fun H => CodI p1 (some ⟨c1, 0, none⟩) (ls.take N) H ∧ CodI p2 (some ⟨c2, 0, none⟩) (ls.drop N) H) fun H' h => ⟨⟨by rw [l1]; exact i1 (h.is 2 rfl), by rw [l1]; exact h.is 1 rfl⟩, ⟨by rw [l2]; exact i2 (h.is 2 rfl), by rw [l2]; exact h.is 0 rfl⟩⟩
              exact hR a1 _ _ hT (by omega) ok1 ok2 H66 p1 (some ⟨c1, 0, none⟩) _ _ p2 (some ⟨c2, 0, none⟩) _ _ (K1 :: K2 :: _ :: _ :: X) (by simpa using h10.swap)
        exact grow (8 * B.length + 2) a2 [] none 0 H97 (by omega) (Nat.le_refl _) (by simp) hW ((hs97.nilSl 3 1).swap)
    have hz := loop 0 (by omega) a1 e1 (List.replicate 19 0) H21 (by simp) (fun x hx => by rw [(List.mem_replicate.1 hx).2]; omega) (by
      rcases hc1 with ⟨h1, _⟩ | h
      · exact .inl ⟨h1, h1, rfl⟩
      · exact .inr h) hs21
    exact hz
  rcases hcase with ⟨he, g1, g2, g3, ha9⟩ | ⟨he, hT⟩
  · subst he ha9
    rw [g1] at key
    simp only at key
    rw [g2] at key
    simp only at key
    rw [g3] at key
    simp only at key
    have bad25 : hl > 29 ∨ hd > 29 → ∀ H' , St H0 H' (rfR r bp bl bc (a + 14) most out 25 :: C4 :: C2 :: σ) → J15 [] H' := fun hb H' hs' => by
      rw [if_pos hb] at key
      exact main H' (a + 14) 25 (.inr ⟨by decide, key.symm⟩) hs'
    refine ⟨_, rfl, _, rfR_e hs9, br_t rfl (br_dec (fun h1 => c37 hs9 fun H10 hs10 => ⟨rfl, bad25 (.inl h1) H10 hs10⟩) (fun h1 => br_dec (fun h2 => c37 hs9 fun H10 hs10 => ⟨rfl, bad25 (.inr h2) H10 hs10⟩) (fun h2 => ?_)))⟩
    rw [if_neg (by omega)] at key
    exact main H9 (a + 14) 0 (.inl ⟨rfl, key.symm, by omega⟩) hs9
  · subst he
    exact ⟨_, rfl, _, rfR_e hs9, br_f rfl (main H9 a9 20 (.inr ⟨by decide, hT⟩) hs9)⟩
end
end Go.Proofs
namespace Go.Proofs
open Go.Sh
variable {H0 H : Heap} {σ : List Rs} {R : Value → Heap → Prop}
theorem bump_get {o : List Int} {s : Nat} (h : s < o.length) : o[s]? = some (o.getD s 0) := get_gD o 0 h
theorem reps19 (n : Nat) : reps n (Array.toList #[Value.int .i64 0]) = ints (List.replicate n 0) := by
 show reps n [Value.int .i64 0] = _
 rw [reps_rep]; simp [ints]
theorem st_zeros (hs : St H0 H σ) (i : Nat) {b n : Nat} (hi : σ[i]? = some (.cell b (List.toArray (reps n (Array.toList #[Value.int .i64 0]))) 3)) : St H0 H (σ.set i (.sl (some ⟨b, 0, none⟩) n n 3 1 (ints (List.replicate n 0)))) := by
 rw [reps19] at hi
 exact hs.toSl i hi (by rw [List.size_toArray, ints_len, List.length_replicate, Nat.mul_one]) rfl (ints_one _)
theorem cnt_rng {l o : List Int} (hs : ∀ s ∈ l, 0 ≤ s ∧ s < o.length) (ho : ∀ x ∈ o, 0 ≤ x ∧ x ≤ 1) {s : Nat} : 0 ≤ (l.foldl bump o).getD s 0 ∧ (l.foldl bump o).getD s 0 ≤ 1 + l.length := by
 rcases getD_mem_or (l := l.foldl bump o) s with h | h
 ·exact (bumps_ok hs ho).2.1 _ h
 ·rw [h]; omega
theorem st_bump (hs : St H0 H σ) (i : Nat) {b l m s : Nat} {o : List Int} {f : Heap → Prop} (hi : σ[i]? = some (.sl (some ⟨b, 0, none⟩) l m 3 1 (ints o))) (h : s < o.length) (hr : 0 ≤ o.getD s 0 ∧ o.getD s 0 ≤ 100000000000)
    (hK : ∀ H', St H0 H' (σ.set i (.sl (some ⟨b, 0, none⟩) l m 3 1 (ints (bump o (s : Int))))) → f H') :
    stAt H ⟨b, s, none⟩ [.int .i64 (IntKind.wrap .i64 (o.getD s 0 + 1))] f := by
  refine hs.slPut i hi (by rw [ints_len]; exact h) rfl fun H' hs' => hK H' ?_
  rw [wrap_id (by omega) (by omega), ints_set] at hs'
  unfold Go.Proofs.bump
  rw [Int.toNat_natCast]
  exact hs'
theorem c49 {q : Option Addr} {m : Nat} {ts : List Tok} (h : RS H q ts.length 82 3 (tokL ts)) (hr : ∀ t ∈ ts, TokR t) (hl : ts.length ≤ 1000000000)
    (hR : ∀ b1 b2 H', St H H' [.sl (some ⟨b1, 0, none⟩) (cntL ts).length 286 3 1 (ints (cntL ts)), .sl (some ⟨b2, 0, none⟩) (cntD ts).length 30 3 1 (ints (cntD ts))] → R (.tuple #[.slice (some ⟨b1, 0, none⟩) (cntL ts).length 286, .slice (some ⟨b2, 0, none⟩) (cntD ts).length 30]) H') :
    CallsH Try.prog 49 #[.slice q ts.length m] H R := by
  refine Try.s49 ?_
  unfold Try.S49
  intro J2 hJ2
  have lr : ∀ t, ∀ s ∈ (ts.take t).map lsym, 0 ≤ s ∧ s < ((List.replicate 286 (0 : Int)).set 256 1).length := fun t s hs => by
    obtain ⟨u, hu, rfl⟩ := List.mem_map.1 hs
    have := lsym_rng (hr u (List.mem_of_mem_take hu))
    rw [List.length_set, List.length_replicate]; omega
  have lo : ∀ x ∈ (List.replicate 286 (0 : Int)).set 256 1, 0 ≤ x ∧ x ≤ 1 := fun x hx => by
    rcases List.mem_or_eq_of_mem_set hx with hx | rfl
    · rw [(List.mem_replicate.1 hx).2]; omega
    · omega
  have dr : ∀ t, ∀ s ∈ dsyms (ts.take t), 0 ≤ s ∧ s < (List.replicate 30 (0 : Int)).length := fun t s hs => by
    obtain ⟨u, hu, rfl⟩ := List.mem_map.1 hs
    rw [List.mem_filter] at hu
    rcases hr u (List.mem_of_mem_take hu.1) with h0 | h0
    · have := hu.2; simp [h0.1] at this
    · have := dstS_ok ⟨h0.2.2.1, h0.2.2.2.1⟩
      rw [List.length_replicate]; omega
  have do_ : ∀ x ∈ List.replicate 30 (0 : Int), 0 ≤ x ∧ x ≤ 1 := fun x hx => by rw [(List.mem_replicate.1 hx).2]; omega
  have ll : ∀ t, (cntL (ts.take t)).length = 286 := fun t => by unfold cntL; rw [foldl_bump_len, List.length_set, List.length_replicate]
  have dl : ∀ t, (cntD (ts.take t)).length = 30 := fun t => by unfold cntD; rw [foldl_bump_len, List.length_replicate]
  have dlen : ∀ t, (dsyms (ts.take t)).length ≤ ts.length := fun t => by
    unfold dsyms; rw [List.length_map]
    exact Nat.le_trans (List.length_filter_le _ _) (by rw [List.length_take]; omega)
  have main : ∀ b1 b2 H1, St H H1 [.sl (some ⟨b1, 0, none⟩) 286 286 3 1 (ints (List.replicate 286 0)), .sl (some ⟨b2, 0, none⟩) 30 30 3 1 (ints (List.replicate 30 0))] → J2 [.slice (some ⟨b1, 0, none⟩) 286 286, .slice (some ⟨b2, 0, none⟩) 30 30] H1 := fun b1 b2 H1 hs1 => by
    refine hJ2 _ _ _ _ _ _ H1 ⟨_, rfl, by omega, by omega, ?_⟩
    rw [add_none, Nat.zero_add, Nat.mul_one]
    refine hs1.slPut 0 rfl (by rw [ints_len, List.length_replicate]; decide) rfl fun H7 hs7 => ?_
    rw [show (Int.toNat 256) = 256 from rfl, ints_set] at hs7
    intro X8 hX
    have go : ∀ t, t ≤ ts.length → ∀ H2, St H H2 [.sl (some ⟨b1, 0, none⟩) 286 286 3 1 (ints (cntL (ts.take t))), .sl (some ⟨b2, 0, none⟩) 30 30 3 1 (ints (cntD (ts.take t)))] → X8 [.int .i64 (t : Nat)] H2 := upto fun t ht ih H2 hs2 => by
      refine hX _ H2 (br_dec (fun hlt => ?_) (fun hge => ?_))
      · have hlt : t < ts.length := by omega
        obtain ⟨tk, htk⟩ : ∃ x, ts[t]? = some x := ⟨_, List.getElem?_eq_getElem hlt⟩
        have hmem := List.mem_of_getElem? htk
        have ih := ih hlt
        have eL : cntL (ts.take (t + 1)) = bump (cntL (ts.take t)) (lsym tk) := by
          unfold cntL
          rw [List.take_add_one, htk, Option.toList_some, List.map_append, List.foldl_append]; rfl
        have eD : cntD (ts.take (t + 1)) = if tk.n = 0 then cntD (ts.take t) else bump (cntD (ts.take t)) (dstS tk.d : Nat) := by
          unfold cntD dsyms
          rw [List.take_add_one, htk, Option.toList_some, List.filter_append, List.map_append, List.foldl_append]
          split
          · rename_i h0; simp [h0]
          · rename_i h0; simp [h0]
        rw [eL, eD] at ih
        have bL : ∀ s, 0 ≤ (cntL (ts.take t)).getD s 0 ∧ (cntL (ts.take t)).getD s 0 ≤ 100000000000 := fun s => by
          have := cnt_rng (lr t) lo (s := s)
          rw [List.length_map, List.length_take] at this
          unfold cntL; omega
        have bD : ∀ s, 0 ≤ (cntD (ts.take t)).getD s 0 ∧ (cntD (ts.take t)).getD s 0 ≤ 100000000000 := fun s => by
          have := cnt_rng (dr t) do_ (s := s)
          have := dlen t
          unfold cntD; omega
        have lt1 := ll t
        have dt1 := dl t
        have hsy := lsym_rng (hr tk hmem)
        generalize cntL (ts.take t) = LC at *
        generalize cntD (ts.take t) = DC at *
        obtain ⟨blk, hq, hrow⟩ := (h.ext hs2.ext).row hlt (by decide) (tokL_get htk)
        refine ⟨_, hq, by omega, by omega, (tokC tk).toArray, rfl, ?_⟩
        rw [Int.toNat_natCast, add_none, Nat.zero_add]
        refine ⟨hrow, hs2.alc fun b13 H14 hs14 => ⟨rfl, hs14.putAll 0 rfl rfl (by simpa using tokC_one tk) fun H15 hs15 => ?_⟩⟩
        rw [List.set_cons_zero] at hs15
        refine ⟨_, hs15.get 0 (j := 0) rfl rfl, br_eq (fun h0 => ?_) (fun h0 => ?_)⟩
        · have h0 : tk.n = 0 := by omega
          rw [if_pos h0] at ih
          have el : lsym tk = tk.c := by unfold lsym; rw [if_pos h0]
          rw [el] at ih hsy
          obtain ⟨s, hs⟩ := Int.eq_ofNat_of_zero_le hsy.1
          rw [hs] at ih hsy
          refine ⟨_, hs15.get 0 (j := 2) rfl rfl, ?_⟩
          rw [hs]
          have hL : IS H15 (some ⟨b1, 0, none⟩) 286 (kints .i64 LC) := hs15.is 1 rfl
          refine hL.rd (by omega) (by omega) (by rw [Int.toNat_natCast]; exact bump_get (by omega)) ⟨_, rfl, by omega, by omega, ?_⟩
          rw [Int.toNat_natCast, add_none, Nat.zero_add, Nat.mul_one]
          refine st_bump hs15 1 rfl (by omega) (bL s) fun H21 hs21 => ?_
          rw [wrap_id (by omega) (by omega)]
          exact ih H21 hs21.tail
        · have h0 : tk.n ≠ 0 := by omega
          rw [if_neg h0] at ih
          have el : lsym tk = (lenS tk.n : Nat) := by unfold lsym; rw [if_neg h0]
          rw [el] at ih hsy
          obtain ⟨n3, n258, d1, d2, _⟩ : 3 ≤ tk.n ∧ tk.n ≤ 258 ∧ 1 ≤ tk.d ∧ tk.d ≤ 32768 ∧ tk.c = 0 := by
            rcases hr tk hmem with h | h
            · exact absurd h.1 h0
            · exact h
          have hds := dstS_ok ⟨d1, d2⟩
          refine ⟨_, hs15.get 0 (j := 0) rfl rfl, c44 ⟨n3, n258⟩ ⟨_, _, _, rfl, ?_⟩⟩
          have hL : IS H15 (some ⟨b1, 0, none⟩) 286 (kints .i64 LC) := hs15.is 1 rfl
          refine hL.rd (by omega) (by omega) (by rw [Int.toNat_natCast]; exact bump_get (by omega)) ⟨_, rfl, by omega, by omega, ?_⟩
          rw [Int.toNat_natCast, add_none, Nat.zero_add, Nat.mul_one]
          refine st_bump hs15 1 rfl (by omega) (bL _) fun H21 hs21 => ?_
          refine ⟨_, hs21.get 0 (j := 1) rfl rfl, find_dst ⟨d1, d2⟩ ⟨_, _, _, rfl, ?_⟩⟩
          have hD : IS H21 (some ⟨b2, 0, none⟩) 30 (kints .i64 DC) := hs21.is 2 rfl
          refine hD.rd (by omega) (by omega) (by rw [Int.toNat_natCast]; exact bump_get (by omega)) ⟨_, rfl, by omega, by omega, ?_⟩
          rw [Int.toNat_natCast, add_none, Nat.zero_add, Nat.mul_one]
          refine st_bump hs21 2 rfl (by omega) (bD _) fun H31 hs31 => ?_
          rw [wrap_id (by omega) (by omega)]
          exact ih H31 hs31.tail
      · have : t = ts.length := by omega
        subst this
        have e1 := ll ts.length
        have e2 := dl ts.length
        rw [List.take_of_length_le (Nat.le_refl _)] at hs2 e1 e2
        have := hR b1 b2 H2
        rw [e1, e2] at this
        exact this hs2
    exact go 0 (by omega) H7 hs7
  refine ⟨⟨by decide, by decide, by decide, by decide, ?_⟩, ⟨by decide, by decide, by decide, by decide, ?_⟩⟩
  · exact (St.nil H).alc fun b1 H1 hs1 => ⟨by decide, by decide, by decide, by decide, hs1.alc fun b2 H2 hs2 => main b1 b2 H2 ((st_zeros (st_zeros hs2 0 rfl) 1 rfl).swap)⟩
  · exact (St.nil H).alc fun b1 H1 hs1 => ⟨by decide, by decide, by decide, by decide, hs1.alc fun b2 H2 hs2 => main b2 b1 H2 (st_zeros (st_zeros hs2 0 rfl) 1 rfl)⟩
structure PadI (cs : List Int) (s n : Nat) : Prop where
 nn : ∀ x ∈ cs, 0 ≤ x
 n_ : n = posC cs
 s_ : s ≤ posC (cs.take s)
theorem PadI.set {cs : List Int} {s n : Nat} (p : PadI cs s n) (hs : s < cs.length) (h0 : cs.getD s 0 = 0) : PadI (cs.set s 1) (s + 1) (n + 1) := by
 refine ⟨fun x hx => ?_, by rw [posC_set hs h0, p.n_], ?_⟩
 ·rcases List.mem_or_eq_of_mem_set hx with hx | rfl
  ·exact p.nn x hx
  ·omega
 ·have ht : (cs.set s 1).take (s + 1) = cs.take s ++ [1] := by
   rw [List.take_add_one, List.take_set_of_le (Nat.le_refl s), List.getElem?_set_self (by omega)]; rfl
  have := p.s_
  rw [ht]; unfold posC at this ⊢; rw [List.countP_append]; simp; exact this
theorem PadI.skip {cs : List Int} {s n : Nat} (p : PadI cs s n) (hs : s < cs.length) (h0 : cs.getD s 0 ≠ 0) : PadI cs (s + 1) n := by
 refine ⟨p.nn, p.n_, ?_⟩
 have := posC_step hs
 have := p.nn _ (List.mem_of_getElem? (get_gD cs 0 hs))
 have := p.s_
 rw [if_pos (by omega)] at *
 omega
theorem PadI.end_ {cs : List Int} {s n : Nat} (p : PadI cs s n) : s ≤ n := by have := p.s_; have := p.n_; have := posC_take cs s; omega
theorem posC_rng (cs : List Int) (k : Nat) : posC (cs.take k) ≤ k := by
 have := posC_le (cs.take k)
 rw [List.length_take] at this; omega
theorem c72 {p : Option Addr} {l c : Nat} {xs : List Int} (h : IS H p l (kints .i64 xs)) (hl : l ≤ 1000000000)
    (hR : ∀ q m H', St H H' [.sl q l m 3 1 (kints .i64 xs)] → R (.slice q l m) H') : CallsH Try.prog 72 #[.slice p l c] H R :=
  Try.s72 (clone_of h (by omega) (by omega) rfl hR)
theorem c50 {p : Option Addr} {c : Nat} {cs : List Int} (h : IS H p cs.length (ints cs)) (h2 : 2 ≤ cs.length) (hl : cs.length ≤ 300) (hr : ∀ x ∈ cs, 0 ≤ x) (ok : OkL (padM cs) 15) (hlen : (lenM (padM cs) 15).length = cs.length)
    (hR : ∀ b H', St H H' [.sl (some ⟨b, 0, none⟩) (lenM (padM cs) 15).length (lenM (padM cs) 15).length 3 1 (ints (lenM (padM cs) 15))] → R (.slice (some ⟨b, 0, none⟩) (lenM (padM cs) 15).length (lenM (padM cs) 15).length) H') :
    CallsH Try.prog 50 #[.slice p cs.length c] H R := by
  refine Try.s50 ?_
  unfold Try.S50
  have h' : IS H p cs.length (kints .i64 cs) := h
  refine c72 h' (by omega) fun q m H3 hs3 => ⟨_, _, _, rfl, ?_⟩
  intro X5 hX5
  have hI : IS H3 q cs.length (kints .i64 cs) := hs3.is 0 rfl
  have two : X5 [.int .i64 (posC cs : Nat), .int .i64 (cs.length : Nat)] H3 := by
    refine hX5 _ _ H3 (br_n (by omega) ?_)
    intro X11 hX
    have loop : ∀ (f s n : Nat) (ds : List Int) (H4 : Heap), s + f = cs.length → ds.length = cs.length → PadI ds s n → padG f s n ds = padM cs → St H H4 [.sl q cs.length m 3 1 (ints ds)] → X11 [.int .i64 (n : Nat), .int .i64 (s : Nat)] H4 := by
      intro f
      induction f with
      | zero =>
        intro s n ds H4 hs hd pi he hs4
        rw [padG] at he
        subst he
        have hn := pi.n_
        have := pi.end_
        refine hX _ _ H4 (br_n (by omega) ?_)
        refine c52 (hs4.is 0 rfl) (by omega) (fun _ _ hn => absurd ok hn) fun _ H20 b fs e => ⟨_, _, _, _, rfl, ?_⟩
        rw [show Int.toNat 15 = 15 from rfl, ← hlen] at fs
        rw [← hlen]
        exact hR b H20 ((hs4.newSl e fs).take 1)
      | succ f ih =>
        intro s n ds H4 hs hd pi he hs4
        rw [padG] at he
        refine hX _ _ H4 (br_dec (fun hlt => ?_) (fun hge => ?_))
        · rw [if_pos (by omega)] at he
          have hI4 : IS H4 q cs.length (kints .i64 ds) := hs4.is 0 rfl
          refine hI4.rd (by omega) (by omega) (by rw [Int.toNat_natCast]; exact get_gD ds 0 (by omega)) (br_eq (fun h0 => ?_) (fun h0 => ?_))
          · rw [if_pos h0] at he
            obtain ⟨blk, hq⟩ := hs4.slSome 0 rfl (j := s) (by rw [ints_len]; omega)
            subst hq
            refine ⟨_, rfl, by omega, by omega, ?_⟩
            rw [Int.toNat_natCast, add_none, Nat.zero_add, Nat.mul_one]
            refine hs4.slPut 0 rfl (by rw [ints_len]; omega) rfl fun H18 hs18 => ?_
            rw [ints_set] at hs18
            rw [wrap_id (by omega) (by omega), wrap_id (by omega) (by omega)]
            exact ih (s + 1) (n + 1) _ H18 (by omega) (by rw [List.length_set]; exact hd) (pi.set (by omega) h0) he hs18
          · rw [if_neg h0] at he
            rw [wrap_id (by omega) (by omega)]
            exact ih (s + 1) n _ H4 (by omega) hd (pi.skip (by omega) h0) he hs4
        · rw [if_neg (by omega)] at he
          subst he
          refine c52 (hs4.is 0 rfl) (by omega) (fun _ _ hn => absurd ok hn) fun _ H20 b fs e => ⟨_, _, _, _, rfl, ?_⟩
          rw [show Int.toNat 15 = 15 from rfl, ← hlen] at fs
          rw [← hlen]
          exact hR b H20 ((hs4.newSl e fs).take 1)
    exact loop cs.length 0 (posC cs) cs H3 (by omega) rfl ⟨hr, rfl, by omega⟩ rfl hs3
  have go : ∀ k, k ≤ cs.length → X5 [.int .i64 (posC (cs.take k) : Nat), .int .i64 (k : Nat)] H3 := upto fun k hk ih => by
    by_cases hlt : k < cs.length
    · refine hX5 _ _ H3 (br_y (by omega) ?_)
      have ih := ih hlt
      rw [posC_step hlt] at ih
      have := posC_rng cs k
      refine hI.rd (by omega) (by omega) (by rw [Int.toNat_natCast]; exact get_gD cs 0 hlt) ?_
      rw [wrap_id (by omega) (by omega), wrap_id (by omega) (by omega)]
      refine br_dec (fun hp => ?_) (fun hp => ?_)
      · rw [if_pos hp] at ih; exact ih
      · rw [if_neg hp] at ih; exact ih
    · have : k = cs.length := by omega
      subst this
      rw [List.take_of_length_le (Nat.le_refl _)]
      exact two
  exact go 0 (by omega)
theorem c53 (hs : St H0 H σ) {i b l m : Nat} {cs : List Int} (hi : σ[i]? = some (.sl (some ⟨b, 0, none⟩) l m 3 1 (ints cs))) (hlen : cs.length = l) (h2 : 2 ≤ cs.length) (hl : cs.length ≤ 300) (hr : ∀ x ∈ cs, 0 ≤ x ∧ x ≤ 1000000000)
    (hR : ∀ H', St H0 H' (σ.set i (.sl (some ⟨b, 0, none⟩) l m 3 1 (ints (padM cs)))) → R (.slice (some ⟨b, 0, none⟩) l m) H') :
    CallsH Try.prog 53 #[.slice (some ⟨b, 0, none⟩) l m] H R := by
  subst hlen
  refine Try.s53 ?_
  unfold Try.S53
  intro X2 hX2
  have hI : IS H (some ⟨b, 0, none⟩) cs.length (kints .i64 cs) := hs.is i hi
  have two : X2 [.int .i64 (posC cs : Nat), .int .i64 (cs.length : Nat)] H := by
    refine hX2 _ _ H (br_n (by omega) ?_)
    intro X8 hX
    have loop : ∀ (f s n : Nat) (ds : List Int) (H4 : Heap), s + f = cs.length → ds.length = cs.length → PadI ds s n → padG f s n ds = padM cs → St H0 H4 (σ.set i (.sl (some ⟨b, 0, none⟩) cs.length m 3 1 (ints ds))) → X8 [.int .i64 (n : Nat), .int .i64 (s : Nat)] H4 := by
      intro f
      induction f with
      | zero =>
        intro s n ds H4 hs hd pi he hs4
        rw [padG] at he
        subst he
        have := pi.end_
        exact hX _ _ H4 (br_n (by omega) (hR H4 hs4))
      | succ f ih =>
        intro s n ds H4 hs hd pi he hs4
        rw [padG] at he
        refine hX _ _ H4 (br_dec (fun hlt => ?_) (fun hge => ?_))
        · rw [if_pos (by omega)] at he
          have hI4 : IS H4 (some ⟨b, 0, none⟩) cs.length (kints .i64 ds) := hs4.is i (setget hi _)
          refine hI4.rd (by omega) (by omega) (by rw [Int.toNat_natCast]; exact get_gD ds 0 (by omega)) (br_eq (fun h0 => ?_) (fun h0 => ?_))
          · rw [if_pos h0] at he
            refine hI4.rd (by omega) (by omega) (by rw [Int.toNat_natCast]; exact get_gD ds 0 (by omega)) ⟨_, rfl, by omega, by omega, ?_⟩
            rw [Int.toNat_natCast, add_none, Nat.zero_add, Nat.mul_one]
            refine hs4.slPut i (setget hi _) (by rw [ints_len]; omega) rfl fun H18 hs18 => ?_
            rw [h0, show IntKind.wrap .i64 ((0 : Int) + 1) = 1 from by decide, ints_set, setset] at hs18
            rw [wrap_id (by omega) (by omega), wrap_id (by omega) (by omega)]
            exact ih (s + 1) (n + 1) _ H18 (by omega) (by rw [List.length_set]; exact hd) (pi.set (by omega) h0) he hs18
          · rw [if_neg h0] at he
            rw [wrap_id (by omega) (by omega)]
            exact ih (s + 1) n _ H4 (by omega) hd (pi.skip (by omega) h0) he hs4
        · rw [if_neg (by omega)] at he
          subst he
          exact hR H4 hs4
    refine loop cs.length 0 (posC cs) cs H (by omega) rfl ⟨fun x hx => (hr x hx).1, rfl, by omega⟩ rfl ?_
    obtain ⟨h1, h2⟩ := List.getElem?_eq_some_iff.1 hi
    rw [← h2, List.set_getElem_self]; exact hs
  have go : ∀ k, k ≤ cs.length → X2 [.int .i64 (posC (cs.take k) : Nat), .int .i64 (k : Nat)] H := upto fun k hk ih => by
    by_cases hlt : k < cs.length
    · refine hX2 _ _ H (br_y (by omega) ?_)
      have ih := ih hlt
      rw [posC_step hlt] at ih
      have := posC_rng cs k
      have hc := hr _ (List.mem_of_getElem? (get_gD cs 0 hlt))
      refine hI.rd (by omega) (by omega) (by rw [Int.toNat_natCast]; exact get_gD cs 0 hlt) ?_
      have e : IntKind.wrap .i64 ((posC (cs.take k) : Nat) + min (cs.getD k 0) 1) = ((posC (cs.take k) + (if cs.getD k 0 > 0 then 1 else 0) : Nat) : Int) := by
        rw [wrap_id (by omega) (by omega)]
        split <;> omega
      rw [e, wrap_id (by omega) (by omega)]
      exact ih
    · have : k = cs.length := by omega
      subst this
      rw [List.take_of_length_le (Nat.le_refl _)]
      exact two
  exact go 0 (by omega)
end Go.Proofs
