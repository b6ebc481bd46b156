/-
  OWN WORK. HuffLeast, plain: the lengths are right, place by place, and their cost is the document's.
-/
import Derived.Test.YtmimlpfnhmokeaaHuffT
import Derived.Test.YtmimlpfnhmokeaaHuffP
set_option linter.unusedVariables false
set_option linter.unusedSimpArgs false
namespace Go.Proofs
open Go.Sh

def costM (cs ls : List Int) (k : Nat) : Int := ((List.range k).map fun i => cs.getD i 0 * ls.getD i 0).sum

theorem costM_succ {cs ls : List Int} {k : Nat} {a u : Int} (ha : cs[k]? = some a) (hu : ls[k]? = some u) : costM cs ls (k + 1) = costM cs ls k + a * u := by
  unfold costM
  rw [List.range_succ, List.map_append, sum_append]
  simp only [List.map_cons, List.map_nil, List.sum_cons, List.sum_nil]
  rw [List.getD_eq_getElem?_getD, List.getD_eq_getElem?_getD, ha, hu]
  simp

theorem costM_rng {cs ls : List Int} (h : ∀ n ∈ cs, 0 ≤ n ∧ n ≤ 1099511627776) (g : ∀ n ∈ ls, 0 ≤ n ∧ n ≤ 16) (k : Nat) (hk : k ≤ cs.length) (hl : ls.length = cs.length) : 0 ≤ costM cs ls k ∧ costM cs ls k ≤ k * 17592186044416 := by
  induction k with
  | zero => simp [costM]
  | succ k ih =>
    have ha : cs[k]? = some cs[k] := List.getElem?_eq_getElem (by omega)
    have hu : ls[k]? = some ls[k] := List.getElem?_eq_getElem (by omega)
    rw [costM_succ ha hu]
    obtain ⟨h1, h2⟩ := h _ (List.mem_of_getElem? ha)
    obtain ⟨g1, g2⟩ := g _ (List.mem_of_getElem? hu)
    have i1 := ih (by omega)
    have m1 := Int.mul_nonneg h1 g1
    have m2 : cs[k] * ls[k] ≤ 1099511627776 * 16 := Int.mul_le_mul h2 g2 g1 (by omega)
    omega

theorem lv_place {cs : List Int} {LS : List Pk} (lv : Lv cs LS) {x : Pk} (hx : x ∈ LS) : ∃ k : Nat, sy x = (k : Int) ∧ cs[k]? = some x.c ∧ x.c > 0 ∧ k < cs.length := by
  obtain ⟨k, h1, h2, h3⟩ := lv.src x hx
  exact ⟨k, h3, h1, h2, (List.getElem?_eq_some_iff.1 h1).1⟩

theorem cost_leaves {cs ls : List Int} {LS : List Pk} (lv : Lv cs LS) (hr : ∀ n ∈ cs, 0 ≤ n) : costM cs ls cs.length = (LS.map fun x => x.c * ls.getD (sy x).toNat 0).sum := by
  have hnd : (LS.map fun x => (sy x).toNat).Nodup := by
    have := lv.nd
    rw [List.nodup_iff_pairwise_ne, List.pairwise_map] at this ⊢
    refine List.Pairwise.imp_of_mem (fun ha hb hab he => hab ?_) this
    obtain ⟨k, h1, _⟩ := lv_place lv ha
    obtain ⟨k', h2, _⟩ := lv_place lv hb
    omega
  unfold costM
  rw [sum_places (T := LS.map fun x => (sy x).toNat) hnd (fun i hi => ?_) (fun i hi hni => ?_)]
  · rw [List.map_map]
    congr 1
    refine List.map_congr_left fun x hx => ?_
    obtain ⟨k, h1, h2, _, _⟩ := lv_place lv hx
    have e : (sy x).toNat = k := by omega
    show cs.getD (sy x).toNat 0 * ls.getD (sy x).toNat 0 = _
    rw [e, List.getD_eq_getElem?_getD, h2]; rfl
  · obtain ⟨x, hx, rfl⟩ := List.mem_map.1 hi
    obtain ⟨k, h1, _, _, h2⟩ := lv_place lv hx
    omega
  · have ha : cs[i]? = some cs[i] := List.getElem?_eq_getElem (by omega)
    have h0 := hr _ (List.mem_of_getElem? ha)
    by_cases hp : cs[i] > 0
    · obtain ⟨r, h⟩ := lv.has i _ ha hp
      exact absurd (List.mem_map.2 ⟨_, List.mem_of_getElem? h, show (sy ⟨cs[i], [(i : Int)]⟩).toNat = i by simp [sy]⟩) hni
    · rw [List.getD_eq_getElem?_getD, ha, show cs[i] = 0 by omega]; simp

theorem one_of {cs : List Int} {most : Nat} (h1 : (leavesM cs).length = 1) : ∃ x k, ssort (leavesM cs) = [x] ∧ sy x = ((k : Nat) : Int) ∧ cs[k]? = some x.c ∧ x.c > 0 ∧ lenM cs most = (List.replicate cs.length 0).set k 1 := by
  obtain ⟨x, hx⟩ := List.length_eq_one_iff.1 h1
  have hs : ssort (leavesM cs) = [x] := by
    have := ssort_perm (leavesM cs)
    rw [hx] at this ⊢
    exact List.perm_singleton.1 this
  have lv := lv_of cs
  rw [hs] at lv
  obtain ⟨k, e1, e2, e3, e4⟩ := lv_place lv List.mem_cons_self
  refine ⟨x, k, hs, e1, e2, e3, ?_⟩
  unfold lenM
  rw [if_pos h1, hx]
  have := lv.one x List.mem_cons_self
  simp only [List.headD_cons, this, e1, Int.toNat_natCast]

theorem lenM_zero {cs : List Int} {most : Int} (ok : OkL cs most) {i : Nat} {a u : Int} (ha : cs[i]? = some a) (hu : (lenM cs most.toNat)[i]? = some u) : (u = 0 ↔ a = 0) ∧ u ≤ most := by
  have m1 := ok.m1
  have hil := (List.getElem?_eq_some_iff.1 ha).1
  have ha0 := (ok.rng a (List.mem_of_getElem? ha)).1
  by_cases h2 : 2 ≤ (leavesM cs).length
  · obtain ⟨X, t⟩ := two_of ok h2
    by_cases hp : a > 0
    · obtain ⟨r, hr⟩ := t.lv.has i a ha hp
      obtain ⟨_, h3⟩ := t.leaf r _ i hr rfl
      rw [hu] at h3; cases h3
      have := t.pos r (List.getElem?_eq_some_iff.1 hr).1
      omega
    · have := t.none i hil fun x hx hs => by
        obtain ⟨k, e1, e2, e3, _⟩ := lv_place t.lv hx
        have e : k = i := by omega
        rw [e, ha] at e2; cases e2; omega
      rw [hu] at this; cases this; omega
  · by_cases h1 : (leavesM cs).length = 1
    · obtain ⟨x, k, hs, e1, e2, e3, e4⟩ := one_of (most := most.toNat) h1
      rw [e4, List.getElem?_set] at hu
      by_cases hk : k = i
      · subst hk
        rw [if_pos rfl, if_pos (by simpa using hil)] at hu
        rw [ha] at e2; cases e2; cases hu; omega
      · rw [if_neg hk, List.getElem?_replicate, if_pos hil] at hu
        cases hu
        by_cases hp : a > 0
        · obtain ⟨r, hr⟩ := (lv_of cs).has i a ha hp
          rw [hs] at hr
          have : r = 0 := by have := (List.getElem?_eq_some_iff.1 hr).1; simp at this; omega
          subst this
          simp at hr
          rw [hr] at e1
          simp [sy] at e1
          omega
        · omega
    · have h0 : (leavesM cs).length = 0 := by omega
      have e : lenM cs most.toNat = List.replicate cs.length 0 := by
        unfold lenM; rw [if_neg h1, h0]; simp
      rw [e, List.getElem?_replicate, if_pos hil] at hu
      cases hu
      by_cases hp : a > 0
      · obtain ⟨r, hr⟩ := (lv_of cs).has i a ha hp
        have := (List.getElem?_eq_some_iff.1 hr).1
        rw [ssort_len] at this; omega
      · omega

theorem cost_zero {cs : List Int} {most : Int} (ok : OkL cs most) (h0 : (leavesM cs).length = 0) : costM cs (lenM cs most.toNat) cs.length = 0 := by
  rw [cost_leaves (lv_of cs) fun n hn => (ok.rng n hn).1]
  have : ssort (leavesM cs) = [] := List.eq_nil_of_length_eq_zero (by rw [ssort_len]; exact h0)
  rw [this]; rfl

theorem cost_one {cs : List Int} {most : Int} (ok : OkL cs most) (h1 : (leavesM cs).length = 1) {v : Int} (hv : (sortD cs)[0]? = some v) : costM cs (lenM cs most.toNat) cs.length = v := by
  obtain ⟨x, k, hs, e1, e2, e3, e4⟩ := one_of (most := most.toNat) h1
  rw [cost_leaves (lv_of cs) fun n hn => (ok.rng n hn).1, hs]
  rw [sortD_eq, hs] at hv
  simp at hv
  have hk := (List.getElem?_eq_some_iff.1 e2).1
  simp only [List.map_cons, List.map_nil, List.sum_cons, List.sum_nil]
  rw [e1, Int.toNat_natCast, e4, List.getD_eq_getElem?_getD, List.getElem?_set, if_pos rfl, if_pos (by simpa using hk), ← hv]
  simp

theorem cost_two {cs : List Int} {most : Int} (ok : OkL cs most) (h2 : 2 ≤ (leavesM cs).length) :
    ∃ v, val (ssort (leavesM cs)).length (fun k => csum ((ssort (leavesM cs)).take k)) (most.toNat - 1) (ssort (leavesM cs)).length 2 = some v ∧ costM cs (lenM cs most.toNat) cs.length = v + csum (ssort (leavesM cs)) := by
  have m1 := ok.m1
  obtain ⟨X, t⟩ := two_of ok h2
  generalize ssort (leavesM cs) = LS at t
  obtain ⟨v, h1, hc⟩ := least_is (m := most.toNat) t.lv.srt (fun x hx => (lv_place t.lv hx).elim fun _ h => h.2.2.1) t.n2 (by omega) t.sel fun r hr => (t.pos r hr).1
  refine ⟨v, h1, ?_⟩
  rw [hc, ← cost_rows, cost_leaves t.lv fun n hn => (ok.rng n hn).1]
  congr 1
  apply List.ext_getElem?
  intro r
  by_cases hr : r < LS.length
  · have hx : LS[r]? = some LS[r] := List.getElem?_eq_getElem hr
    obtain ⟨k, e1, e2, e3, e4⟩ := lv_place t.lv (List.mem_of_getElem? hx)
    obtain ⟨_, h3⟩ := t.leaf r _ k hx e1
    rw [List.getElem?_map, List.getElem?_map, hx, List.getElem?_range hr]
    simp only [Option.map_some]
    rw [e1, Int.toNat_natCast, List.getD_eq_getElem?_getD, List.getD_eq_getElem?_getD, h3, hx]
    rfl
  · rw [List.getElem?_eq_none_iff.2 (by simp; omega), List.getElem?_eq_none_iff.2 (by simp; omega)]

/-- The sums of the least leaves. -/
theorem sums_rng {cs : List Int} (hr : ∀ n ∈ cs, 0 ≤ n ∧ n ≤ 1099511627776) (h40 : (leavesM cs).length ≤ 40) (k : Nat) : 0 ≤ csum ((ssort (leavesM cs)).take k) ∧ csum ((ssort (leavesM cs)).take k) ≤ 1000000000000000 := by
  have lv := lv_of cs
  have : ∀ L : List Pk, (∀ x ∈ L, 0 < x.c ∧ x.c ≤ 1099511627776) → 0 ≤ csum L ∧ csum L ≤ L.length * 1099511627776 := fun L => by
    induction L with
    | nil => intro _; simp [csum]
    | cons a r ih =>
      intro h
      have h1 := h a List.mem_cons_self
      have h2 := ih fun x hx => h x (List.mem_cons_of_mem _ hx)
      unfold csum at *
      simp only [List.map_cons, List.sum_cons, List.length_cons]
      omega
  have h := this ((ssort (leavesM cs)).take k) fun x hx => by
    obtain ⟨j, _, e2, e3, _⟩ := lv_place lv (List.mem_of_mem_take hx)
    have := hr _ (List.mem_of_getElem? e2)
    omega
  have hl : ((ssort (leavesM cs)).take k).length ≤ 40 := by
    have := List.length_take_le k (ssort (leavesM cs))
    have h3 : ((ssort (leavesM cs)).take k).length ≤ (ssort (leavesM cs)).length := by simp; omega
    rw [ssort_len] at h3; omega
  omega

end Go.Proofs
