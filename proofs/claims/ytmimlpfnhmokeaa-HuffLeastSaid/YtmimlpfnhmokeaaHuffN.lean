/-
  OWN WORK. Packages, plain: what stands ahead in the rows is told by how many leaves of each level stand there.
-/
import Derived.Test.YtmimlpfnhmokeaaHuffG
set_option linter.unusedVariables false
set_option linter.unusedSimpArgs false
namespace Go.Proofs
open Go.Sh

def mrg : List (Pk × Nat) → List (Pk × Nat) → List (Pk × Nat)
  | [], b => b
  | a, [] => a
  | x :: a, y :: b => if x.1.c ≤ y.1.c then x :: mrg a (y :: b) else y :: mrg (x :: a) b
  termination_by a b => a.length + b.length

theorem mrg_nil (a : List (Pk × Nat)) : mrg a [] = a := by cases a <;> simp [mrg]
theorem mrg_cons (x y : Pk × Nat) (a b : List (Pk × Nat)) : mrg (x :: a) (y :: b) = if x.1.c ≤ y.1.c then x :: mrg a (y :: b) else y :: mrg (x :: a) b := by rw [mrg]

theorem mrg_take : ∀ (s : Nat) (a b : List (Pk × Nat)), a.length + b.length ≤ s → ∀ q, q ≤ a.length + b.length → ∃ x y, x ≤ a.length ∧ y ≤ b.length ∧ x + y = q ∧ ((mrg a b).take q).Perm (a.take x ++ b.take y) ∧ ((mrg a b).drop q).Perm (a.drop x ++ b.drop y) := by
  intro s
  induction s with
  | zero =>
    intro a b hs q hq
    have ha : a = [] := List.length_eq_zero_iff.1 (by omega)
    have hb : b = [] := List.length_eq_zero_iff.1 (by omega)
    subst ha hb
    exact ⟨0, 0, by omega, by omega, by simp at hq; omega, by simp [mrg], by simp [mrg]⟩
  | succ s ih =>
    intro a b hs q hq
    match a, b with
    | [], b => exact ⟨0, q, by omega, by simpa using hq, by omega, by simp [mrg], by simp [mrg]⟩
    | x :: a, [] => exact ⟨q, 0, by simpa using hq, by omega, by omega, by rw [mrg_nil]; simp, by rw [mrg_nil]; simp⟩
    | x :: a, y :: b =>
      rw [mrg_cons]
      simp only [List.length_cons] at hs hq
      split
      · cases q with
        | zero =>
          obtain ⟨x', y', h1, h2, h3, h4, h5⟩ := ih a (y :: b) (by simp; omega) 0 (by omega)
          have hx : x' = 0 := by omega
          have hy : y' = 0 := by omega
          subst hx hy
          refine ⟨0, 0, by omega, by omega, by omega, by simp, ?_⟩
          simp only [List.drop_zero] at h5 ⊢
          exact h5.cons x
        | succ q =>
          obtain ⟨x', y', h1, h2, h3, h4, h5⟩ := ih a (y :: b) (by simp; omega) q (by simp; omega)
          refine ⟨x' + 1, y', by simp; omega, h2, by omega, ?_, ?_⟩
          · simp only [List.take_succ_cons, List.cons_append]; exact h4.cons x
          · simp only [List.drop_succ_cons]; exact h5
      · cases q with
        | zero =>
          obtain ⟨x', y', h1, h2, h3, h4, h5⟩ := ih (x :: a) b (by simp; omega) 0 (by omega)
          have hx : x' = 0 := by omega
          have hy : y' = 0 := by omega
          subst hx hy
          refine ⟨0, 0, by omega, by omega, by omega, by simp, ?_⟩
          simp only [List.drop_zero] at h5 ⊢
          exact (h5.cons y).trans List.perm_middle.symm
        | succ q =>
          obtain ⟨x', y', h1, h2, h3, h4, h5⟩ := ih (x :: a) b (by simp; omega) q (by simp; omega)
          refine ⟨x', y' + 1, h1, by simp; omega, by omega, ?_, ?_⟩
          · simp only [List.take_succ_cons]; exact (h4.cons y).trans List.perm_middle.symm
          · simp only [List.drop_succ_cons]; exact h5

theorem mrg_perm (a b : List (Pk × Nat)) : (mrg a b).Perm (a ++ b) := by
  obtain ⟨x, y, h1, h2, h3, h4, h5⟩ := mrg_take _ a b (Nat.le_refl _) 0 (by omega)
  have hx : x = 0 := by omega
  have hy : y = 0 := by omega
  subst hx hy
  simpa using h5

theorem mrg_sorted : ∀ (s : Nat) (a b : List (Pk × Nat)), a.length + b.length ≤ s → a.Pairwise LexT → b.Pairwise LexT → (∀ u ∈ a, ∀ v ∈ b, u.2 < v.2) → (mrg a b).Pairwise LexT := by
  intro s
  induction s with
  | zero =>
    intro a b hs _ _ _
    have ha : a = [] := List.length_eq_zero_iff.1 (by omega)
    have hb : b = [] := List.length_eq_zero_iff.1 (by omega)
    subst ha hb; simp [mrg]
  | succ s ih =>
    intro a b hs ha hb hab
    match a, b with
    | [], b => simpa [mrg] using hb
    | x :: a, [] => rw [mrg_nil]; exact ha
    | x :: a, y :: b =>
      simp only [List.length_cons] at hs
      have ha' := List.pairwise_cons.1 ha
      have hb' := List.pairwise_cons.1 hb
      have hxy := hab x List.mem_cons_self y List.mem_cons_self
      rw [mrg_cons]
      split
      · rename_i hle
        have hlex : LexT x y := by unfold LexT; omega
        refine List.pairwise_cons.2 ⟨fun z hz => ?_, ih a (y :: b) (by simp; omega) ha'.2 hb fun u hu v hv => hab u (List.mem_cons_of_mem _ hu) v hv⟩
        rcases List.mem_append.1 ((mrg_perm _ _).mem_iff.1 hz) with hz | hz
        · exact ha'.1 z hz
        · rcases List.mem_cons.1 hz with rfl | hz
          · exact hlex
          · have := hb'.1 z hz
            unfold LexT at *; omega
      · rename_i hle
        have hlex : LexT y x := by left; omega
        refine List.pairwise_cons.2 ⟨fun z hz => ?_, ih (x :: a) b (by simp; omega) ha hb'.2 fun u hu v hv => hab u hu v (List.mem_cons_of_mem _ hv)⟩
        rcases List.mem_append.1 ((mrg_perm _ _).mem_iff.1 hz) with hz | hz
        · rcases List.mem_cons.1 hz with rfl | hz
          · exact hlex
          · have := ha'.1 z hz
            unfold LexT at *; omega
        · exact hb'.1 z hz

def SortedC (L : List Pk) : Prop := L.Pairwise fun a b => a.c ≤ b.c

theorem zip_lex {L : List Pk} (h : SortedC L) (i : Nat) : (L.zipIdx i).Pairwise LexT := by
  induction L generalizing i with
  | nil => simp
  | cons x r ih =>
    have h' := List.pairwise_cons.1 h
    rw [List.zipIdx_cons]
    refine List.pairwise_cons.2 ⟨fun z hz => ?_, ih h'.2 (i + 1)⟩
    have h1 := List.mem_zipIdx hz
    have h2 := h'.1 z.1 (by
      have := List.fst_mem_of_mem_zipIdx hz
      exact this)
    unfold LexT
    show x.c < z.1.c ∨ (x.c = z.1.c ∧ i < z.2)
    omega

theorem ssort_merge {A B : List Pk} (hA : SortedC A) (hB : SortedC B) : ssort (A ++ B) = (mrg A.zipIdx (B.zipIdx A.length)).map (·.1) := by
  unfold ssort
  congr 1
  refine perm_unique LexT.asymm ?_ (sortT_sorted (zipIdx_tags _)) (mrg_sorted _ _ _ (Nat.le_refl _) (zip_lex hA 0) (zip_lex hB _) fun u hu v hv => ?_)
  · refine (sortT_perm _).trans ?_
    rw [List.zipIdx_append]
    simpa using (mrg_perm A.zipIdx (B.zipIdx A.length)).symm
  · have h1 := List.mem_zipIdx hu
    have h2 := List.mem_zipIdx hv
    omega

theorem ssort_sorted (L : List Pk) : SortedC (ssort L) := by
  unfold ssort SortedC
  rw [List.pairwise_map]
  exact (sortT_sorted (zipIdx_tags L)).imp fun h => by unfold LexT at h; omega

theorem merge_take {A B : List Pk} (hA : SortedC A) (hB : SortedC B) {q : Nat} (hq : q ≤ A.length + B.length) :
    ∃ x y, x ≤ A.length ∧ y ≤ B.length ∧ x + y = q ∧ ((ssort (A ++ B)).take q).Perm (A.take x ++ B.take y) ∧ ∀ u ∈ A.take x ++ B.take y, ∀ v ∈ A.drop x ++ B.drop y, u.c ≤ v.c := by
  obtain ⟨x, y, h1, h2, h3, h4, h5⟩ := mrg_take _ A.zipIdx (B.zipIdx A.length) (Nat.le_refl _) q (by simpa using hq)
  simp only [List.length_zipIdx] at h1 h2
  have e := ssort_merge hA hB
  have t1 : ((A.zipIdx.take x).map (·.1)) = A.take x := by rw [List.map_take, List.zipIdx_map_fst]
  have t2 : (((B.zipIdx A.length).take y).map (·.1)) = B.take y := by rw [List.map_take, List.zipIdx_map_fst]
  have t3 : ((A.zipIdx.drop x).map (·.1)) = A.drop x := by rw [List.map_drop, List.zipIdx_map_fst]
  have t4 : (((B.zipIdx A.length).drop y).map (·.1)) = B.drop y := by rw [List.map_drop, List.zipIdx_map_fst]
  have p1 : ((ssort (A ++ B)).take q).Perm (A.take x ++ B.take y) := by
    rw [e, ← List.map_take]
    have := h4.map (·.1)
    rwa [List.map_append, t1, t2] at this
  have p2 : ((ssort (A ++ B)).drop q).Perm (A.drop x ++ B.drop y) := by
    rw [e, ← List.map_drop]
    have := h5.map (·.1)
    rwa [List.map_append, t3, t4] at this
  refine ⟨x, y, h1, h2, h3, p1, fun u hu v hv => ?_⟩
  have hs := ssort_sorted (A ++ B)
  unfold SortedC at hs
  rw [← List.take_append_drop q (ssort (A ++ B)), List.pairwise_append] at hs
  exact hs.2.2 u (p1.mem_iff.2 hu) v (p2.mem_iff.2 hv)

theorem pairsM_sorted : ∀ {L : List Pk}, SortedC L → SortedC (pairsM L)
  | [], _ => List.Pairwise.nil
  | [a], _ => by simp [pairsM, SortedC]
  | a :: b :: r, h => by
    have h1 := List.pairwise_cons.1 h
    have h2 := List.pairwise_cons.1 h1.2
    simp only [pairsM]
    refine List.pairwise_cons.2 ⟨fun z hz => ?_, pairsM_sorted h2.2⟩
    obtain ⟨u, hu, v, hv, rfl⟩ := pairsM_mem hz
    have := h1.1 u (List.mem_cons_of_mem _ hu)
    have := h2.1 v hv
    show a.c + b.c ≤ u.c + v.c
    omega

theorem rowM_sorted (ls : List Pk) : ∀ k, SortedC (rowM ls k)
  | 0 => List.Pairwise.nil
  | k + 1 => ssort_sorted _

theorem pairsM_take : ∀ (y : Nat) (L : List Pk), 2 * y ≤ L.length → (pairsM L).take y = pairsM (L.take (2 * y))
  | 0, L, _ => by simp [pairsM]
  | y + 1, a :: b :: r, h => by
    have e : 2 * (y + 1) = 2 * y + 1 + 1 := by omega
    rw [e, List.take_succ_cons, List.take_succ_cons]
    simp only [pairsM, List.take_succ_cons]
    rw [pairsM_take y r (by simp at h; omega)]
  | y + 1, [a], h => by simp at h; omega
  | y + 1, [], h => by simp at h

theorem pairsM_syms : ∀ (y : Nat) (M : List Pk), M.length = 2 * y → (pairsM M).flatMap (·.s) = M.flatMap (·.s) ∧ ((pairsM M).map (·.c)).sum = (M.map (·.c)).sum
  | 0, M, h => by
    have : M = [] := List.length_eq_zero_iff.1 (by omega)
    subst this; simp [pairsM]
  | y + 1, a :: b :: r, h => by
    obtain ⟨h1, h2⟩ := pairsM_syms y r (by simp at h; omega)
    simp only [pairsM, List.flatMap_cons, List.map_cons, List.sum_cons]
    rw [h1, h2]
    refine ⟨by simp, by omega⟩
  | y + 1, [a], h => by simp at h; omega
  | y + 1, [], h => by simp at h

theorem pairsM_over : ∀ (y : Nat) (M : List Pk), M.length = 2 * y → (∀ x ∈ M, 0 < x.c) → ∀ z ∈ M, ∃ u ∈ pairsM M, z.c < u.c
  | 0, M, h, _, z, hz => by
    have : M = [] := List.length_eq_zero_iff.1 (by omega)
    subst this; simp at hz
  | y + 1, a :: b :: r, h, hp, z, hz => by
    have ha := hp a List.mem_cons_self
    have hb := hp b (by simp)
    simp only [pairsM]
    rcases List.mem_cons.1 hz with rfl | hz
    · exact ⟨_, List.mem_cons_self, by show z.c < z.c + b.c; omega⟩
    · rcases List.mem_cons.1 hz with rfl | hz
      · exact ⟨_, List.mem_cons_self, by show z.c < a.c + z.c; omega⟩
      · obtain ⟨u, hu, hlt⟩ := pairsM_over y r (by simp at h; omega) (fun x hx => hp x (by simp [hx])) z hz
        exact ⟨u, List.mem_cons_of_mem _ hu, hlt⟩
  | y + 1, [a], h, _, _, _ => by simp at h; omega
  | y + 1, [], h, _, _, _ => by simp at h

theorem rowM_pos {ls : List Pk} (h : ∀ x ∈ ls, 0 < x.c) : ∀ k, ∀ x ∈ rowM ls k, 0 < x.c
  | 0, x, hx => by simp [rowM] at hx
  | k + 1, x, hx => by
    rcases rowM_mem hx with hx | hx
    · exact h x hx
    · obtain ⟨a, ha, b, hb, rfl⟩ := pairsM_mem hx
      have := rowM_pos h k a ha
      have := rowM_pos h k b hb
      show 0 < a.c + b.c
      omega

def wsum : List Nat → Nat
  | [] => 0
  | x :: r => x * 2 ^ r.length + wsum r

def csum (L : List Pk) : Int := (L.map (·.c)).sum

structure Sel (LS : List Pk) (k q : Nat) (X : List Nat) : Prop where
  len : X.length = k
  le : ∀ x ∈ X, x ≤ LS.length
  dec : X.Pairwise (· ≥ ·)
  sym : (((rowM LS k).take q).flatMap (·.s)).Perm (X.flatMap fun x => (LS.take x).flatMap (·.s))
  cost : csum ((rowM LS k).take q) = (X.map fun x => csum (LS.take x)).sum
  wid : wsum X * 2 = q * 2 ^ k
  hd : ∀ x r, X = x :: r → ∀ z ∈ LS.take x, z ∈ (rowM LS k).take q

theorem csum_append (a b : List Pk) : csum (a ++ b) = csum a + csum b := by
  unfold csum
  rw [List.map_append]
  induction a with
  | nil => simp
  | cons x r ih => simp only [List.map_cons, List.cons_append, List.sum_cons, ih]; omega
theorem csum_perm {a b : List Pk} (h : a.Perm b) : csum a = csum b := by
  unfold csum
  induction h with
  | nil => rfl
  | cons x _ ih => simp only [List.map_cons, List.sum_cons, ih]
  | swap x y l => simp only [List.map_cons, List.sum_cons]; omega
  | trans _ _ ih1 ih2 => rw [ih1, ih2]

theorem sel_ex {LS : List Pk} (hs : SortedC LS) (hp : ∀ x ∈ LS, 0 < x.c) : ∀ (k q : Nat), q ≤ (rowM LS k).length → ∃ X, Sel LS k q X
  | 0, q, hq => by
    have : q = 0 := by simpa [rowM] using hq
    subst this
    exact ⟨[], rfl, by simp, List.Pairwise.nil, by simp [rowM], by simp [rowM, csum], by simp [wsum], fun x r h => by cases h⟩
  | k + 1, q, hq => by
    rw [rowM_len] at hq
    have hB := pairsM_sorted (rowM_sorted LS k)
    have hBl := pairsM_len (rowM LS k)
    obtain ⟨x, y, h1, h2, h3, h4, h5⟩ := merge_take hs hB (q := q) (by omega)
    have hy2 : 2 * y ≤ (rowM LS k).length := by omega
    obtain ⟨X, sel⟩ := sel_ex hs hp k (2 * y) hy2
    have htk := pairsM_take y (rowM LS k) hy2
    have hml : ((rowM LS k).take (2 * y)).length = 2 * y := by simp; omega
    obtain ⟨s1, s2⟩ := pairsM_syms y _ hml
    have hle : ∀ x' ∈ X, x' ≤ x := by
      match X, sel with
      | [], _ => intro x' hx'; simp at hx'
      | x1 :: r, sel =>
        have hx1 : x1 ≤ x := by
          rcases Nat.lt_or_ge x x1 with h | h
          · have hn := sel.le x1 List.mem_cons_self
            have hxl : x < LS.length := by omega
            have hz : LS[x] ∈ LS.take x1 := by
              refine List.mem_of_getElem? (i := x) ?_
              rw [List.getElem?_take_of_lt h, List.getElem?_eq_getElem hxl]
            have hzr := sel.hd x1 r rfl _ hz
            obtain ⟨u, hu, hlt⟩ := pairsM_over y _ hml (fun w hw => rowM_pos hp k w (List.mem_of_mem_take hw)) _ hzr
            rw [← htk] at hu
            have hd : LS[x] ∈ LS.drop x := by
              rw [List.drop_eq_getElem_cons hxl]; exact List.mem_cons_self
            have := h5 u (List.mem_append_right _ hu) _ (List.mem_append_left _ hd)
            omega
          · exact h
        intro x' hx'
        rcases List.mem_cons.1 hx' with rfl | hx'
        · exact hx1
        · have := (List.pairwise_cons.1 sel.dec).1 x' hx'
          omega
    refine ⟨x :: X, by simp [sel.len], fun x' hx' => ?_, List.pairwise_cons.2 ⟨hle, sel.dec⟩, ?_, ?_, ?_, fun x0 r0 he z hz => ?_⟩
    · rcases List.mem_cons.1 hx' with rfl | hx'
      · exact h1
      · exact sel.le x' hx'
    · refine (h4.flatMap_right _).trans ?_
      rw [List.flatMap_append, htk, s1, List.flatMap_cons]
      exact sel.sym.append_left _
    · show csum ((ssort (LS ++ pairsM (rowM LS k))).take q) = _
      rw [csum_perm h4, csum_append, htk]
      have : csum (pairsM ((rowM LS k).take (2 * y))) = csum ((rowM LS k).take (2 * y)) := s2
      rw [this, sel.cost]
      simp
    · have hw := sel.wid
      simp only [wsum]
      rw [sel.len, Nat.add_mul, hw, ← h3, Nat.pow_succ, Nat.add_mul]
      generalize 2 ^ k = p
      rw [Nat.mul_assoc x, Nat.mul_comm 2 y, Nat.mul_assoc y, Nat.mul_comm 2 p]
    · cases he
      exact h4.mem_iff.2 (List.mem_append_left _ hz)

end Go.Proofs
