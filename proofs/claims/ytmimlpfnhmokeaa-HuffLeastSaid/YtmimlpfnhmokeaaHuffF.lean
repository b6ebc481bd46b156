/-
  OWN WORK. Packages: the plain model (stable sort, pairs); 'pairs' and 'merge' over heaps.
-/
import Derived.Test.YtmimlpfnhmokeaaHuffE
set_option linter.unusedVariables false
set_option linter.unusedSimpArgs false
namespace Go.Proofs
open Go.Sh

structure Pk where
  c : Int
  s : List Int
  deriving DecidableEq, Inhabited

def insT (x : Pk × Nat) : List (Pk × Nat) → List (Pk × Nat)
  | [] => [x]
  | y :: r => if x.1.c ≤ y.1.c then x :: y :: r else y :: insT x r

def sortT (l : List (Pk × Nat)) : List (Pk × Nat) := l.foldr insT []
def ssort (l : List Pk) : List Pk := (sortT l.zipIdx).map (·.1)

def LexT (x y : Pk × Nat) : Prop := x.1.c < y.1.c ∨ (x.1.c = y.1.c ∧ x.2 < y.2)

theorem insT_perm (x : Pk × Nat) : ∀ l, (insT x l).Perm (x :: l)
  | [] => List.Perm.refl _
  | y :: r => by
    unfold insT
    split
    · exact List.Perm.refl _
    · exact ((insT_perm x r).cons y).trans (List.Perm.swap x y r)

theorem sortT_perm : ∀ l, (sortT l).Perm l
  | [] => List.Perm.refl _
  | x :: r => (insT_perm x (sortT r)).trans ((sortT_perm r).cons x)

theorem insT_sorted {x : Pk × Nat} : ∀ {l : List (Pk × Nat)}, (∀ y ∈ l, x.2 < y.2) → l.Pairwise LexT → (insT x l).Pairwise LexT
  | [], _, _ => by simp [insT]
  | y :: r, hx, hs => by
    unfold insT
    have hs' := List.pairwise_cons.1 hs
    split
    · rename_i hle
      refine List.pairwise_cons.2 ⟨fun z hz => ?_, hs⟩
      have h1 := hx y List.mem_cons_self
      have hz' : LexT x y := by unfold LexT; omega
      rcases List.mem_cons.1 hz with rfl | hz
      · exact hz'
      · have := hs'.1 z hz
        unfold LexT at *; omega
    · rename_i hle
      refine List.pairwise_cons.2 ⟨fun z hz => ?_, insT_sorted (fun z hz => hx z (List.mem_cons_of_mem _ hz)) hs'.2⟩
      rcases List.mem_cons.1 ((insT_perm x r).mem_iff.1 hz) with rfl | hz
      · left; omega
      · exact hs'.1 z hz

theorem sortT_sorted : ∀ {l : List (Pk × Nat)}, l.Pairwise (fun x y => x.2 < y.2) → (sortT l).Pairwise LexT
  | [], _ => List.Pairwise.nil
  | x :: r, h => by
    have h' := List.pairwise_cons.1 h
    exact insT_sorted (fun y hy => h'.1 y ((sortT_perm r).mem_iff.1 hy)) (sortT_sorted h'.2)

theorem perm_unique {α : Type} {r : α → α → Prop} (asym : ∀ a b, r a b → ¬ r b a) : ∀ {l m : List α}, l.Perm m → l.Pairwise r → m.Pairwise r → l = m
  | [], m, hp, _, _ => (List.nil_perm.1 hp).symm
  | a :: l, [], hp, _, _ => absurd hp.symm (by simp)
  | a :: l, b :: m, hp, hl, hm => by
    have hl' := List.pairwise_cons.1 hl
    have hm' := List.pairwise_cons.1 hm
    have hab : a = b := by
      rcases List.mem_cons.1 (hp.mem_iff.1 List.mem_cons_self) with h | h
      · exact h
      · rcases List.mem_cons.1 (hp.mem_iff.2 (List.mem_cons_self (a := b))) with h' | h'
        · exact h'.symm
        · exact absurd (hl'.1 b h') (asym _ _ (hm'.1 a h))
    subst hab
    rw [perm_unique asym (List.Perm.cons_inv hp) hl'.2 hm'.2]

theorem LexT.asymm (a b : Pk × Nat) (h : LexT a b) : ¬ LexT b a := by unfold LexT at *; omega

theorem zipIdx_tags (l : List Pk) : l.zipIdx.Pairwise (fun x y => x.2 < y.2) := by
  have : (l.zipIdx.map (·.2)).Pairwise (· < ·) := by
    rw [List.zipIdx_map_snd]
    exact List.pairwise_lt_range'
  exact List.pairwise_map.1 this

theorem ssort_perm (l : List Pk) : (ssort l).Perm l := by
  unfold ssort
  have := (sortT_perm l.zipIdx).map (·.1)
  rwa [List.zipIdx_map_fst] at this

theorem ssort_len (l : List Pk) : (ssort l).length = l.length := (ssort_perm l).length_eq

theorem nodup_le {α : Type} [DecidableEq α] : ∀ {l m : List α}, l.Nodup → (∀ a ∈ l, a ∈ m) → l.length ≤ m.length
  | [], m, _, _ => Nat.zero_le _
  | a :: l, m, hn, h => by
    rw [List.nodup_cons] at hn
    have hm := h a List.mem_cons_self
    have := nodup_le (m := m.erase a) hn.2 fun b hb => (List.mem_erase_of_ne (fun hh => hn.1 (by rw [← hh]; exact hb))).2 (h b (List.mem_cons_of_mem _ hb))
    have hl := List.length_erase_of_mem hm
    have hp : 0 < m.length := List.length_pos_of_mem hm
    rw [List.length_cons]
    omega

/-- A sorted rearrangement, told by places. -/
theorem ssort_of {L : List Pk} {n : Nat} (hn : L.length = n) {π : Nat → Nat} (h1 : ∀ i, i < n → π i < n) (h2 : ∀ i j, i < n → j < n → π i = π j → i = j)
    (h3 : ∀ i j, i < j → j < n → (L.getD (π i) default).c < (L.getD (π j) default).c ∨ ((L.getD (π i) default).c = (L.getD (π j) default).c ∧ π i < π j)) : (List.range n).map (fun i => L.getD (π i) default) = ssort L := by
  have hnd : ((List.range n).map π).Nodup := by
    rw [List.nodup_iff_pairwise_ne, List.pairwise_map]
    exact List.Pairwise.imp_of_mem (fun ha hb hab he => hab (h2 _ _ (List.mem_range.1 ha) (List.mem_range.1 hb) he)) List.nodup_range
  have hperm : ((List.range n).map π).Perm (List.range n) := by
    have hsub : ∀ x ∈ (List.range n).map π, x ∈ List.range n := fun x hx => by
      obtain ⟨i, hi, rfl⟩ := List.mem_map.1 hx
      exact List.mem_range.2 (h1 i (List.mem_range.1 hi))
    refine (List.perm_ext_iff_of_nodup hnd List.nodup_range).2 fun x => ⟨hsub x, fun hx => Classical.byContradiction fun hn => ?_⟩
    have := nodup_le (l := x :: (List.range n).map π) (m := List.range n) (List.nodup_cons.2 ⟨hn, hnd⟩) (fun a ha => by
      rcases List.mem_cons.1 ha with rfl | ha
      · exact hx
      · exact hsub a ha)
    simp at this
    omega
  have hmap : (List.range n).map (fun i => L.getD (π i) default) = (((List.range n).map π).map fun t => (L.getD t default, t)).map (·.1) := by
    simp [List.map_map, Function.comp_def]
  have hz : L.zipIdx = (List.range n).map fun t => (L.getD t default, t) := by
    apply List.ext_getElem?
    intro i
    rw [List.getElem?_zipIdx, List.getElem?_map]
    by_cases hi : i < n
    · have hl : i < L.length := by omega
      rw [List.getElem?_range hi]
      simp [hl]
    · have hl : ¬ i < L.length := by omega
      rw [List.getElem?_eq_none_iff.2 (by omega), List.getElem?_eq_none_iff.2 (by simp; omega)]
      rfl
  rw [hmap]
  unfold ssort
  congr 1
  refine perm_unique LexT.asymm ?_ ?_ (sortT_sorted (zipIdx_tags L))
  · refine List.Perm.trans (hperm.map _) ?_
    rw [← hz]
    exact (sortT_perm _).symm
  · rw [List.pairwise_map, List.pairwise_map]
    exact List.Pairwise.imp_of_mem (fun ha hb hab => h3 _ _ hab (List.mem_range.1 hb)) List.pairwise_lt_range

def pairsM : List Pk → List Pk
  | x :: y :: r => ⟨x.c + y.c, x.s ++ y.s⟩ :: pairsM r
  | _ => []

theorem pairsM_two {L : List Pk} {j : Nat} {x y : Pk} (hx : L[2 * j]? = some x) (hy : L[2 * j + 1]? = some y) : pairsM (L.take (2 * (j + 1))) = pairsM (L.take (2 * j)) ++ [⟨x.c + y.c, x.s ++ y.s⟩] := by
  induction j generalizing L with
  | zero =>
    match L, hx, hy with
    | a :: b :: r, hx, hy => simp at hx hy; subst hx hy; simp [pairsM]
    | [a], hx, hy => simp at hy
  | succ j ih =>
    match L, hx, hy with
    | a :: b :: r, hx, hy =>
      have e1 : 2 * (j + 1) = 2 * j + 1 + 1 := by omega
      have e2 : 2 * (j + 1 + 1) = 2 * (j + 1) + 1 + 1 := by omega
      rw [e1] at hx hy
      simp only [List.getElem?_cons_succ] at hx
      have hy' : r[2 * j + 1]? = some y := by simpa [Nat.add_assoc] using hy
      rw [e2, List.take_succ_cons, List.take_succ_cons, e1, List.take_succ_cons, List.take_succ_cons]
      simp only [pairsM]
      rw [← e1, ih hx hy']
      rfl
    | [a], hx, hy => simp at hy
    | [], hx, hy => simp at hy

theorem pairsM_all {L : List Pk} {j : Nat} (h : L.length ≤ 2 * j + 1) : pairsM (L.take (2 * j)) = pairsM L := by
  induction j generalizing L with
  | zero =>
    match L, h with
    | [], _ => rfl
    | [a], _ => rfl
    | a :: b :: r, h => simp at h
  | succ j ih =>
    match L, h with
    | [], _ => simp
    | [a], _ =>
      have e1 : 2 * (j + 1) = 2 * j + 1 + 1 := by omega
      rw [e1, List.take_succ_cons]; simp
    | a :: b :: r, h =>
      have e1 : 2 * (j + 1) = 2 * j + 1 + 1 := by omega
      rw [e1, List.take_succ_cons, List.take_succ_cons]
      simp only [pairsM]
      rw [ih (by simp at h; omega)]

/-! ### rows in memory -/

def flat (xs : List It) : List Value := xs.flatMap fun x => [.int .i64 x.c, x.v]
theorem flat_len (xs : List It) : (flat xs).length = xs.length * 2 := by
  induction xs with
  | nil => rfl
  | cons x r ih => unfold flat at *; simp [List.flatMap_cons, ih]; omega
theorem flat_append (a b : List It) : flat (a ++ b) = flat a ++ flat b := by simp [flat]
theorem flat_get {xs : List It} {i : Nat} {x : It} (h : xs[i]? = some x) : (flat xs)[i * 2]? = some (.int .i64 x.c) ∧ (flat xs)[i * 2 + 1]? = some x.v := by
  induction xs generalizing i with
  | nil => simp at h
  | cons y r ih =>
    cases i with
    | zero => simp at h; subst h; simp [flat]
    | succ i =>
      simp only [List.getElem?_cons_succ] at h
      obtain ⟨h1, h2⟩ := ih h
      have e1 : (i + 1) * 2 = i * 2 + 1 + 1 := by omega
      have e2 : (i + 1) * 2 + 1 = i * 2 + 1 + 1 + 1 := by omega
      rw [e1]
      unfold flat at *
      simp only [List.flatMap_cons, List.cons_append, List.nil_append, List.getElem?_cons_succ]
      exact ⟨h1, h2⟩

/-- A package's symbols; their block is none of those named. -/
def SYM (av : Nat → Prop) (H : Heap) (v : Value) (s : List Int) : Prop := ∃ q l c, v = .slice q l c ∧ RS H q l 3 1 (ints s) ∧ ∀ b, q = some ⟨b, 0, none⟩ → ¬ av b
def All (av : Nat → Prop) (H : Heap) (xs : List It) (L : List Pk) : Prop := xs.length = L.length ∧ ∀ (i : Nat) x y, xs[i]? = some x → L[i]? = some y → x.c = y.c ∧ SYM av H x.v y.s

variable {av : Nat → Prop}

theorem SYM.keep {H H' : Heap} {v : Value} {s : List Int} (h : SYM av H v s) (hk : ∀ (b : Nat) cs, ¬ av b → H[b]? = some (.cells cs 3) → H'[b]? = some (.cells cs 3)) : SYM av H' v s := by
  obtain ⟨q, l, c, h1, h2, h3⟩ := h
  exact ⟨q, l, c, h1, h2.keep fun b cs hq hb => hk b cs (h3 b hq) hb, h3⟩
theorem All.keep {H H' : Heap} {xs : List It} {L : List Pk} (h : All av H xs L) (hk : ∀ (b : Nat) cs, ¬ av b → H[b]? = some (.cells cs 3) → H'[b]? = some (.cells cs 3)) : All av H' xs L :=
  ⟨h.1, fun i x y hx hy => let ⟨a, b⟩ := h.2 i x y hx hy; ⟨a, b.keep hk⟩⟩
theorem All.ext {H H' : Heap} {xs : List It} {L : List Pk} (h : All av H xs L) (he : Ext H H') : All av H' xs L := h.keep fun b cs _ hb => he _ _ hb
theorem All.append {H : Heap} {xs ys : List It} {L M : List Pk} (h : All av H xs L) (h' : All av H ys M) : All av H (xs ++ ys) (L ++ M) := by
  refine ⟨by simp [h.1, h'.1], fun i x y hx hy => ?_⟩
  have hl := h.1
  by_cases hi : i < xs.length
  · rw [List.getElem?_append_left hi] at hx
    rw [List.getElem?_append_left (by omega)] at hy
    exact h.2 i x y hx hy
  · rw [List.getElem?_append_right (by omega)] at hx
    rw [List.getElem?_append_right (by omega), ← hl] at hy
    exact h'.2 _ x y hx hy

structure Row (av : Nat → Prop) (H : Heap) (p : Option Addr) (l : Nat) (L : List Pk) : Prop where
  ex : ∃ xs, RS H p l 44 2 (flat xs) ∧ All av H xs L
theorem Row.ext {H H' : Heap} {p : Option Addr} {l : Nat} {L : List Pk} (h : Row av H p l L) (he : Ext H H') : Row av H' p l L := by
  obtain ⟨xs, h1, h2⟩ := h.ex
  exact ⟨xs, h1.ext he, h2.ext he⟩
theorem Row.len {H : Heap} {p : Option Addr} {l : Nat} {L : List Pk} (h : Row av H p l L) : L.length = l := by
  obtain ⟨xs, h1, h2⟩ := h.ex
  have := h1.len
  rw [flat_len] at this
  have := h2.1
  omega

def PkB (L : List Pk) (B : Int) (S : Nat) : Prop := ∀ x ∈ L, 0 ≤ x.c ∧ x.c ≤ B ∧ x.s.length ≤ S

set_option maxHeartbeats 1000000 in
theorem c25 {H : Heap} {p : Option Addr} {l c : Nat} {L : List Pk} (h : Row av H p l L) (hav : ∀ b, av b → b < H.size) (hl : l ≤ 10000) (hB : PkB L 576460752303423488 400000) {R : Value → Heap → Prop}
    (hR : ∀ H' q k c', Row av H' q k (pairsM L) → Ext H H' → R (.slice q k c') H') : CallsH Try.prog 25 #[.slice p l c] H R := by
  have hlen := h.len
  obtain ⟨xs, hx, hall⟩ := h.ex
  have hxl := hall.1
  refine Try.s25 ?_
  unfold Try.S25 alc
  intro X hX
  have loop : ∀ (m j : Nat) (H1 : Heap) (q : Option Addr) (k c' : Nat) (ys : List It), l - 2 * j ≤ m → 2 * j ≤ l + 1 → Ext H H1 → FS H.size H1 q k c' 44 2 (flat ys) → All av H1 ys (pairsM (L.take (2 * j))) → k ≤ j → X [.slice q k c', .int .i64 ((2 * j : Nat) : Int)] H1 := by
    intro m
    induction m with
    | zero =>
      intro j H1 q k c' ys hm hj e1 f1 a1 hk
      have w1 : IntKind.wrap .i64 (((2 * j : Nat) : Int) + 1) = ((2 * j + 1 : Nat) : Int) := by rw [wrap_id (by omega) (by omega)]; omega
      rw [pairsM_all (by omega)] at a1
      refine hX q k c' _ H1 ?_
      rw [w1]
      exact br_n (by omega) (hR H1 q k c' ⟨ys, f1.rs, a1⟩ e1)
    | succ m ih =>
      intro j H1 q k c' ys hm hj e1 f1 a1 hk
      have w1 : IntKind.wrap .i64 (((2 * j : Nat) : Int) + 1) = ((2 * j + 1 : Nat) : Int) := by rw [wrap_id (by omega) (by omega)]; omega
      have w2 : IntKind.wrap .i64 (((2 * j : Nat) : Int) + 2) = ((2 * (j + 1) : Nat) : Int) := by rw [wrap_id (by omega) (by omega)]; omega
      refine hX q k c' _ H1 ?_
      rw [w1, w2]
      refine br_dec (fun hlt => ?_) (fun hge => ?_)
      · have r1 := hx.ext e1
        have al1 := hall.ext e1
        obtain ⟨x, hxx⟩ : ∃ x, xs[2 * j]? = some x := ⟨_, List.getElem?_eq_getElem (by omega)⟩
        obtain ⟨y, hyy⟩ : ∃ y, xs[2 * j + 1]? = some y := ⟨_, List.getElem?_eq_getElem (by omega)⟩
        obtain ⟨u, hu⟩ : ∃ u, L[2 * j]? = some u := ⟨_, List.getElem?_eq_getElem (by omega)⟩
        obtain ⟨v, hv⟩ : ∃ v, L[2 * j + 1]? = some v := ⟨_, List.getElem?_eq_getElem (by omega)⟩
        obtain ⟨xc, q1, l1, c1, xv, s1, _⟩ := al1.2 _ _ _ hxx hu
        obtain ⟨yc, q2, l2, c2, yv, s2, _⟩ := al1.2 _ _ _ hyy hv
        obtain ⟨gx, gxv⟩ := flat_get hxx
        obtain ⟨gy, gyv⟩ := flat_get hyy
        obtain ⟨blk, hp, cx⟩ := r1.cell gx
        obtain ⟨blk2, hp2, cy⟩ := r1.cell gy
        obtain ⟨blk3, hp3, cxv⟩ := r1.cell gxv
        obtain ⟨blk4, hp4, cyv⟩ := r1.cell gyv
        rw [hp] at hp2 hp3 hp4
        cases hp2; cases hp3; cases hp4
        have bu := hB u (List.mem_of_getElem? hu)
        have bv := hB v (List.mem_of_getElem? hv)
        have l1e : l1 = u.s.length := by have := s1.len; rw [ints_len] at this; omega
        have l2e : l2 = v.s.length := by have := s2.len; rw [ints_len] at this; omega
        rw [xv] at cxv
        rw [yv] at cyv
        refine ⟨_, hp, by omega, by omega, x.c, by rw [Int.toNat_natCast]; simpa using cx, _, hp, by omega, by omega, y.c, by rw [Int.toNat_natCast]; simpa using cy, _, hp, by omega, by omega, q1, l1, c1, by rw [Int.toNat_natCast]; simpa using cxv, _, hp, by omega, by omega, q2, l2, c2, by rw [Int.toNat_natCast]; simpa using cyv, Ext.push _ _, ?_⟩
        have hb2 := get_push_self H1 (.cells #[Value.slice q1 l1 c1, Value.slice q2 l2 c2] 22)
        have e2 : Ext H1 (H1.push (.cells #[Value.slice q1 l1 c1, Value.slice q2 l2 c2] 22)) := Ext.push _ _
        generalize H1.push (.cells #[Value.slice q1 l1 c1, Value.slice q2 l2 c2] 22) = H2 at hb2 e2
        refine c30 hb2 (s1.ext e2) (s2.ext e2) (by omega) fun H3 q3 c3 f3 e3 => ⟨q3, l1 + l2, c3, rfl, e3, rfl, by omega, ?_⟩
        have wc : IntKind.wrap .i64 (x.c + y.c) = u.c + v.c := by rw [xc, yc]; exact wrap_id (by omega) (by omega)
        rw [wc]
        have ha : (List.toArray (setL [Value.int .i64 0, Value.slice none 0 0] 0 (Array.toList #[Value.int .i64 (u.c + v.c), Value.slice q3 (l1 + l2) c3]))) = #[Value.int .i64 (u.c + v.c), Value.slice q3 (l1 + l2) c3] := rfl
        rw [ha]
        have e4 : Ext H3 (H3.push (.cells #[Value.int .i64 (u.c + v.c), Value.slice q3 (l1 + l2) c3] 44)) := Ext.push _ _
        have hb4 := get_push_self H3 (.cells #[Value.int .i64 (u.c + v.c), Value.slice q3 (l1 + l2) c3] 44)
        generalize H3.push (.cells #[Value.int .i64 (u.c + v.c), Value.slice q3 (l1 + l2) c3] 44) = H4 at e4 hb4
        have e14 := e2.trans (e3.trans e4)
        have fs4 := f1.ext e14
        have src : RS H4 (some ⟨H3.size, 0, none⟩) 1 44 2 (flat [⟨u.c + v.c, .slice q3 (l1 + l2) c3, 0⟩]) :=
          ⟨rfl, by intro z hz; simp [flat] at hz; rcases hz with rfl | rfl <;> rfl, .inr ⟨H3.size, _, rfl, hb4, fun i z hz => by simpa [flat] using hz⟩⟩
        have sz := (e1.trans e14).size
        refine fs4.app src (by decide) sz rfl (by omega) (by omega) fun q5 c5 H5 f5 hk5 hs5 => ?_
        rw [← flat_append] at f5
        have k3 : ∀ (b : Nat) cs, ¬ av b → H4[b]? = some (.cells cs 3) → H5[b]? = some (.cells cs 3) := fun b cs _ hb => by
          refine hk5 b _ hb fun hq => ?_
          rcases fs4.at_ with ⟨h1, _⟩ | ⟨blk, cs', h1, _, h3, _⟩
          · rw [h1] at hq; cases hq
          · rw [h1] at hq; cases hq; rw [hb] at h3; cases h3
        have e5 : Ext H H5 := fun b o hb => by
          refine hk5 b o ((e1.trans e14) b o hb) fun hq => ?_
          have hlt := lt_of_get hb
          rcases fs4.at_ with ⟨h1, _⟩ | ⟨blk, cs', h1, h2, _⟩
          · rw [h1] at hq; cases hq
          · rw [h1] at hq; cases hq; omega
        refine ih (j + 1) H5 q5 (k + 1) c5 _ (by omega) (by omega) e5 f5 ?_ (by omega)
        rw [pairsM_two hu hv]
        refine ((a1.ext e14).append ⟨rfl, fun i a b ha hb => ?_⟩).keep k3
        match i, ha, hb with
        | 0, ha, hb =>
          simp at ha hb; subst ha hb
          refine ⟨rfl, q3, l1 + l2, c3, rfl, by rw [ints_append]; exact f3.rs.ext e4, fun b hb hab => ?_⟩
          have hlt := hav b hab
          have hsz2 := (e1.trans e2).size
          rcases f3.at_ with ⟨h1, _⟩ | ⟨blk, cs', h1, h2, _⟩
          · rw [h1] at hb; cases hb
          · rw [h1] at hb; cases hb; omega
        | i + 1, ha, hb => simp at ha
      · rw [pairsM_all (by omega)] at a1
        exact hR H1 q k c' ⟨ys, f1.rs, a1⟩ e1
  exact loop l 0 H none 0 0 [] (by omega) (by omega) (Ext.refl _) (FS.nil _ _ _ _) (by simp [pairsM, All]) (Nat.le_refl _)

/-- Nothing to sort. -/
theorem c31_zero {g : Nat} {H : Heap} {p : Option Addr} {c : Nat} {R : Value → Heap → Prop} (hR : R (.tuple #[]) H) : CallsH Try.prog 31 #[.slice p 0 c, .int .i64 (0 : Int), .int .i64 (0 : Int), .func (.func g) #[] #[]] H R := by
  refine Try.s31 ?_
  unfold Try.S31
  intro X hX
  have w : IntKind.wrap .i64 ((0 : Int) + 1) = 1 := by decide
  rw [w]
  exact hX _ H (br_n (by omega) hR)
theorem c22_zero {g : Nat} {H : Heap} {p : Option Addr} {c : Nat} {R : Value → Heap → Prop} (hR : R (.tuple #[]) H) : CallsH Try.prog 22 #[.slice p 0 c, .func (.func g) #[] #[]] H R := by
  refine Try.s22 ?_
  unfold Try.S22
  refine Try.s27 ?_
  unfold Try.S27
  intro X hX
  refine hX _ _ H (br_n (by omega) ?_)
  refine c31_zero ⟨rfl, ?_⟩
  intro Y hY
  exact hY _ H (br_n (by omega) ⟨rfl, hR⟩)

/-- A row of one's own is sorted. -/
theorem sort_row {g : Nat} (hc : Cmp g) {n0 : Nat} {H : Heap} {p : Option Addr} {l c : Nat} {xs : List It} {L : List Pk} (hf : FS n0 H p l c 44 2 (flat xs)) (ha : All av H xs L) (hl : l ≤ 100000) (hB : PkB L 1152921504606846976 400000) {R : Value → Heap → Prop}
    (hR : ∀ H', Row av H' p l (ssort L) → (∀ (b : Nat) (o : Obj), H[b]? = some o → p ≠ some ⟨b, 0, none⟩ → H'[b]? = some o) → R (.tuple #[]) H') : CallsH Try.prog 22 #[.slice p l c, .func (.func g) #[] #[]] H R := by
  have hlen : xs.length = l := by have := hf.len; rw [flat_len] at this; omega
  have hLl : L.length = l := by rw [← ha.1, hlen]
  by_cases h0 : l = 0
  · subst h0
    have : L = [] := List.length_eq_zero_iff.1 hLl
    subst this
    exact c22_zero (hR H ⟨[], RS.nil _ _ _ _, ⟨rfl, fun i x y hx => by simp at hx⟩⟩ fun b o hb _ => hb)
  · rcases hf.at_ with ⟨_, hc0⟩ | ⟨blk, cs, rfl, h2, h3, h4, h5⟩
    · have := hf.le; omega
    · let f : Nat → It := fun i => { (xs.getD i ⟨0, .bool false, 0⟩) with t := i }
      have fget : ∀ i, i < l → ∃ x, xs[i]? = some x ∧ (f i).c = x.c ∧ (f i).v = x.v ∧ (f i).t = i := fun i hi => by
        refine ⟨xs[i], List.getElem?_eq_getElem (by omega), ?_, ?_, rfl⟩ <;> simp [f, List.getD_eq_getElem?_getD, List.getElem?_eq_getElem (show i < xs.length by omega)]
      have hd : DS H blk l f := ⟨cs, h3, by have := hf.le; omega, fun i hi => by
        obtain ⟨x, hx, e1, e2, _⟩ := fget i hi
        obtain ⟨g1, g2⟩ := flat_get hx
        rw [e1, e2]
        refine ⟨?_, ?_, hf.one _ (List.mem_of_getElem? g2)⟩
        · rw [Nat.mul_comm]; exact h5 _ _ g1
        · rw [Nat.mul_comm]; exact h5 _ _ g2⟩
      have lget : ∀ i, i < l → ∃ y, L[i]? = some y ∧ (f i).c = y.c ∧ SYM av H (f i).v y.s := fun i hi => by
        obtain ⟨x, hx, e1, e2, _⟩ := fget i hi
        have hy : L[i]? = some L[i] := List.getElem?_eq_getElem (by omega)
        obtain ⟨a, b⟩ := ha.2 i x _ hx hy
        exact ⟨_, hy, by rw [e1, a], by rw [e2]; exact b⟩
      have hbnd : Bnd l f := fun i hi => by
        obtain ⟨y, hy, e, _⟩ := lget i hi
        have := hB y (List.mem_of_getElem? hy)
        rw [e]; omega
      refine c22 hc hd hbnd (by omega) (fun p q _ hpq _ => hpq) fun H' f' d' b' p' s' => ?_
      obtain ⟨π, π1, π2, π3⟩ := p'.ex
      have hss : (List.range l).map (fun i => L.getD (π i) default) = ssort L := by
        refine ssort_of hLl (fun i hi => (π1 i (by omega) hi).2) (fun i j hi hj he => π2 i j (by omega) hi (by omega) hj he) fun i j hij hj => ?_
        have hs := s' i j (by omega) hij hj
        have hi' := (π1 i (by omega) (by omega)).2
        have hj' := (π1 j (by omega) hj).2
        obtain ⟨y1, hy1, e1, _⟩ := lget _ hi'
        obtain ⟨y2, hy2, e2, _⟩ := lget _ hj'
        rw [π3 i (by omega) (by omega), π3 j (by omega) hj] at hs
        have t1 : (f (π i)).t = π i := rfl
        have t2 : (f (π j)).t = π j := rfl
        unfold Lex at hs
        rw [e1, e2, t1, t2] at hs
        rw [List.getD_eq_getElem?_getD, List.getD_eq_getElem?_getD, hy1, hy2]
        exact hs
      refine hR H' ⟨(List.range l).map f', ?_, ?_⟩ fun b o hb hn => b' b o hb fun hh => hn (by rw [hh])
      · obtain ⟨cs', g1, g2, g3⟩ := d'
        have hget : ∀ i x, ((List.range l).map f')[i]? = some x → i < l ∧ x = f' i := fun i x hx => by
          rw [List.getElem?_map] at hx
          obtain ⟨j, hj, rfl⟩ := Option.map_eq_some_iff.1 hx
          rw [List.getElem?_eq_some_iff] at hj
          obtain ⟨hj1, hj2⟩ := hj
          simp at hj1 hj2
          subst hj2
          exact ⟨hj1, rfl⟩
        have hfl : ∀ (i : Nat) v, (flat ((List.range l).map f'))[i]? = some v → cs'[i]? = some v ∧ v.oneCell' = true := fun i v hv => by
          have hi := (List.getElem?_eq_some_iff.1 hv).1
          rw [flat_len, List.length_map, List.length_range] at hi
          have hj : i / 2 < l := by omega
          have hx : ((List.range l).map f')[i / 2]? = some (f' (i / 2)) := by simp [hj]
          obtain ⟨a1, a2⟩ := flat_get hx
          obtain ⟨c1, c2, c3⟩ := g3 _ hj
          by_cases he : i % 2 = 0
          · have e1 : i / 2 * 2 = i := by omega
            rw [e1, hv] at a1
            cases a1
            have e2 : 2 * (i / 2) = i := by omega
            rw [e2] at c1
            exact ⟨c1, rfl⟩
          · have e1 : i / 2 * 2 + 1 = i := by omega
            rw [e1, hv] at a2
            cases a2
            have e2 : 2 * (i / 2) + 1 = i := by omega
            rw [e2] at c2
            exact ⟨c2, c3⟩
        refine ⟨by rw [flat_len]; simp, fun v hv => ?_, .inr ⟨blk, cs', rfl, g1, fun i v hv => (hfl i v hv).1⟩⟩
        obtain ⟨i, hi⟩ := List.getElem?_of_mem hv
        exact (hfl i v hi).2
      · rw [← hss]
        refine ⟨by simp, fun i x y hx hy => ?_⟩
        rw [List.getElem?_map] at hx hy
        obtain ⟨j, hj, rfl⟩ := Option.map_eq_some_iff.1 hx
        obtain ⟨j', hj', rfl⟩ := Option.map_eq_some_iff.1 hy
        rw [hj] at hj'; cases hj'
        have hjl : j < l := List.mem_range.1 (List.mem_of_getElem? hj)
        obtain ⟨y, hy, e1, e2⟩ := lget (π j) (π1 j (by omega) hjl).2
        rw [π3 j (by omega) hjl, List.getD_eq_getElem?_getD, hy]
        refine ⟨e1, e2.keep fun b cs2 _ hb => b' b _ hb fun hh => ?_⟩
        rw [hh, h3] at hb; cases hb

theorem c24 {H : Heap} {p q : Option Addr} {l1 c1 l2 c2 : Nat} {A B : List Pk} (hA : Row av H p l1 A) (hB : Row av H q l2 B) (hl : l1 + l2 ≤ 100000) (hbd : PkB (A ++ B) 1152921504606846976 400000) {R : Value → Heap → Prop}
    (hR : ∀ H' p' c', Row av H' p' (l1 + l2) (ssort (A ++ B)) → l1 + l2 ≤ c' → Ext H H' → R (.slice p' (l1 + l2) c') H') : CallsH Try.prog 24 #[.slice p l1 c1, .slice q l2 c2] H R := by
  refine Try.s24 ?_
  unfold Try.S24 alc
  have hb := get_push_self H (.cells #[Value.slice p l1 c1, Value.slice q l2 c2] 42)
  have e1 : Ext H (H.push (.cells #[Value.slice p l1 c1, Value.slice q l2 c2] 42)) := Ext.push _ _
  generalize H.push (.cells #[Value.slice p l1 c1, Value.slice q l2 c2] 42) = H1 at hb e1
  obtain ⟨xs, x1, x2⟩ := (hA.ext e1).ex
  obtain ⟨ys, y1, y2⟩ := (hB.ext e1).ex
  refine c28 hb x1 y1 (by omega) fun H2 p' c' f2 e2 => ⟨p', l1 + l2, c', rfl, ?_⟩
  rw [← flat_append] at f2
  refine sort_row cmp29 f2 ((x2.append y2).ext e2) hl hbd fun H3 r3 k3 => ⟨rfl, hR H3 p' c' r3 f2.le fun b o hb => ?_⟩
  refine k3 b o (e2 b o (e1 b o hb)) fun hq => ?_
  have h1 := lt_of_get (e1 b o hb)
  rcases f2.at_ with ⟨h1, _⟩ | ⟨blk, cs, h1, h2, _⟩
  · rw [h1] at hq; cases hq
  · rw [h1] at hq; cases hq; omega

end Go.Proofs
