/-
  OWN WORK. The tiles' plain model: what painting comes to; a rectangle's pixels.
-/
import Derived.Test.YtcbnifopfdgniaaTileQ
set_option linter.unusedSimpArgs false
set_option linter.unusedVariables false
namespace Go.Tile

def putAll (k : Nat) (cs : List (Int × Int)) (v : Int) (j : Nat) (X Y w : Int) : Int := if j = k ∧ (X, Y) ∈ cs then v else w

structure Painted (cap : Int) (k : Nat) (v : Int) (s : St) (p : Pl) (cs : List (Int × Int)) (s' : St) (p' : Pl) : Prop where
  pk : s'.pls[k]? = some p'
  ok : Ok cap s'
  views : Views s s' (putAll k cs v)
  free : s'.free = s.free - (needKeys s p v cs []).length
  oth : ∀ j, j ≠ k → s'.pls[j]? = s.pls[j]?
  like : Like p p'
  keep : ∀ K L, (K, L) ∉ needKeys s p v cs [] → tileOf p'.en K L = tileOf p.en K L
  new : ∀ K L, (K, L) ∈ needKeys s p v cs [] → ∃ n, tileOf p'.en K L = some n ∧ n ∉ s.ts.map (·.1)
  keys : ∀ t, t ∈ s.ts.map (·.1) → t ∈ s'.ts.map (·.1)

theorem painted {cap : Int} {k : Nat} {v : Int} (hv : 0 ≤ v ∧ v < 4294967296) {s s' : St} {cs : List (Int × Int)} (hp : Paints k v s cs s') : ∀ {p : Pl}, Ok cap s → s.pls[k]? = some p → ∃ p', Painted cap k v s p cs s' p' := by
  induction hp with
  | nil s =>
    intro p hok hk
    exact ⟨p, hk, hok, (Views.refl s).eq (fun j X Y w => by simp [putAll]), by simp [needKeys], fun _ _ => rfl, Like.refl p, fun _ _ _ => rfl, fun K L h => by simp [needKeys] at h, fun t h => h⟩
  | @same s s' p0 x y r hk0 hhas hpx hr ih =>
    intro p hok hk
    have hpp : p = p0 := by rw [hk] at hk0; exact Option.some.inj hk0
    subst hpp
    obtain ⟨p', h⟩ := ih hok hk
    have hnk : needKeys s p v ((x, y) :: r) [] = needKeys s p v r [] := by
      rw [needKeys, if_neg (fun hh => hh.1 hpx)]
    refine ⟨p', h.pk, h.ok, ⟨h.views.A, h.views.len, fun j q hq => ?_⟩, by rw [hnk]; exact h.free, h.oth, h.like, fun K L hh => h.keep K L (hnk ▸ hh), fun K L hh => h.new K L (hnk ▸ hh), h.keys⟩
    obtain ⟨q', h1, h2, h3⟩ := h.views.pl j q hq
    refine ⟨q', h1, h2, fun X Y => ?_⟩
    rw [h3]
    unfold putAll
    by_cases hc : j = k ∧ (X, Y) ∈ r
    · rw [if_pos hc, if_pos ⟨hc.1, List.mem_cons_of_mem _ hc.2⟩]
    · rw [if_neg hc]
      by_cases hc' : j = k ∧ (X, Y) ∈ (x, y) :: r
      · rw [if_pos hc']
        obtain ⟨hj, hm⟩ := hc'
        rcases List.mem_cons.1 hm with hm | hm
        · cases hm
          subst hj
          rw [hk] at hq; cases hq
          exact hpx
        · exact absurd ⟨hj, hm⟩ hc
      · rw [if_neg hc']
  | @wrote s s1 s' p0 x y r hk0 hhas hpx hw hr ih =>
    intro p hok hk
    have hpp : p = p0 := by rw [hk] at hk0; exact Option.some.inj hk0
    subst hpp
    obtain ⟨p1, st⟩ := wrote_step hok hk hw
    have hok1 := wrote_ok hok hk hv hw
    have hv1 := wrote_views hok hk hhas hw
    obtain ⟨p', h⟩ := ih hok1 st.pk
    have hlen := needKeys_step hok hk hhas hpx hw st.pk r
    have hpx1 : ∀ X Y, pxAt s1 p1 X Y = put1 k x y v k X Y (pxAt s p X Y) := by
      obtain ⟨q', hq', _, h3⟩ := hv1.pl k p hk
      rw [st.pk] at hq'; cases hq'
      exact h3
    have m1 := mem_needKeys s1 p1 v r []
    have m2 := mem_needKeys s p v ((x, y) :: r) []
    -- a key is taken in the whole just if it is taken now, or by the rest
    have hmem : ∀ K L, (K, L) ∈ needKeys s p v ((x, y) :: r) [] ↔ ((needs s p (x / 16) (y / 16) = true ∧ K = x / 16 ∧ L = y / 16) ∨ (K, L) ∈ needKeys s1 p1 v r []) := by
      intro K L
      rw [m1, m2]
      simp only [List.not_mem_nil, false_or]
      constructor
      · rintro ⟨c, hc, hh, heq⟩
        simp only [Prod.mk.injEq] at heq
        by_cases hK : K = x / 16 ∧ L = y / 16
        · refine .inl ⟨?_, hK⟩
          have := hh.2
          rw [← heq.1, ← heq.2, hK.1, hK.2] at this
          exact this
        · rcases List.mem_cons.1 hc with rfl | hc
          · exact absurd heq hK
          · refine .inr ⟨c, hc, ⟨?_, ?_⟩, by rw [heq.1, heq.2]⟩
            · rw [hpx1]
              unfold put1
              rw [if_neg (fun h' => hK (by rw [heq.1, heq.2, h'.2.1, h'.2.2]; exact ⟨rfl, rfl⟩))]
              exact hh.1
            · rw [st.need, hh.2]
              have hb : (c.1 / 16 == x / 16 && c.2 / 16 == y / 16) = false := by
                rw [← Bool.not_eq_true, Bool.and_eq_true, beq_iff_eq, beq_iff_eq, ← heq.1, ← heq.2]; exact hK
              rw [hb]; rfl
      · rintro (⟨hn, rfl, rfl⟩ | ⟨c, hc, hh, heq⟩)
        · exact ⟨(x, y), List.mem_cons_self, ⟨hpx, hn⟩, rfl⟩
        · refine ⟨c, List.mem_cons_of_mem _ hc, ⟨?_, ?_⟩, heq⟩
          · have := hh.1
            rw [hpx1] at this
            unfold put1 at this
            by_cases hxy : c.1 = x ∧ c.2 = y
            · rw [if_pos ⟨rfl, hxy.1, hxy.2⟩] at this; exact absurd rfl this
            · rwa [if_neg (fun h' => hxy ⟨h'.2.1, h'.2.2⟩)] at this
          · have := hh.2
            rw [st.need, Bool.and_eq_true] at this
            exact this.1
    refine ⟨p', h.pk, h.ok, ?_, ?_, fun j hj => (h.oth j hj).trans (st.oth j hj), st.like.trans h.like, fun K L hh => ?_, fun K L hh => ?_, fun t ht => h.keys t (st.keys t ht)⟩
    · refine (hv1.trans h.views).eq fun j X Y w => ?_
      unfold putAll put1
      by_cases hj : j = k
      · by_cases hm : (X, Y) ∈ r
        · rw [if_pos ⟨hj, hm⟩, if_pos ⟨hj, List.mem_cons_of_mem _ hm⟩]
        · rw [if_neg (fun h' => hm h'.2)]
          by_cases hxy : X = x ∧ Y = y
          · rw [if_pos ⟨hj, hxy.1, hxy.2⟩, if_pos ⟨hj, by rw [hxy.1, hxy.2]; exact List.mem_cons_self⟩]
          · rw [if_neg (fun h' => hxy ⟨h'.2.1, h'.2.2⟩), if_neg (fun h' => ?_)]
            rcases List.mem_cons.1 h'.2 with h' | h'
            · cases h'; exact hxy ⟨rfl, rfl⟩
            · exact hm h'
      · rw [if_neg (fun h' => hj h'.1), if_neg (fun h' => hj h'.1), if_neg (fun h' => hj h'.1)]
    · rw [h.free, st.free]
      split at hlen <;> rename_i hn
      · rw [if_pos hn]; omega
      · rw [if_neg hn]; omega
    · have hh' := fun h' => hh ((hmem K L).2 h')
      rw [h.keep K L (fun h' => hh' (.inr h'))]
      obtain ⟨n, _, hn⟩ := st.tile
      rw [hn, if_neg (fun h' => hh' (.inl h'))]
    · by_cases hr' : (K, L) ∈ needKeys s1 p1 v r []
      · obtain ⟨n, hn1, hn2⟩ := h.new K L hr'
        exact ⟨n, hn1, fun h' => hn2 (st.keys n h')⟩
      · have hl := ((hmem K L).1 hh).resolve_right hr'
        obtain ⟨n, hn1, hn2⟩ := st.tile
        refine ⟨n, ?_, hn1 hl.1⟩
        rw [h.keep K L hr', hn2, if_pos hl]

/-- A row's pixels, from a place to an end. -/
def rowFrom (x e y : Int) : List (Int × Int) := (List.range (e - x).toNat).map fun (i : Nat) => (x + (i : Int), y)

theorem rowFrom_nil {x e y : Int} (h : ¬ x < e) : rowFrom x e y = [] := by
  unfold rowFrom
  have : (e - x).toNat = 0 := by omega
  rw [this]; rfl

theorem rowFrom_cons {x e y : Int} (h : x < e) : rowFrom x e y = (x, y) :: rowFrom (x + 1) e y := by
  unfold rowFrom
  have : (e - x).toNat = (e - (x + 1)).toNat + 1 := by omega
  rw [this, List.range_succ_eq_map, List.map_cons, List.map_map]
  congr 1
  · simp
  · apply List.map_congr_left
    intro i _
    simp only [Function.comp, Prod.mk.injEq, and_true]
    omega

def rowsFrom (a e y b : Int) : List (Int × Int) := (List.range (b - y).toNat).flatMap fun (i : Nat) => rowFrom a e (y + (i : Int))

theorem rowsFrom_nil {a e y b : Int} (h : ¬ y < b) : rowsFrom a e y b = [] := by
  unfold rowsFrom
  have : (b - y).toNat = 0 := by omega
  rw [this]; rfl

theorem rowsFrom_cons {a e y b : Int} (h : y < b) : rowsFrom a e y b = rowFrom a e y ++ rowsFrom a e (y + 1) b := by
  unfold rowsFrom
  have : (b - y).toNat = (b - (y + 1)).toNat + 1 := by omega
  rw [this, List.range_succ_eq_map, List.flatMap_cons, List.flatMap_map]
  congr 1
  · simp
  · have : ∀ l : List Nat, (l.flatMap fun i => rowFrom a e (y + ((i + 1 : Nat) : Int))) = l.flatMap fun (i : Nat) => rowFrom a e (y + 1 + (i : Int)) := by
      intro l
      induction l with
      | nil => rfl
      | cons i r ih => rw [List.flatMap_cons, List.flatMap_cons, ih]; congr 2; omega
    exact this _

theorem mem_rowFrom {x e y X Y : Int} : (X, Y) ∈ rowFrom x e y ↔ x ≤ X ∧ X < e ∧ Y = y := by
  unfold rowFrom
  simp only [List.mem_map, List.mem_range, Prod.mk.injEq]
  constructor
  · rintro ⟨i, hi, h1, h2⟩; omega
  · rintro ⟨h1, h2, h3⟩; exact ⟨(X - x).toNat, by omega, by omega, h3.symm⟩

theorem mem_rowsFrom {a e y b X Y : Int} : (X, Y) ∈ rowsFrom a e y b ↔ a ≤ X ∧ X < e ∧ y ≤ Y ∧ Y < b := by
  unfold rowsFrom
  simp only [List.mem_flatMap, List.mem_range, mem_rowFrom]
  constructor
  · rintro ⟨i, hi, h1, h2, h3⟩; omega
  · rintro ⟨h1, h2, h3, h4⟩; exact ⟨(Y - y).toNat, by omega, by omega, by omega, by omega⟩

end Go.Tile
