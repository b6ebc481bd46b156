/-
  OWN WORK. Slices of elements of one cell; the planes' slice.
-/
import Derived.Test.YtcbnifopfdgniaaTileY
set_option linter.unusedVariables false
set_option linter.unusedSimpArgs false
namespace Go.Proofs
open Go.Sh Go.Tile

structure SL (n0 : Nat) (H : Heap) (p : Option Addr) (l c : Nat) (el : TypeId) (vs : List Value) : Prop where
  len : vs.length = l
  le : l ≤ c
  at_ : (p = none ∧ c = 0) ∨ ∃ blk cs, p = some ⟨blk, 0, none⟩ ∧ n0 ≤ blk ∧ H[blk]? = some (.cells cs el) ∧ cs.size = c ∧ ∀ (i : Nat) v, vs[i]? = some v → cs[i]? = some v

theorem SL.nil (n0 : Nat) (H : Heap) (el : TypeId) : SL n0 H none 0 0 el [] := ⟨rfl, Nat.le_refl _, .inl ⟨rfl, rfl⟩⟩

theorem SL.one {n0 : Nat} {H : Heap} {b : Nat} {v : Value} {el : TypeId} (hb : n0 ≤ b) (h : H[b]? = some (.cells #[v] el)) : SL n0 H (some ⟨b, 0, none⟩) 1 1 el [v] :=
  ⟨rfl, Nat.le_refl _, .inr ⟨b, _, rfl, hb, h, rfl, fun i u hu => by simpa using hu⟩⟩

theorem SL.keep {n0 : Nat} {H H' : Heap} {p : Option Addr} {l c : Nat} {el : TypeId} {vs : List Value} (h : SL n0 H p l c el vs) (hk : ∀ b cs, n0 ≤ b → H[b]? = some (.cells cs el) → H'[b]? = some (.cells cs el)) : SL n0 H' p l c el vs := by
  refine ⟨h.len, h.le, ?_⟩
  rcases h.at_ with h1 | ⟨blk, cs, h1, h2, h3, h4, h5⟩
  · exact .inl h1
  · exact .inr ⟨blk, cs, h1, h2, hk _ _ h2 h3, h4, h5⟩

theorem SL.cell {n0 : Nat} {H : Heap} {p : Option Addr} {l c : Nat} {el : TypeId} {vs : List Value} (h : SL n0 H p l c el vs) {i : Nat} {v : Value} (hv : vs[i]? = some v) : ∃ blk, p = some ⟨blk, 0, none⟩ ∧ Go.Sh.cell H ⟨blk, i, none⟩ = some v := by
  rcases h.at_ with ⟨h1, h2⟩ | ⟨blk, cs, h1, h2, h3, h4, h5⟩
  · have := (List.getElem?_eq_some_iff.1 hv).1
    have := h.le
    have := h.len
    omega
  · exact ⟨blk, h1, cell_get h3 (h5 i v hv)⟩

theorem SL.app {n0 : Nat} {H : Heap} {p : Option Addr} {l c : Nat} {el : TypeId} {vs : List Value} {v z : Value} {b : Nat} (h : SL n0 H p l c el vs) (hn : n0 ≤ H.size) (hb : H[b]? = some (.cells #[v] el)) (ho : v.oneCell' = true)
    (hsz : (l + 1) * 8 ≤ 70368744177664) {K : Option Addr → Nat → Nat → Heap → Prop}
    (hK : ∀ p' c' H', SL n0 H' p' (l + 1) c' el (vs ++ [v]) → (∀ b' o, H[b']? = some o → (∀ cs, n0 ≤ b' → o ≠ .cells cs el) → H'[b']? = some o) → H.size ≤ H'.size → K p' (l + 1) c' H') :
    appQ 1 8 #[z] H p l c (some ⟨b, 0, none⟩) 1 el K := by
  have hlen := h.len
  refine ⟨hsz, by omega, #[v], ⟨rfl, rowIn_whole hb⟩, fun hle => ?_, fun hlt => ?_⟩
  · rcases h.at_ with ⟨rfl, rfl⟩ | ⟨blk, cs, rfl, h2, h3, h4, h5⟩
    · omega
    · simp only [add_none, Nat.zero_add, Nat.mul_one]
      refine stAt_one h3 (by omega) ho ?_
      have hget : ∀ i : Nat, (H.setIfInBounds blk (.cells (cs.setIfInBounds l v) el))[i]? = if blk = i ∧ i < H.size then some (.cells (cs.setIfInBounds l v) el) else H[i]? := fun i => by
        rw [Array.getElem?_setIfInBounds]
        by_cases hi : blk = i
        · subst hi; have := lt_of_get h3; simp [this]
        · simp [hi]
      refine hK _ _ _ ⟨by simp [hlen], hle, .inr ⟨blk, cs.setIfInBounds l v, rfl, h2, get_set_self h3, by simpa using h4, fun i u hu => ?_⟩⟩ (fun b' o hb' hne => ?_) (by simp)
      · rw [Array.getElem?_setIfInBounds]
        by_cases hi : i < vs.length
        · rw [List.getElem?_append_left hi] at hu
          rw [if_neg (by omega)]
          exact h5 i u hu
        · rw [List.getElem?_append_right (by omega)] at hu
          have hi2 : i - vs.length < 1 := by have := (List.getElem?_eq_some_iff.1 hu).1; simpa using this
          have : i = l := by omega
          subst this
          rw [hlen, Nat.sub_self] at hu
          simp only [List.getElem?_cons_zero, Option.some.injEq] at hu
          subst hu
          rw [if_pos rfl, if_pos (by omega)]
      · refine get_set_ne (fun hh => ?_) hb'
        rw [← hh] at hb' hne
        rw [hb'] at h3
        exact hne cs h2 (by cases h3; rfl)
  · have hrow : ∃ ys, rowOf H p (l * 1) ys ∧ ys.toList = vs := by
      rcases h.at_ with ⟨rfl, rfl⟩ | ⟨blk, cs, rfl, h2, h3, h4, h5⟩
      · refine ⟨#[], rfl, ?_⟩
        have hl := h.le
        have : vs.length = 0 := by omega
        rw [List.length_eq_zero_iff.1 this]
      · refine ⟨vs.toArray, ⟨by simp [hlen], rowIn_block h3 fun j u hu => ?_⟩, by simp⟩
        rw [Nat.zero_add]
        exact h5 j u (by simpa using hu)
    obtain ⟨ys, hy, hvs⟩ := hrow
    refine ⟨ys, hy, fun c' hc' => ?_⟩
    rw [zeroCells_eq _ _ (by simp)]
    refine hK _ _ _ ⟨by simp [hlen], hc', .inr ⟨H.size, _, rfl, hn, get_push_self _ _, ?_, fun i u hu => ?_⟩⟩ (fun b' o hb' _ => get_push hb') (by simp)
    · have : ys.size = l := by rw [← Array.length_toList, hvs, hlen]
      simp [this, reps_length]
      omega
    · rw [Array.getElem?_append_left]
      · have : (ys ++ #[v]).toList = vs ++ [v] := by simp [hvs]
        rw [← Array.getElem?_toList, this]
        exact hu
      · have := (List.getElem?_eq_some_iff.1 hu).1
        have h6 : ys.size = vs.length := by rw [← Array.length_toList, hvs]
        simpa [h6] using this

theorem In.keep {H H' : Heap} {s : St} (h : In H s) (hk : ∀ (b : Nat) (o : Obj), H[b]? = some o → (∀ cs, o ≠ Obj.cells cs 26 ∧ o ≠ Obj.cells cs 3) → H'[b]? = some o) : In H' s :=
  ⟨hk _ _ h.arena (fun cs => ⟨fun h => (by cases h), fun h => (by cases h)⟩), fun p hp => hk _ _ (h.plane p hp) (fun cs => ⟨fun h => (by cases h), fun h => (by cases h)⟩),
    fun p hp => hk _ _ (h.map p hp) (fun cs => ⟨fun h => (by cases h), fun h => (by cases h)⟩), fun z hz => hk _ _ (h.tile z hz) (fun cs => ⟨fun h => (by cases h), fun h => (by cases h)⟩)⟩

theorem not_owned {H : Heap} {s : St} (hin : In H s) {b : Nat} {cs : Array Value} {el : TypeId} (hel : el = 26 ∨ el = 3 ∨ el = 31) (h : H[b]? = some (.cells cs el)) : ¬ owned s b := by
  rintro (rfl | ⟨p, hp, rfl⟩ | ho)
  · rw [hin.arena] at h; cases h; rcases hel with h | h | h <;> cases h
  · rw [hin.map p hp] at h; cases h
  · obtain ⟨z, hz, rfl⟩ := List.mem_map.1 ho
    rw [hin.tile z hz] at h; cases h; rcases hel with h | h | h <;> cases h

theorem SL.goes {n0 : Nat} {H H' : Heap} {p : Option Addr} {l c : Nat} {el : TypeId} {vs : List Value} (h : SL n0 H p l c el vs) (hel : el = 26 ∨ el = 3 ∨ el = 31) {cap : Int} {s s' : St} (hin : In H s) (hg : Goes cap H s H' s') : SL n0 H' p l c el vs :=
  h.keep fun b cs _ hb => hg.fr b _ hb (not_owned hin hel hb)

theorem SL.ext {n0 : Nat} {H H' : Heap} {p : Option Addr} {l c : Nat} {el : TypeId} {vs : List Value} (h : SL n0 H p l c el vs) (he : Ext H H') : SL n0 H' p l c el vs := h.keep fun b cs _ hb => he _ _ hb

/-- A model, and the slice of its planes. -/
def ptrs (s : St) : List Value := s.pls.map fun p => Value.pointer (some ⟨p.b, 0, none⟩)

theorem ptrs_views {s s' : St} {f : Nat → Int → Int → Int → Int} (h : Views s s' f) : ptrs s' = ptrs s := by
  apply List.ext_getElem?
  intro i
  unfold ptrs
  rw [List.getElem?_map, List.getElem?_map]
  cases hi : s.pls[i]? with
  | none =>
    have h1 := List.getElem?_eq_none_iff.1 hi
    have h2 : s'.pls[i]? = none := List.getElem?_eq_none_iff.2 (by rw [h.len]; exact h1)
    rw [h2]
  | some q =>
    obtain ⟨q', h1, h2, _⟩ := h.pl i q hi
    rw [h1]
    simp [h2.b]

theorem At.keep {cap : Int} {H0 H H' : Heap} {s : St} (h : At cap H0 H s) (hk : ∀ (b : Nat) (o : Obj), H[b]? = some o → (∀ cs, H0.size ≤ b → o ≠ Obj.cells cs 26) → H'[b]? = some o) : At cap H0 H' s := by
  refine ⟨h.inn.keep fun b o hb ho => hk b o hb fun cs _ => (ho cs).1, h.ok, fun b o hb => hk b o (h.ext b o hb) fun cs hle => ?_, h.low⟩
  have := lt_of_get hb
  omega

end Go.Proofs
