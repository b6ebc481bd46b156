/-
  OWN WORK. The book's 'write': stores in slices and in the book's head.
-/
import Derived.Test.YtcbnifopfdgniaaTileBr
set_option linter.unusedVariables false
set_option linter.unusedSimpArgs false
namespace Go.Proofs
open Go.Sh Go.Tile

theorem SL.set {n0 : Nat} {H : Heap} {b l c : Nat} {el : TypeId} {vs : List Value} {i : Nat} {v : Value} {f : Heap → Prop} (h : SL n0 H (some ⟨b, 0, none⟩) l c el vs) (hi : i < l) (ho : v.oneCell' = true)
    (hf : ∀ H', SL n0 H' (some ⟨b, 0, none⟩) l c el (vs.set i v) → (∀ (b' : Nat) (o : Obj), H[b']? = some o → b' ≠ b → H'[b']? = some o) → H'.size = H.size → f H') : stAt H ⟨b, i, none⟩ [v] f := by
  have hlen := h.len
  rcases h.at_ with ⟨h1, _⟩ | ⟨blk, cs, h1, h2, h3, h4, h5⟩
  · cases h1
  · cases h1
    have hle := h.le
    refine stAt_one h3 (by omega) ho ?_
    refine hf _ ⟨by simpa using hlen, hle, .inr ⟨b, cs.setIfInBounds i v, rfl, h2, get_set_self h3, by simpa using h4, fun j u hu => ?_⟩⟩ (fun b' o hb' hne => get_set_ne (Ne.symm hne) hb') (by simp)
    rw [List.getElem?_set] at hu
    rw [Array.getElem?_setIfInBounds]
    by_cases hij : i = j
    · subst hij
      have hiv : i < vs.length := by omega
      rw [if_pos rfl, if_pos hiv] at hu
      rw [if_pos rfl, if_pos (by omega)]
      exact hu
    · rw [if_neg hij] at hu
      rw [if_neg hij]
      exact h5 j u hu

theorem ints_set (l : List Int) (i : Nat) (v : Int) : (ints l).set i (.int .i64 v) = ints (l.set i v) := by simp [ints]

/-- The book's blocks are all apart. -/
def bkBlocks (k : Bk) : List Nat := k.B :: k.lb :: (k.pl.map (·.pb) ++ k.pl.map (·.tb))

/-- The number given next, in the head. -/
theorem st_next {H : Heap} {k : Bk} {v : Int} {f : Heap → Prop} (h : H[k.B]? = some (bookO k)) (hf : f (H.setIfInBounds k.B (bookO { k with next := v }))) : stAt H ⟨k.B, 4, none⟩ [Value.int .i64 v] f :=
  stAt_one h (by simp) rfl hf

structure Apart (k : Bk) : Prop where
  head : k.B ≠ k.lb
  px : (k.pl.map (·.pb)).Nodup
  tl : (k.pl.map (·.tb)).Nodup
  pt : ∀ p ∈ k.pl, ∀ q ∈ k.pl, p.pb ≠ q.tb
  hd : ∀ p ∈ k.pl, p.pb ≠ k.B ∧ p.pb ≠ k.lb ∧ p.tb ≠ k.B ∧ p.tb ≠ k.lb

theorem idx_of_map {α β : Type} {f : α → β} {l : List α} (hn : (l.map f).Nodup) {i j : Nat} {a b : α} (ha : l[i]? = some a) (hb : l[j]? = some b) (h : f a = f b) : i = j := by
  have h1 : (l.map f)[i]? = some (f a) := by rw [List.getElem?_map, ha]; rfl
  have h2 : (l.map f)[j]? = some (f a) := by rw [List.getElem?_map, hb, h]; rfl
  exact (List.getElem?_inj (List.getElem?_eq_some_iff.1 h1).1 hn).1 (by rw [h1, h2])

theorem SL.keep1 {n0 : Nat} {H H' : Heap} {b l c : Nat} {el : TypeId} {vs : List Value} (h : SL n0 H (some ⟨b, 0, none⟩) l c el vs) (hk : ∀ o, H[b]? = some o → H'[b]? = some o) : SL n0 H' (some ⟨b, 0, none⟩) l c el vs := by
  refine ⟨h.len, h.le, ?_⟩
  rcases h.at_ with h1 | ⟨blk, cs, h1, h2, h3, h4, h5⟩
  · exact .inl h1
  · cases h1
    exact .inr ⟨b, cs, rfl, h2, hk _ h3, h4, h5⟩

theorem BIn.put {H H' : Heap} {k : Bk} {i : Nat} {q q' : BPl} (h : BIn H k) (hap : Apart k) (hq : k.pl[i]? = some q) (hpv : q'.pxV = q.pxV) (htv : q'.tlV = q.tlV)
    (hpx : SL 0 H' (some ⟨q'.pb, 0, none⟩) q'.px.length q'.pc 3 (ints q'.px)) (htl : SL 0 H' (some ⟨q'.tb, 0, none⟩) q'.tl.length q'.tc 3 (ints q'.tl))
    (hk : ∀ (b : Nat) (o : Obj), H[b]? = some o → b ≠ q.pb → b ≠ q.tb → H'[b]? = some o) : BIn H' { k with pl := k.pl.set i q' } := by
  have hqm := List.mem_of_getElem? hq
  obtain ⟨a1, a2, a3, a4⟩ := hap.hd q hqm
  obtain ⟨cs, h1, h2, h3⟩ := h.l
  have hget : ∀ (j : Nat) (p : BPl), (k.pl.set i q')[j]? = some p → (j = i ∧ p = q') ∨ (j ≠ i ∧ k.pl[j]? = some p) := fun j p hj => by
    rw [List.getElem?_set] at hj
    by_cases hij : i = j
    · rw [if_pos hij] at hj
      split at hj
      · cases hj; exact .inl ⟨hij.symm, rfl⟩
      · cases hj
    · rw [if_neg hij] at hj; exact .inr ⟨fun hh => hij hh.symm, hj⟩
  refine ⟨?_, ⟨cs, hk _ _ h1 (Ne.symm a2) (Ne.symm a4), by simpa using h2, fun j p hj => ?_⟩, fun p hp => ?_, fun p hp => ?_⟩
  · have := hk _ _ h.book (Ne.symm a1) (Ne.symm a3)
    simpa [bookO] using this
  · rcases hget j p hj with ⟨rfl, rfl⟩ | ⟨_, hj⟩
    · rw [hpv, htv]; exact h3 j q hq
    · exact h3 j p hj
  · obtain ⟨j, hj⟩ := List.getElem?_of_mem hp
    rcases hget j p hj with ⟨rfl, rfl⟩ | ⟨hji, hj⟩
    · exact hpx
    · have hpm := List.mem_of_getElem? hj
      exact (h.px p hpm).keep1 fun o ho => hk _ _ ho (fun hh => hji (idx_of_map (f := fun p : BPl => p.pb) hap.px hj hq hh)) (hap.pt p hpm q hqm)
  · obtain ⟨j, hj⟩ := List.getElem?_of_mem hp
    rcases hget j p hj with ⟨rfl, rfl⟩ | ⟨hji, hj⟩
    · exact htl
    · have hpm := List.mem_of_getElem? hj
      exact (h.tl p hpm).keep1 fun o ho => hk _ _ ho (fun hh => hap.pt q hqm p hpm hh.symm) (fun hh => hji (idx_of_map (f := fun p : BPl => p.tb) hap.tl hj hq hh))

end Go.Proofs
