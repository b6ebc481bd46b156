/-
  OWN WORK. The book: a plane more, a plane laid anew; what the planes keep of it.
-/
import Derived.Test.YtcbnifopfdgniaaTileCd
set_option linter.unusedVariables false
set_option linter.unusedSimpArgs false
namespace Go.Proofs
open Go.Sh Go.Tile

theorem setL_get {c vs : List Value} {i : Nat} (h : i + vs.length ≤ c.length) (j : Nat) : (setL c i vs)[j]? = if i ≤ j ∧ j < i + vs.length then vs[j - i]? else c[j]? := by
  unfold setL
  by_cases h1 : j < i
  · rw [if_neg (by omega), List.append_assoc, List.getElem?_append_left (by simp; omega), List.getElem?_take_of_lt h1]
  · by_cases h2 : j < i + vs.length
    · rw [if_pos ⟨by omega, h2⟩, List.append_assoc, List.getElem?_append_right (by simp; omega), List.getElem?_append_left (by simp; omega)]
      congr 1
      simp; omega
    · rw [if_neg (by omega), List.getElem?_append_right (by simp; omega), List.getElem?_drop]
      congr 1
      simp; omega

theorem setL_len {c vs : List Value} {i : Nat} (h : i + vs.length ≤ c.length) : (setL c i vs).length = c.length := by unfold setL; simp; omega

theorem stAt_some {H : Heap} {b i : Nat} {c : Array Value} {t : TypeId} {vs : List Value} {f : Heap → Prop} (h : H[b]? = some (.cells c t (0, 0))) (hl : i + vs.length ≤ c.size) (ho : ∀ v ∈ vs, v.oneCell' = true)
    (hf : ∀ c' : Array Value, c'.size = c.size → (∀ j : Nat, c'[j]? = if i ≤ j ∧ j < i + vs.length then vs[j - i]? else c[j]?) → f (H.setIfInBounds b (.cells c' t (0, 0)))) : stAt H ⟨b, i, none⟩ vs f := by
  have hl' : i + vs.length ≤ c.toList.length := by simpa using hl
  refine ⟨c, t, h, rfl, hl, ho, ?_⟩
  refine hf (setL c.toList i vs).toArray (by simp [setL_len hl']) fun j => ?_
  rw [List.getElem?_toArray, setL_get hl' j, Array.getElem?_toList (xs := c)]

/-- A copy: append to a new, empty slice. -/
theorem app_copy {n0 : Nat} {H : Heap} {b n sc : Nat} {sp : Option Addr} {l : List Int} {zz : Value} (hn : n0 ≤ b) (hb : H[b]? = some (.cells #[] 3)) (hs : SL 0 H sp n sc 3 (ints l)) (hln : n ≤ 1000000) {K : Option Addr → Nat → Nat → Heap → Prop}
    (hK : ∀ b' c' H', (b' = b ∨ b' = H.size) → n0 ≤ b' → Ext H H' → SL n0 H' (some ⟨b', 0, none⟩) n c' 3 (ints l) → K (some ⟨b', 0, none⟩) n c' H') : appQ 1 8 #[zz] H (some ⟨b, 0, none⟩) 0 0 sp n 3 K := by
  have hlen := hs.len
  have hle := hs.le
  refine ⟨by omega, by omega, ?_⟩
  rw [Nat.zero_add, Nat.mul_one]
  have hsrc : ∃ xs, rowOf H sp n xs ∧ xs.toList = ints l := by
    rcases hs.at_ with ⟨rfl, rfl⟩ | ⟨blk, cs, rfl, h2, h3, h4, h5⟩
    · refine ⟨#[], rfl, ?_⟩
      have : (ints l).length = 0 := by omega
      rw [List.length_eq_zero_iff.1 this]
    · refine ⟨(ints l).toArray, ⟨by simp [hlen], rowIn_block h3 fun j u hu => ?_⟩, by simp⟩
      rw [Nat.zero_add]
      exact h5 j u (by simpa using hu)
  obtain ⟨xs, hx, hxl⟩ := hsrc
  refine ⟨xs, hx, fun h0 => ?_, fun h0 => ⟨#[], ⟨rfl, fun j v hv => by simp at hv⟩, fun c' hc' => ?_⟩⟩
  · obtain rfl : n = 0 := by omega
    have hl0 : ints l = [] := List.length_eq_zero_iff.1 hlen
    rw [hl0] at hxl hK
    rw [hxl]
    simp only [add_none, Nat.zero_add, Nat.zero_mul]
    refine stAt_some hb (by simp) (by simp) fun c' hc' hg => ?_
    have : c' = #[] := Array.eq_empty_of_size_eq_zero (by simpa using hc')
    subst this
    have he : Ext H (H.setIfInBounds b (.cells #[] 3 (0, 0))) := fun b' o ho => by
      by_cases hbb : b = b'
      · subst hbb; rw [get_set_self hb, ← hb, ho]
      · exact get_set_ne hbb ho
    refine hK b 0 _ (.inl rfl) hn he ⟨rfl, Nat.le_refl _, .inr ⟨b, #[], rfl, hn, get_set_self hb, rfl, fun i v hv => by simp at hv⟩⟩
  · refine hK H.size c' _ (.inr rfl) (by have := lt_of_get hb; omega) (Ext.push _ _) ⟨hlen, by omega, .inr ⟨H.size, _, rfl, by have := lt_of_get hb; omega, get_push_self _ _, ?_, fun i v hv => ?_⟩⟩
    · rw [zeroCells_eq _ _ (by simp)]
      have : xs.size = n := by rw [← Array.length_toList, hxl, hlen]
      simp [this, reps_length]
      omega
    · have hi := (List.getElem?_eq_some_iff.1 hv).1
      have hxs : xs.size = n := by rw [← Array.length_toList, hxl, hlen]
      rw [Array.getElem?_append_left (by simp; omega)]
      simp only [Array.empty_append]
      rw [← Array.getElem?_toList, hxl]
      exact hv

theorem app_plane {H : Heap} {k : Bk} {bt : Nat} {q' : BPl} {z1 z2 : Value} (h : BIn H k) (hbt : H[bt]? = some (.cells #[q'.pxV, q'.tlV] 51)) (hlen : k.pl.length ≤ 1000) {K : Option Addr → Nat → Nat → Heap → Prop}
    (hK : ∀ lb' lc' H', (lb' = k.lb ∨ lb' = H.size) → (∃ cs, H'[lb']? = some (.cells cs 51) ∧ (k.pl.length + 1 ≤ lc' ∧ cs.size = 2 * lc') ∧ ∀ (i : Nat) p, (k.pl ++ [q'])[i]? = some p → cs[2 * i]? = some p.pxV ∧ cs[2 * i + 1]? = some p.tlV) →
      (∀ (b : Nat) (o : Obj), H[b]? = some o → b ≠ k.lb → H'[b]? = some o) → H.size ≤ H'.size → K (some ⟨lb', 0, none⟩) (k.pl.length + 1) lc' H') : appQ 2 48 #[z1, z2] H (some ⟨k.lb, 0, none⟩) k.pl.length k.lc (some ⟨bt, 0, none⟩) 1 51 K := by
  obtain ⟨cs, h1, ⟨h2, h2'⟩, h3⟩ := h.l
  have row : ∀ i p, (k.pl ++ [q'])[i]? = some p → (i < k.pl.length ∧ k.pl[i]? = some p) ∨ (i = k.pl.length ∧ p = q') := fun i p hp => by
    by_cases hi : i < k.pl.length
    · rw [List.getElem?_append_left hi] at hp; exact .inl ⟨hi, hp⟩
    · rw [List.getElem?_append_right (by omega)] at hp
      have hlt := (List.getElem?_eq_some_iff.1 hp).1
      have hi2 : i - k.pl.length = 0 := by simpa using hlt
      rw [hi2] at hp
      simp at hp
      exact .inr ⟨by omega, hp.symm⟩
  refine ⟨by omega, by omega, #[q'.pxV, q'.tlV], ⟨rfl, rowIn_whole hbt⟩, fun hle => ?_, fun hlt => ?_⟩
  · simp only [add_none, Nat.zero_add]
    refine stAt_some h1 (by simp; omega) (by simp [BPl.pxV, BPl.tlV, Value.oneCell']) fun c' hc' hg => ?_
    refine hK k.lb k.lc _ (.inl rfl) ⟨c', get_set_self h1, ⟨hle, by omega⟩, fun i p hp => ?_⟩ (fun b o hb hne => get_set_ne (Ne.symm hne) hb) (by simp)
    rw [hg, hg]
    rcases row i p hp with ⟨hi, hp⟩ | ⟨rfl, rfl⟩
    · rw [if_neg (by omega), if_neg (by omega)]
      exact h3 i p hp
    · rw [if_pos (by simp; omega), if_pos (by simp; omega)]
      have e1 : 2 * k.pl.length - k.pl.length * 2 = 0 := by omega
      have e2 : 2 * k.pl.length + 1 - k.pl.length * 2 = 1 := by omega
      rw [e1, e2]
      exact ⟨rfl, rfl⟩
  · refine ⟨cs.extract 0 (k.pl.length * 2), ⟨by simp; omega, rowIn_block h1 fun j v hv => ?_⟩, fun c' hc' => ?_⟩
    · rw [Array.getElem?_extract] at hv
      split at hv
      · simpa using hv
      · cases hv
    · rw [zeroCells_eq _ _ (by simp)]
      have hsz : (cs.extract 0 (k.pl.length * 2)).size = k.pl.length * 2 := by simp; omega
      refine hK H.size c' _ (.inr rfl) ⟨_, get_push_self _ _, ⟨hc', by simp [reps_length]; omega⟩, fun i p hp => ?_⟩ (fun b o hb _ => get_push hb) (by simp)
      have hi : i ≤ k.pl.length := by rcases row i p hp with ⟨hi, _⟩ | ⟨hi, _⟩ <;> omega
      have G : ∀ j, j < k.pl.length * 2 + 2 → (cs.extract 0 (k.pl.length * 2) ++ #[q'.pxV, q'.tlV] ++ (reps (c' - (k.pl.length + 1)) #[z1, z2].toList).toArray)[j]? = (cs.extract 0 (k.pl.length * 2) ++ #[q'.pxV, q'.tlV])[j]? := fun j hj => by
        rw [Array.getElem?_append_left (by rw [Array.size_append, hsz]; exact hj)]
      rw [G _ (by omega), G _ (by omega)]
      rcases row i p hp with ⟨hi, hp⟩ | ⟨rfl, rfl⟩
      · obtain ⟨a1, a2⟩ := h3 i p hp
        have g : ∀ j, j < k.pl.length * 2 → (cs.extract 0 (k.pl.length * 2) ++ #[q'.pxV, q'.tlV])[j]? = cs[j]? := fun j hj => by
          rw [Array.getElem?_append_left (by omega), Array.getElem?_extract]
          simp [hj]; omega
        rw [g _ (by omega), g _ (by omega)]
        exact ⟨a1, a2⟩
      · rw [Array.getElem?_append_right (by omega), Array.getElem?_append_right (by omega), hsz]
        have e1 : 2 * k.pl.length - k.pl.length * 2 = 0 := by omega
        have e2 : 2 * k.pl.length + 1 - k.pl.length * 2 = 1 := by omega
        rw [e1, e2]
        exact ⟨rfl, rfl⟩

/-- The book with a plane more. -/
def Bk.more (k : Bk) (lb lc : Nat) (q : BPl) : Bk := { k with lb := lb, lc := lc, pl := k.pl ++ [q] }

theorem st_more {H : Heap} {k : Bk} {lb lc : Nat} {q : BPl} {f : Heap → Prop} (h : H[k.B]? = some (bookO k)) (hf : f (H.setIfInBounds k.B (bookO (k.more lb lc q)))) : stAt H ⟨k.B, 5, none⟩ [Value.slice (some ⟨lb, 0, none⟩) (k.pl.length + 1) lc] f := by
  refine stAt_one h (by simp) rfl ?_
  have : bookO (k.more lb lc q) = .cells (#[.int .i64 k.w, .int .i64 k.h, .int .i64 k.wide, .int .i64 k.cap, .int .i64 k.next, .slice (some ⟨lb, 0, none⟩) (k.pl.length + 1) lc]) 49 := by simp [bookO, Bk.more]
  rw [this] at hf
  exact hf

theorem Apart.more {k : Bk} (h : Apart k) {lb lc : Nat} {q : BPl} (h1 : k.B ≠ lb) (h2 : q.pb ≠ q.tb) (h3 : q.pb ≠ k.B ∧ q.pb ≠ lb ∧ q.tb ≠ k.B ∧ q.tb ≠ lb) (h4 : ∀ p ∈ k.pl, p.pb ≠ q.pb ∧ p.pb ≠ q.tb ∧ p.tb ≠ q.pb ∧ p.tb ≠ q.tb ∧ p.pb ≠ lb ∧ p.tb ≠ lb) : Apart (k.more lb lc q) := by
  have nd : ∀ (f : BPl → Nat), (k.pl.map f).Nodup → (∀ p ∈ k.pl, f p ≠ f q) → ((k.pl ++ [q]).map f).Nodup := fun f hn hf => by
    rw [List.map_append, List.nodup_append]
    refine ⟨hn, by simp, fun a ha b hb hab => ?_⟩
    obtain ⟨p, hp, rfl⟩ := List.mem_map.1 ha
    simp at hb
    exact hf p hp (by rw [hab, hb])
  refine ⟨h1, nd _ h.px fun p hp => (h4 p hp).1, nd _ h.tl fun p hp => (h4 p hp).2.2.2.1, fun a ha b hb => ?_, fun a ha => ?_⟩
  · rcases List.mem_append.1 ha with ha1 | ha1
    · rcases List.mem_append.1 hb with hb1 | hb1
      · exact h.pt a ha1 b hb1
      · rw [List.mem_singleton] at hb1; rw [hb1]; exact (h4 a ha1).2.1
    · rw [List.mem_singleton] at ha1; rw [ha1]
      rcases List.mem_append.1 hb with hb1 | hb1
      · exact fun hh => (h4 b hb1).2.2.1 hh.symm
      · rw [List.mem_singleton] at hb1; rw [hb1]; exact h2
  · rcases List.mem_append.1 ha with ha1 | ha1
    · obtain ⟨a1, _, a3, _⟩ := h.hd a ha1
      obtain ⟨_, _, _, _, b1, b2⟩ := h4 a ha1
      exact ⟨a1, b1, a3, b2⟩
    · rw [List.mem_singleton] at ha1; rw [ha1]; exact h3

theorem BDim.more {k : Bk} (d : BDim k) {lb lc : Nat} {q q0 : BPl} (h0 : q0 ∈ k.pl) (h1 : q.px = q0.px) (h2 : q.tl = q0.tl) : BDim (k.more lb lc q) := by
  refine ⟨d.w0, d.w1, d.h0, d.h1, d.wd, fun p hp => ?_, fun p hp => ?_⟩
  · rcases List.mem_append.1 hp with hp | hp
    · exact d.px p hp
    · rw [List.mem_singleton] at hp; subst hp; rw [h1]; exact d.px q0 h0
  · rcases List.mem_append.1 hp with hp | hp
    · exact d.tl p hp
    · rw [List.mem_singleton] at hp; subst hp; rw [h2]; exact d.tl q0 h0

/-- The planes do not look at the book's blocks. -/
theorem PI.keepT {cap : Int} {H0 H H' : Heap} {A : Nat} {lp : Option Addr} {ll lc : Nat} {s : St} (h : PI cap H0 H A lp ll lc s)
    (hk : ∀ (b : Nat) (o : Obj), H[b]? = some o → (∀ cs, H0.size ≤ b → o ≠ Obj.cells cs 3 ∧ o ≠ Obj.cells cs 49 ∧ o ≠ Obj.cells cs 51) → H'[b]? = some o) : PI cap H0 H' A lp ll lc s := by
  have hin := h.at_.inn
  refine ⟨⟨⟨hk _ _ hin.arena fun cs _ => ⟨fun h => (by cases h), fun h => (by cases h), fun h => (by cases h)⟩, fun p hp => hk _ _ (hin.plane p hp) fun cs _ => ⟨fun h => (by cases h), fun h => (by cases h), fun h => (by cases h)⟩,
    fun p hp => hk _ _ (hin.map p hp) fun cs _ => ⟨fun h => (by cases h), fun h => (by cases h), fun h => (by cases h)⟩, fun z hz => hk _ _ (hin.tile z hz) fun cs _ => ⟨fun h => (by cases h), fun h => (by cases h), fun h => (by cases h)⟩⟩,
    h.at_.ok, fun b o hb => hk b o (h.at_.ext b o hb) fun cs hle => ?_, h.at_.low⟩, h.sl.keep fun b cs hb hc => hk b _ hc fun cs' _ => ⟨fun h => (by cases h), fun h => (by cases h), fun h => (by cases h)⟩, h.A⟩
  have := lt_of_get hb
  omega

theorem not_owned2 {H : Heap} {s : St} (hin : In H s) {b : Nat} {cs : Array Value} {el : TypeId} (hel : el = 3 ∨ el = 49 ∨ el = 51) (h : H[b]? = some (.cells cs el)) : ¬ owned s b := by
  rintro (rfl | ⟨p, hp, rfl⟩ | ho)
  · rw [hin.arena] at h; cases h; rcases hel with h | h | h <;> cases h
  · rw [hin.map p hp] at h; cases h
  · obtain ⟨z, hz, rfl⟩ := List.mem_map.1 ho
    rw [hin.tile z hz] at h; cases h; rcases hel with h | h | h <;> cases h

theorem SL.goes2 {n0 : Nat} {H H' : Heap} {p : Option Addr} {l c : Nat} {vs : List Value} (h : SL n0 H p l c 3 vs) {cap : Int} {s s' : St} (hin : In H s) (hg : Goes cap H s H' s') : SL n0 H' p l c 3 vs := h.goes (.inr (.inl rfl)) hin hg

theorem BIn.goes {H H' : Heap} {k : Bk} (h : BIn H k) {cap : Int} {s s' : St} (hin : In H s) (hg : Goes cap H s H' s') : BIn H' k := by
  obtain ⟨cs, h1, h2⟩ := h.l
  exact ⟨hg.fr _ _ h.book (not_owned2 hin (.inr (.inl rfl)) h.book), ⟨cs, hg.fr _ _ h1 (not_owned2 hin (.inr (.inr rfl)) h1), h2⟩, fun p hp => (h.px p hp).goes2 hin hg, fun p hp => (h.tl p hp).goes2 hin hg⟩

theorem SL.some_get {n0 : Nat} {H : Heap} {b l c : Nat} {el : TypeId} {vs : List Value} (h : SL n0 H (some ⟨b, 0, none⟩) l c el vs) : ∃ cs, H[b]? = some (.cells cs el) := by
  rcases h.at_ with ⟨h1, _⟩ | ⟨blk, cs, h1, _, h3, _⟩
  · cases h1
  · cases h1; exact ⟨cs, h3⟩

end Go.Proofs
