/-
  OWN WORK. The contracts of the package tile, over heaps: Snap.
-/
import Derived.Test.YtcbnifopfdgniaaTileF
import Derived.Test.YtcbnifopfdgniaaTileQ
set_option linter.unusedVariables false
set_option linter.unusedSimpArgs false
namespace Go.Proofs
open Go.Sh Go.Tile

def seenOf (done : List En) : Array Nat := (done.map (·.born)).toArray

theorem find_born : ∀ {en : List En} {e : En}, (en.map (·.born)).Nodup → e ∈ en → (en.map enc).toArray.find? (fun y => y.born == e.born) = some (enc e) := by
  intro en e hn he
  rw [List.find?_toArray]
  induction en with
  | nil => cases he
  | cons f r ih =>
    rw [List.map_cons, List.nodup_cons] at hn
    rw [List.map_cons, List.find?_cons]
    rcases List.mem_cons.1 he with rfl | he
    · simp [enc]
    · have hne : f.born ≠ e.born := fun h => hn.1 (by rw [h]; exact List.mem_map.2 ⟨e, he, rfl⟩)
      have : ((enc f).born == e.born) = false := by simpa [enc] using hne
      rw [this]
      exact ih hn.2 he

theorem nextQ_en {H : Heap} {r m : Nat} {en done : List En} {clk : Nat} {Kd : Heap → Prop} {Kn : MapEntry → Heap → Prop} (hr : H[r]? = some (.mapIter (some m) clk (seenOf done) clk))
    (hm : H[m]? = some (.map (en.map enc).toArray clk)) (hlt : ∀ e ∈ en, e.born < clk) (hd : (∀ e ∈ en, e.born ∈ done.map (·.born)) → Kd H)
    (hn : ∀ e ∈ en, e.born ∉ done.map (·.born) → Kn (enc e) (H.setIfInBounds r (.mapIter (some m) clk (seenOf (done ++ [e])) clk))) : nextQ H r Kd Kn := by
  refine .inr ⟨m, clk, seenOf done, clk, _, clk, hr, hm, ?_, fun h => hd fun e he => ?_, fun y hy hc => ?_⟩
  · cases en with
    | nil => simp
    | cons f r =>
      have : decide (f.born ≥ clk) = false := by have := hlt f List.mem_cons_self; simp; omega
      simp [enc, this]
  · have hnil : ((en.map enc).toArray.filter fun e => !(seenOf done).contains e.born && decide (e.born < clk)) = #[] := by simpa using h
    by_cases hc : e.born ∈ done.map (·.born)
    · exact hc
    · exfalso
      have : enc e ∈ ((en.map enc).toArray.filter fun e => !(seenOf done).contains e.born && decide (e.born < clk)) := by
        rw [Array.mem_filter]
        refine ⟨by simpa using ⟨e, he, rfl⟩, ?_⟩
        have h1 : (seenOf done).contains (enc e).born = false := by
          rw [← Bool.not_eq_true, Array.contains_iff_mem]
          simpa [seenOf, enc] using hc
        rw [h1]
        have h2 : (enc e).born < clk := hlt e he
        simp [h2]
      rw [hnil] at this
      simp at this
  · simp only [List.mem_map] at hy
    obtain ⟨e, he, rfl⟩ := hy
    have hc' : e.born ∉ done.map (·.born) := by
      rw [← Bool.not_eq_true, Array.contains_iff_mem] at hc
      simpa [seenOf, enc] using hc
    have := hn e he hc'
    have h2 : (seenOf done).push (enc e).born = seenOf (done ++ [e]) := by simp [seenOf, enc]
    rw [h2]
    exact this

theorem seen_back (done : List En) (e : En) : (seenOf (done ++ [e])).back? = some e.born := by simp [seenOf]

def cp (done : List En) : List En := done.zipIdx.map fun z => ⟨z.1.x, z.1.y, z.1.t, z.2⟩

theorem cp_append (done : List En) (e : En) : cp (done ++ [e]) = cp done ++ [⟨e.x, e.y, e.t, done.length⟩] := by simp [cp, List.zipIdx_append]

theorem cp_len (done : List En) : (cp done).length = done.length := by simp [cp]

theorem cp_map' {α : Type} (f : Int → Int → Nat → α) : ∀ (done : List En) (n : Nat), (done.zipIdx n).map (fun z => f z.1.x z.1.y z.1.t) = done.map fun e => f e.x e.y e.t
  | [], _ => rfl
  | e :: r, n => by rw [List.zipIdx_cons, List.map_cons, List.map_cons, cp_map' f r]

theorem cp_map {α : Type} (f : Int → Int → Nat → α) (done : List En) : (cp done).map (fun e => f e.x e.y e.t) = done.map fun e => f e.x e.y e.t := by
  rw [← cp_map' f done 0, cp, List.map_map]; rfl

theorem cp_born' : ∀ (done : List En) (n : Nat), ((done.zipIdx n).map fun z => (⟨z.1.x, z.1.y, z.1.t, z.2⟩ : En)).map (·.born) = List.range' n done.length
  | [], _ => rfl
  | e :: r, n => by
    rw [List.zipIdx_cons, List.map_cons, List.map_cons, cp_born' r, List.length_cons, List.range'_succ]

theorem cp_born (done : List En) : (cp done).map (·.born) = List.range' 0 done.length := cp_born' done 0

theorem cp_count (done : List En) (t : Nat) : (cp done).countP (·.t == t) = done.countP (·.t == t) := by
  have h1 : ∀ l : List En, l.countP (·.t == t) = (l.map fun e => (fun (_ _ : Int) (u : Nat) => u) e.x e.y e.t).countP (· == t) := fun l => by rw [List.countP_map]; rfl
  rw [h1, h1, cp_map (fun _ _ u => u)]

theorem tileOf_cp' (X Y : Int) : ∀ (done : List En) (n : Nat), tileOf ((done.zipIdx n).map fun z => (⟨z.1.x, z.1.y, z.1.t, z.2⟩ : En)) X Y = tileOf done X Y
  | [], _ => rfl
  | e :: r, n => by
    rw [List.zipIdx_cons, List.map_cons, tileOf_cons, tileOf_cons, tileOf_cp' X Y r]
    rfl

theorem tileOf_cp (done : List En) (X Y : Int) : tileOf (cp done) X Y = tileOf done X Y := tileOf_cp' X Y done 0

theorem tileOf_none_iff {en : List En} {X Y : Int} : tileOf en X Y = none ↔ (X, Y) ∉ en.map fun e => (e.x, e.y) := by
  unfold tileOf
  rw [Option.map_eq_none_iff, List.find?_eq_none]
  constructor
  · intro h hm
    obtain ⟨e, he, heq⟩ := List.mem_map.1 hm
    simp only [Prod.mk.injEq] at heq
    exact h e he (at_iff.2 ⟨heq.1.symm, heq.2.symm⟩)
  · intro h e he ha
    have := at_iff.1 ha
    exact h (List.mem_map.2 ⟨e, he, by rw [this.1, this.2]⟩)

theorem tileOf_of_mem {en : List En} (hn : (en.map fun e => (e.x, e.y)).Nodup) {e : En} (he : e ∈ en) : tileOf en e.x e.y = some e.t := by
  induction en with
  | nil => cases he
  | cons f r ih =>
    rw [List.map_cons, List.nodup_cons] at hn
    rw [tileOf_cons]
    rcases List.mem_cons.1 he with rfl | he
    · rw [if_pos (at_iff.2 ⟨rfl, rfl⟩)]
    · rw [if_neg, ih hn.2 he]
      intro ha
      have := at_iff.1 ha
      exact hn.1 (by rw [← this.1, ← this.2]; exact List.mem_map.2 ⟨e, he, rfl⟩)

/-- The same entries, in whatever order. -/
structure Same (done en : List En) : Prop where
  sub : ∀ e ∈ done, e ∈ en
  all : ∀ e ∈ en, e ∈ done
  nd : done.Nodup

theorem nodup_of_map {α β : Type} {f : α → β} : ∀ {l : List α}, (l.map f).Nodup → l.Nodup
  | [], _ => List.nodup_nil
  | a :: r, h => by
    rw [List.map_cons, List.nodup_cons] at h
    exact List.nodup_cons.2 ⟨fun hm => h.1 (List.mem_map.2 ⟨a, hm, rfl⟩), nodup_of_map h.2⟩

theorem nodup_map_of {α β : Type} {f : α → β} {en : List α} (hn : (en.map f).Nodup) {a b : α} (ha : a ∈ en) (hb : b ∈ en) (h : f a = f b) : a = b := by
  induction en with
  | nil => cases ha
  | cons c r ih =>
    rw [List.map_cons, List.nodup_cons] at hn
    rcases List.mem_cons.1 ha with rfl | ha'
    · rcases List.mem_cons.1 hb with rfl | hb'
      · rfl
      · exact absurd (List.mem_map.2 ⟨b, hb', h.symm⟩) hn.1
    · rcases List.mem_cons.1 hb with rfl | hb'
      · exact absurd (show f b ∈ r.map f from (by rw [← h]; exact List.mem_map.2 ⟨a, ha', rfl⟩)) hn.1
      · exact ih hn.2 ha' hb'

theorem map_nodup_of {α β : Type} {f : α → β} {done en : List α} (hn : (en.map f).Nodup) (hs : ∀ e ∈ done, e ∈ en) (hd : done.Nodup) : (done.map f).Nodup := by
  induction done with
  | nil => exact List.nodup_nil
  | cons a r ih =>
    rw [List.nodup_cons] at hd
    rw [List.map_cons, List.nodup_cons]
    refine ⟨fun hm => ?_, ih (fun e he => hs e (List.mem_cons_of_mem _ he)) hd.2⟩
    obtain ⟨b, hb, heq⟩ := List.mem_map.1 hm
    have := nodup_map_of hn (hs b (List.mem_cons_of_mem _ hb)) (hs a List.mem_cons_self) heq
    rw [this] at hb
    exact hd.1 hb

theorem Same.perm {done en : List En} (h : Same done en) (hn : en.Nodup) : done.Perm en := by
  refine (List.perm_ext_iff_of_nodup h.nd hn).2 fun a => ⟨h.sub a, h.all a⟩

/-- A sublist by members has no more of a tile. -/
theorem sub_count {done en : List En} (hs : ∀ e ∈ done, e ∈ en) (hd : done.Nodup) (t : Nat) : done.countP (·.t == t) ≤ en.countP (·.t == t) := by
  rw [List.countP_eq_length_filter, List.countP_eq_length_filter]
  haveI : DecidableEq En := fun a b => Classical.propDecidable _
  refine nodup_length_le (List.Pairwise.filter _ hd) fun a ha => ?_
  rw [List.mem_filter] at ha ⊢
  exact ⟨hs a ha.1, ha.2⟩

end Go.Proofs
