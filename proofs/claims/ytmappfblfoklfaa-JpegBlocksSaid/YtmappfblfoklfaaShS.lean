/-
  OWN WORK. The shallow layer, part 14: slices of elements of any number of cells, told by their cells one behind the other; append.
-/
import Derived.Test.YtmappfblfoklfaaShL
set_option linter.unusedVariables false
set_option linter.unusedSimpArgs false
namespace Go.Sh

theorem wrap64 {n : Int} (h0 : -9223372036854775808 ≤ n) (h1 : n ≤ 9223372036854775807) : IntKind.wrap .i64 n = n := by simp [IntKind.wrap, IntKind.bits, IntKind.signed]; omega

def ints (l : List Int) : List Value := l.map (Value.int .i64)
theorem ints_get {l : List Int} {i : Nat} {v : Int} (h : l[i]? = some v) : (ints l)[i]? = some (Value.int .i64 v) := by simp [ints, h]
theorem ints_len (l : List Int) : (ints l).length = l.length := by simp [ints]
theorem ints_append (a b : List Int) : ints (a ++ b) = ints a ++ ints b := by simp [ints]
theorem ints_set (l : List Int) (i : Nat) (v : Int) : (ints l).set i (.int .i64 v) = ints (l.set i v) := by simp [ints]
theorem ints_one (l : List Int) : ∀ v ∈ ints l, v.oneCell' = true := fun v hv => by
  obtain ⟨x, _, rfl⟩ := List.mem_map.1 hv; rfl

/-- What is read of a slice. -/
structure RS (H : Heap) (p : Option Addr) (l : Nat) (el : TypeId) (k : Nat) (fs : List Value) : Prop where
  len : fs.length = l * k
  one : ∀ v ∈ fs, v.oneCell' = true
  at_ : l = 0 ∨ ∃ blk cs, p = some ⟨blk, 0, none⟩ ∧ H[blk]? = some (.cells cs el) ∧ ∀ (i : Nat) v, fs[i]? = some v → cs[i]? = some v

/-- A slice of one's own: its block is all of its own, from block n0 on. -/
structure FS (n0 : Nat) (H : Heap) (p : Option Addr) (l c : Nat) (el : TypeId) (k : Nat) (fs : List Value) : Prop where
  len : fs.length = l * k
  le : l ≤ c
  one : ∀ v ∈ fs, v.oneCell' = true
  at_ : (p = none ∧ c = 0) ∨ ∃ blk cs, p = some ⟨blk, 0, none⟩ ∧ n0 ≤ blk ∧ H[blk]? = some (.cells cs el) ∧ cs.size = c * k ∧ ∀ (i : Nat) v, fs[i]? = some v → cs[i]? = some v

theorem FS.rs {n0 : Nat} {H : Heap} {p : Option Addr} {l c : Nat} {el : TypeId} {k : Nat} {fs : List Value} (h : FS n0 H p l c el k fs) : RS H p l el k fs := by
  refine ⟨h.len, h.one, ?_⟩
  rcases h.at_ with ⟨_, h2⟩ | ⟨blk, cs, h1, _, h3, _, h5⟩
  · left; have := h.le; omega
  · exact .inr ⟨blk, cs, h1, h3, h5⟩

theorem RS.keep {H H' : Heap} {p : Option Addr} {l : Nat} {el : TypeId} {k : Nat} {fs : List Value} (h : RS H p l el k fs) (hk : ∀ b cs, p = some ⟨b, 0, none⟩ → H[b]? = some (.cells cs el) → H'[b]? = some (.cells cs el)) : RS H' p l el k fs := by
  refine ⟨h.len, h.one, ?_⟩
  rcases h.at_ with h1 | ⟨blk, cs, h1, h3, h5⟩
  · exact .inl h1
  · exact .inr ⟨blk, cs, h1, hk _ _ h1 h3, h5⟩
theorem RS.ext {H H' : Heap} {p : Option Addr} {l : Nat} {el : TypeId} {k : Nat} {fs : List Value} (h : RS H p l el k fs) (he : Ext H H') : RS H' p l el k fs := h.keep fun b cs _ hb => he _ _ hb
theorem FS.keep {n0 : Nat} {H H' : Heap} {p : Option Addr} {l c : Nat} {el : TypeId} {k : Nat} {fs : List Value} (h : FS n0 H p l c el k fs) (hk : ∀ b cs, p = some ⟨b, 0, none⟩ → H[b]? = some (.cells cs el) → H'[b]? = some (.cells cs el)) : FS n0 H' p l c el k fs := by
  refine ⟨h.len, h.le, h.one, ?_⟩
  rcases h.at_ with h1 | ⟨blk, cs, h1, h2, h3, h5⟩
  · exact .inl h1
  · exact .inr ⟨blk, cs, h1, h2, hk _ _ h1 h3, h5⟩
theorem FS.ext {n0 : Nat} {H H' : Heap} {p : Option Addr} {l c : Nat} {el : TypeId} {k : Nat} {fs : List Value} (h : FS n0 H p l c el k fs) (he : Ext H H') : FS n0 H' p l c el k fs := h.keep fun b cs _ hb => he _ _ hb
theorem FS.lower {n0 n1 : Nat} {H : Heap} {p : Option Addr} {l c : Nat} {el : TypeId} {k : Nat} {fs : List Value} (h : FS n0 H p l c el k fs) (hn : n1 ≤ n0) : FS n1 H p l c el k fs := by
  refine ⟨h.len, h.le, h.one, ?_⟩
  rcases h.at_ with h1 | ⟨blk, cs, h1, h2, h3, h5⟩
  · exact .inl h1
  · exact .inr ⟨blk, cs, h1, by omega, h3, h5⟩
theorem FS.nil (n0 : Nat) (H : Heap) (el : TypeId) (k : Nat) : FS n0 H none 0 0 el k [] := ⟨by simp, Nat.le_refl _, by simp, .inl ⟨rfl, rfl⟩⟩
theorem RS.nil (H : Heap) (p : Option Addr) (el : TypeId) (k : Nat) : RS H p 0 el k [] := ⟨by simp, by simp, .inl rfl⟩

theorem FS.whole {n0 : Nat} {H : Heap} {b l k : Nat} {el : TypeId} {cs : Array Value} (hb : n0 ≤ b) (h : H[b]? = some (.cells cs el)) (hs : cs.size = l * k) (ho : ∀ v ∈ cs.toList, v.oneCell' = true) : FS n0 H (some ⟨b, 0, none⟩) l l el k cs.toList :=
  ⟨by simpa using hs, Nat.le_refl _, ho, .inr ⟨b, cs, rfl, hb, h, hs, fun i v hv => by simpa using hv⟩⟩

theorem RS.cell {H : Heap} {p : Option Addr} {l : Nat} {el : TypeId} {k : Nat} {fs : List Value} (h : RS H p l el k fs) {i : Nat} {v : Value} (hv : fs[i]? = some v) : ∃ blk, p = some ⟨blk, 0, none⟩ ∧ Go.Sh.cell H ⟨blk, i, none⟩ = some v := by
  rcases h.at_ with h1 | ⟨blk, cs, h1, h3, h5⟩
  · have := (List.getElem?_eq_some_iff.1 hv).1
    have := h.len
    rw [h1] at this
    omega
  · exact ⟨blk, h1, cell_get h3 (h5 i v hv)⟩
theorem RS.row {H : Heap} {p : Option Addr} {l : Nat} {el : TypeId} {k : Nat} {fs : List Value} (h : RS H p l el k fs) {i : Nat} (hi : i < l) (hk : 0 < k) {xs : Array Value} (hx : ∀ (j : Nat) v, xs[j]? = some v → fs[i * k + j]? = some v) : ∃ blk, p = some ⟨blk, 0, none⟩ ∧ rowIn H ⟨blk, i * k, none⟩ xs := by
  rcases h.at_ with h1 | ⟨blk, cs, h1, h3, h5⟩
  · omega
  · exact ⟨blk, h1, rowIn_block h3 fun j v hv => h5 _ _ (hx j v hv)⟩

/-- A slice that came in, of elements of one cell: it may begin anywhere. -/
structure IS (H : Heap) (p : Option Addr) (l : Nat) (fs : List Value) : Prop where
  len : fs.length = l
  get : ∀ (i : Nat) v, fs[i]? = some v → ∃ a, p = some a ∧ Go.Sh.cell H (a.add i) = some v
theorem IS.ext {H H' : Heap} {p : Option Addr} {l : Nat} {fs : List Value} (h : IS H p l fs) (he : Ext H H') : IS H' p l fs := ⟨h.len, fun i v hv => let ⟨a, h1, h2⟩ := h.get i v hv; ⟨a, h1, he.cell h2⟩⟩
theorem IS.cell {H : Heap} {p : Option Addr} {l : Nat} {fs : List Value} (h : IS H p l fs) {i : Nat} {v : Value} (hv : fs[i]? = some v) : ∃ a, p = some a ∧ Go.Sh.cell H (a.add i) = some v := h.get i v hv
theorem RS.is {H : Heap} {p : Option Addr} {l : Nat} {el : TypeId} {fs : List Value} (h : RS H p l el 1 fs) : IS H p l fs :=
  ⟨by have := h.len; omega, fun i v hv => let ⟨blk, h1, h2⟩ := h.cell hv; ⟨_, h1, by simpa using h2⟩⟩

theorem RS.rowOf {H : Heap} {p : Option Addr} {l : Nat} {el : TypeId} {k : Nat} {fs : List Value} (h : RS H p l el k fs) : rowOf H p (l * k) fs.toArray := by
  rcases h.at_ with h1 | ⟨blk, cs, h1, h3, h5⟩
  · have := h.len
    rw [h1, Nat.zero_mul] at this
    have : fs = [] := List.length_eq_zero_iff.1 this
    subst this
    subst h1
    cases p with
    | none => rfl
    | some a => exact ⟨by simp, fun j v hv => by simp at hv⟩
  · subst h1
    refine ⟨by simp [h.len], rowIn_block h3 fun j v hv => ?_⟩
    rw [Nat.zero_add]
    exact h5 j v (by simpa using hv)

theorem setL_get {c vs : List Value} {i : Nat} (h : i + vs.length ≤ c.length) (j : Nat) : (setL c i vs)[j]? = if i ≤ j ∧ j < i + vs.length then vs[j - i]? else c[j]? := by
  unfold setL
  by_cases h1 : j < i
  · rw [if_neg (by omega), List.append_assoc, List.getElem?_append_left (by simp; omega), List.getElem?_take_of_lt h1]
  · by_cases h2 : j < i + vs.length
    · rw [if_pos ⟨by omega, h2⟩, List.append_assoc, List.getElem?_append_right (by simp; omega), List.getElem?_append_left (by simp; omega)]
      congr 1
      simp; omega
    · rw [if_neg (by omega), List.getElem?_append_right (by simp; omega), List.getElem?_drop]
      congr 1
      simp; omega
theorem setL_len {c vs : List Value} {i : Nat} (h : i + vs.length ≤ c.length) : (setL c i vs).length = c.length := by unfold setL; simp; omega

theorem stAt_some {H : Heap} {b i : Nat} {c : Array Value} {t : TypeId} {vs : List Value} {f : Heap → Prop} (h : H[b]? = some (.cells c t (0, 0))) (hl : i + vs.length ≤ c.size) (ho : ∀ v ∈ vs, v.oneCell' = true)
    (hf : ∀ c' : Array Value, c'.size = c.size → (∀ j : Nat, c'[j]? = if i ≤ j ∧ j < i + vs.length then vs[j - i]? else c[j]?) → f (H.setIfInBounds b (.cells c' t (0, 0)))) : stAt H ⟨b, i, none⟩ vs f := by
  have hl' : i + vs.length ≤ c.toList.length := by simpa using hl
  refine ⟨c, t, h, rfl, hl, ho, ?_⟩
  refine hf (setL c.toList i vs).toArray (by simp [setL_len hl']) fun j => ?_
  rw [List.getElem?_toArray, setL_get hl' j, Array.getElem?_toList (xs := c)]

/-- Append to a slice of one's own, of any stretch that can be read. -/
theorem FS.app' {n0 : Nat} {H : Heap} {p q : Option Addr} {l c n : Nat} {el : TypeId} {k bytes : Nat} {zero : Array Value} {fs gs : List Value} (h : FS n0 H p l c el k fs) (hrow : Go.Sh.rowOf H q (n * k) gs.toArray) (hgl : gs.length = n * k) (hgo : ∀ v ∈ gs, v.oneCell' = true) (hk : 0 < k) (hn : n0 ≤ H.size) (hz : zero.size = k)
    (hb : (l + n) * bytes ≤ 70368744177664) (hm : l + n ≤ 1000000000000) {K : Option Addr → Nat → Nat → Heap → Prop}
    (hK : ∀ p' c' H', FS n0 H' p' (l + n) c' el k (fs ++ gs) → (∀ (b : Nat) (o : Obj), H[b]? = some o → p ≠ some ⟨b, 0, none⟩ → H'[b]? = some o) → H.size ≤ H'.size → K p' (l + n) c' H') : appQ k bytes zero H p l c q n el K := by
  have hfl := h.len
  have hlen : (fs ++ gs).length = (l + n) * k := by rw [List.length_append, hfl, hgl, Nat.add_mul]
  have hone : ∀ v ∈ fs ++ gs, v.oneCell' = true := fun v hv => (List.mem_append.1 hv).elim (h.one v) (hgo v)
  refine ⟨hb, by omega, gs.toArray, hrow, fun hle => ?_, fun hlt => ?_⟩
  · rcases h.at_ with ⟨rfl, hc0⟩ | ⟨blk, cs, rfl, h2, h3, h4, h5⟩
    · refine hK none c H ⟨hlen, hle, hone, .inl ⟨rfl, hc0⟩⟩ (fun b o hb _ => hb) (Nat.le_refl _)
    · simp only [add_none, Nat.zero_add]
      have hcap : (l + n) * k ≤ c * k := Nat.mul_le_mul_right k hle
      rw [Nat.add_mul] at hcap
      refine stAt_some h3 (by show l * k + gs.length ≤ cs.size; omega) (by simpa using hgo) fun c' hc' hg => ?_
      refine hK _ _ _ ⟨hlen, hle, hone, .inr ⟨blk, c', rfl, h2, get_set_self h3, by omega, fun i v hv => ?_⟩⟩ (fun b o hb hne => get_set_ne (fun hh => hne (by rw [hh])) hb) (by simp)
      rw [hg]
      by_cases hi : i < fs.length
      · rw [if_neg (by omega)]
        rw [List.getElem?_append_left hi] at hv
        exact h5 i v hv
      · rw [List.getElem?_append_right (by omega)] at hv
        have hlt := (List.getElem?_eq_some_iff.1 hv).1
        rw [if_pos ⟨by omega, by show i < l * k + gs.length; omega⟩]
        rw [← hfl]
        simpa using hv
  · have hrow : ∃ ys, Go.Sh.rowOf H p (l * k) ys ∧ ys.toList = fs := ⟨fs.toArray, h.rs.rowOf, by simp⟩
    obtain ⟨ys, hy, hvs⟩ := hrow
    refine ⟨ys, hy, fun c' hc' => ?_⟩
    rw [zeroCells_eq _ _ (by omega)]
    have hcap : (l + n) * k ≤ c' * k := Nat.mul_le_mul_right k hc'
    have hys : ys.size = l * k := by rw [← Array.length_toList, hvs, hfl]
    refine hK _ _ _ ⟨hlen, hc', hone, .inr ⟨H.size, _, rfl, hn, get_push_self _ _, ?_, fun i v hv => ?_⟩⟩ (fun b o hb _ => get_push hb) (by simp)
    · simp only [Array.size_append, hys, List.size_toArray, reps_length, Array.length_toList, hz, hgl]
      rw [Nat.sub_mul]
      rw [Nat.add_mul] at hcap ⊢
      omega
    · have hi := (List.getElem?_eq_some_iff.1 hv).1
      rw [Array.getElem?_append_left (by simp [hys, hgl]; rw [hlen, Nat.add_mul] at hi; omega)]
      have : (ys ++ gs.toArray).toList = fs ++ gs := by simp [hvs]
      rw [← Array.getElem?_toList, this]
      exact hv

/-- Append to a slice of one's own. -/
theorem FS.app {n0 : Nat} {H : Heap} {p q : Option Addr} {l c n : Nat} {el : TypeId} {k bytes : Nat} {zero : Array Value} {fs gs : List Value} (h : FS n0 H p l c el k fs) (hs : RS H q n el k gs) (hk : 0 < k) (hn : n0 ≤ H.size) (hz : zero.size = k)
    (hb : (l + n) * bytes ≤ 70368744177664) (hm : l + n ≤ 1000000000000) {K : Option Addr → Nat → Nat → Heap → Prop}
    (hK : ∀ p' c' H', FS n0 H' p' (l + n) c' el k (fs ++ gs) → (∀ (b : Nat) (o : Obj), H[b]? = some o → p ≠ some ⟨b, 0, none⟩ → H'[b]? = some o) → H.size ≤ H'.size → K p' (l + n) c' H') : appQ k bytes zero H p l c q n el K :=
  h.app' hs.rowOf hs.len hs.one hk hn hz hb hm hK

/-- One cell of a slice of one's own is written. -/
theorem FS.set {n0 : Nat} {H : Heap} {b l c : Nat} {el : TypeId} {k : Nat} {fs : List Value} {i : Nat} {v : Value} {f : Heap → Prop} (h : FS n0 H (some ⟨b, 0, none⟩) l c el k fs) (hi : i < fs.length) (ho : v.oneCell' = true)
    (hf : ∀ H', FS n0 H' (some ⟨b, 0, none⟩) l c el k (fs.set i v) → (∀ (b' : Nat) (o : Obj), H[b']? = some o → b' ≠ b → H'[b']? = some o) → H'.size = H.size → f H') : stAt H ⟨b, i, none⟩ [v] f := by
  have hlen := h.len
  rcases h.at_ with ⟨h1, _⟩ | ⟨blk, cs, h1, h2, h3, h4, h5⟩
  · cases h1
  · cases h1
    have hics : i < cs.size := by
      have := h5 i fs[i] (List.getElem?_eq_getElem hi)
      exact (Array.getElem?_eq_some_iff.1 this).1
    refine stAt_one h3 hics ho ?_
    refine hf _ ⟨by simpa using hlen, h.le, fun u hu => ?_, .inr ⟨b, cs.setIfInBounds i v, rfl, h2, get_set_self h3, by simpa using h4, fun j u hu => ?_⟩⟩ (fun b' o hb' hne => get_set_ne (Ne.symm hne) hb') (by simp)
    · rcases List.mem_or_eq_of_mem_set hu with hu | rfl
      · exact h.one u hu
      · exact ho
    · rw [List.getElem?_set] at hu
      rw [Array.getElem?_setIfInBounds]
      by_cases hij : i = j
      · subst hij
        rw [if_pos rfl, if_pos hi] at hu
        rw [if_pos rfl, if_pos hics]
        exact hu
      · rw [if_neg hij] at hu
        rw [if_neg hij]
        exact h5 j u hu

/-- make([]int, n). -/
theorem zeros_FS {n0 : Nat} {H : Heap} {n b : Nat} {el : TypeId} (hb : n0 ≤ b) (h : H[b]? = some (.cells (List.toArray (reps n [Value.int .i64 0])) el)) : FS n0 H (some ⟨b, 0, none⟩) n n el 1 (ints (List.replicate n 0)) := by
  refine ⟨by simp [ints], Nat.le_refl _, ints_one _, .inr ⟨b, _, rfl, hb, h, by simp [reps_length], fun i v hv => ?_⟩⟩
  rw [List.getElem?_toArray]
  have hi : i < n := by have := (List.getElem?_eq_some_iff.1 hv).1; simpa [ints] using this
  rw [reps_get [Value.int .i64 0] (by decide) n i (by simpa using hi)]
  simp only [ints, List.map_replicate, List.getElem?_replicate, if_pos hi] at hv
  simpa [Nat.mod_one] using hv

end Go.Sh
