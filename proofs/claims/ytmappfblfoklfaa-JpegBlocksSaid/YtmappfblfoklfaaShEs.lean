/-
  OWN WORK. The shallow layer, part 7: what 'vcQ2' and 'vcE' say is what is carried out.
-/
import Derived.Test.YtmappfblfoklfaaShE
namespace Go.Sh

variable {P : Program}

theorem setRow_set (w : World) (g : Nat) (old cs : Array Value) (t : TypeId) (hg : w.heap[g]? = some (.cells old t (0, 0))) :
    w.setRow g cs = { w with heap := w.heap.setIfInBounds g (.cells cs t (0, 0)) } := by
  obtain ⟨hlt, hv⟩ := Array.getElem?_eq_some_iff.1 hg
  unfold World.setRow
  congr 1
  apply Array.ext
  · simp
  · intro i h1 h2
    rw [Array.getElem_modify, Array.getElem_setIfInBounds (by simpa using h2)]
    by_cases hi : g = i
    · subst hi; simp [hv]
    · simp [hi]

theorem stAt_sound {H : Heap} {a : Addr} {vs : List Value} {f : Heap → Prop} (h : stAt H a vs f) (w : World) (hw : w.heap = H) :
    ∃ w', (storeCells a vs).run P w = .ok () w' ∧ w'.os = w.os ∧ Out w w' ∧ f w'.heap := by
  obtain ⟨c, T, hb, hs, hl, ho, hf⟩ := h
  obtain ⟨blk, off, spot⟩ := a
  simp only at hs hb hl hf
  subst hs
  subst hw
  have := run_storeCells_at (P := P) blk off T vs 0 c w hb (by simpa using hl) ho
  rw [Nat.add_zero, setRow_set w blk c _ T hb] at this
  exact ⟨_, this, rfl, Out.set hb rfl, hf⟩

theorem rowOf_run {H : Heap} {p : Option Addr} {n : Nat} {xs : Array Value} (h : rowOf H p n xs) {size m c l : Nat} (hn : m * size = n) (w : World) (hw : w.heap = H) :
    (Builtin.firstCells size m (.slice p l c)).run P w = .ok xs w := by
  unfold rowOf at h
  cases p with
  | none => subst h; rfl
  | some a =>
    obtain ⟨hs, hr⟩ := h
    simp only [Builtin.firstCells]
    rw [hn, ← hs]
    have := run_loadCells_list (P := P) w a xs.toList (fun j v hv => by rw [cell_eq, hw]; exact hr j v (by simpa using hv))
    simpa using this

/-! ### composites -/

theorem foldl_set (l : List Value) : ∀ (off k : Nat) (cs : Array Value), off + k + l.length ≤ cs.size →
    ((l.zipIdx k).foldl (fun cs (x : Value × Nat) => cs.setIfInBounds (off + x.2) x.1) cs).toList = cs.toList.take (off + k) ++ l ++ cs.toList.drop (off + k + l.length) := by
  induction l with
  | nil => intro off k cs h; simp
  | cons v r ih =>
    intro off k cs h
    simp only [List.zipIdx_cons, List.foldl_cons, List.length_cons] at h ⊢
    rw [show (r.zipIdx (k + 1)) = r.zipIdx (k + 1) from rfl, ih off (k + 1) _ (by simp; omega)]
    simp only [Array.toList_setIfInBounds]
    have h1 : off + k < cs.toList.length := by rw [Array.length_toList]; omega
    rw [show off + (k + 1) = off + k + 1 from by omega]
    rw [List.take_succ_eq_append_getElem (by simpa using h1)]
    rw [List.getElem_set_self, List.take_set_of_le (Nat.le_refl _)]
    rw [List.drop_set_of_lt (by omega)]
    have h2 : off + k + 1 + r.length = off + k + (r.length + 1) := by omega
    simp [h2]

theorem fill_one {off sz N : Nat} {place : Nat → Option (Nat × Nat)} {i : Nat} {v : Value} {rest : List (Nat × Value)} {cs : Array Value} (hp : place i = some (off, sz)) (hN : cs.size = N)
    (hs : v.cells.size = sz) (ho : off + sz ≤ N) :
    Instr.fill place cs ((i, v) :: rest) = Instr.fill place (setL cs.toList off v.cells.toList).toArray rest := by
  have hlen : v.cells.toList.length = sz := by simpa using hs
  have h1 : (v.cells.size ≠ sz || decide (off + v.cells.size > cs.size)) = false := by
    simp [hs, hN]; omega
  rw [Instr.fill, hp]
  simp only [h1]
  have := foldl_set v.cells.toList off 0 cs (by rw [hlen]; omega)
  simp only [Nat.add_zero] at this
  simp only [Bool.false_eq_true, if_false]
  congr 1
  apply Array.toList_inj.1
  rw [List.toList_toArray, ← Array.foldl_toList, Array.toList_zipIdx]
  exact this

theorem setL_length {cs : List Value} {off : Nat} {l : List Value} (h : off + l.length ≤ cs.length) : (setL cs off l).length = cs.length := by
  simp [setL]; omega

theorem setL_one {cs : List Value} {off : Nat} {v : Value} (h : off < cs.length) : setL cs off [v] = cs.set off v := by
  simp only [setL, List.length_singleton]
  rw [List.set_eq_take_append_cons_drop]
  simp [h]

theorem buildQ_sound {N : Nat} {place : Nat → Option (Nat × Nat)} : ∀ (l : List (Nat × Value)) (cells : List Value) {f : List Value → Prop}, cells.length = N → buildQ N place cells l f →
    ∃ cs, f cs ∧ Instr.fill place cells.toArray l = some cs.toArray
  | [], cells, f, _, h => ⟨cells, h, rfl⟩
  | (i, v) :: rest, cells, f, hN, h => by
    unfold buildQ at h
    split at h
    · exact h.elim
    · rename_i off sz hp
      split at h
      · rename_i cs
        obtain ⟨h1, h2, h⟩ := h
        have hl : (setL cells off cs.toList).length = N := by rw [setL_length (by simp; omega), hN]
        obtain ⟨r, hf, hr⟩ := buildQ_sound rest _ hl h
        refine ⟨r, hf, ?_⟩
        rw [fill_one hp (by simpa using hN) (by simpa [Value.cells] using h1) h2]
        exact hr
      · split at h
        · rename_i hb
          simp only [Bool.and_eq_true] at hb
          have hs : sz = 1 := Nat.eq_of_beq_eq_true hb.1
          have ho : off < N := by have := Nat.le_of_ble_eq_true hb.2; omega
          have hl : (cells.set off v).length = N := by simpa using hN
          obtain ⟨r, hf, hr⟩ := buildQ_sound rest _ hl h
          have hc : v.cells = #[v] := by
            cases v <;> first | rfl | (simp at *; done)
          refine ⟨r, hf, ?_⟩
          rw [fill_one hp (by simpa using hN) (by simp [hc, hs]) (by omega), hc]
          rw [setL_one (by simp; omega)]
          exact hr
        · exact h.elim

theorem parts_get : ∀ {e : Env} (l : List (Nat × Operand)) {f : List (Nat × Value) → Prop}, parts e l f → ∃ vs, f vs ∧ ∀ (n : Nat) (a : Act), Rep n e a → l.map (fun x => (x.1, a.eval x.2)) = vs
  | _, [], _, h => ⟨[], h, fun _ _ _ => rfl⟩
  | e, (i, x) :: r, f, h => by
    obtain ⟨v, hx, h⟩ := wv_get h
    obtain ⟨vs, hf, hr⟩ := parts_get r h
    exact ⟨_, hf, fun n a ha => by simp [ha.ev hx, hr n a ha]⟩

end Go.Sh
