/-
  OWN WORK. The shallow layer, part 10: 'vcE' is right.
-/
import Derived.Test.YtmappfblfoklfaaShEu
set_option linter.unusedSimpArgs false
set_option linter.unusedVariables false
namespace Go.Sh

variable {P : Program}

theorem storeVar_run {t : TypeId} {i : TI} (hT : TIok P t i) {H : Heap} {a : Addr} {v : Value} {f : Heap → Prop} (hs : v.cells.size = i.size) (h : stAt H a v.cells.toList f) (w : World) (hw : w.heap = H) :
    ∃ w', (storeVar t a v).run P w = .ok () w' ∧ w'.os = w.os ∧ Out w w' ∧ f w'.heap := by
  obtain ⟨w', h1, h2, h3, h4⟩ := stAt_sound (P := P) h w hw
  refine ⟨w', ?_, h2, h3, h4⟩
  simp [storeVar, hT.sizeOf, hs, h1]

theorem wrap_i64 {n : Int} (h0 : -9223372036854775808 ≤ n) (h1 : n ≤ 9223372036854775807) : IntKind.i64.wrap n = n := by
  simp only [IntKind.wrap, IntKind.signed, IntKind.bits]; simp; omega

theorem makeSlice_run {t el : TypeId} {i j : TI} (hT : TIok P t i) (hid : i.d = .sl el) (hJ : TIok P el j) (k1 k2 : IntKind) {l c : Int} (h0 : 0 ≤ l) (h1 : l ≤ c)
    (h2 : j.bytes * c ≤ 281474976710656) (h3 : c ≤ 281474976710656) (hb2 : j.zero.cells.size = j.size) (hb3 : 0 < j.size) (w : World) :
    (Instr.makeSlice t (.int k1 l) (.int k2 c)).run P w = .ok (.slice (some ⟨w.heap.size, 0, none⟩) l.toNat c.toNat) { w with heap := w.heap.push (.cells (reps c.toNat j.zero.cells.toList).toArray el) } := by
  obtain ⟨d, hdd, hde⟩ := hT.und
  rw [hid] at hde
  cases d <;> simp [D.of] at hde
  subst hde
  obtain ⟨inf, hinf, hsz, hby, hz⟩ := hJ.inf
  have hwl : IntKind.i64.wrap l = l := wrap_i64 (by omega) (by omega)
  have hwc : IntKind.i64.wrap c = c := wrap_i64 (by omega) (by omega)
  have hrr := reps_range j.zero.cells c.toNat (by omega)
  rw [hb2] at hrr
  have g1 : ¬ c < 0 := by omega
  have g2 : ¬ l < 0 := by omega
  have g3 : ¬ c < l := by omega
  have g4 : ¬ (281474976710656 < (j.bytes : Int) * c) := by omega
  by_cases hc0 : c = 0
  · subst hc0
    have hl0 : l = 0 := by omega
    subst hl0
    simp [Instr.makeSlice, underlying, hdd, asInt, asIntOf, typeInfo, hinf, hwl, newRow_run, reps, show Array.range 0 = #[] from rfl, hJ.sizeOf]
  · have hne : ¬ (c.toNat * j.size = 0) := by rw [Nat.mul_eq_zero]; omega
    unfold Instr.makeSlice
    simp only [Sem.run_bind, run_underlying hdd, Result.andThen_ok, asInt, asIntOf, Sem.run_pure, typeInfo, run_program, hinf, hby, hwl, hwc, g1, g2, g3]
    simp [g4, hJ.sizeOf, hne, hJ.zeroValue, newRow_run, hb2]
    rw [hrr]

set_option maxHeartbeats 2000000 in
theorem vcE_sound {T : Tab} (hT : TabOk P T) {e : Env} {n : Nat} {a : Act} (hr : Rep n e a) {o : Oper} {H : Heap} {K : Value → Heap → Prop}
    (h : vcE T e o H K) (w : World) (hw : w.heap = H) : Ends P (execOp a.eval o) w K := by
  unfold vcE at h
  split at h
  · rename_i t hop
    have hq := withT_get h; clear h; obtain ⟨i, hi, h⟩ := hq
    simp only [execOp, hop]
    subst hw
    exact Ends.of_value (v := .pointer (some ⟨w.heap.size, 0, none⟩)) (w' := { w with heap := w.heap.push (.cells i.zero.cells t) }) (by
      simp [Instr.alloc, (hT.get hi).zeroValue, newVar_run]) rfl (Out.push w rfl) h
  · rename_i t x hop
    have hq := wv_get h; clear h; obtain ⟨v, hx, h⟩ := hq
    simp only [execOp, hop]
    subst hw
    exact Ends.of_value (v := .pointer (some ⟨w.heap.size, 0, none⟩)) (w' := { w with heap := w.heap.push (.cells v.cells t) }) (by
      simp [Instr.box, hr.ev hx, newVar_run]) rfl (Out.push w rfl) h
  · rename_i t len ps hop
    have hq := parts_get _ h; clear h; obtain ⟨vs, h, hv⟩ := hq
    have e1 : ((ps.map fun (x : Nat × Operand) => (x.1, a.eval x.2))).toList = vs := by rw [← hv n a hr]; simp
    have hq := withT_get h; clear h; obtain ⟨i, hi, h⟩ := hq
    split at h
    · rename_i el hid
      have hq := withT_get h; clear h; obtain ⟨j, hj, h⟩ := hq
      split at h
      · exact h.elim
      · rename_i hb
        simp only [Bool.or_eq_false_iff, Bool.not_eq_false'] at hb
        have hb1 : len * j.size ≤ 16777216 := by
          rcases Nat.lt_or_ge 16777216 (len * j.size) with hlt | hge
          · have : Nat.blt 16777216 (len * j.size) = true := Nat.ble_eq_true_of_le hlt
            rw [hb.1] at this; cases this
          · exact hge
        have hb2 : j.zero.cells.size = j.size := Nat.eq_of_beq_eq_true hb.2
        have hlen : (reps len j.zero.cells.toList).length = len * j.size := by rw [reps_length]; simp [hb2]
        obtain ⟨cs, hf, hfill⟩ := buildQ_sound _ _ hlen h
        obtain ⟨d, hdd, hde⟩ := (hT.get hi).und
        rw [hid] at hde
        cases d <;> simp [D.of] at hde
        subst hde
        simp only [execOp, hop]
        subst hw
        refine Ends.of_value (v := .slice (some ⟨w.heap.size, 0, none⟩) len len) (w' := { w with heap := w.heap.push (.cells cs.toArray _) }) ?_ rfl (Out.push w rfl) hf
        unfold Instr.buildSlice
        simp only [Sem.run_bind, run_underlying hdd, Result.andThen_ok, (hT.get hj).sizeOf]
        have hnb : ¬ (len * j.size > 2 ^ 24) := by omega
        simp only [hnb, if_false, Sem.run_bind, Sem.run_pure, Result.andThen_ok]
        by_cases h0 : len * j.size = 0
        · have hc0 : reps len j.zero.cells.toList = [] := List.eq_nil_of_length_eq_zero (by rw [hlen, h0])
          rw [hc0] at hfill
          simp only [h0, if_true, Sem.run_pure, Result.andThen_ok]
          rw [e1]
          simp [hfill, newRow_run, show Array.range 0 = #[] from rfl]
        · have hz : 0 < j.zero.cells.size := by
            rw [hb2]; rcases Nat.eq_zero_or_pos j.size with hz | hz
            · rw [hz] at h0; simp at h0
            · exact hz
          have hrr := reps_range j.zero.cells len hz
          rw [hb2] at hrr
          simp only [h0, if_false, Sem.run_bind, (hT.get hj).zeroValue, Result.andThen_ok, Sem.run_pure, hb2]
          rw [hrr, e1]
          simp [hfill, newRow_run]
    · exact h.elim
  · rename_i t x y hop
    have hq := wv_get h; clear h; obtain ⟨vx, hx, h⟩ := hq
    have hq := wv_get h; clear h; obtain ⟨vy, hy, h⟩ := hq
    have hq := withT_get h; clear h; obtain ⟨i, hi, h⟩ := hq
    cases hid : i.d <;> rw [hid] at h <;> try exact h.elim
    rename_i el
    cases vx <;> try exact h.elim
    rename_i k1 l
    cases vy <;> try exact h.elim
    rename_i k2 c
    have hq := withT_get h; clear h; obtain ⟨j, hj, h⟩ := hq
    obtain ⟨h0, h1, h2, h3, h⟩ := h
    split at h
    · rename_i hb
      simp only [Bool.and_eq_true] at hb
      simp only [execOp, hop, hr.ev hx, hr.ev hy]
      subst hw
      exact Ends.of_value (makeSlice_run (hT.get hi) hid (hT.get hj) k1 k2 h0 h1 h2 h3 (Nat.eq_of_beq_eq_true hb.1) (Nat.le_of_ble_eq_true hb.2) w) rfl (Out.push w rfl) h
    · exact h.elim
  · rename_i t hop
    simp only [execOp, hop]
    subst hw
    exact Ends.of_value (v := .map (some w.heap.size)) (w' := { w with heap := w.heap.push (.map #[] 0) }) (by simp [Instr.makeMap]) rfl (Out.push w rfl) h
  · rename_i t x y hop
    have hq := wv_get h; clear h; obtain ⟨vx, hx, h⟩ := hq
    have hq := wv_get h; clear h; obtain ⟨vy, hy, h⟩ := hq
    have hq := withT_get h; clear h; obtain ⟨i, hi, h⟩ := hq
    have key : ∀ (ad : Addr), vx = .pointer (some ad) → vy.cells.size = i.size → stAt H ad vy.cells.toList (fun H' => K undef H') → Ends P (execOp a.eval o) w K := by
      intro ad had hsz hst
      obtain ⟨w', h1, h2, h3, h4⟩ := storeVar_run (hT.get hi) hsz hst w hw
      simp only [execOp, hop]
      exact Ends.of_skip (w' := w') (by simp [Instr.storeAt, hr.ev hx, hr.ev hy, had, Instr.sureAddr, h1]) h2 h3 h4
    cases vx <;> try exact h.elim
    rename_i p
    cases p <;> try exact h.elim
    rename_i ad
    simp only [] at h
    split at h
    · exact key ad rfl h.1 h.2
    · split at h
      · rename_i hb
        have hs := Nat.eq_of_beq_eq_true hb
        have hc : vy.cells = #[vy] := by cases vy <;> first | rfl | (simp at *; done)
        refine key ad rfl (by rw [hc, hs]; rfl) (by rw [hc]; exact h)
      · exact h.elim
  · rename_i t m k x hop
    have hq := wv_get h; clear h; obtain ⟨vm, hm, h⟩ := hq
    have hq := wv_get h; clear h; obtain ⟨vk, hk, h⟩ := hq
    have hq := wv_get h; clear h; obtain ⟨vx, hx, h⟩ := hq
    have hq := withM_get hT h; clear h; obtain ⟨i, k', e', kt, et, ek, hi, hid, hkt, het, ⟨j, hj⟩, h⟩ := hq
    obtain ⟨w', h1, h2, h3, h4⟩ := updQ_sound hi hid hkt hj h w hw
    simp only [execOp, hop]
    exact Ends.of_skip (w' := w') (by simp [hr.ev hm, hr.ev hk, hr.ev hx, h1]) h2 h3 h4
  · rename_i t x hop
    have hq := wv_get h; clear h; obtain ⟨vx, hx, h⟩ := hq
    have hq := withT_get h; clear h; obtain ⟨i, hi, h⟩ := hq
    obtain ⟨d, hdd, hde⟩ := (hT.get hi).und
    cases hid : i.d <;> rw [hid] at h <;> try exact h.elim
    cases vx <;> try exact h.elim
    rename_i p
    rw [hid] at hde
    cases d <;> simp [D.of] at hde
    simp only [execOp, hop, hr.ev hx]
    subst hw
    · obtain ⟨m, rfl, es, c, h1, h2⟩ := h
      exact Ends.of_value (v := .pointer (some ⟨w.heap.size, 0, none⟩)) (w' := { w with heap := w.heap.push (.mapIter (some m) c #[] c) }) (by simp [Instr.range, underlying, hdd, getObj, Sem.run, h1]) rfl (Out.push w rfl) h2
  · rename_i it hop
    have hq := wv_get h; clear h; obtain ⟨vi, hi, h⟩ := hq
    split at h
    · rename_i r s
      obtain ⟨v, w', h1, h2, h3, h4⟩ := nextQ_sound (P := P) (s := s) h o.type w hw
      simp only [execOp, hop, hr.ev hi]
      exact Ends.of_value h1 h2 h3 h4
    · exact h.elim
  · rename_i op args argTypes hop
    have hq := wvs_get _ h; clear h; obtain ⟨vs, h, hv⟩ := hq
    have e1 : args.map a.eval = vs.toArray := by rw [← hv n a hr]; exact (map_toArr _ _)
    have hx : ∀ (l : List TypeId), argTypes.toList = l → argTypes = l.toArray := fun l hl => by rw [← hl]
    split at h
    · rename_i p l c q m c' t u hat
      have hq := withT_get h; clear h; obtain ⟨i, hi, h⟩ := hq
      have hq := withT_get h; clear h; obtain ⟨iu, hiu, h⟩ := hq
      cases hid : i.d <;> rw [hid] at h <;> try exact h.elim
      cases hud : iu.d <;> rw [hud] at h <;> try exact h.elim
      have hq := withT_get h; clear h; obtain ⟨j, hj, h⟩ := hq
      obtain ⟨p', l', c'', w', h1, h2, h3, h4⟩ := appQ_sound (hT.get hi) (hT.get hiu) hid hud (hT.get hj) (m := c') h o.type w hw
      refine ⟨.slice p' l' c'', .value _, w', ?_, .inl rfl, h2, h3, h4⟩
      simp [execOp, hop, resolve, invoke, builtin, e1, hx _ hat, h1]
    · rename_i p l c n t u hat
      have hq := withT_get h; clear h; obtain ⟨i, hi, h⟩ := hq
      have hq := withT_get h; clear h; obtain ⟨iu, hiu, h⟩ := hq
      cases hid : i.d <;> rw [hid] at h <;> try exact h.elim
      cases hud : iu.d <;> rw [hud] at h <;> try exact h.elim
      have hq := withT_get h; clear h; obtain ⟨j, hj, h⟩ := hq
      split at h
      · rename_i hbz
        simp only [Bool.and_eq_true] at hbz
        obtain ⟨p', l', c'', w', h1, h2, h3, h4⟩ := appZ_sound (hT.get hi) (hT.get hiu) hid hud (hT.get hj) (Nat.eq_of_beq_eq_true hbz.1) (Nat.le_of_ble_eq_true hbz.2) h o.type w hw
        refine ⟨.slice p' l' c'', .value _, w', ?_, .inl rfl, h2, h3, h4⟩
        simp [execOp, hop, resolve, invoke, builtin, e1, hx _ hat, h1]
      · exact h.elim
    · rename_i p l c q m c' t u hat
      have hq := withT_get h; clear h; obtain ⟨i, hi, h⟩ := hq
      obtain ⟨d, hdd, hde⟩ := (hT.get hi).und
      cases hid : i.d <;> rw [hid] at h <;> try exact h.elim
      rw [hid] at hde
      cases d <;> simp [D.of] at hde
      subst hde
      have hq := withT_get h; clear h; obtain ⟨j, hj, h⟩ := hq
      obtain ⟨xs, hxs, h⟩ := h
      have hxr := rowOf_run (P := P) hxs (size := j.size) (m := min m l) (c := c') (l := m) rfl w hw
      have hmin : Nat.min m l = min m l := rfl
      cases p with
      | none =>
        refine ⟨.int .i64 (min m l : Nat), .value _, w, ?_, .inl rfl, rfl, Out.refl w, by rw [hw]; exact h⟩
        simp [execOp, hop, resolve, invoke, builtin, e1, hx _ hat, Builtin.copy_, underlying, hdd, Builtin.lenOf, (hT.get hj).sizeOf, hxr, goInt, hmin]
      | some ad =>
        obtain ⟨w', h1, h2, h3, h4⟩ := stAt_sound (P := P) h w hw
        refine ⟨.int .i64 (min m l : Nat), .value _, w', ?_, .inl rfl, h2, h3, h4⟩
        simp [execOp, hop, resolve, invoke, builtin, e1, hx _ hat, Builtin.copy_, underlying, hdd, Builtin.lenOf, (hT.get hj).sizeOf, hxr, goInt, hmin, h1]
    · rename_i p t hat
      have hq := withT_get h; clear h; obtain ⟨i, hi, r, rfl, es, c, h1, h2⟩ := hq
      obtain ⟨d, hu, _⟩ := (hT.get hi).und
      subst hw
      · refine ⟨.tuple #[], .value (.tuple #[]), { w with heap := w.heap.setIfInBounds r (.map #[] c) }, ?_, .inl rfl, rfl, Out.set h1 rfl, h2⟩
        simp [execOp, hop, resolve, invoke, builtin, e1, hx _ hat, Builtin.clear_, underlying, hu, getObj, setObj, Sem.run, h1]
    · exact h.elim
  · exact h.elim

end Go.Sh
