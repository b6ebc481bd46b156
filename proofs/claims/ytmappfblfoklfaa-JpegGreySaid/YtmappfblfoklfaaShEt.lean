/-
  OWN WORK. The shallow layer, part 8: 'vcQ2' and 'vcE' are right.
-/
import Derived.Test.YtmappfblfoklfaaShEs
namespace Go.Sh

variable {P : Program}

theorem placesOf_run {T : Tab} (hT : TabOk P T) : ∀ (fs : List Field) (pl : List (Nat × Nat)), placesOf T (fs.map fun f => (f.offset, f.type)) = some pl → ∀ w : World,
    (fs.mapM fun f => (do pure (f.offset, ← Go.sizeOf f.type) : Sem (Nat × Nat))).run P w = .ok pl w
  | [], pl, h, w => by simp [placesOf] at h; subst h; simp
  | f :: r, pl, h, w => by
    simp only [List.map_cons, placesOf] at h
    split at h
    · rename_i i l hi hl
      simp only [Option.some.injEq] at h
      subst h
      have h1 := (hT.get hi).sizeOf w
      have h2 := placesOf_run hT r l hl w
      rw [List.mapM_cons, Sem.run_bind, Sem.run_bind, h1]
      simp only [Result.andThen_ok, Sem.run_pure]
      rw [Sem.run_bind, h2]
      simp
    · cases h

theorem withM_get {T : Tab} {t : TypeId} {f : TI → TI → TI → D → Prop} (hT : TabOk P T) (h : withM T t f) :
    ∃ i k e kt et ek, TIok P t i ∧ i.d = .map k e ∧ TIok P k kt ∧ TIok P e et ∧ (∃ j, (∀ m el, kt.d = .arr m el → TIok P el j ∧ j.size = 1 ∧ j.d = ek)) ∧ f i kt et ek := by
  unfold withM at h
  obtain ⟨i, hi, h⟩ := withT_get h
  split at h
  · rename_i k e hd
    obtain ⟨kt, hk, h⟩ := withT_get h
    obtain ⟨et, he, h⟩ := withT_get h
    split at h
    · rename_i m el hkd
      obtain ⟨j, hj, h⟩ := withT_get h
      split at h
      · rename_i hs
        exact ⟨i, k, e, kt, et, j.d, hT.get hi, hd, hT.get hk, hT.get he, ⟨j, fun m' el' hh => by
          rw [hkd] at hh; cases hh; exact ⟨hT.get hj, Nat.eq_of_beq_eq_true hs, rfl⟩⟩, h⟩
      · exact h.elim
    · rename_i hna
      exact ⟨i, k, e, kt, et, .other, hT.get hi, hd, hT.get hk, hT.get he, ⟨kt, fun m' el' hh => absurd hh (hna _ _)⟩, h⟩
  · exact h.elim

theorem exT_eq {i : TI} {v : Value} {f : Value → Prop} (h : exT i fun u => v = u ∧ f u) : f v := by
  obtain ⟨u, rfl, hf⟩ := exT_get h
  exact hf

theorem kForm_ek {kt j : TI} {ek : D} {v : Value} (h : kForm kt.d ek v) (he : ∀ m el, kt.d = .arr m el → j.d = ek) : kForm kt.d j.d v := by
  cases hk : kt.d <;> rw [hk] at h <;> try exact h
  rename_i m el
  rw [he m el hk]
  exact h

theorem lookQ_sound {t k e : TypeId} {i kt et : TI} {ek : D} (hT : TIok P t i) (hd : i.d = .map k e) (hK : TIok P k kt) (hE : TIok P e et)
    {j : TI} (hj : ∀ m el, kt.d = .arr m el → TIok P el j ∧ j.size = 1 ∧ j.d = ek) {x v : Value} {ok : Bool} {H : Heap} {f : Value → Prop} (h : lookQ kt.d et ek x v ok H f) :
    ∃ u, f u ∧ ∀ w : World, Ext H w.heap → (Instr.lookup t x v ok).run P w = .ok u w := by
  obtain ⟨d, hdd, hde⟩ := hT.und
  rw [hd] at hde
  cases d <;> simp [D.of] at hde
  obtain ⟨rfl, rfl⟩ := hde
  rename_i k e
  have hj' : ∀ m el, kt.d = .arr m el → TIok P el j ∧ j.size = 1 := fun m el hh => ⟨(hj m el hh).1, (hj m el hh).2.1⟩
  have hje : ∀ m el, kt.d = .arr m el → j.d = ek := fun m el hh => (hj m el hh).2.2
  unfold lookQ at h
  split at h
  · obtain ⟨r, rfl, es, c, hr, hk, hes, hf⟩ := h
    have hf := exT_eq hf
    have hk' := kForm_ek hk hje
    have hrun : ∀ w : World, (Instr.findKey k v es.toList).run P w = .ok (findE v es.toList 0) w := fun w => run_findKey' hK hj' hk' (fun e' he' => kForm_ek (hes e' he') hje) w
    have hck : ∀ (b : Bool) (w : World), (Instr.checkKey b 10000 k v).run P w = .ok () w := fun b w => run_checkKey hK hj' hk' b w
    refine ⟨_, hf, fun w hw => ?_⟩
    cases hfe : findE v es.toList 0 with
    | none =>
      simp [Instr.lookup, underlying, hdd, getObj, Sem.run, hw.get hr, hck, hrun, hfe, hE.zeroValue, lookV]
      cases ok <;> rfl
    | some p =>
      obtain ⟨n, u⟩ := p
      simp [Instr.lookup, underlying, hdd, getObj, Sem.run, hw.get hr, hck, hrun, hfe, lookV]
      cases ok <;> rfl
  · exact h.elim

theorem vcQ2_sound {ht : TypeId × TypeId} {T : Tab} (hT : TabOk P T) {e : Env} {dec : Dec} {n : Nat} {a : Act} (hr : Rep n e a) (hd : DecOk dec a) {o : Oper} {H : Heap} {f : Value → Prop}
    (h : vcQ2 ht T e dec o H f) : ∃ v, f v ∧ ∀ w : World, Ext H w.heap → (execOp a.eval o).run P w = .ok (.value v) w := by
  unfold vcQ2 at h
  split at h
  · rename_i t ps hop
    obtain ⟨vs, h, hv⟩ := parts_get _ h
    have e1 : ((ps.map fun (x : Nat × Operand) => (x.1, a.eval x.2))).toList = vs := by rw [← hv n a hr]; simp
    obtain ⟨i, hi, h⟩ := withT_get h
    obtain ⟨d, hdd, hde⟩ := (hT.get hi).und
    obtain ⟨inf, hinf, hsz, _, hz⟩ := (hT.get hi).inf
    split at h
    · exact h.elim
    · rename_i hzs
      have hzs' : i.zero.cells.toList.length = i.size := by simpa using Nat.eq_of_beq_eq_true hzs
      split at h
      · rename_i fs hfs
        split at h
        · rename_i pl hpl
          rw [hfs] at hde
          cases d <;> simp [D.of] at hde
          rename_i fields
          subst hde
          have hm : ∀ w : World, (fields.mapM fun f => (do pure (f.offset, ← Go.sizeOf f.type) : Sem (Nat × Nat))).run P w = .ok pl.toArray w := fun w => by
            rw [Array.mapM_eq_mapM_toList, Sem.run_map, placesOf_run hT _ _ hpl w]
            rfl
          obtain ⟨cs, hf, hfill⟩ := buildQ_sound _ _ hzs' h
          refine ⟨_, hf, fun w _ => ?_⟩
          simp only [Array.toArray_toList] at hfill
          have hb : ∀ w : World, (Instr.build t (ps.map fun (x : Nat × Operand) => (x.1, a.eval x.2))).run P w = .ok (.agg cs.toArray) w := fun w => by
            unfold Instr.build
            simp only [Sem.run_bind, (hT.get hi).zeroValue, Result.andThen_ok, run_underlying hdd, hm]
            rw [e1]
            have : (fun (x : Nat) => pl.toArray[x]?) = fun (j : Nat) => pl[j]? := by funext j; simp
            rw [this, hfill]
            rfl
          simp [execOp, hop]
          rw [hb w]
          rfl
        · exact h.elim
      · rename_i m el hfs
        obtain ⟨j, hj, h3⟩ := withT_get h
        clear h
        rw [hfs] at hde
        cases d <;> simp [D.of] at hde
        obtain ⟨rfl, rfl⟩ := hde
        obtain ⟨cs, hf, hfill⟩ := buildQ_sound _ _ hzs' h3
        refine ⟨_, hf, fun w _ => ?_⟩
        simp only [Array.toArray_toList] at hfill
        have hb : ∀ w : World, (Instr.build t (ps.map fun (x : Nat × Operand) => (x.1, a.eval x.2))).run P w = .ok (.agg cs.toArray) w := fun w => by
          unfold Instr.build
          simp only [Sem.run_bind, (hT.get hi).zeroValue, Result.andThen_ok, run_underlying hdd, (hT.get hj).sizeOf]
          rw [e1, hfill]
          rfl
        simp [execOp, hop]
        rw [hb w]
        rfl
      · exact h.elim
  · rename_i t m k ok hop
    obtain ⟨vm, hm, h⟩ := wv_get h
    obtain ⟨vk, hk, h⟩ := wv_get h
    obtain ⟨i, k', e', kt, et, ek, hi, hid, hkt, het, ⟨j, hj⟩, h⟩ := withM_get hT h
    obtain ⟨u, hf, hu⟩ := lookQ_sound hi hid hkt het hj h
    exact ⟨u, hf, fun w hw => by simp [execOp, hop, hr.ev hm, hr.ev hk, hu w hw]⟩
  · rename_i it hop
    obtain ⟨vi, hi, h⟩ := wv_get h
    split at h
    · obtain ⟨m, since, seen, stepped, stamp, es, x, h1, h2, h3, h4, hf⟩ := h
      obtain ⟨ik, _, hf⟩ := withT_get hf
      have hf := exT_eq hf
      obtain ⟨iv, _, hf⟩ := withT_get hf
      have hf := exT_eq hf
      exact ⟨_, hf, fun w hw => by simp [execOp, hop, hr.ev hi, Instr.entry, getObj, Sem.run, hw.get h1, h2, hw.get h3, h4]⟩
    · exact h.elim
  · exact vcQ_sound hT hr hd h

end Go.Sh
