/-
  OWN WORK. The shallow layer, part 4: 'vcQ' is right.
-/
import Derived.Test.YtmappfblfoklfaaShQa
import Derived.Laws.BytesString
namespace Go.Sh

variable {P : Program}

theorem sliceBound_run {k : IntKind} {h : Int} {y : Nat} (c : BoundsCode) (h0 : 0 ≤ h) (h1 : h ≤ y) (w : World) :
    (Instr.sliceBound (.int k h) y c).run P w = .ok h.toNat w := by
  simp [Instr.sliceBound, asIntOf, h0, h1]

theorem boundsQ_sound {b : Bool} {len cap : Nat} {lo hi : Option Value} {f : Nat → Nat → Prop} (h : boundsQ len cap lo hi f) :
    ∃ l u, f l u ∧ ∀ w : World, (Instr.sliceBounds b len cap lo hi none).run P w = .ok (l, u, cap) w := by
  unfold boundsQ at h
  split at h
  · obtain ⟨h0, h1, h⟩ := h
    split at h
    · obtain ⟨h2, h3, hf⟩ := h
      rename_i u _ k' l
      have h4 : l ≤ (u.toNat : Int) := by omega
      exact ⟨_, _, hf, fun w => by simp [Instr.sliceBounds, sliceBound_run _ h0 h1, sliceBound_run _ h2 h4]⟩
    · exact ⟨_, _, h, fun w => by simp [Instr.sliceBounds, sliceBound_run _ h0 h1]⟩
    · exact h.elim
  · split at h
    · obtain ⟨h2, h3, hf⟩ := h
      exact ⟨_, _, hf, fun w => by simp [Instr.sliceBounds, sliceBound_run _ h2 h3]⟩
    · exact ⟨_, _, h, fun w => by simp [Instr.sliceBounds]⟩
    · exact h.elim
  · exact h.elim

theorem sliceQ_sound {t el : TypeId} {i j : TI} (hT : TIok P t i) (he : elemD i.d = some el) (hJ : TIok P el j) {x : Value} {lo hi : Option Value} {f : Value → Prop}
    (h : sliceQ i j.size x lo hi f) : ∃ v, f v ∧ ∀ w : World, (Instr.sliceAt t x lo hi none).run P w = .ok v w := by
  obtain ⟨d, hd, hde⟩ := hT.und
  unfold sliceQ at h
  split at h
  · rename_i e a len cap hdd
    rw [hdd] at hde he
    cases d <;> simp [D.of] at hde
    subst hde
    simp only [elemD, Option.some.injEq] at he
    subst he
    obtain ⟨l, u, hf, hr⟩ := boundsQ_sound (P := P) (b := true) h
    exact ⟨_, hf, fun w => by simp [Instr.sliceAt, Instr.slice, underlying, hd, hr, hJ.sizeOf]⟩
  · rename_i n e a hdd
    rw [hdd] at hde he
    cases d <;> simp [D.of] at hde
    obtain ⟨rfl, rfl⟩ := hde
    simp only [elemD, Option.some.injEq] at he
    subst he
    obtain ⟨l, u, hf, hr⟩ := boundsQ_sound (P := P) (b := false) h
    exact ⟨_, hf, fun w => by simp [Instr.sliceAt, Instr.sureAddr, underlying, hd, hr, hJ.sizeOf]⟩
  · exact h.elim

theorem idxQ_sound {t el : TypeId} {i j : TI} (hT : TIok P t i) (he : elemD i.d = some el) (hJ : TIok P el j) {x y : Value} {f : Value → Prop}
    (h : idxQ i.d j.size x y f) : ∃ v, f v ∧ ∀ w : World, (Instr.indexAt t x y).run P w = .ok v w := by
  obtain ⟨d, hd, hde⟩ := hT.und
  unfold idxQ at h
  split at h
  · rename_i e p len cap k n hdd
    rw [hdd] at hde he
    cases d <;> simp [D.of] at hde
    subst hde
    simp only [elemD, Option.some.injEq] at he
    subst he
    obtain ⟨a, rfl, h0, h1, hf⟩ := h
    exact ⟨_, hf, fun w => by simp [Instr.indexAt, asIntOf, underlying, hd, h0, h1, hJ.sizeOf]⟩
  · rename_i e len a k n hdd
    rw [hdd] at hde he
    cases d <;> simp [D.of] at hde
    obtain ⟨rfl, rfl⟩ := hde
    simp only [elemD, Option.some.injEq] at he
    subst he
    obtain ⟨h0, h1, hf⟩ := h
    exact ⟨_, hf, fun w => by simp [Instr.indexAt, Instr.sureAddr, asIntOf, underlying, hd, h0, h1, hJ.sizeOf]⟩
  · exact h.elim

theorem Ext.get {H H' : Heap} (h : Ext H H') {b : Nat} {o : Obj} (hb : H[b]? = some o) : H'[b]? = some o := h b o hb

theorem lenQ_sound {t : TypeId} {i : TI} (hT : TIok P t i) {x : Value} {H : Heap} {f : Value → Prop} (at' : TypeId)
    (h : lenQ i x H f) : ∃ v, f v ∧ ∀ w : World, Ext H w.heap → (Builtin.len_ #[t] at' #[x]).run P w = .ok v w := by
  obtain ⟨d, hd, hde⟩ := hT.und
  unfold lenQ at h
  split at h
  · rename_i e a n c hdd
    rw [hdd] at hde
    cases d <;> simp [D.of] at hde
    exact ⟨_, h, fun w _ => by simp [Builtin.len_, underlying, hd, goInt]⟩
  · rename_i s hdd
    rw [hdd] at hde
    cases d <;> simp [D.of] at hde
    exact ⟨_, h, fun w _ => by simp [Builtin.len_, underlying, hd, goInt]⟩
  · rename_i n e x hdd
    rw [hdd] at hde
    cases d <;> simp [D.of] at hde
    obtain ⟨rfl, rfl⟩ := hde
    exact ⟨_, h, fun w _ => by simp [Builtin.len_, underlying, hd, goInt]⟩
  · rename_i k e p hdd
    rw [hdd] at hde
    cases d <;> simp [D.of] at hde
    obtain ⟨r, rfl, es, c, hm, hf⟩ := h
    exact ⟨_, hf, fun w hw => by simp [Builtin.len_, underlying, hd, goInt, getObj, Sem.run, hw.get hm]⟩
  · exact h.elim

theorem mmMax_sound : ∀ (l : List Value) (x : Value) (f : Value → Prop), mmAll .max x l f → ∃ v, f v ∧ ∀ w : World, (l.foldlM Builtin.max2 x : Sem Value).run P w = .ok v w
  | [], x, f, h => ⟨x, h, fun w => rfl⟩
  | y :: r, x, f, h => by
    unfold mmAll mm at h
    split at h
    · rename_i k a _ b _
      obtain ⟨v, hf, hr⟩ := mmMax_sound r _ _ h
      refine ⟨v, hf, fun w => ?_⟩
      have h2 : (if b > a then b else a) = max a b := by rw [Int.max_def]; split <;> split <;> omega
      simp only [List.foldlM_cons, Builtin.max2, h2, Sem.run_bind, Sem.run_pure, Result.andThen_ok, hr]
    · simp_all
    · exact h.elim

theorem mmMin_sound : ∀ (l : List Value) (x : Value) (f : Value → Prop), mmAll .min x l f → ∃ v, f v ∧ ∀ w : World, (l.foldlM Builtin.min2 x : Sem Value).run P w = .ok v w
  | [], x, f, h => ⟨x, h, fun w => rfl⟩
  | y :: r, x, f, h => by
    unfold mmAll mm at h
    split at h
    · simp_all
    · rename_i k a _ b _
      obtain ⟨v, hf, hr⟩ := mmMin_sound r _ _ h
      refine ⟨v, hf, fun w => ?_⟩
      have h2 : (if b < a then b else a) = min a b := by rw [Int.min_def]; split <;> split <;> omega
      simp only [List.foldlM_cons, Builtin.min2, h2, Sem.run_bind, Sem.run_pure, Result.andThen_ok, hr]
    · exact h.elim

theorem optV_get {e : Env} {x : Option Operand} {f : Option Value → Prop} (h : optV e x f) : ∃ v, f v ∧ ∀ (n : Nat) (a : Act), Rep n e a → x.map a.eval = v := by
  cases x with
  | none => exact ⟨none, h, fun _ _ _ => rfl⟩
  | some x => obtain ⟨v, hx, hf⟩ := wv_get h; exact ⟨_, hf, fun n a hr => by simp [hr.ev hx]⟩

theorem wvs_get : ∀ {e : Env} (l : List Operand) {f : List Value → Prop}, wvs e l f → ∃ vs, f vs ∧ ∀ (n : Nat) (a : Act), Rep n e a → l.map a.eval = vs
  | _, [], _, h => ⟨[], h, fun _ _ _ => rfl⟩
  | e, x :: r, f, h => by
    obtain ⟨v, hx, h⟩ := wv_get h
    obtain ⟨vs, hf, hr⟩ := wvs_get r h
    exact ⟨_, hf, fun n a ha => by simp [ha.ev hx, hr n a ha]⟩

def DecOk (dec : Dec) (a : Act) : Prop := ∀ t b, lookB dec t = some b → a.tmps[t]? = some (.bool b)

theorem decd_ok {dec : Dec} {a : Act} (h : DecOk dec a) {x : Operand} {b : Bool} (hx : decd dec x = some b) : a.eval x = .bool b := by
  unfold decd at hx
  split at hx
  · have := h _ _ hx; simp [Act.eval, this]
  · simp only [Option.some.injEq] at hx; subst hx; rfl
  · cases hx

theorem map_toArr {α β : Type} (f : α → β) (l : Array α) : l.map f = (l.toList.map f).toArray := by
  cases l; simp

set_option maxHeartbeats 1000000 in
theorem vcQ_sound {T : Tab} (hT : TabOk P T) {e : Env} {dec : Dec} {n : Nat} {a : Act} (hr : Rep n e a) (hd : DecOk dec a) {o : Oper} {H : Heap} {f : Value → Prop}
    (h : vcQ T e dec o H f) : ∃ v, f v ∧ ∀ w : World, Ext H w.heap → (execOp a.eval o).run P w = .ok (.value v) w := by
  obtain ⟨dst, op, type, pos, after, guard⟩ := o
  unfold vcQ at h
  cases op <;> simp only [] at h
  case move x => obtain ⟨v, hx, hf⟩ := wv_get h; exact ⟨v, hf, fun w _ => by simp [execOp, hr.ev hx]⟩
  case assign x => obtain ⟨v, hx, hf⟩ := wv_get h; exact ⟨v, hf, fun w _ => by simp [execOp, hr.ev hx]⟩
  case pick c x y =>
    split at h
    · rename_i hc
      obtain ⟨v, hx, hf⟩ := wv_get h
      exact ⟨v, hf, fun w _ => by simp [execOp, decd_ok hd hc, asBool, hr.ev hx]⟩
    · rename_i hc
      obtain ⟨v, hx, hf⟩ := wv_get h
      exact ⟨v, hf, fun w _ => by simp [execOp, decd_ok hd hc, asBool, hr.ev hx]⟩
    · exact h.elim
  case load t x =>
    obtain ⟨v, hx, h⟩ := wv_get h
    split at h
    · obtain ⟨i, hi, h⟩ := withT_get h
      obtain ⟨v, hf, hv⟩ := ld_sound (hT.get hi) h
      exact ⟨v, hf, fun w hw => by simp [execOp, hr.ev hx, Instr.loadAt, Instr.sureAddr, hv w hw]⟩
    · exact h.elim
  case nilCheck x =>
    obtain ⟨v, hx, h⟩ := wv_get h
    split at h
    · obtain ⟨a', rfl, hf⟩ := h
      exact ⟨_, hf, fun w _ => by simp [execOp, hr.ev hx]⟩
    · exact ⟨_, h, fun w _ => by simp [execOp, hr.ev hx]⟩
    · exact h.elim
  case binOp op t x y u =>
    obtain ⟨vx, hx, h⟩ := wv_get h
    obtain ⟨vy, hy, h⟩ := wv_get h
    split at h
    · obtain ⟨v, hf, hv⟩ := binQ_sound (P := P) t h
      exact ⟨v, hf, fun w _ => by simp [execOp, hr.ev hx, hr.ev hy, hv, eqGuard_int]⟩
    · obtain ⟨i, hi, h⟩ := withT_get h
      split at h
      · rename_i hd
        obtain ⟨j, hj, h⟩ := withT_get h
        split at h
        · obtain ⟨b, hf, hg, h1, h2⟩ := eqA_sound (hT.get hi) hd (hT.get hj) h
          exact ⟨_, hf, fun w _ => by simp [execOp, hr.ev hx, hr.ev hy, hg, h1]⟩
        · obtain ⟨b, hf, hg, h1, h2⟩ := eqA_sound (hT.get hi) hd (hT.get hj) h
          exact ⟨_, hf, fun w _ => by simp [execOp, hr.ev hx, hr.ev hy, hg, h2]⟩
        · exact h.elim
      · split at h
        · obtain ⟨b, hf, hg, _, h1, h2⟩ := eqQ_sound (hT.get hi) h
          exact ⟨_, hf, fun w _ => by simp [execOp, hr.ev hx, hr.ev hy, hg, h1]⟩
        · obtain ⟨b, hf, hg, _, h1, h2⟩ := eqQ_sound (hT.get hi) h
          exact ⟨_, hf, fun w _ => by simp [execOp, hr.ev hx, hr.ev hy, hg, h2]⟩
        · exact h.elim
  case unOp op t x =>
    obtain ⟨vx, hx, h⟩ := wv_get h
    obtain ⟨v, hf, hv⟩ := unQ_sound (P := P) h
    exact ⟨v, hf, fun w _ => by simp [execOp, hr.ev hx, hv]⟩
  case convert s d x =>
    obtain ⟨vx, hx, h⟩ := wv_get h
    split at h
    · obtain ⟨i, hi, h⟩ := withT_get h
      obtain ⟨j, hj, h⟩ := withT_get h
      split at h
      · rename_i k hk
        obtain ⟨di, hdi, _⟩ := (hT.get hi).und
        obtain ⟨dj, hdj, hej⟩ := (hT.get hj).und
        rw [hk] at hej
        cases dj <;> simp [D.of] at hej
        subst hej
        exact ⟨_, h, fun w _ => by simp [execOp, hr.ev hx, convert, underlying, hdi, hdj, Conv.intToInt]⟩
      · exact h.elim
    · rename_i p l c
      split at h
      · obtain ⟨i, hi, h⟩ := withT_get h
        obtain ⟨j, hj, h⟩ := withT_get h
        split at h
        · rename_i el hid hjd
          obtain ⟨k, hk, h⟩ := withT_get h
          split at h
          · rename_i hkd
            obtain ⟨xs, hb, hf⟩ := h
            obtain ⟨di, hdi, hei⟩ := (hT.get hi).und
            obtain ⟨dj, hdj, hej⟩ := (hT.get hj).und
            obtain ⟨dk, hdk, hek⟩ := (hT.get hk).und
            rw [hid] at hei; rw [hjd] at hej; rw [hkd] at hek
            cases di <;> simp [D.of] at hei
            cases dj <;> simp [D.of] at hej
            cases dk <;> simp [D.of] at hek
            subst hei hek
            have hcv : ∀ w : World, (convert s d (.slice p l c)).run P w = (Conv.bytesToString (.slice p l c)).run P w := fun w => by simp [convert, underlying, hdi, hdj, hdk]
            refine ⟨_, hf, fun w hw => ?_⟩
            have hrun : (Conv.bytesToString (.slice p l c)).run P w = .ok (.string (textOf xs)) w := by
              unfold bsOf at hb
              cases p with
              | none => subst hb; rfl
              | some a =>
                obtain ⟨hl, hrow⟩ := hb
                exact run_bytesToString w a l c xs (by
                  have h1 := run_loadCells_list (P := P) w a (xs.map (Value.int .u8)) (fun j v hv => by rw [cell_eq]; exact hw.cell (hrow j v (by simpa using hv)))
                  rw [List.length_map, hl] at h1
                  simpa using h1)
            simp [execOp, hr.ev hx, hcv, hrun]
          · exact h.elim
        · exact h.elim
      · exact h.elim
    · exact h.elim
  case slice t x lo hi mx =>
    cases mx with
    | some m => exact h.elim
    | none =>
      simp only [] at h
      obtain ⟨vx, hx, h⟩ := wv_get h
      obtain ⟨vl, h, hl⟩ := optV_get h
      obtain ⟨vh, h, hh⟩ := optV_get h
      obtain ⟨i, hi', h⟩ := withT_get h
      split at h
      · rename_i el he
        obtain ⟨j, hj, h⟩ := withT_get h
        obtain ⟨v, hf, hv⟩ := sliceQ_sound (hT.get hi') he (hT.get hj) h
        exact ⟨v, hf, fun w _ => by simp [execOp, hr.ev hx, hl n a hr, hh n a hr, hv]⟩
      · exact h.elim
  case fieldAddr s x j =>
    obtain ⟨v, hx, h⟩ := wv_get h
    split at h
    · rename_i ad
      obtain ⟨i, hi, h⟩ := withT_get h
      split at h
      · rename_i off ty hfo
        obtain ⟨k, hk, h2⟩ := withT_get h
        clear h
        split at h2
        · exact h2.elim
        · rename_i hsz
          have hsz' : k.size ≠ 0 := fun h0 => by rw [h0] at hsz; cases hsz
          obtain ⟨d, hdd, hde⟩ := (hT.get hi).und
          rw [← hde] at hfo
          cases d <;> simp [D.of, fieldOf] at hfo
          rename_i fs
          obtain ⟨fd, hfd, rfl, rfl⟩ := hfo
          exact ⟨_, h2, fun w _ => by simp [execOp, hr.ev hx, Instr.fieldAt, underlying, hdd, Instr.sureAddr, hfd, fieldPlace, (hT.get hk).sizeOf, hsz']⟩
      · exact h.elim
    · exact h.elim
  case field s x j =>
    obtain ⟨v, hx, h⟩ := wv_get h
    split at h
    · rename_i cs
      obtain ⟨i, hi, h⟩ := withT_get h
      split at h
      · rename_i off ty hfo
        obtain ⟨k, hk, h2⟩ := withT_get h
        clear h
        obtain ⟨d, hdd, hde⟩ := (hT.get hi).und
        rw [← hde] at hfo
        cases d <;> simp [D.of, fieldOf] at hfo
        rename_i fs
        obtain ⟨fd, hfd, rfl, rfl⟩ := hfo
        obtain ⟨v, hf, hv⟩ := partQ_sound (hT.get hk) h2
        exact ⟨_, hf, fun w _ => by simp [execOp, hr.ev hx, Instr.field, underlying, hdd, asAgg, hfd, hv]⟩
      · exact h.elim
    · exact h.elim
  case indexAddr t x y =>
    obtain ⟨vx, hx, h⟩ := wv_get h
    obtain ⟨vy, hy, h⟩ := wv_get h
    obtain ⟨i, hi, h⟩ := withT_get h
    split at h
    · rename_i el he
      obtain ⟨j, hj, h⟩ := withT_get h
      obtain ⟨v, hf, hv⟩ := idxQ_sound (hT.get hi) he (hT.get hj) h
      exact ⟨v, hf, fun w _ => by simp [execOp, hr.ev hx, hr.ev hy, hv]⟩
    · exact h.elim
  case index t x y =>
    obtain ⟨vx, hx, h⟩ := wv_get h
    obtain ⟨vy, hy, h⟩ := wv_get h
    obtain ⟨i, hi, h⟩ := withT_get h
    split at h
    · obtain ⟨j, hj, h⟩ := withT_get h
      obtain ⟨h0, h1, h⟩ := h
      obtain ⟨v, hf, hv⟩ := partQ_sound (hT.get hj) h
      obtain ⟨d, hdd, hde⟩ := (hT.get hi).und
      rw [‹i.d = D.arr _ _›] at hde
      cases d <;> simp [D.of] at hde
      obtain ⟨rfl, rfl⟩ := hde
      exact ⟨v, hf, fun w _ => by simp [execOp, hr.ev hx, hr.ev hy, Instr.index, asIntOf, underlying, hdd, h0, h1, (hT.get hj).sizeOf, hv]⟩
    · exact h.elim
  case extract x j =>
    obtain ⟨v, hx, h⟩ := wv_get h
    split at h
    · split at h
      · rename_i u hu
        exact ⟨u, h, fun w _ => by
          have : ∀ (vs : Array Value), vs.toList[j]? = some u → vs[j]? = some u := fun vs hh => by simpa using hh
          simp [execOp, hr.ev hx, Instr.extract, this _ hu]⟩
      · exact h.elim
    · exact h.elim
  case makeFunc fn first captured =>
    obtain ⟨va, h, ha⟩ := wvs_get _ h
    obtain ⟨vb, h, hb⟩ := wvs_get _ h
    refine ⟨_, h, fun w _ => ?_⟩
    have e1 : first.map a.eval = va.toArray := by rw [← ha n a hr]; exact (map_toArr _ _)
    have e2 : captured.map a.eval = vb.toArray := by rw [← hb n a hr]; exact (map_toArr _ _)
    simp [execOp, Instr.makeFunc, e1, e2]
  case call c =>
    obtain ⟨callee, args, argTypes⟩ := c
    cases callee with
    | value x => exact h.elim
    | invoke x s => exact h.elim
    | builtin op =>
      simp only [] at h
      obtain ⟨vs, h, hv⟩ := wvs_get _ h
      have e1 : args.map a.eval = vs.toArray := by rw [← hv n a hr]; exact (map_toArr _ _)
      split at h
      · split at h
        · rename_i t ht
          obtain ⟨i, hi, h⟩ := withT_get h
          obtain ⟨v, hf, hl⟩ := lenQ_sound (hT.get hi) type h
          have e2 : argTypes = #[t] := by rw [← Array.toArray_toList (xs := argTypes), ht]
          exact ⟨v, hf, fun w hw => by simp [execOp, resolve, invoke, builtin, e1, e2, hl w hw]⟩
        · exact h.elim
      · rename_i p l c
        split at h
        · rename_i t ht
          obtain ⟨i, hi, h⟩ := withT_get h
          split at h
          · rename_i e' hde'
            obtain ⟨d, hdd, hde⟩ := (hT.get hi).und
            rw [hde'] at hde
            cases d <;> simp [D.of] at hde
            have e2 : argTypes = #[t] := by rw [← Array.toArray_toList (xs := argTypes), ht]
            exact ⟨_, h, fun w hw => by simp [execOp, resolve, invoke, builtin, e1, e2, Builtin.cap_, underlying, hdd, goInt]⟩
          · exact h.elim
        · exact h.elim
      · obtain ⟨v, hf, hm⟩ := mmMax_sound (P := P) _ _ _ h
        exact ⟨v, hf, fun w hw => by simp [execOp, resolve, invoke, builtin, e1, Builtin.max_, hm]⟩
      · obtain ⟨v, hf, hm⟩ := mmMin_sound (P := P) _ _ _ h
        exact ⟨v, hf, fun w hw => by simp [execOp, resolve, invoke, builtin, e1, Builtin.min_, hm]⟩
      · exact h.elim
  all_goals exact h.elim

end Go.Sh
