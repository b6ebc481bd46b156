/-
  OWN WORK. The shallow layer, part 9: 'vcE' is right.
-/
import Derived.Test.YtmappfblfoklfaaShEt
namespace Go.Sh

variable {P : Program}

/-- What an operation that makes or writes memory comes to. -/
def Ends (P : Program) (s : Sem Next) (w : World) (K : Value → Heap → Prop) : Prop :=
  ∃ v nx w', s.run P w = .ok nx w' ∧ (nx = .value v ∨ (nx = .skip ∧ v = undef)) ∧ w'.os = w.os ∧ Out w w' ∧ K v w'.heap

theorem Ends.of_value {s : Sem Value} {w w' : World} {v : Value} {K : Value → Heap → Prop} (h : s.run P w = .ok v w') (h1 : w'.os = w.os) (h2 : Out w w') (hK : K v w'.heap) :
    Ends P (do pure (.value (← s))) w K :=
  ⟨v, .value v, w', by simp [h], .inl rfl, h1, h2, hK⟩

theorem Ends.of_skip {s : Sem Unit} {w w' : World} {K : Value → Heap → Prop} (h : s.run P w = .ok () w') (h1 : w'.os = w.os) (h2 : Out w w') (hK : K undef w'.heap) :
    Ends P (do s; pure .skip) w K :=
  ⟨undef, .skip, w', by simp [h], .inr ⟨rfl, rfl⟩, h1, h2, hK⟩

theorem newRow_run (el : TypeId) (cs : Array Value) (w : World) : (newRow el cs).run P w = .ok ⟨w.heap.size, 0, none⟩ { w with heap := w.heap.push (.cells cs el) } := by
  simp [newRow]

theorem newVar_run (t : TypeId) (v : Value) (w : World) : (newVar t v).run P w = .ok ⟨w.heap.size, 0, none⟩ { w with heap := w.heap.push (.cells v.cells t) } := newRow_run _ _ _

theorem reps_length (n : Nat) (l : List Value) : (reps n l).length = n * l.length := by
  induction n with
  | zero => simp [reps]
  | succ n ih => simp [reps, ih, Nat.succ_mul]; omega

theorem reps_get (l : List Value) (hl : 0 < l.length) : ∀ (n i : Nat), i < n * l.length → (reps n l)[i]? = l[i % l.length]?
  | 0, i, h => by simp at h
  | n + 1, i, h => by
    simp only [reps]
    by_cases hi : i < l.length
    · rw [List.getElem?_append_left hi, Nat.mod_eq_of_lt hi]
    · rw [List.getElem?_append_right (by omega), reps_get l hl n (i - l.length) (by rw [Nat.succ_mul] at h; omega)]
      congr 1
      rw [Nat.mod_eq_sub_mod (a := i) (by omega)]

theorem reps_range (zero : Array Value) (n : Nat) (hz : 0 < zero.size) : (Array.range (n * zero.size)).map (fun i => zero[i % zero.size]!) = (reps n zero.toList).toArray := by
  apply Array.ext
  · simp [reps_length]
  · intro i h1 h2
    have h3 : i < n * zero.toList.length := by simpa using h1
    have h4 : i % zero.size < zero.size := Nat.mod_lt _ hz
    have := reps_get zero.toList (by simpa using hz) n i h3
    simp only [Array.length_toList] at this
    rw [List.getElem?_eq_getElem (by rw [reps_length]; exact h3)] at this
    simp only [Array.getElem_map, Array.getElem_range, List.getElem_toArray]
    rw [getElem!_pos zero _ h4]
    simpa [h4] using this.symm

theorem zeroCells_eq (zero : Array Value) (n : Nat) (hz : 0 < zero.size) : Builtin.zeroCells zero n = (reps n zero.toList).toArray := reps_range zero n hz

theorem appQ_sound {t u el : TypeId} {i iu j : TI} (hT : TIok P t i) (hU : TIok P u iu) (hi : i.d = .sl el) {eu : TypeId} (hu : iu.d = .sl eu) (hJ : TIok P el j)
    {p q : Option Addr} {l c n m : Nat} {H : Heap} {K : Option Addr → Nat → Nat → Heap → Prop} (h : appQ j.size j.bytes j.zero.cells H p l c q n el K) (ty : TypeId) (w : World) (hw : w.heap = H) :
    ∃ p' l' c' w', (Builtin.append_ #[t, u] ty #[.slice p l c, .slice q n m]).run P w = .ok (.slice p' l' c') w' ∧ w'.os = w.os ∧ Out w w' ∧ K p' l' c' w'.heap := by
  obtain ⟨hb, hmax, xs, hx, hin, hgrow⟩ := h
  obtain ⟨d, hd, hde⟩ := hT.und
  obtain ⟨du, hdu, hdue⟩ := hU.und
  rw [hi] at hde
  rw [hu] at hdue
  cases d <;> simp [D.of] at hde
  cases du <;> simp [D.of] at hdue
  subst hde hdue
  rename_i el eu
  obtain ⟨inf, hinf, hsz, hby, hz⟩ := hJ.inf
  have hxr := fun (w : World) (hw : w.heap = H) => rowOf_run (P := P) hx (size := j.size) (m := n) (c := m) (l := n) rfl w hw
  unfold Builtin.append_
  by_cases hfit : l + n ≤ c
  · have h1 := hin hfit
    cases p with
    | none =>
      refine ⟨_, _, _, w, ?_, rfl, Out.refl w, hw ▸ h1⟩
      simp [underlying, hd, hdu, hJ.sizeOf, Builtin.lenOf, hfit, hxr w hw]
    | some a =>
      obtain ⟨w', hr, h2, h3, h4⟩ := stAt_sound (P := P) h1 w hw
      refine ⟨_, _, _, w', ?_, h2, h3, h4⟩
      simp [underlying, hd, hdu, hJ.sizeOf, Builtin.lenOf, hfit, hxr w hw, hr]
  · obtain ⟨ys, hy, h1⟩ := hgrow (by omega)
    have hyr := fun (w : World) (hw : w.heap = H) => rowOf_run (P := P) hy (size := j.size) (m := l) (c := c) (l := l) rfl w hw
    have hns := growslice_fits (need := l + n) (old := c) (bytes := j.bytes) (by omega) (by omega)
    have hmm : ¬ (9223372036854775807 < (l : Int) + n) := by omega
    let cap' := (Question.appendCap (l + n) c el).cut (w.tape w.drawn (.appendCap (l + n) c el))
    have hcap : l + n ≤ cap' := by
      show l + n ≤ (l + n) + _ % _
      omega
    refine ⟨some ⟨w.heap.size, 0, none⟩, l + n, cap', { w with heap := w.heap.push (.cells (ys ++ xs ++ Builtin.zeroCells j.zero.cells (cap' - (l + n))) el), drawn := w.drawn + 1 }, ?_, rfl, Out.of rfl (fz_push w.heap rfl), ?_⟩
    rotate_left
    · subst hw; exact h1 cap' hcap
    · subst hw
      have hmx : (IntKind.i64.max : Int) = 9223372036854775807 := by decide
      have hns' : ¬ (281474976710656 < Builtin.nextslicecap (l + n) c * j.bytes) := by omega
      have hx2 := hxr w.drew rfl
      have hy2 := hyr w.drew rfl
      simp [underlying, hd, hdu, hJ.sizeOf, Builtin.lenOf, hfit, typeInfo, hinf, hby, hmx, hmm, hns', Question.forced, hx2, hy2, newRow_run, Go.zeroValue, hz]
      exact ⟨rfl, rfl⟩

set_option linter.unusedSimpArgs false in
theorem appZ_sound {t u el : TypeId} {i iu j : TI} (hT : TIok P t i) (hU : TIok P u iu) (hi : i.d = .sl el) {ku : IntKind} (hu : iu.d = .int ku) (hJ : TIok P el j) (hz1 : j.zero.cells.size = j.size) (hz0 : 0 < j.size)
    {p : Option Addr} {l c : Nat} {n : Int} {H : Heap} {K : Option Addr → Nat → Nat → Heap → Prop} (h : appZ j.size j.bytes j.zero.cells H p l c n el K) (ty : TypeId) (w : World) (hw : w.heap = H) :
    ∃ p' l' c' w', (Builtin.append_ #[t, u] ty #[.slice p l c, .int .i64 n]).run P w = .ok (.slice p' l' c') w' ∧ w'.os = w.os ∧ Out w w' ∧ K p' l' c' w'.heap := by
  obtain ⟨hn0, hn1, hb, hmax, hin, hgrow⟩ := h
  obtain ⟨d, hd, hde⟩ := hT.und
  obtain ⟨du, hdu, hdue⟩ := hU.und
  rw [hi] at hde
  rw [hu] at hdue
  cases d <;> simp [D.of] at hde
  cases du <;> simp [D.of] at hdue
  subst hde hdue
  rename_i el ku
  obtain ⟨inf, hinf, hsz, hby, hz⟩ := hJ.inf
  have hwr : IntKind.wrap .i64 n = n := by simp [IntKind.wrap, IntKind.bits, IntKind.signed]; omega
  have hlt : ¬ n < 0 := by omega
  have hbn : ¬ (281474976710656 < n * (j.bytes : Int)) := by
    have h1 : n * (j.bytes : Int) ≤ ((l + n.toNat) * j.bytes : Nat) := by
      have h2 : n.toNat * j.bytes ≤ (l + n.toNat) * j.bytes := Nat.mul_le_mul_right _ (by omega)
      have h3 : n * (j.bytes : Int) = ((n.toNat * j.bytes : Nat) : Int) := by rw [Int.natCast_mul, Int.toNat_of_nonneg hn0]
      omega
    omega
  have hzc : Builtin.zeroCells j.zero.cells n.toNat = (reps n.toNat j.zero.cells.toList).toArray := zeroCells_eq _ _ (by omega)
  have hai : ∀ w : World, (asIntOf (.int .i64 n)).run P w = .ok (IntKind.i64, n) w := fun _ => rfl
  have hr0 : n.toNat * j.size = 0 → n.toNat = 0 := fun h0 => by
    rcases Nat.mul_eq_zero.1 h0 with h | h
    · exact h
    · omega
  have hrr : n.toNat = 0 → reps n.toNat j.zero.cells.toList = [] := fun h0 => by rw [h0]; rfl
  unfold Builtin.append_
  by_cases hfit : l + n.toNat ≤ c
  · have h1 := hin hfit
    cases p with
    | none =>
      refine ⟨_, _, _, w, ?_, rfl, Out.refl w, hw ▸ h1⟩
      by_cases hz0' : n.toNat * j.size = 0 <;> simp [underlying, hd, hdu, hJ.sizeOf, asInt, hai, hwr, hlt, typeInfo, hinf, hby, hbn, hfit, hz0', Go.zeroValue, hz, hzc]
    | some a =>
      obtain ⟨w', hr, h2, h3, h4⟩ := stAt_sound (P := P) h1 w hw
      refine ⟨_, _, _, w', ?_, h2, h3, h4⟩
      by_cases hz0' : n.toNat * j.size = 0
      · rw [hrr (hr0 hz0')] at hr
        simp [underlying, hd, hdu, hJ.sizeOf, asInt, hai, hwr, hlt, typeInfo, hinf, hby, hbn, hfit, hz0', Go.zeroValue, hz, hzc, hr]
      · simp [underlying, hd, hdu, hJ.sizeOf, asInt, hai, hwr, hlt, typeInfo, hinf, hby, hbn, hfit, hz0', Go.zeroValue, hz, hzc, hr]
  · obtain ⟨ys, hy, h1⟩ := hgrow (by omega)
    have hyr := fun (w : World) (hw : w.heap = H) => rowOf_run (P := P) hy (size := j.size) (m := l) (c := c) (l := l) rfl w hw
    have hns := growslice_fits (need := l + n.toNat) (old := c) (bytes := j.bytes) (by omega) (by omega)
    have hmm : ¬ (9223372036854775807 < (l : Int) + max n 0) := by omega
    let cap' := (Question.appendCap (l + n.toNat) c el).cut (w.tape w.drawn (.appendCap (l + n.toNat) c el))
    have hcap : l + n.toNat ≤ cap' := by
      show l + n.toNat ≤ (l + n.toNat) + _ % _
      omega
    refine ⟨some ⟨w.heap.size, 0, none⟩, l + n.toNat, cap', { w with heap := w.heap.push (.cells (ys ++ (reps n.toNat j.zero.cells.toList).toArray ++ Builtin.zeroCells j.zero.cells (cap' - (l + n.toNat))) el), drawn := w.drawn + 1 }, ?_, rfl, Out.of rfl (fz_push w.heap rfl), ?_⟩
    rotate_left
    · subst hw; exact h1 cap' hcap
    · subst hw
      have hmx : (IntKind.i64.max : Int) = 9223372036854775807 := by decide
      have hns' : ¬ (281474976710656 < Builtin.nextslicecap (l + n.toNat) c * j.bytes) := by omega
      have hy2 := hyr w.drew rfl
      by_cases hz0' : n.toNat * j.size = 0
      · rw [hrr (hr0 hz0')]
        simp [underlying, hd, hdu, hJ.sizeOf, asInt, hai, hwr, hlt, typeInfo, hinf, hby, hbn, hfit, hmx, hmm, hns', Question.forced, hy2, newRow_run, Go.zeroValue, hz, hz0']
        exact ⟨rfl, rfl⟩
      · simp [underlying, hd, hdu, hJ.sizeOf, asInt, hai, hwr, hlt, typeInfo, hinf, hby, hbn, hfit, hmx, hmm, hns', Question.forced, hy2, newRow_run, Go.zeroValue, hz, hz0', hzc]
        exact ⟨rfl, rfl⟩

theorem bytes_eq_of_beq {x y : ByteArray} (h : (x == y) = true) : x = y := by
  cases x with | mk a => cases y with | mk b =>
  have : (a == b) = true := h
  rw [eq_of_beq this]

theorem kEq_stays {kt j : TI} {k k' : Value} (h : kForm kt.d j.d k) (h' : kForm kt.d j.d k') (he : kEq k k' = true) : k = k' ∧ ∀ n, Instr.sameBits (n + 2) k' k = true := by
  unfold kForm at h h'
  cases hk : kt.d <;> rw [hk] at h h' <;> simp only [] at h h'
  case int q => obtain ⟨x, rfl⟩ := h; obtain ⟨y, rfl⟩ := h'; simp [kEq] at he; subst he; exact ⟨rfl, fun n => by simp [Instr.sameBits]⟩
  case bool => obtain ⟨x, rfl⟩ := h; obtain ⟨y, rfl⟩ := h'; simp [kEq] at he; subst he; exact ⟨rfl, fun n => by simp [Instr.sameBits]⟩
  case str => obtain ⟨x, rfl⟩ := h; obtain ⟨y, rfl⟩ := h'; have he0 := he; have he := bytes_eq_of_beq (by simpa [kEq] using he); subst he; exact ⟨rfl, fun n => by simpa [Instr.sameBits, kEq] using he0⟩
  case arr m el =>
    obtain ⟨_, h⟩ := h
    obtain ⟨_, h'⟩ := h'
    cases hj : j.d <;> rw [hj] at h h' <;> simp only [] at h h'
    all_goals first | exact h.elim | skip
    obtain ⟨a, b, rfl⟩ := h
    obtain ⟨c, d, rfl⟩ := h'
    simp [kEq] at he
    obtain ⟨rfl, rfl⟩ := he
    exact ⟨rfl, fun n => by simp [Instr.sameBits]⟩
  all_goals exact h.elim

theorem findE_get {k : Value} : ∀ {es : List MapEntry} {i n : Nat} {v : Value}, findE k es i = some (n, v) → ∃ m e, n = i + m ∧ es[m]? = some e ∧ kEq k e.key = true ∧ e.val = v
  | [], _, _, _, h => by cases h
  | e :: es, i, n, v, h => by
    unfold findE at h
    split at h
    · rename_i hk
      cases h
      exact ⟨0, e, rfl, rfl, hk, rfl⟩
    · obtain ⟨m, e', h1, h2, h3, h4⟩ := findE_get h
      exact ⟨m + 1, e', by omega, by simpa using h2, h3, h4⟩

theorem updQ_sound {t k e : TypeId} {i kt : TI} {ek : D} (hT : TIok P t i) (hd : i.d = .map k e) (hK : TIok P k kt)
    {j : TI} (hj : ∀ m el, kt.d = .arr m el → TIok P el j ∧ j.size = 1 ∧ j.d = ek) {x v u : Value} {H : Heap} {K : Heap → Prop} (h : updQ kt.d ek x v u H K) (w : World) (hw : w.heap = H) :
    ∃ w', (Instr.mapUpdate t x v u).run P w = .ok () w' ∧ w'.os = w.os ∧ Out w w' ∧ K w'.heap := by
  obtain ⟨d, hdd, hde⟩ := hT.und
  rw [hd] at hde
  cases d <;> simp [D.of] at hde
  obtain ⟨rfl, rfl⟩ := hde
  rename_i k e
  have hj' : ∀ m el, kt.d = .arr m el → TIok P el j ∧ j.size = 1 := fun m el hh => ⟨(hj m el hh).1, (hj m el hh).2.1⟩
  have hje : ∀ m el, kt.d = .arr m el → j.d = ek := fun m el hh => (hj m el hh).2.2
  unfold updQ at h
  split at h
  · obtain ⟨r, rfl, es, c, hr, hk, hes, hnone, hsome⟩ := h
    have hk' := kForm_ek hk hje
    have hes' : ∀ e' ∈ es.toList, kForm kt.d j.d e'.key := fun e' he' => kForm_ek (hes e' he') hje
    have hrun : ∀ w : World, (Instr.findKey k v es.toList).run P w = .ok (findE v es.toList 0) w := fun w => run_findKey' hK hj' hk' hes' w
    have hck : ∀ (b : Bool) (w : World), (Instr.checkKey b 10000 k v).run P w = .ok () w := fun b w => run_checkKey hK hj' hk' b w
    subst hw
    cases hfe : findE v es.toList 0 with
    | none =>
      refine ⟨{ w with heap := w.heap.setIfInBounds r (.map (es.push { key := v, val := u, born := c }) (c + 1)) }, ?_, rfl, Out.set hr rfl, hnone hfe⟩
      simp [Instr.mapUpdate, underlying, hdd, getObj, setObj, Sem.run, hr, hck, hrun, hfe]
    | some p =>
      obtain ⟨n, u'⟩ := p
      obtain ⟨m, e', h1, h2, h3, h4⟩ := findE_get hfe
      simp only [Nat.zero_add] at h1
      subst h1
      have hmem : e' ∈ es.toList := List.mem_of_getElem? h2
      obtain ⟨hkey, hsb⟩ := kEq_stays hk' (hes' e' hmem) h3
      have hget : es[n]? = some e' := by simpa using h2
      refine ⟨{ w with heap := w.heap.setIfInBounds r (.map (es.modify n fun e => { e with val := u }) c) }, ?_, rfl, Out.set hr rfl, hsome n u' hfe⟩
      have hstay : ∀ w : World, (Instr.keyThatStays e'.key v).run P w = .ok v w := fun w => by
        have := hsb 9998
        unfold Instr.keyThatStays
        rw [this]
        rfl
      have hmod : (es.modify n fun e => { e with key := v, val := u }) = es.modify n fun e => { e with val := u } := by
        apply Array.ext
        · simp
        · intro q hq1 hq2
          rw [Array.getElem_modify, Array.getElem_modify]
          split
          · rename_i hqn
            subst hqn
            have : es[n]'(by simpa using hq1) = e' := by
              have hlt : n < es.size := by simpa using hq1
              rw [Array.getElem?_eq_getElem hlt] at hget
              simpa using hget
            rw [this, hkey]
          · rfl
      simp [Instr.mapUpdate, underlying, hdd, getObj, setObj, Sem.run, hr, hck, hrun, hfe, hget, hstay, hmod]
  · exact h.elim

def nextC (seen : Array Nat) (since : Nat) (es : Array MapEntry) : Array (Option MapEntry) :=
  (if ((es.filter fun e => !seen.contains e.born).filter (·.born < since)).isEmpty then #[none] else #[]) ++
    (((es.filter fun e => !seen.contains e.born).filter (·.born < since)) ++ ((es.filter fun e => !seen.contains e.born).filter (·.born ≥ since))).map some

theorem nextC_pos (seen : Array Nat) (since : Nat) (es : Array MapEntry) : 0 < (nextC seen since es).size := by
  unfold nextC
  generalize (es.filter fun e => !seen.contains e.born).filter (·.born < since) = old
  generalize (es.filter fun e => !seen.contains e.born).filter (·.born ≥ since) = new
  cases ho : old.isEmpty with
  | true => simp only [if_true, Array.size_append, List.size_toArray, List.length_singleton]; omega
  | false =>
    have : 0 < old.size := by
      rcases Nat.eq_zero_or_pos old.size with hz | hz
      · have : old = #[] := Array.eq_empty_of_size_eq_zero hz
        rw [this] at ho; cases ho
      · exact hz
    simp
    omega

theorem nextC_some {seen : Array Nat} {since : Nat} {es : Array MapEntry} {e : MapEntry} (h : some e ∈ nextC seen since es) : e ∈ es.toList ∧ seen.contains e.born = false := by
  unfold nextC at h
  rw [Array.mem_append] at h
  rcases h with h | h
  · split at h <;> simp at h
  · simp only [Array.mem_map, Option.some.injEq, exists_eq_right, Array.mem_append] at h
    have h6 : e ∈ es.filter fun e => !seen.contains e.born := by
      rcases h with h | h
      · exact (Array.mem_filter.1 h).1
      · exact (Array.mem_filter.1 h).1
    have h7 := Array.mem_filter.1 h6
    exact ⟨by simpa using h7.1, by simpa using h7.2⟩

theorem nextC_none {seen : Array Nat} {since : Nat} {es : Array MapEntry} (h : none ∈ nextC seen since es) :
    (es.filter fun e => !seen.contains e.born && decide (e.born < since)).isEmpty = true := by
  have hold : (es.filter fun e => !seen.contains e.born).filter (·.born < since) = es.filter fun e => !seen.contains e.born && decide (e.born < since) := by
    rw [Array.filter_filter]
    congr 1
    funext e
    exact Bool.and_comm _ _
  unfold nextC at h
  rw [hold] at h
  cases ho : (es.filter fun e => !seen.contains e.born && decide (e.born < since)).isEmpty with
  | true => rfl
  | false => rw [ho] at h; simp at h

theorem next_run {m r since last clock : Nat} {s : Option Nat} {seen : Array Nat} {es : Array MapEntry} (ty : TypeId) (w : World) (h1 : w.heap[r]? = some (.mapIter (some m) since seen last))
    (h2 : w.heap[m]? = some (.map es clock)) (h3 : (!seen.isEmpty && !es.isEmpty && es.all (·.born ≥ last)) = false) :
    (Instr.next (.pointer (some ⟨r, 0, s⟩)) false ty).run P w = ((choose (.mapNext (nextC seen since es).size)).run P w).andThen fun k w' => (match (nextC seen since es)[k]? with
      | some (some e) => (do setObj r (.mapIter (some m) since (seen.push e.born) clock); pure (.tuple #[.bool true, e.key, e.val]) : Sem Value)
      | some none => (pure (.tuple #[.bool false]) : Sem Value)
      | none => stuck "Next: no such candidate").run P w' := by
  simp only [Instr.next, Sem.run_bind, getObj, Sem.run, h1, h2, Result.andThen_ok, h3, Bool.false_eq_true, if_false]
  rfl

theorem nextQ_sound {H : Heap} {r : Nat} {s : Option Nat} {K : Value → Heap → Prop} (h : nextQ H r (fun H' => K (.tuple #[.bool false]) H') fun e H' => K (.tuple #[.bool true, e.key, e.val]) H') (ty : TypeId) (w : World) (hw : w.heap = H) :
    ∃ v w', (Instr.next (.pointer (some ⟨r, 0, s⟩)) false ty).run P w = .ok v w' ∧ w'.os = w.os ∧ Out w w' ∧ K v w'.heap := by
  subst hw
  rcases h with ⟨since, seen, last, h1, hK⟩ | ⟨m, since, seen, last, es, clock, h1, h2, h3, hover, hnext⟩
  · exact ⟨_, w, by simp [Instr.next, getObj, Sem.run, h1], rfl, Out.refl w, hK⟩
  · have hch : ∃ k w', (choose (.mapNext (nextC seen since es).size)).run P w = .ok k w' ∧ k < (nextC seen since es).size ∧ w'.heap = w.heap ∧ w'.os = w.os ∧ Out w w' := by
      rw [run_choose]
      split
      · exact ⟨0, w, rfl, nextC_pos _ _ _, rfl, rfl, Out.refl w⟩
      · exact ⟨_, _, rfl, Nat.mod_lt _ (nextC_pos _ _ _), rfl, rfl, Out.of rfl (fun _ => rfl)⟩
    obtain ⟨k, w', hk, hlt, hh, hos, hout⟩ := hch
    rw [next_run ty w h1 h2 h3, hk, Result.andThen_ok, Array.getElem?_eq_getElem hlt]
    cases hc : (nextC seen since es)[k] with
    | none =>
      refine ⟨_, w', rfl, hos, hout, ?_⟩
      rw [hh]
      exact hover (nextC_none (hc ▸ Array.getElem_mem hlt))
    | some e =>
      obtain ⟨he1, he2⟩ := nextC_some (hc ▸ Array.getElem_mem hlt)
      refine ⟨.tuple #[.bool true, e.key, e.val], { w' with heap := w'.heap.setIfInBounds r (.mapIter (some m) since (seen.push e.born) clock) }, ?_, hos, hout.trans (Out.set (x := .mapIter (some m) since seen last) (by rw [hh]; exact h1) rfl), ?_⟩
      rotate_left
      · simp only [hh]; exact hnext e he1 he2
      · simp [setObj, Sem.run, hh, h1]

end Go.Sh
