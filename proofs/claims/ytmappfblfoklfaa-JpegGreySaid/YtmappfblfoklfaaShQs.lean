/-
  OWN WORK. The shallow layer, part 3: what 'vcQ' says is what is carried out.
-/
import Derived.Test.YtmappfblfoklfaaShQ
import Derived.Laws.Strings
namespace Go.Sh

variable {P : Program}

theorem wv_get {e : Env} {x : Operand} {f : Value → Prop} (h : wv e x f) : ∃ v, ev e x = some v ∧ f v := by
  unfold wv at h
  split at h
  · exact ⟨_, by assumption, h⟩
  · exact h.elim

theorem withT_get {T : Tab} {t : TypeId} {f : TI → Prop} (h : withT T t f) : ∃ i, ti T t = some i ∧ f i := by
  unfold withT at h
  split at h
  · exact ⟨_, by assumption, h⟩
  · exact h.elim

theorem TIok.und {t : TypeId} {i : TI} (h : TIok P t i) : ∃ d, P.underlying t = some d ∧ D.of d = i.d := by
  have := h.1
  cases hu : P.underlying t with
  | none => simp [hu] at this
  | some d => exact ⟨d, rfl, by simpa [hu] using this⟩

theorem TIok.inf {t : TypeId} {i : TI} (h : TIok P t i) : ∃ x, P.info? t = some x ∧ x.size = i.size ∧ x.bytes = i.bytes ∧ x.zero = some i.zero := by
  have := h.2
  cases hu : P.info? t with
  | none => simp [hu] at this
  | some x => exact ⟨x, rfl, by simpa [hu] using this⟩

theorem TIok.sizeOf {t : TypeId} {i : TI} (h : TIok P t i) (w : World) : (Go.sizeOf t).run P w = .ok i.size w := by
  obtain ⟨x, hx, hs, _, _⟩ := h.inf
  simp [Go.sizeOf, typeInfo, hx, hs]

theorem TIok.zeroValue {t : TypeId} {i : TI} (h : TIok P t i) (w : World) : (Go.zeroValue t).run P w = .ok i.zero w := by
  obtain ⟨x, hx, _, _, hz⟩ := h.inf
  simp [Go.zeroValue, typeInfo, hx, hz]

theorem TIok.isAgg {t : TypeId} {i : TI} (h : TIok P t i) (w : World) : (Go.isAgg t).run P w = .ok (isAggD i.d) w := by
  obtain ⟨d, hd, he⟩ := h.und
  rw [← he]
  cases d <;> simp [Go.isAgg, underlying, hd, D.of, isAggD]

theorem run_load_cell {w : World} {a : Addr} {v : Value} (h : w.cell? a = some v) : (load a).run P w = .ok v w := by
  simp [h]

theorem exT_get {i : TI} {f : Value → Prop} (h : exT i f) : ∃ v, f v := exT_val h

theorem loadVar_sc {t : TypeId} {i : TI} (h : TIok P t i) (hn : isAggD i.d = false) {w : World} {a : Addr} {v : Value} (hc : w.cell? a = some v) :
    (loadVar t a).run P w = .ok v w := by
  simp [loadVar, h.isAgg w, hn, hc]

theorem rowAt_ext {H H' : Heap} (h : Ext H H') {a : Addr} {cs : Array Value} (hr : rowIn H a cs) : rowIn H' a cs := fun j v hv => h.cell (hr j v hv)

theorem loadVar_agg {t : TypeId} {i : TI} (h : TIok P t i) (hn : isAggD i.d = true) {w : World} {a : Addr} {cs : Array Value} (hs : cs.size = i.size) (hc : rowIn w.heap a cs) :
    (loadVar t a).run P w = .ok (.agg cs) w := by
  have h1 := run_loadCells_list (P := P) w a cs.toList (fun j v hv => by
    rw [cell_eq]; exact hc j v (by simpa using hv))
  simp only [Array.length_toList, Array.toArray_toList] at h1
  simp [loadVar, h.isAgg w, hn, h.sizeOf w, ← hs, h1]

theorem ld_sound {t : TypeId} {i : TI} (h : TIok P t i) {H : Heap} {a : Addr} {f : Value → Prop} (hl : ld i H a f) :
    ∃ v, f v ∧ ∀ w : World, Ext H w.heap → (loadVar t a).run P w = .ok v w := by
  unfold ld at hl
  split at hl
  · rename_i hd
    obtain ⟨cs, hs, hr, hf⟩ := hl
    exact ⟨_, hf, fun w hw => loadVar_agg h (by simp [hd, isAggD]) hs (rowAt_ext hw hr)⟩
  · rename_i hd
    obtain ⟨cs, hs, hr, hf⟩ := hl
    exact ⟨_, hf, fun w hw => loadVar_agg h (by simp [hd, isAggD]) hs (rowAt_ext hw hr)⟩
  · rename_i h1 h2
    obtain ⟨v, hc, hf⟩ := exT_get hl
    refine ⟨v, hf, fun w hw => loadVar_sc h ?_ (hw.cell hc)⟩
    cases hd : i.d <;> simp [isAggD]
    · exact h1 _ _ hd
    · exact h2 _ hd

theorem partQ_sound {t : TypeId} {i : TI} (h : TIok P t i) {cs : Array Value} {off : Nat} {f : Value → Prop} (hl : partQ i cs off f) :
    ∃ v, f v ∧ ∀ w : World, (part t cs off).run P w = .ok v w := by
  unfold partQ at hl
  split at hl
  · rename_i hd
    exact ⟨_, hl, fun w => by simp [part, h.isAgg w, hd, isAggD, h.sizeOf w]⟩
  · rename_i hd
    exact ⟨_, hl, fun w => by simp [part, h.isAgg w, hd, isAggD, h.sizeOf w]⟩
  · rename_i h1 h2
    obtain ⟨v, hc, hf⟩ := exT_get hl
    have hn : isAggD i.d = false := by
      cases hd : i.d <;> simp [isAggD]
      · exact h1 _ _ hd
      · exact h2 _ hd
    exact ⟨v, hf, fun w => by simp [part, h.isAgg w, hn, hc]⟩

theorem binQ_sound {op : BinOp} {x y : Value} {f : Value → Prop} (t : TypeId) (h : binQ op x y f) :
    ∃ v, f v ∧ ∀ w : World, (binOp op t x y).run P w = .ok v w := by
  unfold binQ at h
  split at h
  case h_1 => exact ⟨_, h.2, fun w => by simp [binOp, Op.shift, Int.not_lt.2 h.1, shlI]⟩
  case h_2 => exact ⟨_, h.2, fun w => by simp [binOp, Op.shift, Int.not_lt.2 h.1, shrI]⟩
  case h_18 => exact h.elim
  all_goals
    split at h
    · rename_i hk
      have hk' := of_decide_eq_true hk
      subst hk'
      first
        | exact ⟨_, h, fun w => by simp [binOp, Op.intArith, Op.intBits, Op.intCmp, andI, orI, xorI, andNotI]⟩
        | exact ⟨_, h.2, fun w => by simp [binOp, Op.intDiv, h.1]⟩
    · exact h.elim

theorem eqGuard_int {op : BinOp} {t : TypeId} {x y : Operand} {k : IntKind} {n : Int} {b : Value} (w : World) : (eqGuard op t x y (.int k n) b).run P w = .ok () w := by
  unfold eqGuard
  split <;> simp

theorem unQ_sound {op : UnOp} {x : Value} {f : Value → Prop} (h : unQ op x f) : ∃ v, f v ∧ ∀ w : World, (Op.unary op x).run P w = .ok v w := by
  unfold unQ at h
  split at h
  · exact ⟨_, h, fun w => by simp [Op.unary, Op.intArith]⟩
  · exact ⟨_, h, fun w => by simp [Op.unary, Op.intBits, xorI]⟩
  · exact ⟨_, h, fun w => by simp [Op.unary]⟩
  · exact h.elim

theorem equal_eq (t : TypeId) (x y : Value) : Op.equal t x y = Op.equalIn (9999 + 1) t x y := rfl

theorem equalIn_ptr {t e : TypeId} (hd : P.underlying t = some (.pointer e)) (d : Nat) (p : Option Addr) (w : World) :
    (Op.equalIn (d + 1) t (.pointer p) (.pointer none)).run P w = .ok p.isNone w := by
  cases p <;> simp [Op.equalIn, underlying, hd]
theorem equalIn_map {t k e : TypeId} (hd : P.underlying t = some (.map k e)) (d : Nat) (p : Option Nat) (w : World) :
    (Op.equalIn (d + 1) t (.map p) (.map none)).run P w = .ok p.isNone w := by
  cases p <;> simp [Op.equalIn, underlying, hd]
theorem equalIn_sl {t e : TypeId} (hd : P.underlying t = some (.slice e)) (d : Nat) (p : Option Addr) (l c l' c' : Nat) (w : World) :
    (Op.equalIn (d + 1) t (.slice p l c) (.slice none l' c')).run P w = .ok p.isNone w := by
  cases p <;> simp [Op.equalIn, underlying, hd]
theorem equalIn_bool {t : TypeId} (hd : P.underlying t = some .bool) (d : Nat) (a b : Bool) (w : World) :
    (Op.equalIn (d + 1) t (.bool a) (.bool b)).run P w = .ok (a == b) w := by
  simp [Op.equalIn, underlying, hd]

theorem toList_beq (a b : ByteArray) : (a.toList == b.toList) = (a == b) := by
  by_cases h : a = b
  · subst h
    have : (a == a) = true := by
      cases a with | mk x => exact (beq_self_eq_true x : (x == x) = true)
    simp [this]
  · have h1 : ¬ a.toList = b.toList := fun he => h (by
      rw [ByteArray.toList_eq, ByteArray.toList_eq] at he
      cases a; cases b; simp at he; subst he; rfl)
    have h2 : ¬ (a == b) = true := fun he => h (by
      cases a with | mk x => cases b with | mk y =>
      have : (x == y) = true := he
      rw [eq_of_beq this])
    rw [Bool.eq_iff_iff]
    simp only [beq_iff_eq]
    exact ⟨fun he => absurd he h1, fun he => absurd he h2⟩
theorem equalIn_str {t : TypeId} (hd : P.underlying t = some .string) (d : Nat) (a b : ByteArray) (w : World) :
    (Op.equalIn (d + 1) t (.string a) (.string b)).run P w = .ok (a == b) w := by
  simp [Op.equalIn, underlying, hd]

theorem eqQ_sound {t : TypeId} {i : TI} (hT : TIok P t i) {x y : Value} {f : Bool → Prop} (h : eqQ i.d x y f) :
    ∃ b, f b ∧ (∀ (op : BinOp) (ox oy : Operand) (w : World), (eqGuard op t ox oy x y).run P w = .ok () w) ∧ (∀ w : World, (Op.equal t x y).run P w = .ok b w) ∧
      (∀ w, (binOp .eql t x y).run P w = .ok (.bool b) w) ∧ (∀ w, (binOp .neq t x y).run P w = .ok (.bool !b) w) := by
  obtain ⟨d, hd, he⟩ := hT.und
  by_cases hstr : ∃ a b, i.d = .str ∧ x = .string a ∧ y = .string b
  · obtain ⟨a, b, hdd, rfl, rfl⟩ := hstr
    rw [hdd] at he h
    cases d <;> simp [D.of] at he
    exact ⟨_, h, fun op ox oy w => by (unfold eqGuard; split <;> simp), fun w => equalIn_str hd _ _ _ _, fun w => by simp [binOp, Op.stringOp, toList_beq], fun w => by simp [binOp, Op.stringOp, toList_beq]⟩
  have key : ∃ b, f b ∧ (∀ (op : BinOp) (ox oy : Operand) (w : World), (eqGuard op t ox oy x y).run P w = .ok () w) ∧ (∀ w : World, (Op.equal t x y).run P w = .ok b w) ∧
      (binOp .eql t x y = do pure (.bool (← Op.equal t x y))) ∧ (binOp .neq t x y = do pure (.bool (!(← Op.equal t x y)))) := by
    unfold eqQ at h
    split at h
    · rename_i e p hdd
      rw [hdd] at he
      cases d <;> simp [D.of] at he
      subst he
      refine ⟨_, h, fun op ox oy w => by (unfold eqGuard; split <;> simp), fun w => equalIn_ptr hd _ _ _, rfl, rfl⟩
    · rename_i k e p hdd
      rw [hdd] at he
      cases d <;> simp [D.of] at he
      refine ⟨_, h, fun op ox oy w => by (unfold eqGuard; split <;> simp), fun w => equalIn_map hd _ _ _, rfl, rfl⟩
    · rename_i e p l c l' c' hdd
      rw [hdd] at he
      cases d <;> simp [D.of] at he
      refine ⟨_, h, fun op ox oy w => by (unfold eqGuard; split <;> simp), fun w => equalIn_sl hd _ _ _ _ _ _ _, rfl, rfl⟩
    · rename_i a b hdd
      rw [hdd] at he
      cases d <;> simp [D.of] at he
      exact ⟨_, h, fun op ox oy w => by (unfold eqGuard; split <;> simp), fun w => equalIn_bool hd _ _ _ _, rfl, rfl⟩
    · rename_i a b hdd
      exact absurd ⟨a, b, hdd, rfl, rfl⟩ hstr
    · exact h.elim
  obtain ⟨b, hf, hg, hq, h1, h2⟩ := key
  exact ⟨b, hf, hg, hq, fun w => by rw [h1]; simp [hq], fun w => by rw [h2]; simp [hq]⟩

end Go.Sh
