/-
  OWN WORK. The shallow layer, part 3b: '==' on arrays of numbers.
-/
import Derived.Test.YtmappfblfoklfaaShQs
set_option linter.unusedVariables false
set_option linter.unusedSimpArgs false
namespace Go.Sh
variable {P : Program}

theorem part_intA {t : TypeId} {q : IntKind} (hd : P.underlying t = some (.int q)) {cs : Array Value} {j : Nat} {v : Value} (h : cs[j]? = some v) (w : World) :
    (part t cs j).run P w = .ok v w := by
  simp [part, isAgg, underlying, hd, h]

theorem equalIn_arrN {t e : TypeId} {q : IntKind} {N : Nat} (hd : P.underlying t = some (.array N e)) (he : P.underlying e = some (.int q)) {i : TI} (hi : TIok P e i) (hs : i.size = 1)
    (n : Nat) (as bs : List Int) (ha : as.length = N) (hb : bs.length = N) (w : World) :
    (Op.equalIn (n + 2) t (.agg (as.map (Value.int q)).toArray) (.agg (bs.map (Value.int q)).toArray)).run P w = .ok (decide (as = bs)) w := by
  have h1 : ∀ x y : Int, ∀ w : World, (Op.equalIn (n + 1) e (.int q x) (.int q y)).run P w = .ok (x == y) w := fun x y w => by
    rw [Op.equalIn]; simp [underlying, he]
  rw [Op.equalIn]
  simp [underlying, hd, hi.sizeOf, hs]
  have loop : ∀ m s, s + m = N → (Sem.run P (forIn (List.range' s m) ((none : Option Bool), ()) fun i __s => do
            let __do_lift ← part e (List.map (Value.int q) as).toArray i
            let __do_lift_1 ← part e (List.map (Value.int q) bs).toArray i
            let __do_lift ← Op.equalIn (n + 1) e __do_lift __do_lift_1
            if __do_lift = false then pure (ForInStep.done (some false, ())) else pure (ForInStep.yield (none, ()))) w) = .ok (if as.drop s = bs.drop s then none else some false, ()) w := by
    intro m
    induction m with
    | zero =>
      intro s hs
      rw [List.drop_eq_nil_of_le (by omega), List.drop_eq_nil_of_le (by omega)]
      simp
    | succ m ih =>
      intro s hs
      have hsa : s < as.length := by omega
      have hsb : s < bs.length := by omega
      have p1 : ∀ w, (part e (List.map (Value.int q) as).toArray s).run P w = .ok (.int q as[s]) w := fun w => part_intA he (by simp [hsa]) w
      have p2 : ∀ w, (part e (List.map (Value.int q) bs).toArray s).run P w = .ok (.int q bs[s]) w := fun w => part_intA he (by simp [hsb]) w
      rw [List.range'_succ, List.forIn_cons, List.drop_eq_getElem_cons hsa, List.drop_eq_getElem_cons hsb]
      simp only [Sem.run_bind, p1, p2, h1, Result.andThen_ok]
      by_cases hab : as[s] = bs[s]
      · simp only [hab, beq_self_eq_true, Bool.true_eq_false, if_false, Sem.run_pure, Result.andThen_ok, List.cons.injEq, true_and]
        exact ih (s + 1) (by omega)
      · have e1 : (as[s] == bs[s]) = false := by simpa using hab
        simp only [e1, if_true, Sem.run_pure, Result.andThen_ok, List.cons.injEq, hab, false_and, if_false]
  rw [loop N 0 (by omega)]
  by_cases hab : as = bs <;> simp [hab]

theorem eqGuardIn_arrN {t e : TypeId} {q : IntKind} {N : Nat} (hd : P.underlying t = some (.array N e)) (he : P.underlying e = some (.int q)) {i : TI} (hi : TIok P e i) (hs : i.size = 1)
    (n : Nat) (as bs : List Int) (ha : as.length = N) (hb : bs.length = N) (w : World) :
    (Op.eqGuardIn (n + 2) t (.agg (as.map (Value.int q)).toArray) (.agg (bs.map (Value.int q)).toArray)).run P w = .ok false w := by
  have h1 : ∀ x y : Int, ∀ w : World, (Op.eqGuardIn (n + 1) e (.int q x) (.int q y)).run P w = .ok false w := fun x y w => by
    rw [Op.eqGuardIn]; simp [underlying, he]
  rw [Op.eqGuardIn]
  simp [underlying, hd, hi.sizeOf, hs]
  have loop : ∀ m s, s + m = N → (Sem.run P (forIn (List.range' s m) ((none : Option Bool), ()) fun i __s => do
            let __do_lift ← part e (List.map (Value.int q) as).toArray i
            let __do_lift_1 ← part e (List.map (Value.int q) bs).toArray i
            let __do_lift ← Op.eqGuardIn (n + 1) e __do_lift __do_lift_1
            if __do_lift = true then pure (ForInStep.done (some true, ())) else pure (ForInStep.yield (none, ()))) w) = .ok (none, ()) w := by
    intro m
    induction m with
    | zero => intro s hs; simp
    | succ m ih =>
      intro s hs
      have hsa : s < as.length := by omega
      have hsb : s < bs.length := by omega
      have p1 : ∀ w, (part e (List.map (Value.int q) as).toArray s).run P w = .ok (.int q as[s]) w := fun w => part_intA he (by simp [hsa]) w
      have p2 : ∀ w, (part e (List.map (Value.int q) bs).toArray s).run P w = .ok (.int q bs[s]) w := fun w => part_intA he (by simp [hsb]) w
      rw [List.range'_succ, List.forIn_cons]
      simp only [Sem.run_bind, p1, p2, h1, Result.andThen_ok, Bool.false_eq_true, if_false, Sem.run_pure]
      exact ih (s + 1) (by omega)
  rw [loop N 0 (by omega)]
  simp

theorem eqA_sound {t el : TypeId} {n : Nat} {i j : TI} (hT : TIok P t i) (hd : i.d = .arr n el) (hE : TIok P el j) {x y : Value} {f : Bool → Prop} (h : eqA n j.d j.size x y f) :
    ∃ b, f b ∧ (∀ (op : BinOp) (ox oy : Operand) (w : World), (eqGuard op t ox oy x y).run P w = .ok () w) ∧ (∀ w, (binOp .eql t x y).run P w = .ok (.bool b) w) ∧ (∀ w, (binOp .neq t x y).run P w = .ok (.bool !b) w) := by
  obtain ⟨d, hd1, hd2⟩ := hT.und
  obtain ⟨d', hd3, hd4⟩ := hE.und
  unfold eqA at h
  split at h
  · rename_i k xs ys hk
    rw [hk] at hd4
    rw [hd] at hd2
    cases d <;> simp [D.of] at hd2
    cases d' <;> simp [D.of] at hd4
    obtain ⟨rfl, rfl⟩ := hd2
    rw [hd4] at hd3
    obtain ⟨hs, as, bs, ha, hb, rfl, rfl, hf⟩ := h
    have h1 : ∀ w : World, (Op.equal t (.agg (as.map (Value.int k)).toArray) (.agg (bs.map (Value.int k)).toArray)).run P w = .ok (decide (as = bs)) w := fun w => equalIn_arrN hd1 hd3 hE hs 9998 as bs ha hb w
    have h2 : ∀ w : World, (Op.eqGuardIn Op.maxDepth t (.agg (as.map (Value.int k)).toArray) (.agg (bs.map (Value.int k)).toArray)).run P w = .ok false w := fun w => eqGuardIn_arrN hd1 hd3 hE hs 9998 as bs ha hb w
    refine ⟨_, hf, fun op ox oy w => ?_, fun w => ?_, fun w => ?_⟩
    · unfold eqGuard
      split <;> simp
      all_goals (intro _; rw [h2 w]; rfl)
    · show (do pure (Value.bool (← Op.equal t _ _))).run P w = _
      simp [h1]
    · show (do pure (Value.bool (!(← Op.equal t _ _)))).run P w = _
      simp [h1]
  · exact h.elim

end Go.Sh
