/-
  OWN WORK. The shallow layer, part 5: keys of maps.
-/
import Derived.Test.YtmappfblfoklfaaShQt
namespace Go.Sh

variable {P : Program}

/-- Two keys are alike: numbers, texts, bools, pairs of numbers. -/
def kEq : Value → Value → Bool
  | .int k a, .int k' b => decide (k = k') && a == b
  | .bool a, .bool b => a == b
  | .string a, .string b => a == b
  | .agg x, .agg y => match x.toList, y.toList with
    | [.int k a, .int k' b], [.int l c, .int l' d] => decide (k = l) && a == c && (decide (k' = l') && b == d)
    | _, _ => false
  | _, _ => false

/-- A key's form. 'de': what the elements of an array are. -/
def kForm (d : D) (de : D) (v : Value) : Prop :=
  match d with
  | .int k => ∃ n, v = .int k n
  | .str => ∃ s, v = .string s
  | .bool => ∃ b, v = .bool b
  | .arr m _ => m = 2 ∧ match de with
    | .int k => ∃ a b, v = .agg #[.int k a, .int k b]
    | _ => False
  | _ => False

def findE (k : Value) : List MapEntry → Nat → Option (Nat × Value)
  | [], _ => none
  | e :: es, i => if kEq k e.key then some (i, e.val) else findE k es (i + 1)

theorem checkKey_int {t : TypeId} {q : IntKind} (hd : P.underlying t = some (.int q)) (b : Bool) (n : Nat) (v : Value) (w : World) :
    (Instr.checkKey b (n + 1) t v).run P w = .ok () w := by
  rw [Instr.checkKey]; simp [underlying, hd]
theorem checkKey_str {t : TypeId} (hd : P.underlying t = some .string) (b : Bool) (n : Nat) (v : Value) (w : World) :
    (Instr.checkKey b (n + 1) t v).run P w = .ok () w := by
  rw [Instr.checkKey]; simp [underlying, hd]
theorem checkKey_bool {t : TypeId} (hd : P.underlying t = some .bool) (b : Bool) (n : Nat) (v : Value) (w : World) :
    (Instr.checkKey b (n + 1) t v).run P w = .ok () w := by
  rw [Instr.checkKey]; simp [underlying, hd]

theorem part_int {t : TypeId} {q : IntKind} (hd : P.underlying t = some (.int q)) {cs : Array Value} {j : Nat} {v : Value} (h : cs[j]? = some v) (w : World) :
    (part t cs j).run P w = .ok v w := by
  simp [part, isAgg, underlying, hd, h]

theorem checkKey_arr {t e : TypeId} {q : IntKind} (hd : P.underlying t = some (.array 2 e)) (he : P.underlying e = some (.int q)) {i : TI} (hi : TIok P e i) (hs : i.size = 1)
    (b : Bool) (n : Nat) (x y : Value) (w : World) :
    (Instr.checkKey b (n + 2) t (.agg #[x, y])).run P w = .ok () w := by
  rw [Instr.checkKey]
  simp [underlying, hd, List.range'_succ, hi.sizeOf, hs, part_int he (cs := #[x, y]) (j := 0) rfl, part_int he (cs := #[x, y]) (j := 1) rfl, checkKey_int he]

theorem run_checkKey {t : TypeId} {i : TI} (hT : TIok P t i) {j : TI} (hE : ∀ m el, i.d = .arr m el → TIok P el j ∧ j.size = 1) {v : Value} (hv : kForm i.d j.d v) (b : Bool) (w : World) :
    (Instr.checkKey b 10000 t v).run P w = .ok () w := by
  obtain ⟨d, hd, hde⟩ := hT.und
  show (Instr.checkKey b (9998 + 2) t v).run P w = .ok () w
  unfold kForm at hv
  split at hv
  · rename_i k hk
    rw [hk] at hde
    cases d <;> simp [D.of] at hde
    exact checkKey_int hd _ _ _ _
  · rename_i hk
    rw [hk] at hde
    cases d <;> simp [D.of] at hde
    exact checkKey_str hd _ _ _ _
  · rename_i hk
    rw [hk] at hde
    cases d <;> simp [D.of] at hde
    exact checkKey_bool hd _ _ _ _
  · rename_i m el hk
    obtain ⟨hel, hs⟩ := hE _ _ hk
    obtain ⟨d2, hd2, hde2⟩ := hel.und
    rw [hk] at hde
    cases d <;> simp [D.of] at hde
    obtain ⟨rfl, rfl⟩ := hde
    obtain ⟨rfl, hv⟩ := hv
    split at hv
    · rename_i q hq
      rw [hq] at hde2
      cases d2 <;> simp [D.of] at hde2
      obtain ⟨x, y, rfl⟩ := hv
      exact checkKey_arr hd hd2 hel hs _ _ _ _ _
    · exact hv.elim
  · exact hv.elim

theorem equalIn_arr {t e : TypeId} {q : IntKind} (hd : P.underlying t = some (.array 2 e)) (he : P.underlying e = some (.int q)) {i : TI} (hi : TIok P e i) (hs : i.size = 1)
    (n : Nat) (a b c d : Int) (w : World) :
    (Op.equalIn (n + 2) t (.agg #[.int q a, .int q b]) (.agg #[.int q c, .int q d])).run P w = .ok (a == c && b == d) w := by
  have h1 : ∀ x y : Int, ∀ w : World, (Op.equalIn (n + 1) e (.int q x) (.int q y)).run P w = .ok (x == y) w := fun x y w => by
    rw [Op.equalIn]; simp [underlying, he]
  rw [Op.equalIn]
  simp [underlying, hd, List.range'_succ, hi.sizeOf, hs, part_int he (cs := #[Value.int q a, Value.int q b]) (j := 0) rfl, part_int he (cs := #[Value.int q a, Value.int q b]) (j := 1) rfl,
    part_int he (cs := #[Value.int q c, Value.int q d]) (j := 0) rfl, part_int he (cs := #[Value.int q c, Value.int q d]) (j := 1) rfl, h1]
  by_cases h : a = c <;> by_cases h' : b = d <;> simp [h, h']

theorem findAsking_sound {t : TypeId} {k : Value} {es : List MapEntry} (h : ∀ e ∈ es, ∀ w : World, (Op.equal t k e.key).run P w = .ok (kEq k e.key) w) :
    ∀ (i : Nat) (w : World), (Instr.findAsking t k es i).run P w = .ok (findE k es i) w := by
  induction es with
  | nil => intro i w; rfl
  | cons e es ih =>
    intro i w
    rw [Instr.findAsking]
    simp only [Sem.run_bind, h e List.mem_cons_self, Result.andThen_ok]
    cases hk : kEq k e.key
    · simp only [Bool.false_eq_true, if_false, findE, hk]
      exact ih (fun e' he => h e' (List.mem_cons_of_mem _ he)) _ _
    · simp [findE, hk]

theorem findNow_sound {kd : TypeDesc} {k : Value} : ∀ {es : List MapEntry}, (∀ e ∈ es, Instr.sameNow kd k e.key = some (kEq k e.key)) → ∀ i, Instr.findNow kd k es i = some (findE k es i)
  | [], _, _ => rfl
  | e :: es, h, i => by
    rw [Instr.findNow, h e List.mem_cons_self]
    cases hk : kEq k e.key
    · simp only [findE, hk]
      exact findNow_sound (fun e' he => h e' (List.mem_cons_of_mem _ he)) _
    · simp [findE, hk]

theorem run_findKey' {t : TypeId} {i : TI} (hT : TIok P t i) {j : TI} (hE : ∀ m el, i.d = .arr m el → TIok P el j ∧ j.size = 1) {k : Value} (hk : kForm i.d j.d k)
    {es : List MapEntry} (hes : ∀ e ∈ es, kForm i.d j.d e.key) (w : World) : (Instr.findKey t k es).run P w = .ok (findE k es 0) w := by
  obtain ⟨d, hd, hde⟩ := hT.und
  unfold kForm at hk hes
  unfold Instr.findKey
  cases hid : i.d <;> rw [hid] at hk hes hde <;> simp only [] at hk hes
  case int q0 =>
    cases d <;> simp [D.of] at hde
    rename_i q
    subst hde
    obtain ⟨n, rfl⟩ := hk
    have := findNow_sound (kd := .int q) (k := .int q n) (es := es) (fun e he => by
      obtain ⟨m, hm⟩ := hes e he
      rw [hm]; simp [Instr.sameNow, kEq]) 0
    simp [underlying, hd, this]
  case str =>
    cases d <;> simp [D.of] at hde
    obtain ⟨n, rfl⟩ := hk
    have := findNow_sound (kd := .string) (k := .string n) (es := es) (fun e he => by
      obtain ⟨m, hm⟩ := hes e he
      rw [hm]; simp [Instr.sameNow, kEq]) 0
    simp [underlying, hd, this]
  case bool =>
    cases d <;> simp [D.of] at hde
    obtain ⟨n, rfl⟩ := hk
    have := findNow_sound (kd := .bool) (k := .bool n) (es := es) (fun e he => by
      obtain ⟨m, hm⟩ := hes e he
      rw [hm]; simp [Instr.sameNow, kEq]) 0
    simp [underlying, hd, this]
  case arr m el =>
    obtain ⟨hel, hs⟩ := hE _ _ hid
    obtain ⟨d2, hd2, hde2⟩ := hel.und
    cases d <;> simp [D.of] at hde
    obtain ⟨rfl, rfl⟩ := hde
    obtain ⟨rfl, hk⟩ := hk
    cases hjd : j.d <;> rw [hjd] at hk hes hde2 <;> simp only [] at hk hes
    all_goals first | exact hk.elim | skip
    cases d2 <;> simp [D.of] at hde2
    rename_i q
    subst hde2
    obtain ⟨x, y, rfl⟩ := hk
    have hask := findAsking_sound (P := P) (t := t) (k := .agg #[.int q x, .int q y]) (es := es) (fun e he w => by
      obtain ⟨_, u, v, huv⟩ := hes e he
      rw [huv, equal_eq]
      rw [equalIn_arr hd hd2 hel hs 9998]
      simp [kEq]) 0 w
    cases es with
    | nil => simp [underlying, hd, Instr.findNow, findE]
    | cons e es =>
      simp only [Sem.run_bind, underlying, run_program, Result.andThen_ok, hd, Sem.run_pure, Instr.findNow, Instr.sameNow]
      exact hask
  all_goals exact hk.elim

end Go.Sh
