/-
  OWN WORK. The shallow layer, part 16: blocks of numbers (Go's arrays), filled one by one; sums.
-/
import Derived.Test.YtmappfblfoklfaaShT
set_option linter.unusedVariables false
set_option linter.unusedSimpArgs false
namespace Go.Sh
variable {H0 H : Heap} {σ : List Rs}

theorem zeroA (n : Nat) : Array.replicate n (Value.int .i64 0) = (ints (List.replicate n 0)).toArray := by simp [ints]
theorem intsA_size (l : List Int) : (ints l).toArray.size = l.length := by simp [ints]

theorem oneV {v : Value} (h : v.oneCell' = true) : ∀ u ∈ [v], u.oneCell' = true := fun u hu => by rw [List.mem_singleton.1 hu]; exact h
/-- A number of an array is read. -/
theorem St.rdA (hs : St H0 H σ) (i : Nat) {b j : Nat} {l : List Int} {ty : TypeId} {x : Int} (hi : σ[i]? = some (.cell b (ints l).toArray ty)) (hx : l[j]? = some x) : Sh.cell H ⟨b, j, none⟩ = some (.int .i64 x) :=
  hs.get i hi (by rw [List.getElem?_toArray]; exact ints_get hx)
/-- A number of an array is written. -/
theorem St.putA (hs : St H0 H σ) (i : Nat) {b j : Nat} {l : List Int} {ty : TypeId} {x : Int} {f : Heap → Prop} (hi : σ[i]? = some (.cell b (ints l).toArray ty)) (hj : j < l.length)
    (hK : ∀ H', St H0 H' (σ.set i (.cell b (ints (l.set j x)).toArray ty)) → f H') : stAt H ⟨b, j, none⟩ [.int .i64 x] f :=
  hs.put i hi (by rw [intsA_size]; exact hj) rfl fun H' hs' => hK H' (by
    have e : (ints l).toArray.setIfInBounds j (Value.int .i64 x) = (ints (l.set j x)).toArray := by rw [← ints_set]; simp
    rw [← e]; exact hs')
/-- An array is written whole. -/
theorem St.putAllA (hs : St H0 H σ) (i : Nat) {b : Nat} {cs : Array Value} {l : List Int} {ty : TypeId} {f : Heap → Prop} (hi : σ[i]? = some (.cell b cs ty)) (hl : l.length = cs.size)
    (hK : ∀ H', St H0 H' (σ.set i (.cell b (ints l).toArray ty)) → f H') : stAt H ⟨b, 0, none⟩ (Array.toList (ints l).toArray) f :=
  hs.putAll i hi (by simpa [ints] using hl) (fun v hv => ints_one l v (by simpa using hv)) fun H' hs' => hK H' (by simpa using hs')

theorem reps_rep (v : Value) : ∀ n, reps n [v] = List.replicate n v
  | 0 => rfl
  | n + 1 => by rw [reps, reps_rep v n, List.replicate_succ]; rfl
theorem repsA (n : Nat) : (reps n (Array.toList #[Value.int .i64 0])).toArray = (ints (List.replicate n 0)).toArray := by
  show (reps n [Value.int .i64 0]).toArray = _
  rw [reps_rep]; simp [ints]
/-- A block of numbers is read as a slice. -/
theorem St.isA (hs : St H0 H σ) (i : Nat) {b n : Nat} {l : List Int} {ty : TypeId} (hi : σ[i]? = some (.cell b (ints l).toArray ty)) (hn : l.length = n) : IS H (some ⟨b, 0, none⟩) n (ints l) :=
  ⟨by rw [ints_len]; exact hn, fun j v hv => ⟨_, rfl, by rw [add_none, Nat.zero_add]; exact hs.get i hi (by rw [List.getElem?_toArray]; exact hv)⟩⟩
/-- Some numbers of an array are read. -/
theorem St.rowA (hs : St H0 H σ) (i : Nat) {b j n : Nat} {l xs : List Int} {ty : TypeId} (hi : σ[i]? = some (.cell b (ints l).toArray ty)) (hx : xs = (l.drop j).take n) (hn : j + n ≤ l.length) : rowOf H (some ⟨b, j, none⟩) n (ints xs).toArray := by
  subst hx
  refine ⟨by rw [intsA_size]; simp; omega, fun k v hv => ?_⟩
  rw [add_none]
  rw [List.getElem?_toArray] at hv
  have hk := (List.getElem?_eq_some_iff.1 hv).1
  rw [ints_len, List.length_take, List.length_drop] at hk
  refine hs.get i hi ?_
  rw [List.getElem?_toArray]
  simp only [ints, List.getElem?_map] at hv ⊢
  rw [List.getElem?_take_of_lt (by omega), List.getElem?_drop] at hv
  exact hv
/-- Some numbers of an array are written. -/
theorem St.putRowA (hs : St H0 H σ) (i : Nat) {b j : Nat} {l xs : List Int} {ty : TypeId} {f : Heap → Prop} (hi : σ[i]? = some (.cell b (ints l).toArray ty)) (hj : j + xs.length ≤ l.length)
    (hK : ∀ H', St H0 H' (σ.set i (.cell b (ints (l.take j ++ xs ++ l.drop (j + xs.length))).toArray ty)) → f H') : stAt H ⟨b, j, none⟩ (Array.toList (ints xs).toArray) f :=
  hs.putRow i hi (by rw [intsA_size]; simp only [ints_len]; exact hj) (fun v hv => ints_one xs v (by simpa using hv)) fun H' hs' => hK H' (by
    have e : setL (ints l).toArray.toList j (Array.toList (ints xs).toArray) = ints (l.take j ++ xs ++ l.drop (j + xs.length)) := by simp [setL, ints]
    rw [e] at hs'; exact hs')

/-! ### lists that are filled -/

theorem gDl {α : Type} (a b : List α) (d : α) (i : Nat) (h : i < a.length) : (a ++ b).getD i d = a.getD i d := by simp [List.getD_eq_getElem?_getD, List.getElem?_append_left h]
theorem getD_some {α : Type} (a : List α) (d : α) {i : Nat} (h : i < a.length) : a[i]? = some (a.getD i d) := by rw [List.getD_eq_getElem?_getD, List.getElem?_eq_getElem h]; rfl
/-- Filled up to s. -/
def fillA (L : List Int) (s : Nat) : List Int := L.take s ++ List.replicate (L.length - s) 0
theorem fillA_len {L : List Int} {s : Nat} (h : s ≤ L.length) : (fillA L s).length = L.length := by unfold fillA; simp; omega
theorem fillA_zero (L : List Int) : fillA L 0 = List.replicate L.length 0 := by simp [fillA]
theorem fillA_all (L : List Int) : fillA L L.length = L := by simp [fillA]
theorem fillA_set {L : List Int} {s : Nat} (h : s < L.length) : (fillA L s).set s (L.getD s 0) = fillA L (s + 1) := by
  unfold fillA
  have ht : L.take (s + 1) = L.take s ++ [L.getD s 0] := by rw [List.take_add_one, getD_some L 0 h]; rfl
  rw [ht, List.set_append_right _ _ (by rw [List.length_take]; omega), List.length_take, Nat.min_eq_left (by omega), Nat.sub_self, show L.length - s = (L.length - (s + 1)) + 1 from by omega, List.replicate_succ, List.set_cons_zero, List.append_assoc]
  rfl
theorem fillA_at {L : List Int} {s : Nat} (h : s < L.length) : (fillA L s)[s]? = some 0 := by
  unfold fillA
  rw [List.getElem?_append_right (by rw [List.length_take]; omega), List.length_take, Nat.min_eq_left (by omega), Nat.sub_self, show L.length - s = (L.length - (s + 1)) + 1 from by omega, List.replicate_succ]
  rfl
theorem fillA_set0 {L : List Int} {s : Nat} (h : s < L.length) : (fillA L s).set s 0 = fillA L s := by
  have h1 := fillA_at h
  obtain ⟨h2, h3⟩ := List.getElem?_eq_some_iff.1 h1
  rw [← h3, List.set_getElem_self]
theorem tab_getD {n : Nat} {f : Nat → Int} {i : Nat} (h : i < n) : ((List.range n).map f).getD i 0 = f i := by simp [List.getD_eq_getElem?_getD, h]
theorem tab_get {n : Nat} {f : Nat → Int} {i : Nat} (h : i < n) : ((List.range n).map f)[i]? = some (f i) := by simp [h]
theorem tab_len (n : Nat) (f : Nat → Int) : ((List.range n).map f).length = n := by simp

/-! ### sums -/

def sumN : Nat → (Nat → Int) → Int
  | 0, _ => 0
  | n + 1, f => sumN n f + f n
theorem sumN_bd {f : Nat → Int} {B : Int} (n : Nat) (h : ∀ i, i < n → -B ≤ f i ∧ f i ≤ B) : -((n : Int) * B) ≤ sumN n f ∧ sumN n f ≤ (n : Int) * B := by
  induction n with
  | zero => simp [sumN]
  | succ n ih =>
    have h1 := ih fun i hi => h i (by omega)
    have h2 := h n (by omega)
    rw [sumN, show ((n + 1 : Nat) : Int) * B = (n : Int) * B + B from by rw [Int.natCast_add, Int.add_mul]; simp]
    omega
theorem mul_bd {x y A B : Int} (hx : -A ≤ x ∧ x ≤ A) (hy : -B ≤ y ∧ y ≤ B) : -(A * B) ≤ x * y ∧ x * y ≤ A * B := by
  have h1 : x.natAbs ≤ A.toNat := by omega
  have h2 : y.natAbs ≤ B.toNat := by omega
  have h3 := Nat.mul_le_mul h1 h2
  rw [← Int.natAbs_mul] at h3
  have h4 : ((A.toNat * B.toNat : Nat) : Int) = A * B := by
    rw [Int.natCast_mul, Int.toNat_of_nonneg (by omega), Int.toNat_of_nonneg (by omega)]
  omega
theorem sumN_mul (n : Nat) (f : Nat → Int) (c : Int) : sumN n f * c = sumN n fun i => f i * c := by
  induction n with
  | zero => simp [sumN]
  | succ n ih => rw [sumN, sumN, Int.add_mul, ih]
theorem sumN_congr {n : Nat} {f g : Nat → Int} (h : ∀ i, i < n → f i = g i) : sumN n f = sumN n g := by
  induction n with
  | zero => rfl
  | succ n ih => rw [sumN, sumN, ih fun i hi => h i (by omega), h n (by omega)]
theorem sumN_add (m n : Nat) (f : Nat → Int) : sumN (m + n) f = sumN m f + sumN n fun i => f (m + i) := by
  induction n with
  | zero => simp [sumN]
  | succ n ih => rw [← Nat.add_assoc, sumN, ih, sumN]; omega
theorem sumN_rows (k m : Nat) (f : Nat → Int) : sumN (k * m) f = sumN m fun y => sumN k fun x => f (k * y + x) := by
  induction m with
  | zero => rfl
  | succ m ih => rw [Nat.mul_succ, sumN_add, ih, sumN]

end Go.Sh
