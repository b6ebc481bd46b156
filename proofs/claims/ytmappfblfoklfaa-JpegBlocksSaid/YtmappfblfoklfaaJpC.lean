/-
  OWN WORK. A quality's steps over heaps, the program's and the document's.
-/
import Derived.Test.YtmappfblfoklfaaJpB
set_option linter.unusedVariables false
set_option linter.unusedSimpArgs false
namespace Go.Proofs
open Go.Sh
variable {H0 H : Heap} {σ : List Rs} {R : Value → Heap → Prop}

def T0 : List Int := [16, 11, 10, 16, 24, 40, 51, 61, 12, 12, 14, 19, 26, 58, 60, 55, 14, 13, 16, 24, 40, 57, 69, 56, 14, 17, 22, 29, 51, 87, 80, 62, 18, 22, 37, 56, 68, 109, 103, 77, 24, 35, 55, 64, 81, 104, 113, 92, 49, 64, 78, 87, 103, 121, 120, 101, 72, 92, 95, 98, 112, 100, 103, 99]
def corner : List Int := [17, 18, 24, 47, 18, 21, 26, 66, 24, 26, 56, 99, 47, 66, 99, 99]
def tbl (v : Nat) : List Int := (List.range 64).map fun i => if i % 8 < 4 ∧ i / 8 < v then corner.getD (i / 8 * 4 + i % 8) 0 else 99
def T (d : Bool) : List Int := if d then tbl 4 else T0
def facM (q : Int) : Int := if q < 50 then 5000 / q else 200 - 2 * q
def stepV (q : Int) (d : Bool) (i : Nat) : Int := min 255 (max 1 (((T d).getD i 0 * facM q + 50) / 100))
def stepsM (q : Int) (d : Bool) : List Int := (List.range 64).map (stepV q d)
theorem stepsM_len (q : Int) (d : Bool) : (stepsM q d).length = 64 := tab_len _ _
theorem stepV_rng (q : Int) (d : Bool) (i : Nat) : 1 ≤ stepV q d i ∧ stepV q d i ≤ 255 := by unfold stepV; omega
theorem T_len (d : Bool) : (T d).length = 64 := by cases d <;> rfl
theorem T_rng (d : Bool) (i : Nat) : 0 ≤ (T d).getD i 0 ∧ (T d).getD i 0 ≤ 121 := by
  by_cases h : i < 64
  · have h0 : ∀ i : Fin 64, 0 ≤ (T false).getD i.val 0 ∧ (T false).getD i.val 0 ≤ 121 := by decide +kernel
    have h1 : ∀ i : Fin 64, 0 ≤ (T true).getD i.val 0 ∧ (T true).getD i.val 0 ≤ 121 := by decide +kernel
    cases d
    · exact h0 ⟨i, h⟩
    · exact h1 ⟨i, h⟩
  · have := T_len d
    rw [List.getD_eq_getElem?_getD, List.getElem?_eq_none (by omega)]; decide
theorem fac_rng {q : Int} (h : 1 ≤ q ∧ q ≤ 100) : 0 ≤ facM q ∧ facM q ≤ 5000 := by
  unfold facM
  split
  · have := quo_bd (n := 5000) (t := q) (by omega) (by omega); omega
  · omega
theorem tf_rng {q : Int} (h : 1 ≤ q ∧ q ≤ 100) (d : Bool) (i : Nat) : 0 ≤ (T d).getD i 0 * facM q ∧ (T d).getD i 0 * facM q ≤ 605000 := by
  have h1 := T_rng d i
  have h2 := fac_rng h
  have := mul_bd (A := 121) (B := 5000) (x := (T d).getD i 0) (y := facM q) (by omega) (by omega)
  exact ⟨Int.mul_nonneg h1.1 h2.1, by omega⟩

theorem mul64 (hR : R (.tuple #[.int .u64 0, .int .u64 64]) H) : CallsH Try.prog 65 #[.int .u64 1, .int .u64 64] H R :=
  Try.s65 ⟨by decide, by decide, by decide, by decide, by decide, Eq.mp (by kernel_rfl) hR⟩

theorem rp_take {n : Nat} (h : n ≤ 32) : (((List.replicate n (99 : Int) ++ List.replicate (64 - n) 0).drop 0).take n) = List.replicate n 99 := by
  rw [List.drop_zero, List.take_append_of_le_length (by simp)]; simp
theorem rp_put {n : Nat} (h : n ≤ 32) : (List.replicate n (99 : Int) ++ List.replicate (64 - n) 0).take n ++ List.replicate n 99 ++ (List.replicate n (99 : Int) ++ List.replicate (64 - n) 0).drop (n + (List.replicate n (99 : Int)).length) = List.replicate (2 * n) 99 ++ List.replicate (64 - 2 * n) 0 := by
  rw [List.length_replicate, List.take_append_of_le_length (by simp), List.take_of_length_le (by simp), List.drop_append, List.drop_of_length_le (by simp), List.nil_append, List.length_replicate, List.drop_replicate, List.replicate_append_replicate]
  congr 2 <;> omega

theorem repeat99 {b2 : Nat} {ty : TypeId} (hb : H[b2]? = some (.cells #[Value.int .i64 99] ty)) (hR : ∀ b H', St H H' [.cell b (ints (List.replicate 64 99)).toArray 3] → R (.slice (some ⟨b, 0, none⟩) 64 64) H') :
    CallsH Try.prog 49 #[.slice (some ⟨b2, 0, none⟩) 1 1, .int .i64 (64 : Int)] H R := by
  refine Try.s49 ?_
  unfold Try.S49
  intro J hJ
  refine br_n (by decide) (hJ H (Try.s58 ?_))
  rw [show IntKind.wrap .u64 (((1 : Nat) : Nat) : Int) = 1 from by decide, show IntKind.wrap .u64 (64 : Int) = 64 from by decide]
  refine mul64 ⟨_, _, rfl, _, _, rfl, ?_⟩
  intro K hK
  refine br_n (by decide) (br_n (by decide) (hK H ?_))
  rw [show IntKind.wrap .i64 (64 : Int) = 64 from by decide, show Int.toNat (64 : Int) = 64 from rfl]
  refine ⟨by decide, by decide, by decide, by decide, (St.nil H).alc fun b H1 hs1 => ?_⟩
  rw [repsA] at hs1
  refine ⟨(ints [99]).toArray, ⟨rfl, rowIn_whole (hs1.ext _ _ hb)⟩, ?_⟩
  refine hs1.putRowA 0 rfl (by simp) fun H2 hs2 => ?_
  have hs2 : St H H2 [.cell b (ints (List.replicate 1 99 ++ List.replicate (64 - 1) 0)).toArray 3] := hs2
  intro X hX
  have step : ∀ n : Nat, 1 ≤ n → n ≤ 32 → (∀ H4, St H H4 [.cell b (ints (List.replicate (2 * n) 99 ++ List.replicate (64 - 2 * n) 0)).toArray 3] → X [.int .i64 ((2 * n : Nat) : Int)] H4) → ∀ H3, St H H3 [.cell b (ints (List.replicate n 99 ++ List.replicate (64 - n) 0)).toArray 3] → X [.int .i64 (n : Nat)] H3 := fun n h1 h32 nx H3 hs3 => by
    refine hX _ H3 (br_y (by omega) ⟨by omega, by omega, by omega, by omega, (ints (List.replicate n 99)).toArray, ?_, ?_⟩)
    · rw [if_neg (by decide)]
      show rowOf H3 (some (Addr.add ⟨b, 0, none⟩ (0 * 1))) _ _
      simp only [add_none, Int.toNat_natCast, Nat.mul_one, Nat.zero_add]
      rw [show min (n - 0) (64 - n) = n from by omega]
      exact hs3.rowA 0 rfl (rp_take h32).symm (by rw [List.length_append, List.length_replicate, List.length_replicate]; omega)
    · rw [Int.toNat_natCast, if_neg (by omega), show min (n - 0) (64 - n) = n from by omega, wrap_id (by omega) (by omega), show (n : Int) + (n : Nat) = ((2 * n : Nat) : Int) from by omega]
      show stAt H3 (Addr.add ⟨b, 0, none⟩ (n * 1)) _ _
      rw [add_none, Nat.zero_add, Nat.mul_one]
      refine hs3.putRowA 0 rfl (by simp; omega) fun H4 hs4 => nx H4 ?_
      rw [rp_put h32] at hs4
      exact hs4
  refine step 1 (by omega) (by omega) (step 2 (by omega) (by omega) (step 4 (by omega) (by omega) (step 8 (by omega) (by omega) (step 16 (by omega) (by omega) (step 32 (by omega) (by omega) fun H4 hs4 => ?_))))) H2 hs2
  exact hX _ H4 (br_n (by decide) (hR b H4 hs4))

theorem tbl_put : ∀ v : Nat, v < 4 → (tbl v).take (8 * v) ++ (corner.drop (4 * v)).take 4 ++ (tbl v).drop (8 * v + 4) = tbl (v + 1) := fun v hv => by
  obtain rfl | rfl | rfl | rfl : v = 0 ∨ v = 1 ∨ v = 2 ∨ v = 3 := by omega
  all_goals decide +kernel
theorem tbl_len (v : Nat) : (tbl v).length = 64 := tab_len _ _

theorem c29 {d : Bool} (hR : ∀ b H', St H H' [.cell b (ints (T d)).toArray 3] → R (.slice (some ⟨b, 0, none⟩) 64 64) H') : CallsH Try.prog 29 #[.bool d] H R := by
  refine Try.s29 (br_i (fun hd => ?_) (fun hd => ?_))
  · subst hd
    refine (St.nil H).alc fun b2 H1 hs1 => repeat99 (hs1.block 0 rfl) fun b H2 hs2 => ⟨_, _, _, rfl, ?_⟩
    refine (hs1.call hs2).alc fun b7 H3 hs3 => hs3.alc fun b9 H4 hs4 => hs4.alc fun b11 H5 hs5 => hs5.alc fun b13 H6 hs6 => hs6.alc fun b15 H7 hs7 => ?_
    clear hs1 hs2 hs3 hs4 hs5 hs6
    intro X hX
    -- a row is laid
    have step : ∀ (v : Nat) (bl : Nat) (i : Nat), v < 4 → (∀ H9, St H H9 [.cell b15 #[.slice (some ⟨b7, 0, none⟩) 4 4, .slice (some ⟨b9, 0, none⟩) 4 4, .slice (some ⟨b11, 0, none⟩) 4 4, .slice (some ⟨b13, 0, none⟩) 4 4] 46, .cell b13 (ints [47, 66, 99, 99]).toArray 3, .cell b11 (ints [24, 26, 56, 99]).toArray 3, .cell b9 (ints [18, 21, 26, 66]).toArray 3, .cell b7 (ints [17, 18, 24, 47]).toArray 3, .cell b (ints (tbl (v + 1))).toArray 3, .cell b2 #[Value.int .i64 99] 3] → X [.int .i64 ((v + 1 : Nat) : Int)] H9) →
        ∀ H8, St H H8 [.cell b15 #[.slice (some ⟨b7, 0, none⟩) 4 4, .slice (some ⟨b9, 0, none⟩) 4 4, .slice (some ⟨b11, 0, none⟩) 4 4, .slice (some ⟨b13, 0, none⟩) 4 4] 46, .cell b13 (ints [47, 66, 99, 99]).toArray 3, .cell b11 (ints [24, 26, 56, 99]).toArray 3, .cell b9 (ints [18, 21, 26, 66]).toArray 3, .cell b7 (ints [17, 18, 24, 47]).toArray 3, .cell b (ints (tbl v)).toArray 3, .cell b2 #[Value.int .i64 99] 3] →
        cell H8 ⟨b15, v, none⟩ = some (.slice (some ⟨bl, 0, none⟩) 4 4) → rowOf H8 (some ⟨bl, 0, none⟩) 4 (ints ((corner.drop (4 * v)).take 4)).toArray → X [.int .i64 (v : Nat)] H8 := fun v bl i hv nx H8 hs8 hc hro => by
      have w8 : IntKind.wrap .i64 ((8 : Int) * (v : Nat)) = ((8 * v : Nat) : Int) := by rw [wrap_id (by omega) (by omega)]; omega
      have htl := tbl_len v
      have hcl : ((corner.drop (4 * v)).take 4).length = 4 := by simp [corner]; omega
      refine hX _ H8 (br_y (by omega) ⟨_, rfl, by omega, by omega, some ⟨bl, 0, none⟩, 4, 4, ?_, ?_⟩)
      · rw [add_none, Nat.zero_add, Int.toNat_natCast, Nat.mul_one]; exact hc
      · rw [w8, w1 (by omega)]
        refine ⟨by omega, by omega, (ints ((corner.drop (4 * v)).take 4)).toArray, ?_, ?_⟩
        · rw [show min 4 (64 - Int.toNat ((8 * v : Nat) : Int)) * 1 = 4 from by omega]; exact hro
        · rw [Int.toNat_natCast, if_neg (by omega)]
          show stAt H8 (Addr.add ⟨b, 0, none⟩ (8 * v * 1)) _ _
          rw [add_none, Nat.zero_add, Nat.mul_one]
          refine hs8.putRowA 5 rfl (by omega) fun H9 hs9 => nx H9 ?_
          rw [hcl, tbl_put v hv] at hs9
          exact hs9
    have e0 : (ints (List.replicate 64 99)).toArray = (ints (tbl 0)).toArray := by rw [show (List.replicate 64 99 : List Int) = tbl 0 from by decide +kernel]
    have hs7 : St H H7 [.cell b15 #[.slice (some ⟨b7, 0, none⟩) 4 4, .slice (some ⟨b9, 0, none⟩) 4 4, .slice (some ⟨b11, 0, none⟩) 4 4, .slice (some ⟨b13, 0, none⟩) 4 4] 46, .cell b13 (ints [47, 66, 99, 99]).toArray 3, .cell b11 (ints [24, 26, 56, 99]).toArray 3, .cell b9 (ints [18, 21, 26, 66]).toArray 3, .cell b7 (ints [17, 18, 24, 47]).toArray 3, .cell b (ints (tbl 0)).toArray 3, .cell b2 #[Value.int .i64 99] 3] := by rw [← e0]; exact hs7
    refine step 0 b7 4 (by omega) (fun H8 hs8 => step 1 b9 3 (by omega) (fun H9 hs9 => step 2 b11 2 (by omega) (fun H10 hs10 => step 3 b13 1 (by omega) (fun H11 hs11 => ?_) H10 hs10 (hs10.get 0 rfl rfl) ⟨rfl, rowIn_whole (hs10.block 1 rfl)⟩) H9 hs9 (hs9.get 0 rfl rfl) ⟨rfl, rowIn_whole (hs9.block 2 rfl)⟩) H8 hs8 (hs8.get 0 rfl rfl) ⟨rfl, rowIn_whole (hs8.block 3 rfl)⟩) H7 hs7 (hs7.get 0 rfl rfl) ⟨rfl, rowIn_whole (hs7.block 4 rfl)⟩
    exact hX _ H11 (br_n (by decide) (hR b H11 ((hs11.front 5 rfl).take 1)))
  · subst hd
    exact (St.nil H).alc fun b H1 hs1 => hR b H1 hs1

theorem fac_eq {q : Int} (h : 1 ≤ q ∧ q ≤ 100) : (q < 50 → IntKind.wrap .i64 (Int.tdiv (5000 : Int) q) = facM q) ∧ (¬ q < 50 → IntKind.wrap .i64 ((200 : Int) - IntKind.wrap .i64 ((2 : Int) * q)) = facM q) := by
  have hf := fac_rng h
  unfold facM at *
  refine ⟨fun h' => ?_, fun h' => ?_⟩
  · rw [if_pos h'] at hf ⊢
    rw [Int.tdiv_eq_ediv_of_nonneg (by omega), wrap_id (by omega) (by omega)]
  · rw [if_neg h'] at hf ⊢
    rw [wrap_id (n := 2 * q) (by omega) (by omega), wrap_id (by omega) (by omega)]

theorem c12 {q : Int} {d : Bool} (hbad : ¬ (1 ≤ q ∧ q ≤ 100) → ∀ H', Ext H H' → R (.tuple #[.agg (ints (List.replicate 64 0)).toArray, .bool false]) H')
    (hR : 1 ≤ q ∧ q ≤ 100 → ∀ H', Ext H H' → R (.tuple #[.agg (ints (stepsM q d)).toArray, .bool true]) H') : CallsH Try.prog 12 #[.int .i64 q, .bool d] H R := by
  have hsl := stepsM_len q d
  refine Try.s12 ?_
  unfold Try.S12
  refine (St.nil H).alc fun b3 H1 hs1 => hs1.alc fun b5 H2 hs2 => ?_
  simp only [zeroA] at hs2
  intro J hJ
  have hz : (List.replicate 64 (0 : Int)).length = 64 := by simp
  have none_ : ¬ (1 ≤ q ∧ q ≤ 100) → ∃ v24 : Array Value, v24.size = 64 ∧ rowIn H2 ⟨b5, 0, none⟩ v24 ∧ v24.size = 64 ∧ stAt H2 ⟨b3, 0, none⟩ (Array.toList v24) fun H_25 => ∃ res26 : Array Value, res26.size = 64 ∧ rowIn H_25 ⟨b3, 0, none⟩ res26 ∧ R (Value.tuple #[Value.agg res26, Value.bool false]) H_25 := fun hn => by
    refine ⟨_, by rw [intsA_size]; exact hz, rowIn_whole (hs2.block 0 rfl), by rw [intsA_size]; exact hz, ?_⟩
    refine hs2.putAllA 1 rfl (by simp [ints]) fun H3 hs3 => ?_
    exact ⟨_, by rw [intsA_size]; exact hz, rowIn_whole (hs3.block 1 rfl), hbad hn H3 hs3.ext⟩
  refine br_dec (fun h => none_ (by omega)) (fun h1 => br_dec (fun h => none_ (by omega)) (fun h2 => hJ H2 ?_))
  have hq : 1 ≤ q ∧ q ≤ 100 := by omega
  have hR := hR hq
  have hTl := T_len d
  intro K hK
  have nx : ∀ s, s = facM q → K [.int .i64 s] H2 := fun s hs => by
    subst hs
    refine hK _ H2 (c29 fun b H3 hs3 => ⟨_, _, _, rfl, ?_⟩)
    have hs3 := hs2.call hs3
    intro X hX
    have go : ∀ i, i ≤ 64 → ∀ H4, St H H4 [.cell b (ints (T d)).toArray 3, .cell b5 (ints (fillA (stepsM q d) i)).toArray 34, .cell b3 (ints (List.replicate 64 0)).toArray 34] → X [.int .i64 (i : Nat)] H4 := upto fun i hi ih H4 hs4 => by
      refine hX _ H4 (br_dec (fun hlt => ?_) (fun hge => ?_))
      · have hlt : i < 64 := by omega
        have v1 := getD_some (T d) 0 (i := i) (by omega)
        have t1 := tf_rng hq d i
        refine ⟨_, rfl, by omega, by omega, (T d).getD i 0, ?_, by decide, by omega, by omega, ?_⟩
        · rw [add_none, Nat.zero_add, Int.toNat_natCast, Nat.mul_one]; exact hs4.rdA 0 rfl v1
        · rw [wrap_id (n := (T d).getD i 0 * facM q) (by omega) (by omega), wrap_id (n := (T d).getD i 0 * facM q + 50) (by omega) (by omega), Int.tdiv_eq_ediv_of_nonneg (by omega), wrap_id (by omega) (by omega), add_none, Nat.zero_add, Int.toNat_natCast, Nat.mul_one, w1 (by omega)]
          refine hs4.putA 1 rfl (by rw [fillA_len (by omega)]; omega) fun H5 hs5 => ih hlt H5 ?_
          have e : min 255 (max 1 (((T d).getD i 0 * facM q + 50) / 100)) = (stepsM q d).getD i 0 := (tab_getD (f := stepV q d) hlt).symm
          rw [e, fillA_set (by omega)] at hs5
          exact hs5
      · have : i = 64 := by omega
        subst this
        have e := fillA_all (stepsM q d)
        rw [hsl] at e
        rw [e] at hs4
        refine ⟨_, by rw [intsA_size]; exact hsl, rowIn_whole (hs4.block 1 rfl), by rw [intsA_size]; exact hsl, ?_⟩
        refine hs4.putAllA 2 rfl (by rw [intsA_size, hsl]; simp) fun H5 hs5 => ?_
        exact ⟨_, by rw [intsA_size]; exact hsl, rowIn_whole (hs5.block 2 rfl), hR H5 hs5.ext⟩
    exact go 0 (by omega) H3 (by rw [fillA_zero, hsl]; exact hs3)
  refine br_dec (fun h => ⟨by omega, nx _ ((fac_eq hq).1 h)⟩) (fun h => nx _ ((fac_eq hq).2 h))

end Go.Proofs
