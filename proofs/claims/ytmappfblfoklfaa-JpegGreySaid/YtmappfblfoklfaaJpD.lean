/-
  OWN WORK. The document's steps over heaps; brightness and differences.
-/
import Derived.Test.YtmappfblfoklfaaJpC
set_option linter.unusedVariables false
set_option linter.unusedSimpArgs false
namespace Go.Proofs
open Go.Sh
variable {H0 H : Heap} {σ : List Rs} {R : Value → Heap → Prop}

def mixT (i : Nat) : List Int := (tbl 4).take i ++ T0.drop i
theorem mixT_len {i : Nat} (h : i ≤ 64) : (mixT i).length = 64 := by
  have h1 := tbl_len 4
  have h2 : T0.length = 64 := rfl
  unfold mixT; rw [List.length_append, List.length_take, List.length_drop]; omega
theorem mixT_set : ∀ i : Fin 64, (mixT i.val).set i.val ((tbl 4).getD i.val 0) = mixT (i.val + 1) := by decide +kernel
theorem tbl4_get : ∀ i : Fin 64, (i.val % 8 < 4 ∧ i.val / 8 < 4 → (tbl 4).getD i.val 0 = corner.getD (i.val / 8 * 4 + i.val % 8) 0) ∧ (¬ (i.val % 8 < 4 ∧ i.val / 8 < 4) → (tbl 4).getD i.val 0 = 99) := by decide +kernel

theorem c9 {q : Int} {d : Bool} (hbad : ¬ (1 ≤ q ∧ q ≤ 100) → ∀ H', Ext H H' → R (.tuple #[.agg (ints (List.replicate 64 0)).toArray, .bool false]) H')
    (hR : 1 ≤ q ∧ q ≤ 100 → ∀ H', Ext H H' → R (.tuple #[.agg (ints (stepsM q d)).toArray, .bool true]) H') : CallsH Try.prog 9 #[.int .i64 q, .bool d] H R := by
  have hsl := stepsM_len q d
  have hTl := T_len d
  refine Try.s9 ?_
  unfold Try.S9
  refine (St.nil H).alc fun b3 H1 hs1 => hs1.alc fun b5 H2 hs2 => ⟨rfl, ?_⟩
  refine hs2.putAllA 0 (l := T0) rfl (by simp; rfl) fun H3 hs3 => ?_
  simp only [zeroA, List.set_cons_zero] at hs3
  clear hs1 hs2
  intro J hJ
  -- with the table
  have rest : ∀ H4, St H H4 [.cell b5 (ints (T d)).toArray 34, .cell b3 (ints (List.replicate 64 0)).toArray 34] → J [] H4 := fun H4 hs4 => by
    refine hJ H4 (hs4.alc fun b10 H5 hs5 => ?_)
    simp only [zeroA] at hs5
    intro K hK
    have hz : (List.replicate 64 (0 : Int)).length = 64 := by simp
    have none_ : ¬ (1 ≤ q ∧ q ≤ 100) → ∃ v24 : Array Value, v24.size = 64 ∧ rowIn H5 ⟨b10, 0, none⟩ v24 ∧ v24.size = 64 ∧ stAt H5 ⟨b3, 0, none⟩ (Array.toList v24) fun H_25 => ∃ res26 : Array Value, res26.size = 64 ∧ rowIn H_25 ⟨b3, 0, none⟩ res26 ∧ R (Value.tuple #[Value.agg res26, Value.bool false]) H_25 := fun hn => by
      refine ⟨_, by rw [intsA_size]; exact hz, rowIn_whole (hs5.block 0 rfl), by rw [intsA_size]; exact hz, ?_⟩
      refine hs5.putAllA 2 rfl (by simp [ints]) fun H6 hs6 => ?_
      exact ⟨_, by rw [intsA_size]; exact hz, rowIn_whole (hs6.block 2 rfl), hbad hn H6 hs6.ext⟩
    refine br_dec (fun h => none_ (by omega)) (fun h1 => br_dec (fun h => none_ (by omega)) (fun h2 => hK H5 ⟨by omega, ?_⟩))
    have hq : 1 ≤ q ∧ q ≤ 100 := by omega
    have hR := hR hq
    intro L hL
    have nx : ∀ s, s = facM q → L [.int .i64 s] H5 := fun s hs => by
      subst hs
      refine hL _ H5 ?_
      intro X hX
      have go : ∀ i, i ≤ 64 → ∀ H4, St H H4 [.cell b10 (ints (fillA (stepsM q d) i)).toArray 34, .cell b5 (ints (T d)).toArray 34, .cell b3 (ints (List.replicate 64 0)).toArray 34] → X [.int .i64 (i : Nat)] H4 := upto fun i hi ih H4 hs4 => by
        refine hX _ H4 (br_dec (fun hlt => ?_) (fun hge => ?_))
        · have hlt : i < 64 := by omega
          have v1 := getD_some (T d) 0 (i := i) (by omega)
          have t1 := tf_rng hq d i
          have hfl := fillA_len (L := stepsM q d) (s := i) (by omega)
          have e : min 255 (max 1 (((T d).getD i 0 * facM q + 50) / 100)) = (stepsM q d).getD i 0 := (tab_getD (f := stepV q d) hlt).symm
          refine ⟨by omega, by omega, (T d).getD i 0, ?_, by decide, by omega, by omega, ?_⟩
          · rw [add_none, Nat.zero_add, Int.toNat_natCast, Nat.mul_one]; exact hs4.rdA 1 rfl v1
          rw [wrap_id (n := (T d).getD i 0 * facM q) (by omega) (by omega), wrap_id (n := (T d).getD i 0 * facM q + 50) (by omega) (by omega), Int.tdiv_eq_ediv_of_nonneg (by omega), wrap_id (n := ((T d).getD i 0 * facM q + 50) / 100) (by omega) (by omega), add_none, Nat.zero_add, Int.toNat_natCast, Nat.mul_one, w1 (by omega)]
          generalize ((T d).getD i 0 * facM q + 50) / 100 = x at *
          refine hs4.putA 0 rfl (by omega) fun H5 hs5 => ?_
          have g0 : ∀ {H6 : Heap} {v : Int}, St H H6 [.cell b10 (ints ((fillA (stepsM q d) i).set i v)).toArray 34, .cell b5 (ints (T d)).toArray 34, .cell b3 (ints (List.replicate 64 0)).toArray 34] → cell H6 ⟨b10, i, none⟩ = some (.int .i64 v) := fun hs => hs.rdA 0 rfl (List.getElem?_set_self (by omega))
          intro M hM
          have fin : ∀ v H6, min 255 v = (stepsM q d).getD i 0 → St H H6 [.cell b10 (ints ((fillA (stepsM q d) i).set i v)).toArray 34, .cell b5 (ints (T d)).toArray 34, .cell b3 (ints (List.replicate 64 0)).toArray 34] → M [] H6 := fun v H6 hv hs6 => by
            refine hM H6 ⟨by omega, by omega, v, g0 hs6, br_dec (fun hgt => ⟨by omega, by omega, ?_⟩) (fun hle => ih hlt H6 ?_)⟩
            · refine hs6.putA 0 rfl (by rw [List.length_set]; omega) fun H7 hs7 => ih hlt H7 ?_
              simp only [List.set_set, List.set_cons_zero] at hs7
              rw [show (255 : Int) = (stepsM q d).getD i 0 from by omega, fillA_set (by omega)] at hs7
              exact hs7
            · rw [show v = (stepsM q d).getD i 0 from by omega, fillA_set (by omega)] at hs6
              exact hs6
          refine ⟨by omega, by omega, x, g0 hs5, br_dec (fun hlt1 => ⟨by omega, by omega, ?_⟩) (fun hge1 => fin x H5 (by omega) hs5)⟩
          refine hs5.putA 0 rfl (by rw [List.length_set]; omega) fun H6 hs6 => fin 1 H6 (by omega) ?_
          simp only [List.set_set, List.set_cons_zero] at hs6
          exact hs6
        · have : i = 64 := by omega
          subst this
          have e := fillA_all (stepsM q d)
          rw [hsl] at e
          rw [e] at hs4
          refine ⟨_, by rw [intsA_size]; exact hsl, rowIn_whole (hs4.block 0 rfl), by rw [intsA_size]; exact hsl, ?_⟩
          refine hs4.putAllA 2 rfl (by rw [intsA_size, hsl]; simp) fun H5 hs5 => ?_
          exact ⟨_, by rw [intsA_size]; exact hsl, rowIn_whole (hs5.block 2 rfl), hR H5 hs5.ext⟩
      exact go 0 (by omega) H5 (by rw [fillA_zero, hsl]; exact hs5)
    refine br_dec (fun h => nx _ ((fac_eq hq).2 (by omega))) (fun h => nx _ ((fac_eq hq).1 (by omega)))
  refine br_i (fun hd => ?_) (fun hd => ?_)
  · subst hd
    refine hs3.alc fun b37 H4 hs4 => ⟨rfl, ?_⟩
    refine hs4.putAllA 0 (l := corner) rfl rfl fun H5 hs5 => ?_
    intro X hX
    have go : ∀ i, i ≤ 64 → ∀ H4, St H H4 [.cell b37 (ints corner).toArray 58, .cell b5 (ints (mixT i)).toArray 34, .cell b3 (ints (List.replicate 64 0)).toArray 34] → X [.int .i64 (i : Nat)] H4 := upto fun i hi ih H4 hs4 => by
      have hml := mixT_len hi
      refine hX _ H4 (br_dec (fun hlt => ?_) (fun hge => ?_))
      · have hlt : i < 64 := by omega
        rw [w1 (by omega)]
        have hset := mixT_set ⟨i, hlt⟩
        obtain ⟨c1, c2⟩ := tbl4_get ⟨i, hlt⟩
        simp only at hset c1 c2
        intro M hM
        have fin : ∀ H6, St H H6 [.cell b37 (ints corner).toArray 58, .cell b5 (ints ((mixT i).set i ((tbl 4).getD i 0))).toArray 34, .cell b3 (ints (List.replicate 64 0)).toArray 34] → M [] H6 := fun H6 hs6 => hM H6 (ih hlt H6 (by rw [← hset]; exact hs6))
        refine ⟨by omega, by omega, ?_⟩
        rw [add_none, Nat.zero_add, Int.toNat_natCast, Nat.mul_one]
        refine hs4.putA 1 rfl (by omega) fun H5 hs5 => ⟨by decide, ?_⟩
        rw [ix3, ix4 (by omega)]
        refine br_dec (fun h1 => ⟨by decide, br_dec (fun h2 => ?_) (fun h2 => fin H5 ?_)⟩) (fun h1 => fin H5 ?_)
        · have hc := c1 ⟨by omega, by omega⟩
          have wi : IntKind.wrap .i64 (IntKind.wrap .i64 (((i / 8 : Nat) : Int) * 4) + ((i % 8 : Nat) : Int)) = ((i / 8 * 4 + i % 8 : Nat) : Int) := by rw [wrap_id (n := ((i / 8 : Nat) : Int) * 4) (by omega) (by omega), wrap_id (by omega) (by omega)]; omega
          rw [wi]
          refine ⟨by decide, by decide, by omega, by omega, corner.getD (i / 8 * 4 + i % 8) 0, ?_, by omega, by omega, ?_⟩
          · rw [add_none, Nat.zero_add, Int.toNat_natCast, Nat.mul_one]
            exact hs5.rdA 0 rfl (getD_some corner 0 (by show _ < 16; omega))
          · refine hs5.putA 1 rfl (by rw [List.length_set]; omega) fun H6 hs6 => fin H6 ?_
            simp only [List.set_set, List.set_cons_zero, List.set_cons_succ] at hs6
            rw [hc]; exact hs6
        · rw [c2 (by omega)]; exact hs5
        · rw [c2 (by omega)]; exact hs5
      · have : i = 64 := by omega
        subst this
        refine rest H4 ?_
        have e : mixT 64 = T true := by decide +kernel
        rw [e] at hs4
        exact hs4.tail
    exact go 0 (by omega) H5 hs5
  · subst hd
    exact rest H3 hs3

/-! ### brightness and differences -/

def cutM (n : Int) : Int := min 255 (max 0 n)
def brightM (r g b : Int) (k : Nat) : Int := match k with
  | 0 => cutM ((19595 * r + 38470 * g + 7471 * b + 32768) / 65536)
  | 1 => cutM ((32768 * b - 11059 * r - 21709 * g + 32768) / 65536 + 128)
  | _ => cutM ((32768 * r - 27439 * g - 5329 * b + 32768) / 65536 + 128)
theorem cutM_rng (n : Int) : 0 ≤ cutM n ∧ cutM n ≤ 255 := by unfold cutM; omega
theorem brightM_rng (r g b : Int) (k : Nat) : 0 ≤ brightM r g b k ∧ brightM r g b k ≤ 255 := by
  unfold brightM; split <;> exact cutM_rng _
def brightL (r g b : Int) : List Int := [brightM r g b 0, brightM r g b 1, brightM r g b 2]
theorem brightL_get {r g b : Int} {k : Nat} (hk : k < 3) : (brightL r g b)[k]? = some (brightM r g b k) := by
  obtain rfl | rfl | rfl : k = 0 ∨ k = 1 ∨ k = 2 := by omega
  all_goals rfl

theorem shr16 (x : Int) : shrI .i64 x (16 : Int) = x / 65536 := by
  unfold shrI
  rw [show min (16 : Int).toNat (IntKind.bits .i64) = 16 from rfl]
  exact Int.fdiv_eq_ediv_of_nonneg _ (by decide)
theorem c50 {n : Int} (hR : R (.int .i64 (cutM n)) H) : CallsH Try.prog 50 #[.int .i64 n] H R := Try.s50 hR

theorem c30 {r g b : Int} (hr : 0 ≤ r ∧ r < 256) (hg : 0 ≤ g ∧ g < 256) (hb : 0 ≤ b ∧ b < 256) (hR : ∀ H', Ext H H' → R (.agg (ints (brightL r g b)).toArray) H') :
    CallsH Try.prog 30 #[.agg #[.int .i64 r, .int .i64 g, .int .i64 b]] H R := by
  refine Try.s30 ?_
  unfold Try.S30
  refine (St.nil H).alc fun b2 H1 hs1 => hs1.alc fun b4 H2 hs2 => ?_
  refine ⟨by decide, by decide, r, hs2.get 1 rfl rfl, by decide, by decide, g, hs2.get 1 (j := 1) rfl rfl, by decide, by decide, b, hs2.get 1 (j := 2) rfl rfl, by decide, ?_⟩
  rw [wrap_id (n := 19595 * r) (by omega) (by omega), wrap_id (n := 38470 * g) (by omega) (by omega), wrap_id (n := 19595 * r + 38470 * g) (by omega) (by omega), wrap_id (n := 7471 * b) (by omega) (by omega), wrap_id (n := 19595 * r + 38470 * g + 7471 * b) (by omega) (by omega), wrap_id (n := 19595 * r + 38470 * g + 7471 * b + 32768) (by omega) (by omega), shr16]
  refine c50 ⟨_, rfl, by decide, ?_⟩
  rw [wrap_id (n := 32768 * b) (by omega) (by omega), wrap_id (n := 11059 * r) (by omega) (by omega), wrap_id (n := 32768 * b - 11059 * r) (by omega) (by omega), wrap_id (n := 21709 * g) (by omega) (by omega), wrap_id (n := 32768 * b - 11059 * r - 21709 * g) (by omega) (by omega), wrap_id (n := 32768 * b - 11059 * r - 21709 * g + 32768) (by omega) (by omega), shr16, wrap_id (n := (32768 * b - 11059 * r - 21709 * g + 32768) / 65536 + 128) (by omega) (by omega)]
  refine c50 ⟨_, rfl, by decide, ?_⟩
  rw [wrap_id (n := 32768 * r) (by omega) (by omega), wrap_id (n := 27439 * g) (by omega) (by omega), wrap_id (n := 32768 * r - 27439 * g) (by omega) (by omega), wrap_id (n := 5329 * b) (by omega) (by omega), wrap_id (n := 32768 * r - 27439 * g - 5329 * b) (by omega) (by omega), wrap_id (n := 32768 * r - 27439 * g - 5329 * b + 32768) (by omega) (by omega), shr16, wrap_id (n := (32768 * r - 27439 * g - 5329 * b + 32768) / 65536 + 128) (by omega) (by omega)]
  refine c50 ⟨_, rfl, rfl, ?_⟩
  refine hs2.putAllA 0 (l := brightL r g b) rfl rfl fun H3 hs3 => ?_
  exact ⟨_, rfl, rowIn_whole (hs3.block 0 rfl), hR H3 hs3.ext⟩

theorem c60 {n : Int} (hR : R (.int .i64 (cutM n)) H) : CallsH Try.prog 60 #[.int .i64 n] H R := by
  refine Try.s60 (br_dec (fun h => ?_) (fun h => br_dec (fun h2 => ?_) (fun h2 => ?_)))
  · rw [show cutM n = 0 from by unfold cutM; omega] at hR; exact hR
  · rw [show cutM n = 255 from by unfold cutM; omega] at hR; exact hR
  · rw [show cutM n = n from by unfold cutM; omega] at hR; exact hR
theorem c61 {n : Int} (h : -1000000000000 ≤ n ∧ n ≤ 1000000000000) (hR : R (.int .i64 ((n + 32768) / 65536)) H) : CallsH Try.prog 61 #[.int .i64 n] H R := by
  refine Try.s61 ?_
  unfold Try.S61
  rw [wrap_id (by omega) (by omega)]
  exact down16 (by omega) ⟨_, rfl, hR⟩
theorem c52 {r g b : Int} (hr : 0 ≤ r ∧ r < 256) (hg : 0 ≤ g ∧ g < 256) (hb : 0 ≤ b ∧ b < 256) (hR : ∀ H', Ext H H' → R (.agg (ints (brightL r g b)).toArray) H') :
    CallsH Try.prog 52 #[.int .i64 r, .int .i64 g, .int .i64 b] H R := by
  refine Try.s52 ?_
  unfold Try.S52
  refine (St.nil H).alc fun b4 H2 hs2 => ?_
  rw [wrap_id (n := 19595 * r) (by omega) (by omega), wrap_id (n := 38470 * g) (by omega) (by omega), wrap_id (n := 19595 * r + 38470 * g) (by omega) (by omega), wrap_id (n := 7471 * b) (by omega) (by omega), wrap_id (n := 19595 * r + 38470 * g + 7471 * b) (by omega) (by omega)]
  refine c61 (by omega) ⟨_, rfl, c60 ⟨_, rfl, ?_⟩⟩
  rw [wrap_id (n := 32768 * b) (by omega) (by omega), wrap_id (n := 11059 * r) (by omega) (by omega), wrap_id (n := 32768 * b - 11059 * r) (by omega) (by omega), wrap_id (n := 21709 * g) (by omega) (by omega), wrap_id (n := 32768 * b - 11059 * r - 21709 * g) (by omega) (by omega)]
  refine c61 (by omega) ⟨_, rfl, ?_⟩
  rw [wrap_id (n := (32768 * b - 11059 * r - 21709 * g + 32768) / 65536 + 128) (by omega) (by omega)]
  refine c60 ⟨_, rfl, ?_⟩
  rw [wrap_id (n := 32768 * r) (by omega) (by omega), wrap_id (n := 27439 * g) (by omega) (by omega), wrap_id (n := 32768 * r - 27439 * g) (by omega) (by omega), wrap_id (n := 5329 * b) (by omega) (by omega), wrap_id (n := 32768 * r - 27439 * g - 5329 * b) (by omega) (by omega)]
  refine c61 (by omega) ⟨_, rfl, ?_⟩
  rw [wrap_id (n := (32768 * r - 27439 * g - 5329 * b + 32768) / 65536 + 128) (by omega) (by omega)]
  refine c60 ⟨_, rfl, rfl, ?_⟩
  refine hs2.putAllA 0 (l := brightL r g b) rfl rfl fun H3 hs3 => ?_
  exact ⟨_, rfl, rowIn_whole (hs3.block 0 rfl), hR H3 hs3.ext⟩

end Go.Proofs
