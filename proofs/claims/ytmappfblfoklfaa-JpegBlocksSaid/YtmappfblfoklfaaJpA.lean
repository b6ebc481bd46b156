/-
  OWN WORK. Waves over heaps: their numbers, the program's and the document's.
-/
import Derived.Test.YtmappfblfoklfaaGFun
import Derived.Test.YtmappfblfoklfaaShU
set_option linter.unusedVariables false
set_option linter.unusedSimpArgs false
namespace Go.Proofs
open Go.Sh
variable {H0 H : Heap} {σ : List Rs} {R : Value → Heap → Prop}

def wtab : List Int := [4096, 4017, 3784, 3406, 2896, 2276, 1567, 799, 0]
def waveM (k : Nat) : Int := if k % 32 ≤ 8 then wtab.getD (k % 32) 0 else if k % 32 ≤ 16 then -wtab.getD (16 - k % 32) 0 else if 32 - k % 32 ≤ 8 then wtab.getD (32 - k % 32) 0 else -wtab.getD (16 - (32 - k % 32)) 0
def cM (u x : Nat) : Int := if u = 0 then 2896 else waveM ((2 * x + 1) * u)
/-- The waves' numbers by u and x. -/
def cT : List Int := (List.range 64).map fun i => cM (i / 8) (i % 8)
theorem wtab_rng (i : Nat) : -4096 ≤ wtab.getD i 0 ∧ wtab.getD i 0 ≤ 4096 := by
  by_cases h : i < 9
  · have : ∀ i : Fin 9, -4096 ≤ wtab.getD i.val 0 ∧ wtab.getD i.val 0 ≤ 4096 := by decide
    exact this ⟨i, h⟩
  · rw [List.getD_eq_getElem?_getD, List.getElem?_eq_none (by simp [wtab]; omega)]; decide
theorem waveM_rng (k : Nat) : -4096 ≤ waveM k ∧ waveM k ≤ 4096 := by
  unfold waveM
  have h1 := wtab_rng (k % 32)
  have h2 := wtab_rng (16 - k % 32)
  have h3 := wtab_rng (32 - k % 32)
  have h4 := wtab_rng (16 - (32 - k % 32))
  split
  · exact h1
  · split
    · omega
    · split
      · exact h3
      · omega
theorem cM_rng (u x : Nat) : -4096 ≤ cM u x ∧ cM u x ≤ 4096 := by
  unfold cM
  split
  · decide
  · exact waveM_rng _
theorem tmodN (k m : Nat) : Int.tmod (k : Int) (m : Int) = ((k % m : Nat) : Int) := by rw [Int.tmod_eq_emod_of_nonneg (by omega)]; rfl
theorem tdivN (k m : Nat) : Int.tdiv (k : Int) (m : Int) = ((k / m : Nat) : Int) := by rw [Int.tdiv_eq_ediv_of_nonneg (by omega)]; rfl
theorem wN {k : Nat} (h : k ≤ 1000000000000) : IntKind.wrap .i64 (k : Int) = (k : Int) := wrap_id (by omega) (by omega)

theorem wtabA (r : Nat) (h : r ≤ 8) : (#[Value.int .i64 (4096 : Int), Value.int .i64 (4017 : Int), Value.int .i64 (3784 : Int), Value.int .i64 (3406 : Int), Value.int .i64 (2896 : Int), Value.int .i64 (2276 : Int), Value.int .i64 (1567 : Int), Value.int .i64 (799 : Int), Value.int .i64 (0 : Int)] : Array Value)[r * 1]? = some (.int .i64 (wtab.getD r 0)) := by
  obtain rfl | rfl | rfl | rfl | rfl | rfl | rfl | rfl | rfl : r = 0 ∨ r = 1 ∨ r = 2 ∨ r = 3 ∨ r = 4 ∨ r = 5 ∨ r = 6 ∨ r = 7 ∨ r = 8 := by omega
  all_goals rfl

theorem wave8 {k : Nat} (h : k % 32 ≤ 8) (hR : R (.int .i64 (wtab.getD (k % 32) 0)) H) : CallsH Try.prog 59 #[.int .i64 (k : Nat)] H R := by
  refine Try.s59 ⟨by decide, ?_⟩
  rw [show ((32 : Int)) = ((32 : Nat) : Int) from rfl, tmodN]
  refine br_n (by omega) (br_n (by omega) ⟨by omega, by omega, _, ?_, hR⟩)
  rw [Int.toNat_natCast]; exact wtabA _ h
theorem wave16 {k : Nat} (h : k % 32 ≤ 16) (hR : R (.int .i64 (if k % 32 ≤ 8 then wtab.getD (k % 32) 0 else -wtab.getD (16 - k % 32) 0)) H) : CallsH Try.prog 59 #[.int .i64 (k : Nat)] H R := by
  by_cases h8 : k % 32 ≤ 8
  · rw [if_pos h8] at hR; exact wave8 h8 hR
  rw [if_neg h8] at hR
  refine Try.s59 ⟨by decide, ?_⟩
  rw [show ((32 : Int)) = ((32 : Nat) : Int) from rfl, tmodN]
  refine br_n (by omega) (br_y (by omega) ?_)
  rw [wrap_id (by omega) (by omega), show (16 : Int) - ((k % 32 : Nat) : Int) = ((16 - k % 32 : Nat) : Int) from by omega]
  refine wave8 (by omega) ⟨_, rfl, ?_⟩
  rw [show (16 - k % 32) % 32 = 16 - k % 32 from by omega]
  have := wtab_rng (16 - k % 32)
  rw [wrap_id (by omega) (by omega), Int.zero_sub]
  exact hR
theorem c59 {k : Nat} (hR : R (.int .i64 (waveM k)) H) : CallsH Try.prog 59 #[.int .i64 (k : Nat)] H R := by
  unfold waveM at hR
  by_cases h16 : k % 32 ≤ 16
  · refine wave16 h16 ?_
    split at hR
    · rename_i h8; rw [if_pos h8]; exact hR
    · rename_i h8; rw [if_neg h8]; exact hR
  · rw [if_neg (by omega), if_neg h16] at hR
    refine Try.s59 ⟨by decide, ?_⟩
    rw [show ((32 : Int)) = ((32 : Nat) : Int) from rfl, tmodN]
    refine br_y (by omega) ?_
    rw [wrap_id (by omega) (by omega), show ((32 : Nat) : Int) - ((k % 32 : Nat) : Int) = ((32 - k % 32 : Nat) : Int) from by omega]
    refine wave16 (by omega) ⟨_, rfl, ?_⟩
    rw [show (32 - k % 32) % 32 = 32 - k % 32 from by omega]
    exact hR

theorem row_len (u : Nat) : ((List.range 8).map (cM u)).length = 8 := by simp
theorem c51 {u : Nat} (hu : u < 8) (hR : ∀ H', Ext H H' → R (.agg (ints ((List.range 8).map (cM u))).toArray) H') : CallsH Try.prog 51 #[.int .i64 (u : Nat)] H R := by
  refine Try.s51 ?_
  unfold Try.S51
  refine (St.nil H).alc fun b H1 hs1 => ?_
  have hs1 : St H H1 [.cell b (ints (List.replicate 8 0)).toArray _] := hs1
  intro X hX
  have hl := row_len u
  have go : ∀ k, k ≤ 8 → ∀ H2, St H H2 [.cell b (ints (fillA ((List.range 8).map (cM u)) k)).toArray 85] → X [.int .i64 (k : Nat)] H2 := upto fun k hk ih H2 hs2 => by
    refine hX _ H2 (br_dec (fun hlt => ?_) (fun hge => ?_))
    · have hlt : k < 8 := by omega
      have nx : ∀ v H3, v = cM u k → St H H3 [.cell b (ints (fillA ((List.range 8).map (cM u)) k)).toArray 85] → 0 ≤ (k : Int) ∧ (k : Int) < ((8 : Nat) : Int) ∧ stAt H3 (Addr.add ⟨b, 0, none⟩ (Int.toNat (k : Int) * 1)) [Value.int .i64 v] fun H_7 => X [.int .i64 (IntKind.wrap .i64 ((k : Int) + (1 : Int)))] H_7 := fun v H3 hv hs3 => by
        refine ⟨by omega, by omega, ?_⟩
        rw [add_none, Nat.zero_add, Int.toNat_natCast, Nat.mul_one, wrap_id (by omega) (by omega)]
        refine hs3.putA 0 rfl (by rw [fillA_len (by omega)]; omega) fun H4 hs4 => ih hlt H4 ?_
        rw [hv, ← tab_getD (f := cM u) hlt, fillA_set (by omega)] at hs4
        exact hs4
      refine br_eq (fun h0 => nx _ H2 ?_ hs2) (fun h0 => ?_)
      · have : u = 0 := by omega
        subst this; rfl
      · have hm : (2 * k + 1) * u ≤ 15 * 7 := Nat.mul_le_mul (by omega) (by omega)
        have e : ((2 : Int) * (k : Nat) + 1) * (u : Nat) = (((2 * k + 1) * u : Nat) : Int) := by push_cast; rfl
        rw [wrap_id (n := (2 : Int) * (k : Nat)) (by omega) (by omega), wrap_id (n := (2 : Int) * (k : Nat) + 1) (by omega) (by omega), e, wrap_id (by omega) (by omega)]
        refine c59 ⟨_, rfl, nx _ H2 ?_ hs2⟩
        unfold cM
        rw [if_neg (by omega)]
    · have : k = 8 := by omega
      subst this
      have e := fillA_all ((List.range 8).map (cM u))
      rw [hl] at e
      rw [e] at hs2
      refine ⟨_, by rw [intsA_size]; exact hl, rowIn_whole (hs2.block 0 rfl), by rw [intsA_size]; exact hl, ?_⟩
      refine hs2.putAllA 0 rfl (by rw [intsA_size]) fun H3 hs3 => ?_
      exact ⟨_, by rw [intsA_size]; exact hl, rowIn_whole (hs3.block 0 rfl), hR H3 hs3.ext⟩
  exact go 0 (by omega) H1 (by rw [fillA_zero, hl]; exact hs1)

theorem cT_len : cT.length = 64 := by simp [cT]
theorem cT_get {u x : Nat} (hu : u < 8) (hx : x < 8) : cT[u * 8 + x]? = some (cM u x) := by
  unfold cT
  rw [tab_get (by omega), show (u * 8 + x) / 8 = u from by omega, show (u * 8 + x) % 8 = x from by omega]
theorem c32 (hR : ∀ H', Ext H H' → R (.agg (ints cT).toArray) H') : CallsH Try.prog 32 #[] H R := by
  refine Try.s32 (_u := ()) ?_
  unfold Try.S32
  refine (St.nil H).alc fun b H1 hs1 => ?_
  rw [zeroA] at hs1
  intro X hX
  have hl := cT_len
  have go : ∀ k, k ≤ 8 → ∀ H2, St H H2 [.cell b (ints (fillA cT (8 * k))).toArray 86] → X [.int .i64 (k : Nat)] H2 := upto fun k hk ih H2 hs2 => by
    refine hX _ H2 (br_dec (fun hlt => ?_) (fun hge => ?_))
    · have hlt : k < 8 := by omega
      refine c51 hlt fun H3 e3 => ⟨_, rfl, by omega, by omega, by rw [intsA_size]; exact row_len k, ?_⟩
      rw [add_none, Nat.zero_add, Int.toNat_natCast, wrap_id (by omega) (by omega)]
      have hs3 := hs2.step e3
      refine hs3.putRow 0 rfl (by rw [intsA_size, fillA_len (by omega), Array.length_toList, intsA_size, row_len]; omega) (fun v hv => ints_one _ v (by simpa using hv)) fun H4 hs4 => ih hlt H4 ?_
      have e : setL (ints (fillA cT (8 * k))).toArray.toList (k * 8) (ints ((List.range 8).map (cM k))).toArray.toList = ints (fillA cT (8 * (k + 1))) := by
        obtain rfl | rfl | rfl | rfl | rfl | rfl | rfl | rfl : k = 0 ∨ k = 1 ∨ k = 2 ∨ k = 3 ∨ k = 4 ∨ k = 5 ∨ k = 6 ∨ k = 7 := by omega
        all_goals rfl
      rw [e] at hs4
      exact hs4
    · have : k = 8 := by omega
      subst this
      have e := fillA_all cT
      rw [hl] at e
      rw [e] at hs2
      refine ⟨_, by rw [intsA_size]; exact hl, rowIn_whole (hs2.block 0 rfl), by rw [intsA_size]; exact hl, ?_⟩
      refine hs2.putAllA 0 rfl (by rw [intsA_size]) fun H3 hs3 => ?_
      exact ⟨_, by rw [intsA_size]; exact hl, rowIn_whole (hs3.block 0 rfl), hR H3 hs3.ext⟩
  exact go 0 (by omega) H1 (by rw [Nat.mul_zero, fillA_zero, hl]; exact hs1)

/-! ### the document's -/

theorem c53 {u x : Nat} (hu : u < 8) (hx : x < 8) (hR : ∀ H', Ext H H' → R (.int .i64 (cM u x)) H') : CallsH Try.prog 53 #[.int .i64 (u : Nat), .int .i64 (x : Nat)] H R := by
  refine Try.s53 (br_eq (fun h0 => ?_) (fun h0 => ⟨by decide, ?_⟩))
  · have : u = 0 := by omega
    subst this
    exact hR H (Ext.refl _)
  unfold cM waveM at hR
  rw [if_neg (by omega)] at hR
  have hm : (2 * x + 1) * u ≤ 15 * 7 := Nat.mul_le_mul (by omega) (by omega)
  have e : ((2 : Int) * (x : Nat) + 1) * (u : Nat) = (((2 * x + 1) * u : Nat) : Int) := by push_cast; rfl
  rw [wrap_id (n := (2 : Int) * (x : Nat)) (by omega) (by omega), wrap_id (n := (2 : Int) * (x : Nat) + 1) (by omega) (by omega), e, wrap_id (n := (((2 * x + 1) * u : Nat) : Int)) (by omega) (by omega), show ((32 : Int)) = ((32 : Nat) : Int) from rfl, tmodN]
  generalize (2 * x + 1) * u = k at *
  intro J hJ
  have nx : ∀ r : Nat, r ≤ 16 → (∀ H', Ext H H' → R (.int .i64 (if r ≤ 8 then wtab.getD r 0 else -wtab.getD (16 - r) 0)) H') → J [.int .i64 (r : Nat)] H := fun r hr hR => by
    refine hJ _ H ((St.nil H).alc fun b H1 hs1 => ⟨rfl, ?_⟩)
    refine hs1.putAll 0 rfl rfl (by simp [Value.oneCell']) fun H2 hs2 => ?_
    refine br_dec (fun h8 => ?_) (fun h8 => ⟨by omega, by omega, wtab.getD r 0, ?_, ?_⟩)
    · rw [wrap_id (n := (16 : Int) - (r : Nat)) (by omega) (by omega), show (16 : Int) - ((r : Nat) : Int) = ((16 - r : Nat) : Int) from by omega]
      refine ⟨by omega, by omega, wtab.getD (16 - r) 0, ?_, ?_⟩
      · rw [add_none, Nat.zero_add, Int.toNat_natCast]
        exact hs2.get 0 rfl (wtabA _ (by omega))
      · have := wtab_rng (16 - r)
        rw [wrap_id (by omega) (by omega), Int.zero_sub]
        have := hR H2 hs2.ext
        rw [if_neg (by omega)] at this
        exact this
    · rw [add_none, Nat.zero_add, Int.toNat_natCast]
      exact hs2.get 0 rfl (wtabA _ (by omega))
    · have := hR H2 hs2.ext
      rw [if_pos (by omega)] at this
      exact this
  refine br_dec (fun h16 => ?_) (fun h16 => nx (k % 32) (by omega) ?_)
  · rw [wrap_id (by omega) (by omega), show ((32 : Nat) : Int) - ((k % 32 : Nat) : Int) = ((32 - k % 32 : Nat) : Int) from by omega]
    rw [if_neg (by omega), if_neg (by omega)] at hR
    exact nx _ (by omega) hR
  · intro H' e'
    have := hR H' e'
    split at this
    · rename_i h8; rw [if_pos h8]; exact this
    · rename_i h8; rw [if_neg h8]; rw [if_pos (by omega)] at this; exact this

theorem c35 (hR : ∀ H', Ext H H' → R (.agg (ints cT).toArray) H') : CallsH Try.prog 35 #[] H R := by
  refine Try.s35 (_u := ()) ?_
  unfold Try.S35
  refine (St.nil H).alc fun b1 H1 hs1 => hs1.alc fun b H2 hs2 => ?_
  rw [zeroA] at hs2
  intro X hX
  have hl := cT_len
  have outer : ∀ u, u ≤ 8 → ∀ H3, St H H3 [.cell b (ints (fillA cT (8 * u))).toArray 34, .cell b1 (ints (List.replicate 64 0)).toArray 34] → X [.int .i64 (u : Nat)] H3 := upto fun u hu ih H3 hs3 => by
    refine hX _ H3 (br_dec (fun hlt => ?_) (fun hge => ?_))
    · have hlt : u < 8 := by omega
      rw [wrap_id (n := (u : Int) + 1) (by omega) (by omega)]
      intro Y hY
      have inner : ∀ x, x ≤ 8 → ∀ H4, St H H4 [.cell b (ints (fillA cT (8 * u + x))).toArray 34, .cell b1 (ints (List.replicate 64 0)).toArray 34] → Y [.int .i64 (x : Nat)] H4 := upto fun x hx ihx H4 hs4 => by
        refine hY _ H4 (br_dec (fun hltx => ?_) (fun hgex => ?_))
        · have hltx : x < 8 := by omega
          refine c53 hlt hltx fun H5 e5 => ⟨_, rfl, ?_⟩
          rw [wrap_id (n := (8 : Int) * (u : Nat)) (by omega) (by omega), wrap_id (n := (8 : Int) * (u : Nat) + (x : Nat)) (by omega) (by omega), show (8 : Int) * (u : Nat) + (x : Nat) = ((8 * u + x : Nat) : Int) from by omega, wrap_id (n := (x : Int) + 1) (by omega) (by omega)]
          refine ⟨by omega, by omega, ?_⟩
          rw [add_none, Nat.zero_add, Int.toNat_natCast, Nat.mul_one]
          refine (hs4.step e5).putA 0 rfl (by rw [fillA_len (by omega)]; omega) fun H6 hs6 => ihx hltx H6 ?_
          have hg : cM u x = cT.getD (8 * u + x) 0 := by
            have := cT_get hlt hltx
            rw [Nat.mul_comm] at this
            rw [List.getD_eq_getElem?_getD, this]; rfl
          rw [hg, fillA_set (by omega)] at hs6
          exact hs6
        · have : x = 8 := by omega
          subst this
          exact ih hlt H4 hs4
      exact inner 0 (by omega) H3 hs3
    · have : u = 8 := by omega
      subst this
      have e := fillA_all cT
      rw [hl] at e
      rw [e] at hs3
      refine ⟨_, by rw [intsA_size]; exact hl, rowIn_whole (hs3.block 0 rfl), by rw [intsA_size]; exact hl, ?_⟩
      refine hs3.putAllA 1 rfl (by rw [intsA_size, hl]; simp) fun H4 hs4 => ?_
      exact ⟨_, by rw [intsA_size]; exact hl, rowIn_whole (hs4.block 1 rfl), hR H4 hs4.ext⟩
  exact outer 0 (by omega) H2 (by rw [Nat.mul_zero, fillA_zero, hl]; exact hs2)

/-- Rounded down. -/
theorem tdiv_down26 {n : Int} : (Int.tdiv (n - (if Int.tmod n 67108864 < 0 then Int.tmod n 67108864 + 67108864 else Int.tmod n 67108864)) 67108864) = n / 67108864 := by
  rcases Int.le_total 0 n with h | h
  · rw [Int.tmod_eq_emod_of_nonneg h, if_neg (by omega), Int.tdiv_eq_ediv_of_nonneg (by omega)]; omega
  · obtain ⟨a, rfl⟩ : ∃ a, n = -a := ⟨-n, by omega⟩
    rw [Int.neg_tmod, Int.tmod_eq_emod_of_nonneg (by omega)]
    split
    · rw [show -a - (-(a % 67108864) + 67108864) = -(a - a % 67108864 + 67108864) from by omega, Int.neg_tdiv, Int.tdiv_eq_ediv_of_nonneg (by omega)]; omega
    · rw [show -a - -(a % 67108864) = -(a - a % 67108864) from by omega, Int.neg_tdiv, Int.tdiv_eq_ediv_of_nonneg (by omega)]; omega
theorem tdiv_down16 {n : Int} : (Int.tdiv (n - (if Int.tmod n 65536 < 0 then Int.tmod n 65536 + 65536 else Int.tmod n 65536)) 65536) = n / 65536 := by
  rcases Int.le_total 0 n with h | h
  · rw [Int.tmod_eq_emod_of_nonneg h, if_neg (by omega), Int.tdiv_eq_ediv_of_nonneg (by omega)]; omega
  · obtain ⟨a, rfl⟩ : ∃ a, n = -a := ⟨-n, by omega⟩
    rw [Int.neg_tmod, Int.tmod_eq_emod_of_nonneg (by omega)]
    split
    · rw [show -a - (-(a % 65536) + 65536) = -(a - a % 65536 + 65536) from by omega, Int.neg_tdiv, Int.tdiv_eq_ediv_of_nonneg (by omega)]; omega
    · rw [show -a - -(a % 65536) = -(a - a % 65536) from by omega, Int.neg_tdiv, Int.tdiv_eq_ediv_of_nonneg (by omega)]; omega
theorem tmod_bd (n m : Int) (hm : 0 < m) : -m < Int.tmod n m ∧ Int.tmod n m < m := by
  rcases Int.le_total 0 n with h | h
  · rw [Int.tmod_eq_emod_of_nonneg h]
    have := Int.emod_nonneg n (show m ≠ 0 by omega)
    have := Int.emod_lt_of_pos n hm
    omega
  · obtain ⟨a, rfl⟩ : ∃ a, n = -a := ⟨-n, by omega⟩
    rw [Int.neg_tmod, Int.tmod_eq_emod_of_nonneg (by omega)]
    have := Int.emod_nonneg a (show m ≠ 0 by omega)
    have := Int.emod_lt_of_pos a hm
    omega
theorem down26 {n : Int} (h : -1000000000000000 ≤ n ∧ n ≤ 1000000000000000) (hR : R (.int .i64 (n / 67108864)) H) : CallsH Try.prog 36 #[.int .i64 n, .int .i64 (67108864 : Int)] H R := by
  have hb := tmod_bd n 67108864 (by decide)
  have hd := tdiv_down26 (n := n)
  refine Try.s36 ⟨by decide, ?_⟩
  intro J hJ
  refine br_dec (fun hlt => hJ _ H ⟨by decide, ?_⟩) (fun hge => hJ _ H ⟨by decide, ?_⟩)
  · rw [if_pos hlt] at hd
    rw [wrap_id (n := Int.tmod n 67108864 + 67108864) (by omega) (by omega), wrap_id (n := n - _) (by omega) (by omega), hd, wrap_id (by omega) (by omega)]
    exact hR
  · rw [if_neg hge] at hd
    rw [wrap_id (n := n - _) (by omega) (by omega), hd, wrap_id (by omega) (by omega)]
    exact hR
theorem down16 {n : Int} (h : -1000000000000000 ≤ n ∧ n ≤ 1000000000000000) (hR : R (.int .i64 (n / 65536)) H) : CallsH Try.prog 36 #[.int .i64 n, .int .i64 (65536 : Int)] H R := by
  have hb := tmod_bd n 65536 (by decide)
  have hd := tdiv_down16 (n := n)
  refine Try.s36 ⟨by decide, ?_⟩
  intro J hJ
  refine br_dec (fun hlt => hJ _ H ⟨by decide, ?_⟩) (fun hge => hJ _ H ⟨by decide, ?_⟩)
  · rw [if_pos hlt] at hd
    rw [wrap_id (n := Int.tmod n 65536 + 65536) (by omega) (by omega), wrap_id (n := n - _) (by omega) (by omega), hd, wrap_id (by omega) (by omega)]
    exact hR
  · rw [if_neg hge] at hd
    rw [wrap_id (n := n - _) (by omega) (by omega), hd, wrap_id (by omega) (by omega)]
    exact hR

end Go.Proofs
