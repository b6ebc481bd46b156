/-
  OWN WORK. Waves of numbers over heaps, the program's and the document's; numbers in steps.
-/
import Derived.Test.YtmappfblfoklfaaJpA
set_option linter.unusedVariables false
set_option linter.unusedSimpArgs false
namespace Go.Proofs
open Go.Sh
variable {H0 H : Heap} {σ : List Rs} {R : Value → Heap → Prop}

def halfV (s : List Int) (y u : Nat) : Int := sumN 8 fun x => s.getD (y * 8 + x) 0 * cM u x
def fwdV (s : List Int) (v u : Nat) : Int := sumN 8 fun y => halfV s y u * cM v y
def nearM (n : Int) : Int := (n + 33554432) / 67108864
def fwdM (s : List Int) : List Int := (List.range 64).map fun i => nearM (fwdV s (i / 8) (i % 8))
def Small (s : List Int) : Prop := s.length = 64 ∧ ∀ i, -255 ≤ s.getD i 0 ∧ s.getD i 0 ≤ 255
theorem fwdM_len (s : List Int) : (fwdM s).length = 64 := tab_len _ _

theorem term_bd {s : List Int} (h : Small s) (j u x : Nat) : -1044480 ≤ s.getD j 0 * cM u x ∧ s.getD j 0 * cM u x ≤ 1044480 := by
  have := mul_bd (h.2 j) (cM_rng u x); omega
theorem half_part {s : List Int} (h : Small s) (y u : Nat) {n : Nat} (hn : n ≤ 8) : -8355840 ≤ sumN n (fun x => s.getD (y * 8 + x) 0 * cM u x) ∧ sumN n (fun x => s.getD (y * 8 + x) 0 * cM u x) ≤ 8355840 := by
  have := sumN_bd (f := fun x => s.getD (y * 8 + x) 0 * cM u x) (B := 1044480) n fun x _ => term_bd h _ _ _
  omega
theorem half_bd {s : List Int} (h : Small s) (y u : Nat) : -8355840 ≤ halfV s y u ∧ halfV s y u ≤ 8355840 := half_part h y u (Nat.le_refl 8)
theorem fterm_bd {s : List Int} (h : Small s) (y u v : Nat) : -34225520640 ≤ halfV s y u * cM v y ∧ halfV s y u * cM v y ≤ 34225520640 := by
  have := mul_bd (half_bd h y u) (cM_rng v y); omega
theorem fwd_part {s : List Int} (h : Small s) (v u : Nat) {n : Nat} (hn : n ≤ 8) : -273804165120 ≤ sumN n (fun y => halfV s y u * cM v y) ∧ sumN n (fun y => halfV s y u * cM v y) ≤ 273804165120 := by
  have := sumN_bd (f := fun y => halfV s y u * cM v y) (B := 34225520640) n fun y _ => fterm_bd h _ _ _
  omega
theorem fwd_bd {s : List Int} (h : Small s) (v u : Nat) : -273804165120 ≤ fwdV s v u ∧ fwdV s v u ≤ 273804165120 := fwd_part h v u (Nat.le_refl 8)
theorem near_bd {s : List Int} (h : Small s) (v u : Nat) : -5000 ≤ nearM (fwdV s v u) ∧ nearM (fwdV s v u) ≤ 5000 := by
  have := fwd_bd h v u
  unfold nearM; omega

theorem shr26 (x : Int) : shrI .i64 x (26 : Int) = x / 67108864 := by
  unfold shrI
  rw [show min (26 : Int).toNat (IntKind.bits .i64) = 26 from rfl]
  exact Int.fdiv_eq_ediv_of_nonneg _ (by decide)
theorem c33 {n : Int} (h : -1000000000000000 ≤ n ∧ n ≤ 1000000000000000) (hR : R (.int .i64 (nearM n)) H) : CallsH Try.prog 33 #[.int .i64 n] H R := by
  refine Try.s33 ⟨by decide, ?_⟩
  rw [wrap_id (by omega) (by omega), shr26]
  exact hR

theorem ix1 {i x : Nat} (hi : i < 64) (hx : x < 8) : IntKind.wrap .i64 (IntKind.wrap .i64 (IntKind.wrap .i64 (Int.tdiv (i : Int) 8) * 8) + (x : Int)) = ((i / 8 * 8 + x : Nat) : Int) := by
  rw [show (8 : Int) = ((8 : Nat) : Int) from rfl, tdivN, wN (by omega), wrap_id (n := ((i / 8 : Nat) : Int) * ((8 : Nat) : Int)) (by omega) (by omega), wrap_id (by omega) (by omega)]; omega
theorem ix2 {i y : Nat} (hi : i < 64) (hy : y < 8) : IntKind.wrap .i64 (IntKind.wrap .i64 ((y : Int) * 8) + Int.tmod (i : Int) 8) = ((y * 8 + i % 8 : Nat) : Int) := by
  rw [show (8 : Int) = ((8 : Nat) : Int) from rfl, tmodN, wrap_id (n := (y : Int) * ((8 : Nat) : Int)) (by omega) (by omega), wrap_id (by omega) (by omega)]; omega
theorem ix3 (i : Nat) : Int.tmod (i : Int) 8 = ((i % 8 : Nat) : Int) := tmodN i 8
theorem ix4 {i : Nat} (hi : i < 1000000) : IntKind.wrap .i64 (Int.tdiv (i : Int) 8) = ((i / 8 : Nat) : Int) := by
  rw [show (8 : Int) = ((8 : Nat) : Int) from rfl, tdivN, wN (by omega)]
theorem w1 {i : Nat} (hi : i < 1000000000) : IntKind.wrap .i64 ((i : Int) + 1) = ((i + 1 : Nat) : Int) := by rw [wrap_id (by omega) (by omega)]; omega

set_option maxHeartbeats 1000000 in
theorem c17 {s : List Int} (h : Small s) (hR : ∀ H', Ext H H' → R (.agg (ints (fwdM s)).toArray) H') : CallsH Try.prog 17 #[.agg (ints s).toArray] H R := by
  have hsl := h.1
  have hcl := cT_len
  refine Try.s17 ?_
  unfold Try.S17
  refine (St.nil H).alc fun b2 H1 hs1 => hs1.alc fun b4 H2 hs2 => c32 fun H3 e3 => ⟨_, rfl, ?_⟩
  refine (hs2.step e3).alc fun b9 H4 hs4 => ⟨by rw [intsA_size]; exact hcl, hs4.putAllA 0 rfl (by rw [hcl]; simp) fun H5 hs5 => hs5.alc fun b12 H6 hs6 => hs6.alc fun b14 H7 hs7 => ?_⟩
  simp only [zeroA, List.set_cons_zero] at hs7
  clear hs1 hs2 hs4 hs5 hs6
  intro X hX
  have hl1 := tab_len 64 fun i => halfV s (i / 8) (i % 8)
  generalize hL1 : (List.range 64).map (fun i => halfV s (i / 8) (i % 8)) = L1 at hl1
  have hg1 : ∀ i, i < 64 → L1.getD i 0 = halfV s (i / 8) (i % 8) := fun i hi => by rw [← hL1]; exact tab_getD hi
  have hlf := fwdM_len s
  have two : ∀ H8, St H H8 [.cell b14 (ints (List.replicate 64 0)).toArray 34, .cell b12 (ints L1).toArray 34, .cell b9 (ints cT).toArray 86, .cell b4 (ints (List.replicate 64 0)).toArray 34, .cell b2 (ints s).toArray 34] → X [.int .i64 ((64 : Nat) : Int)] H8 := fun H8 hs8 => by
    refine hX _ H8 (br_n (by omega) ?_)
    intro Y hY
    have go : ∀ i, i ≤ 64 → ∀ H9, St H H9 [.cell b14 (ints (fillA (fwdM s) i)).toArray 34, .cell b12 (ints L1).toArray 34, .cell b9 (ints cT).toArray 86, .cell b4 (ints (List.replicate 64 0)).toArray 34, .cell b2 (ints s).toArray 34] → Y [.int .i64 (i : Nat)] H9 := upto fun i hi ih H9 hs9 => by
      refine hY _ H9 (br_dec (fun hlt => ?_) (fun hge => ?_))
      · have hlt : i < 64 := by omega
        rw [w1 (by omega)]
        intro Z hZ
        have inner : ∀ y, y ≤ 8 → Z [.int .i64 (sumN y fun y => halfV s y (i % 8) * cM (i / 8) y), .int .i64 (y : Nat)] H9 := upto fun y hy ihy => by
          refine hZ _ _ H9 (br_dec (fun hlty => ?_) (fun hgey => ?_))
          · have hlty : y < 8 := by omega
            rw [ix2 hlt hlty, ix4 (by omega), w1 (by omega)]
            have v1 : L1[y * 8 + i % 8]? = some (halfV s y (i % 8)) := by
              rw [getD_some L1 0 (by omega), hg1 _ (by omega), show (y * 8 + i % 8) / 8 = y from by omega, show (y * 8 + i % 8) % 8 = i % 8 from by omega]
            have v2 : cT[(i / 8) * 8 + y]? = some (cM (i / 8) y) := cT_get (by omega) hlty
            refine ⟨by decide, by omega, by omega, halfV s y (i % 8), ?_, by decide, by omega, by omega, by omega, by omega, cM (i / 8) y, ?_, ?_⟩
            · rw [add_none, Nat.zero_add, Int.toNat_natCast, Nat.mul_one]; exact hs9.rdA 1 rfl v1
            · rw [add_none, add_none, Nat.zero_add, Int.toNat_natCast, Int.toNat_natCast, Nat.mul_one]; exact hs9.rdA 2 rfl v2
            · have t1 := fterm_bd h y (i % 8) (i / 8)
              have t2 := fwd_part h (i / 8) (i % 8) (n := y) (by omega)
              rw [wrap_id (n := halfV s y (i % 8) * cM (i / 8) y) (by omega) (by omega), wrap_id (by omega) (by omega)]
              exact ihy hlty
          · have : y = 8 := by omega
            subst this
            have t2 := fwd_bd h (i / 8) (i % 8)
            unfold fwdV at t2
            refine c33 (by omega) ⟨_, rfl, by omega, by omega, ?_⟩
            rw [add_none, Nat.zero_add, Int.toNat_natCast, Nat.mul_one]
            refine hs9.putA 0 rfl (by rw [fillA_len (by omega)]; omega) fun H10 hs10 => ih hlt H10 ?_
            have e : nearM (sumN 8 fun y => halfV s y (i % 8) * cM (i / 8) y) = (fwdM s).getD i 0 := (tab_getD (f := fun i => nearM (fwdV s (i / 8) (i % 8))) hlt).symm
            rw [e, fillA_set (by omega)] at hs10
            exact hs10
        exact inner 0 (by omega)
      · have : i = 64 := by omega
        subst this
        have e := fillA_all (fwdM s)
        rw [hlf] at e
        rw [e] at hs9
        refine ⟨_, by rw [intsA_size]; exact hlf, rowIn_whole (hs9.block 0 rfl), by rw [intsA_size]; exact hlf, ?_⟩
        refine hs9.putAllA 3 rfl (by rw [intsA_size, hlf]; simp) fun H10 hs10 => ?_
        exact ⟨_, by rw [intsA_size]; exact hlf, rowIn_whole (hs10.block 3 rfl), hR H10 hs10.ext⟩
    exact go 0 (by omega) H8 (by rw [fillA_zero, hlf]; exact hs8)
  have go : ∀ i, i ≤ 64 → ∀ H9, St H H9 [.cell b14 (ints (List.replicate 64 0)).toArray 34, .cell b12 (ints (fillA L1 i)).toArray 34, .cell b9 (ints cT).toArray 86, .cell b4 (ints (List.replicate 64 0)).toArray 34, .cell b2 (ints s).toArray 34] → X [.int .i64 (i : Nat)] H9 := upto fun i hi ih H9 hs9 => by
    by_cases hlt : i < 64
    · refine hX _ H9 (br_y (by omega) ?_)
      rw [w1 (by omega)]
      intro Z hZ
      have inner : ∀ x, x ≤ 8 → ∀ H10, St H H10 [.cell b14 (ints (List.replicate 64 0)).toArray 34, .cell b12 (ints ((fillA L1 i).set i (sumN x fun x => s.getD (i / 8 * 8 + x) 0 * cM (i % 8) x))).toArray 34, .cell b9 (ints cT).toArray 86, .cell b4 (ints (List.replicate 64 0)).toArray 34, .cell b2 (ints s).toArray 34] → Z [.int .i64 (x : Nat)] H10 := upto fun x hx ihx H10 hs10 => by
        refine hZ _ H10 (br_dec (fun hltx => ?_) (fun hgex => ?_))
        · have hltx : x < 8 := by omega
          rw [ix1 hlt hltx, ix3, w1 (by omega)]
          have v1 := getD_some s 0 (i := i / 8 * 8 + x) (by omega)
          have v2 : cT[(i % 8) * 8 + x]? = some (cM (i % 8) x) := cT_get (by omega) hltx
          have v0 : ((fillA L1 i).set i (sumN x fun x => s.getD (i / 8 * 8 + x) 0 * cM (i % 8) x))[i]? = some (sumN x fun x => s.getD (i / 8 * 8 + x) 0 * cM (i % 8) x) := List.getElem?_set_self (by rw [fillA_len (by omega)]; omega)
          refine ⟨by omega, by omega, (sumN x fun x => s.getD (i / 8 * 8 + x) 0 * cM (i % 8) x), ?_, by decide, by omega, by omega, s.getD (i / 8 * 8 + x) 0, ?_, by decide, by omega, by omega, by omega, by omega, cM (i % 8) x, ?_, by omega, by omega, ?_⟩
          · rw [add_none, Nat.zero_add, Int.toNat_natCast, Nat.mul_one]; exact hs10.rdA 1 rfl v0
          · rw [add_none, Nat.zero_add, Int.toNat_natCast, Nat.mul_one]; exact hs10.rdA 4 rfl v1
          · rw [add_none, add_none, Nat.zero_add, Int.toNat_natCast, Int.toNat_natCast, Nat.mul_one]; exact hs10.rdA 2 rfl v2
          · have t1 := term_bd h (i / 8 * 8 + x) (i % 8) x
            have t2 := half_part h (i / 8) (i % 8) (n := x) (by omega)
            rw [wrap_id (n := s.getD (i / 8 * 8 + x) 0 * cM (i % 8) x) (by omega) (by omega), wrap_id (by omega) (by omega), add_none, Nat.zero_add, Int.toNat_natCast, Nat.mul_one]
            refine hs10.putA 1 rfl (by rw [List.length_set, fillA_len (by omega)]; omega) fun H11 hs11 => ihx hltx H11 ?_
            simp only [List.set_set, List.set_cons_succ, List.set_cons_zero] at hs11
            exact hs11
        · have : x = 8 := by omega
          subst this
          refine ih hlt H10 ?_
          have e : (sumN 8 fun x => s.getD (i / 8 * 8 + x) 0 * cM (i % 8) x) = L1.getD i 0 := by rw [hg1 i hlt]; rfl
          rw [e, fillA_set (by omega)] at hs10
          exact hs10
      refine inner 0 (by omega) H9 ?_
      rw [sumN, fillA_set0 (by omega)]; exact hs9
    · have : i = 64 := by omega
      subst this
      have e := fillA_all L1
      rw [hl1] at e
      rw [e] at hs9
      exact two H9 hs9
  exact go 0 (by omega) H7 (by rw [fillA_zero, hl1]; exact hs7)

/-! ### the document's -/

theorem ref_term {s : List Int} (h : Small s) (u v i : Nat) : (-1044480 ≤ s.getD i 0 * cM u (i % 8) ∧ s.getD i 0 * cM u (i % 8) ≤ 1044480) ∧ -4278190080 ≤ s.getD i 0 * cM u (i % 8) * cM v (i / 8) ∧ s.getD i 0 * cM u (i % 8) * cM v (i / 8) ≤ 4278190080 := by
  have h1 := term_bd h i u (i % 8)
  have h2 := mul_bd h1 (cM_rng v (i / 8))
  exact ⟨h1, by omega⟩
theorem ref_sum (s : List Int) (u v : Nat) : sumN 64 (fun i => s.getD i 0 * cM u (i % 8) * cM v (i / 8)) = fwdV s v u := by
  rw [show (64 : Nat) = 8 * 8 from rfl, sumN_rows]
  unfold fwdV halfV
  refine sumN_congr fun y hy => ?_
  rw [sumN_mul]
  refine sumN_congr fun x hx => ?_
  rw [show (8 * y + x) % 8 = x from by omega, show (8 * y + x) / 8 = y from by omega, Nat.mul_comm 8 y]

set_option maxHeartbeats 1000000 in
theorem c21 {s : List Int} (h : Small s) (hR : ∀ H', Ext H H' → R (.agg (ints (fwdM s)).toArray) H') : CallsH Try.prog 21 #[.agg (ints s).toArray] H R := by
  have hsl := h.1
  have hcl := cT_len
  have hlf := fwdM_len s
  refine Try.s21 ?_
  unfold Try.S21
  refine (St.nil H).alc fun b2 H1 hs1 => hs1.alc fun b4 H2 hs2 => c35 fun H3 e3 => ⟨_, rfl, ?_⟩
  refine (hs2.step e3).alc fun b9 H4 hs4 => ⟨by rw [intsA_size]; exact hcl, hs4.putAllA 0 rfl (by rw [hcl]; simp) fun H5 hs5 => hs5.alc fun b12 H6 hs6 => ?_⟩
  simp only [zeroA, List.set_cons_zero] at hs6
  clear hs1 hs2 hs4 hs5
  intro X hX
  have outer : ∀ v, v ≤ 8 → ∀ H7, St H H7 [.cell b12 (ints (fillA (fwdM s) (8 * v))).toArray 34, .cell b9 (ints cT).toArray 34, .cell b4 (ints (List.replicate 64 0)).toArray 34, .cell b2 (ints s).toArray 34] → X [.int .i64 (v : Nat)] H7 := upto fun v hv ihv H7 hs7 => by
    refine hX _ H7 (br_dec (fun hlt => ?_) (fun hge => ?_))
    · have hltv : v < 8 := by omega
      rw [w1 (by omega)]
      intro Y hY
      have mid : ∀ u, u ≤ 8 → ∀ H8, St H H8 [.cell b12 (ints (fillA (fwdM s) (8 * v + u))).toArray 34, .cell b9 (ints cT).toArray 34, .cell b4 (ints (List.replicate 64 0)).toArray 34, .cell b2 (ints s).toArray 34] → Y [.int .i64 (u : Nat)] H8 := upto fun u hu ihu H8 hs8 => by
        refine hY _ H8 (br_dec (fun hlt => ?_) (fun hge => ?_))
        · have hltu : u < 8 := by omega
          rw [w1 (i := u) (by omega)]
          intro Z hZ
          have w8u : IntKind.wrap .i64 ((8 : Int) * (u : Nat)) = ((8 * u : Nat) : Int) := by rw [wrap_id (by omega) (by omega)]; omega
          have w8v : IntKind.wrap .i64 ((8 : Int) * (v : Nat)) = ((8 * v : Nat) : Int) := by rw [wrap_id (by omega) (by omega)]; omega
          have inner : ∀ i, i ≤ 64 → Z [.int .i64 (33554432 + sumN i fun i => s.getD i 0 * cM u (i % 8) * cM v (i / 8)), .int .i64 (i : Nat)] H8 := upto fun i hi ihi => by
            refine hZ _ _ H8 (br_dec (fun hlt => ?_) (fun hge => ?_))
            · have hlt : i < 64 := by omega
              rw [w8u, w8v, ix3, ix4 (by omega), w1 (by omega), wrap_id (n := ((8 * u : Nat) : Int) + ((i % 8 : Nat) : Int)) (by omega) (by omega), wrap_id (n := ((8 * v : Nat) : Int) + ((i / 8 : Nat) : Int)) (by omega) (by omega),
                show ((8 * u : Nat) : Int) + ((i % 8 : Nat) : Int) = ((u * 8 + i % 8 : Nat) : Int) from by omega, show ((8 * v : Nat) : Int) + ((i / 8 : Nat) : Int) = ((v * 8 + i / 8 : Nat) : Int) from by omega]
              have v1 := getD_some s 0 (i := i) (by omega)
              have v2 : cT[u * 8 + i % 8]? = some (cM u (i % 8)) := cT_get hltu (by omega)
              have v3 : cT[v * 8 + i / 8]? = some (cM v (i / 8)) := cT_get hltv (by omega)
              refine ⟨by omega, by omega, s.getD i 0, ?_, by decide, by omega, by omega, cM u (i % 8), ?_, by decide, by omega, by omega, cM v (i / 8), ?_, ?_⟩
              · rw [add_none, Nat.zero_add, Int.toNat_natCast, Nat.mul_one]; exact hs8.rdA 3 rfl v1
              · rw [add_none, Nat.zero_add, Int.toNat_natCast, Nat.mul_one]; exact hs8.rdA 1 rfl v2
              · rw [add_none, Nat.zero_add, Int.toNat_natCast, Nat.mul_one]; exact hs8.rdA 1 rfl v3
              · obtain ⟨t1, t2⟩ := ref_term h u v i
                have t3 := sumN_bd (f := fun i => s.getD i 0 * cM u (i % 8) * cM v (i / 8)) (B := 4278190080) i fun j _ => (ref_term h u v j).2
                rw [wrap_id (n := s.getD i 0 * cM u (i % 8)) (by omega) (by omega), wrap_id (n := s.getD i 0 * cM u (i % 8) * cM v (i / 8)) (by omega) (by omega), wrap_id (by omega) (by omega), Int.add_assoc]
                exact ihi hlt
            · have : i = 64 := by omega
              subst this
              rw [ref_sum]
              have t := fwd_bd h v u
              refine down26 (by omega) ⟨_, rfl, ?_⟩
              rw [w8v, wrap_id (by omega) (by omega), show ((8 * v : Nat) : Int) + (u : Nat) = ((8 * v + u : Nat) : Int) from by omega]
              refine ⟨by omega, by omega, ?_⟩
              rw [add_none, Nat.zero_add, Int.toNat_natCast, Nat.mul_one]
              refine hs8.putA 0 rfl (by rw [fillA_len (by omega)]; omega) fun H9 hs9 => ihu hltu H9 ?_
              have e : (33554432 + fwdV s v u) / 67108864 = (fwdM s).getD (8 * v + u) 0 := by
                rw [show (fwdM s).getD (8 * v + u) 0 = nearM (fwdV s ((8 * v + u) / 8) ((8 * v + u) % 8)) from tab_getD (by omega), show (8 * v + u) / 8 = v from by omega, show (8 * v + u) % 8 = u from by omega]
                unfold nearM; rw [Int.add_comm]
              rw [e, fillA_set (by omega)] at hs9
              exact hs9
          have := inner 0 (by omega)
          rw [sumN, Int.add_zero] at this
          exact this
        · have : u = 8 := by omega
          subst this
          exact ihv hltv H8 hs8
      exact mid 0 (by omega) H7 hs7
    · have : v = 8 := by omega
      subst this
      have e := fillA_all (fwdM s)
      rw [hlf] at e
      rw [e] at hs7
      refine ⟨_, by rw [intsA_size]; exact hlf, rowIn_whole (hs7.block 0 rfl), by rw [intsA_size]; exact hlf, ?_⟩
      refine hs7.putAllA 2 rfl (by rw [intsA_size, hlf]; simp) fun H10 hs10 => ?_
      exact ⟨_, by rw [intsA_size]; exact hlf, rowIn_whole (hs10.block 2 rfl), hR H10 hs10.ext⟩
  exact outer 0 (by omega) H6 (by rw [Nat.mul_zero, fillA_zero, hlf]; exact hs6)

/-! ### in steps -/

def inStepsM (f t : Int) : Int := if f < 0 then -((-f + t / 2) / t) else (f + t / 2) / t
theorem quo_bd {n t : Int} (h0 : 0 ≤ n) (ht : 1 ≤ t) : 0 ≤ n / t ∧ n / t ≤ n := ⟨Int.ediv_nonneg h0 (by omega), Int.ediv_le_self _ h0⟩
theorem inPos {f t : Int} (hf : 0 ≤ f ∧ f ≤ 10000) (ht : 1 ≤ t ∧ t ≤ 255) (hR : R (.int .i64 ((f + t / 2) / t)) H) : CallsH Try.prog 18 #[.int .i64 f, .int .i64 t] H R := by
  refine Try.s18 (br_n (by omega) ⟨by decide, by omega, ?_⟩)
  have := quo_bd (n := f + t / 2) (t := t) (by omega) (by omega)
  rw [Int.tdiv_eq_ediv_of_nonneg (a := t) (by omega), wrap_id (n := t / 2) (by omega) (by omega), wrap_id (n := f + t / 2) (by omega) (by omega), Int.tdiv_eq_ediv_of_nonneg (by omega), wrap_id (by omega) (by omega)]
  exact hR
theorem c18 {f t : Int} (hf : -5000 ≤ f ∧ f ≤ 5000) (ht : 1 ≤ t ∧ t ≤ 255) (hR : R (.int .i64 (inStepsM f t)) H) : CallsH Try.prog 18 #[.int .i64 f, .int .i64 t] H R := by
  unfold inStepsM at hR
  by_cases h : f < 0
  · rw [if_pos h] at hR
    refine Try.s18 (br_y h ?_)
    rw [wrap_id (by omega) (by omega), Int.zero_sub]
    have := quo_bd (n := -f + t / 2) (t := t) (by omega) (by omega)
    refine inPos (by omega) ht ⟨_, rfl, ?_⟩
    rw [wrap_id (by omega) (by omega), Int.zero_sub]
    exact hR
  · rw [if_neg h] at hR
    exact inPos (by omega) ht hR
theorem c22 {f t : Int} (hf : -5000 ≤ f ∧ f ≤ 5000) (ht : 1 ≤ t ∧ t ≤ 255) (hR : R (.int .i64 (inStepsM f t)) H) : CallsH Try.prog 22 #[.int .i64 f, .int .i64 t] H R := by
  unfold inStepsM at hR
  refine Try.s22 (br_dec (fun h => ⟨by decide, by omega, ?_⟩) (fun h => ⟨by decide, by omega, ?_⟩))
  · rw [if_pos h] at hR
    have := quo_bd (n := -f + t / 2) (t := t) (by omega) (by omega)
    rw [Int.tdiv_eq_ediv_of_nonneg (a := t) (by omega), wrap_id (n := t / 2) (by omega) (by omega), wrap_id (n := t / 2 - f) (by omega) (by omega), show t / 2 - f = -f + t / 2 from by omega, Int.tdiv_eq_ediv_of_nonneg (by omega), wrap_id (n := (-f + t / 2) / t) (by omega) (by omega), wrap_id (by omega) (by omega), Int.zero_sub]
    exact hR
  · rw [if_neg h] at hR
    have := quo_bd (n := f + t / 2) (t := t) (by omega) (by omega)
    rw [Int.tdiv_eq_ediv_of_nonneg (a := t) (by omega), wrap_id (n := t / 2) (by omega) (by omega), wrap_id (n := f + t / 2) (by omega) (by omega), Int.tdiv_eq_ediv_of_nonneg (by omega), wrap_id (by omega) (by omega)]
    exact hR

end Go.Proofs
