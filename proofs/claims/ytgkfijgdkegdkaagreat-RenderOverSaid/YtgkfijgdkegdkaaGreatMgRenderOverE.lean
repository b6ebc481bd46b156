/-
  OWN WORK. Several texts in one: TrQ, TrR, TrS, TrT, FlA, RnA, RnB, RnC, RnD, RnE, TrU, TrV, RnF, TrW.
-/
import Derived.Test.YtgkfijgdkegdkaaGreatMgRenderOverD
import Derived.Test.YtgkfijgdkegdkaaGreatMgRenderOverB

set_option linter.unusedVariables false
set_option linter.unusedSimpArgs false
set_option maxRecDepth 10000
namespace Go.Proofs
open Go.Sh
variable {H0 H : Heap} {σ : List Rs} {R : Value → Heap → Prop}
def mostM (i : Nat) : Int := if 4 ≤ i then 68719476736 else 16777216
def inM (m : M6) (i : Nat) : Bool := decide (-(mostM i) ≤ m.l.getD i 0 ∧ m.l.getD i 0 ≤ mostM i)
def rightM (m : M6) : Bool := (List.range 6).all (inM m)
theorem rightM_iff (m : M6) : rightM m = true ↔ ((-16777216 ≤ m.a ∧ m.a ≤ 16777216) ∧ (-16777216 ≤ m.b ∧ m.b ≤ 16777216) ∧ (-16777216 ≤ m.c ∧ m.c ≤ 16777216) ∧ (-16777216 ≤ m.d ∧ m.d ≤ 16777216) ∧ (-68719476736 ≤ m.e ∧ m.e ≤ 68719476736) ∧ (-68719476736 ≤ m.f ∧ m.f ≤ 68719476736)) := by
 have : rightM m = (inM m 0 && (inM m 1 && (inM m 2 && (inM m 3 && (inM m 4 && (inM m 5 && true)))))) := rfl
 rw [this]
 simp only [Bool.and_eq_true, inM, decide_eq_true_eq, and_true]
 exact Iff.rfl
def roundM (n m : Int) : Int := if m < 0 then (2 * -n + -m) / (2 * -m) else (2 * n + m) / (2 * m)
def nearM (n : Int) : Int := (n + 32768) / 65536
def backR (m : M6) : M6 := ⟨roundM (m.d * 4294967296) (m.a * m.d - m.b * m.c), roundM (-m.b * 4294967296) (m.a * m.d - m.b * m.c), roundM (-m.c * 4294967296) (m.a * m.d - m.b * m.c), roundM (m.a * 4294967296) (m.a * m.d - m.b * m.c), 0, 0⟩
def backS (m : M6) : M6 := { backR m with e := nearM (-((backR m).a * m.e + (backR m).b * m.f)), f := nearM (-((backR m).c * m.e + (backR m).d * m.f)) }
def zeroM : M6 := ⟨0, 0, 0, 0, 0, 0⟩
def backM (m : M6) : Int × M6 :=
 if rightM m = false then (31, zeroM) else if m.a * m.d - m.b * m.c = 0 then (33, zeroM) else if rightM (backR m) = false then (33, zeroM) else if rightM (backS m) = false then (33, zeroM) else (0, backS m)
theorem floor_t {n m : Int} (hm : 0 < m) : n / m = if n.tmod m ≠ 0 ∧ n < 0 then n.tdiv m - 1 else n.tdiv m := by
 rw [Int.tdiv_eq_ediv]
 have h1 : n.tmod m = 0 ↔ m ∣ n := ⟨Int.dvd_of_tmod_eq_zero, Int.tmod_eq_zero_of_dvd⟩
 by_cases h : 0 ≤ n ∨ m ∣ n
 ·rw [if_pos h, if_neg (fun hh => by rcases h with h | h; omega; exact hh.1 (h1.2 h))]; omega
 ·have h2 : ¬ 0 ≤ n := fun hh => h (.inl hh)
  have h3 : ¬ m ∣ n := fun hh => h (.inr hh)
  rw [if_neg h, if_pos ⟨fun hh => h3 (h1.1 hh), by omega⟩, Int.sign_eq_one_of_pos hm]; omega
theorem tdiv_bd {n m B : Int} (hm : 0 < m) (hn : -B ≤ n ∧ n ≤ B) : -B ≤ n.tdiv m ∧ n.tdiv m ≤ B := by
 have h := Int.natAbs_tdiv n m
 have h2 : n.natAbs / m.natAbs ≤ n.natAbs := Nat.div_le_self _ _
 have h3 : (n.tdiv m).natAbs = n.natAbs / m.natAbs := h
 omega
theorem c132 {n m : Int} (hm : 0 < m) (hn : -4611686018427387904 ≤ n ∧ n ≤ 4611686018427387904) (hR : R (.int .i64 (n / m)) H) : CallsH Tryz.prog 132 #[.int .i64 n, .int .i64 m] H R := by
 refine Tryz.s132 ⟨by omega, ?_⟩
 intro J hJ
 have hb := tdiv_bd hm hn
 rw [wrap_id (n := n.tdiv m) (by omega) (by omega), wrap_id (n := n.tdiv m - 1) (by omega) (by omega)]
 rw [floor_t hm] at hR
 refine ⟨by omega, br_ne (fun h0 => ?_) fun h0 => ?_⟩
 ·rw [show decide (m < 0) = false from decide_eq_false (by omega)]
  by_cases hn0 : n < 0
  ·rw [if_pos ⟨h0, hn0⟩] at hR
   exact br_t (by rw [decide_eq_true hn0]; rfl) (hJ _ _ hR)
  ·rw [if_neg fun hh => hn0 hh.2] at hR
   exact br_f (by rw [decide_eq_false hn0]; rfl) (hJ _ _ hR)
 ·rw [if_neg fun hh => hh.1 h0] at hR
  exact hJ _ _ hR
theorem c112 {n m : Int} (hm : m ≠ 0) (hm2 : -2251799813685248 ≤ m ∧ m ≤ 2251799813685248) (hn : -144115188075855872 ≤ n ∧ n ≤ 144115188075855872) (hR : R (.int .i64 (roundM n m)) H) : CallsH Tryz.prog 112 #[.int .i64 n, .int .i64 m] H R := by
 refine Tryz.s112 ?_
 unfold Tryz.S112
 intro J hJ
 refine br_dec (fun h => hJ _ _ _ ?_) fun h => hJ _ _ _ ?_
 ·rw [wrap_id (n := 0 - n) (by omega) (by omega), wrap_id (n := 0 - m) (by omega) (by omega), wrap_id (n := 2 * (0 - n)) (by omega) (by omega), wrap_id (n := 2 * (0 - n) + (0 - m)) (by omega) (by omega), wrap_id (n := 2 * (0 - m)) (by omega) (by omega)]
  refine c132 (by omega) (by omega) ⟨_, rfl, ?_⟩
  unfold roundM at hR
  rw [if_pos h] at hR
  rw [Int.zero_sub, Int.zero_sub]; exact hR
 ·rw [wrap_id (n := 2 * n) (by omega) (by omega), wrap_id (n := 2 * n + m) (by omega) (by omega), wrap_id (n := 2 * m) (by omega) (by omega)]
  refine c132 (by omega) (by omega) ⟨_, rfl, ?_⟩
  unfold roundM at hR
  rw [if_neg h] at hR
  exact hR
theorem c113 {n : Int} (hn : -4611686018427387904 ≤ n ∧ n ≤ 4611686018427387904) (hR : R (.int .i64 (nearM n)) H) : CallsH Tryz.prog 113 #[.int .i64 n] H R := by
 refine Tryz.s113 ⟨by decide, ?_⟩
 rw [wrap_id (by omega) (by omega), shr16']
 exact hR
theorem c111 {m : M6} (hR : ∀ H', Ext H H' → R (.bool (rightM m)) H') : CallsH Tryz.prog 111 #[.agg (ints m.l).toArray] H R := by
 refine Tryz.s111 ?_
 unfold Tryz.S111
 refine (St.nil H).alcE fun b2 H3 he3 hs3 => ⟨_, rfl, rowIn_whole (hs3.block 0 rfl), ?_⟩
 intro X hX
 have go : ∀ k, k ≤ 6 → (List.range k).all (inM m) = true → X [.int .i64 (k : Nat)] H3 := by
  refine upto fun k hk ih hall => hX _ _ (br_dec (fun hlt => ?_) fun hge => ?_)
  ·have hk' : k < 6 := by omega
   have hget : (ints m.l).toArray[Int.toNat (k : Int) * 1]? = some (.int .i64 (m.l.getD k 0)) := by
    rw [show Int.toNat (k : Int) * 1 = k from Nat.mul_one k, List.getElem?_toArray]
    exact ints_get (getD_some m.l 0 (show k < 6 from hk'))
   refine ⟨by omega, by omega, _, hget, ?_⟩
   intro J hJ
   have main : ∀ most, most = mostM k → J [.int .i64 most] H3 := fun most hmo => by
    have hmr : 0 ≤ most ∧ most ≤ 68719476736 := by rw [hmo]; unfold mostM; split <;> omega
    refine hJ _ _ ?_
    rw [wrap_id (n := 0 - most) (by omega) (by omega), Int.zero_sub]
    have bad : ¬ (inM m k = true) → R (.bool false) H3 := fun hb => by
     have := hR H3 he3
     rw [show rightM m = false from by
      rw [Bool.eq_false_iff]; intro hh
      exact hb (List.all_eq_true.1 hh k (List.mem_range.2 hk'))] at this
     exact this
    refine br_dec (fun h1 => bad fun hh => ?_) fun h1 => br_dec (fun h2 => bad fun hh => ?_) fun h2 => ?_
    ·have := of_decide_eq_true hh; rw [← hmo] at this; omega
    ·have := of_decide_eq_true hh; rw [← hmo] at this; omega
    ·rw [wrap_id (by omega) (by omega)]
     refine ih hk' ?_
     rw [List.range_succ, List.all_append, hall, Bool.true_and, List.all_cons, List.all_nil, Bool.and_true]
     exact decide_eq_true (by rw [← hmo]; omega)
   exact br_dec (fun h => main _ (by unfold mostM; rw [if_pos (by omega)])) fun h => main _ (by unfold mostM; rw [if_neg (by omega)])
  ·have : k = 6 := by omega
   subst this
   have := hR H3 he3
   rw [show rightM m = true from hall] at this
   exact this
 exact go 0 (by omega) rfl
theorem c94 {n m : Int} (hm : 0 < m) (hm2 : m ≤ 4503599627370496) (hn : -4611686018427387904 ≤ n ∧ n ≤ 4611686018427387904) (hR : R (.int .i64 (n / m)) H) : CallsH Tryz.prog 94 #[.int .i64 n, .int .i64 m] H R := by
 refine Tryz.s94 ⟨by omega, ?_⟩
 intro J hJ
 have e0 := Int.emod_nonneg n (show m ≠ 0 by omega)
 have e1 := Int.emod_lt_of_pos n hm
 have e2 := Int.emod_add_mul_ediv n m
 have main : ∀ r, r = n % m → J [.int .i64 r] H := fun r hr => by
  refine hJ _ _ ⟨by omega, ?_⟩
  rw [wrap_id (n := n - r) (by omega) (by omega)]
  have hd : (n - r).tdiv m = n / m := by
   rw [hr, show n - n % m = m * (n / m) from by omega, Int.mul_tdiv_cancel_left _ (by omega)]
  have hb : -4611686018427387904 ≤ n / m ∧ n / m ≤ 4611686018427387904 := by
   have h1 := floor_t (n := n) hm
   have h2 := tdiv_bd hm hn
   refine ⟨?_, ?_⟩
   ·refine (Int.le_ediv_iff_mul_le hm).2 ?_
    have : 4611686018427387904 * 1 ≤ 4611686018427387904 * m := Int.mul_le_mul_of_nonneg_left (by omega) (by omega)
    rw [Int.neg_mul]; omega
   ·rw [h1]; split <;> omega
  rw [hd, wrap_id (by omega) (by omega)]
  exact hR
 have ht : n.tmod m = if 0 ≤ n ∨ m ∣ n then n % m else n % m - m := by
  rw [Int.tmod_eq_emod]
  by_cases h : 0 ≤ n ∨ m ∣ n
  ·rw [if_pos h, if_pos h]; omega
  ·rw [if_neg h, if_neg h, Int.natAbs_of_nonneg (by omega)]
 refine br_dec (fun h => ?_) fun h => ?_
 ·rw [wrap_id (by omega) (by omega)]
  refine main _ ?_
  rw [ht] at h ⊢
  split at h
  ·omega
  ·rename_i hc; rw [if_neg hc]; omega
 ·refine main _ ?_
  rw [ht] at h ⊢
  split at h
  ·rename_i hc; rw [if_pos hc]
  ·omega
theorem c119 {n m : Int} (hm : m ≠ 0) (hm2 : -2251799813685248 ≤ m ∧ m ≤ 2251799813685248) (hn : -144115188075855872 ≤ n ∧ n ≤ 144115188075855872) (hR : R (.int .i64 (roundM n m)) H) : CallsH Tryz.prog 119 #[.int .i64 n, .int .i64 m] H R := by
 refine Tryz.s119 (br_dec (fun h => ?_) fun h => ?_)
 ·rw [wrap_id (n := -2 * n) (by omega) (by omega), wrap_id (n := -2 * n - m) (by omega) (by omega), wrap_id (n := -2 * m) (by omega) (by omega)]
  refine c94 (by omega) (by omega) (by omega) ⟨_, rfl, ?_⟩
  unfold roundM at hR
  rw [if_pos h] at hR
  rw [show -2 * n - m = 2 * -n + -m from by omega, show -2 * m = 2 * -m from by omega]; exact hR
 ·rw [wrap_id (n := 2 * n) (by omega) (by omega), wrap_id (n := 2 * n + m) (by omega) (by omega), wrap_id (n := 2 * m) (by omega) (by omega)]
  refine c94 (by omega) (by omega) (by omega) ⟨_, rfl, ?_⟩
  unfold roundM at hR
  rw [if_neg h] at hR
  exact hR
theorem c120 {n : Int} (hn : -2611686018427387904 ≤ n ∧ n ≤ 2611686018427387904) (hR : R (.int .i64 (nearM n)) H) : CallsH Tryz.prog 120 #[.int .i64 n] H R := by
 refine Tryz.s120 ?_
 unfold Tryz.S120
 rw [wrap_id (by omega) (by omega)]
 exact c94 (by decide) (by decide) (by omega) ⟨_, rfl, hR⟩
theorem c118 {m : M6} (hR : ∀ H', Ext H H' → R (.bool (rightM m)) H') : CallsH Tryz.prog 118 #[.agg (ints m.l).toArray] H R := by
  refine Tryz.s118 ?_
  unfold Tryz.S118
  refine (St.nil H).alcE fun b2 H3 he3 hs3 => ?_
  have bad : ∀ k, k < 6 → ¬ (inM m k = true) → R (.bool false) H3 := fun k hk hb => by
    have := hR H3 he3
    rw [show rightM m = false from by
      rw [Bool.eq_false_iff]; intro hh
      exact hb (List.all_eq_true.1 hh k (List.mem_range.2 hk))] at this
    exact this
  have hget : ∀ k : Nat, k < 6 → Sh.cell H3 (Addr.add ⟨b2, 0, none⟩ (Int.toNat (k : Int) * 1)) = some (.int .i64 (m.l.getD k 0)) := fun k hk => by
    rw [show Int.toNat (k : Int) * 1 = k from Nat.mul_one k, add_none, Nat.zero_add]
    exact hs3.rdA 0 rfl (getD_some m.l 0 (show k < 6 from hk))
  intro X hX
  have more : ∀ k, k < 6 → (List.range k).all (inM m) = true → (-(mostM k) ≤ m.l.getD k 0 ∧ m.l.getD k 0 ≤ mostM k) → (List.range (k + 1)).all (inM m) = true := fun k hk hall hb => by
    rw [List.range_succ, List.all_append, hall, Bool.true_and, List.all_cons, List.all_nil, Bool.and_true]
    exact decide_eq_true hb
  have two : (List.range 4).all (inM m) = true → ∀ (X9 : List Value → Heap → Prop), (∀ i10 : Int, ∀ H_11 : Heap, (br (decide ((i10 : Int) < (6 : Int)))
 (0 ≤ i10 ∧ i10 < ((6 : Nat) : Int) ∧ ∃ v12 : Int, cell H_11 (Addr.add ⟨b2, 0, none⟩ (Int.toNat i10 * 1)) = some (Value.int .i64 v12) ∧ br (decide ((v12 : Int) < (-68719476736 : Int))) (R (Value.bool false) H_11) (0 ≤ i10 ∧ i10 < ((6 : Nat) : Int) ∧ ∃ v13 : Int, cell H_11 (Addr.add ⟨b2, 0, none⟩ (Int.toNat i10 * 1)) = some (Value.int .i64 v13) ∧ br (decide ((v13 : Int) > (68719476736 : Int)))
 (R (Value.bool false) H_11)
 (X9 [Value.int .i64 (IntKind.wrap .i64 (i10 + (1 : Int)))] H_11)))
 (R (Value.bool true) H_11)) → X9 [Value.int .i64 i10] H_11) → X9 [Value.int .i64 (4 : Int)] H3 := by
    intro h4 X9 hX9
    have go9 : ∀ k, k ≤ 6 → 4 ≤ k → (List.range k).all (inM m) = true → X9 [.int .i64 (k : Nat)] H3 := by
      refine upto fun k hk ih h4 hall => hX9 _ _ (br_dec (fun hlt => ?_) fun hge => ?_)
      · have hk' : k < 6 := by omega
        have hmo : mostM k = 68719476736 := by unfold mostM; rw [if_pos h4]
        refine ⟨by omega, by omega, _, hget k hk', br_dec (fun h1 => bad k hk' fun hh => ?_) fun h1 => ⟨by omega, by omega, _, hget k hk', br_dec (fun h2 => bad k hk' fun hh => ?_) fun h2 => ?_⟩⟩
        · have := of_decide_eq_true hh; rw [hmo] at this; omega
        · have := of_decide_eq_true hh; rw [hmo] at this; omega
        · rw [wrap_id (by omega) (by omega)]
          exact ih hk' (by omega) (more k hk' hall (by rw [hmo]; omega))
      · have : k = 6 := by omega
        subst this
        have := hR H3 he3
        rw [show rightM m = true from hall] at this
        exact this
    exact go9 4 (by omega) (Nat.le_refl _) h4
  have go : ∀ k, k ≤ 4 → (List.range k).all (inM m) = true → X [.int .i64 (k : Nat)] H3 := by
    refine upto fun k hk ih hall => hX _ _ (br_dec (fun hlt => ?_) fun hge => ?_)
    · have hk' : k < 4 := by omega
      have hmo : mostM k = 16777216 := by unfold mostM; rw [if_neg (by omega)]
      refine ⟨by omega, by omega, _, hget k (by omega), br_dec (fun h1 => bad k (by omega) fun hh => ?_) fun h1 => ⟨by omega, by omega, _, hget k (by omega), br_dec (fun h2 => bad k (by omega) fun hh => ?_) fun h2 => ?_⟩⟩
      · have := of_decide_eq_true hh; rw [hmo] at this; omega
      · have := of_decide_eq_true hh; rw [hmo] at this; omega
      · rw [wrap_id (by omega) (by omega)]
        exact ih hk' (more k (by omega) hall (by rw [hmo]; omega))
    · have : k = 4 := by omega
      subst this
      intro X9 hX9
      exact two hall X9 hX9
  exact go 0 (by omega) rfl
theorem shl32 {x : Int} (h : -16777216 ≤ x ∧ x ≤ 16777216) : shlI .i64 x (32 : Int) = x * 4294967296 := by
 unfold shlI
 rw [show min (32 : Int).toNat (IntKind.bits .i64) = 32 from rfl, show (2 : Int) ^ 32 = 4294967296 from rfl]
 exact wrap_id (by omega) (by omega)
theorem c79 {m : M6} (hR : ∀ H', Ext H H' → R (.tuple #[.agg (ints (backM m).2.l).toArray, .int .i64 (backM m).1]) H') : CallsH Tryz.prog 79 #[.agg (ints m.l).toArray] H R := by
  refine Tryz.s79 ?_
  unfold Tryz.S79
  refine (St.nil H).alc fun b2 H3 hs3 => hs3.alc fun b4 H5 hs5 => ⟨_, rfl, rowIn_whole (hs5.block 1 rfl), ?_⟩
  refine c111 fun H8 he8 => ⟨_, rfl, ?_⟩
  have hs8 := hs5.step he8
  have zero : ∀ {v : Int} {H1 : Heap}, backM m = (v, zeroM) → ∀ (i : Nat) {τ : List Rs} {cs : Array Value}, τ[i]? = some (.cell b4 cs 50) → cs.size = 6 → St H H1 τ →
      (#[Value.int .i64 0, Value.int .i64 0, Value.int .i64 0, Value.int .i64 0, Value.int .i64 0, Value.int .i64 0].size = 6 ∧ stAt H1 ⟨b4, 0, none⟩ (Array.toList #[Value.int .i64 0, Value.int .i64 0, Value.int .i64 0, Value.int .i64 0, Value.int .i64 0, Value.int .i64 0]) fun H_10 => ∃ res11 : Array Value, res11.size = 6 ∧ rowIn H_10 ⟨b4, 0, none⟩ res11 ∧ R (Value.tuple #[Value.agg res11, Value.int .i64 v]) H_10) := fun {v H1} hb i {τ cs} hi hcs hs =>
    ⟨rfl, hs.putAll i hi (by rw [hcs]; rfl) (by simp [Value.oneCell']) fun H9 hs9 => ⟨(ints zeroM.l).toArray, rfl, rowIn_whole (hs9.block i (by rw [List.getElem?_set_self (List.getElem?_eq_some_iff.1 hi).1]; rfl)), by
      have := hR H9 hs9.ext
      rw [hb] at this; exact this⟩⟩
  refine br_not (fun hr => zero (by unfold backM; rw [if_pos hr]) 0 rfl rfl hs8) fun hr => ?_
  obtain ⟨ba, bb, bc, bd, be, bf⟩ := (rightM_iff m).1 hr
  have hB1 : backM m = (if m.a * m.d - m.b * m.c = 0 then (33, zeroM) else if rightM (backR m) = false then (33, zeroM) else if rightM (backS m) = false then (33, zeroM) else (0, backS m)) := by
    unfold backM; rw [if_neg (by rw [hr]; simp)]
  have p1 := mul_bd ba bd
  have p2 := mul_bd bb bc
  refine ⟨by decide, by decide, m.a, hs8.rdA 1 (j := 0) rfl rfl, by decide, by decide, m.d, hs8.rdA 1 (j := 3) rfl rfl, by decide, by decide, m.b, hs8.rdA 1 (j := 1) rfl rfl, by decide, by decide, m.c, hs8.rdA 1 (j := 2) rfl rfl, ?_⟩
  rw [wrap_id (n := m.a * m.d) (by omega) (by omega), wrap_id (n := m.b * m.c) (by omega) (by omega), wrap_id (n := m.a * m.d - m.b * m.c) (by omega) (by omega)]
  refine br_eq (fun hd => zero (by rw [hB1, if_pos hd]) 0 rfl rfl hs8) fun hd => ?_
  rw [if_neg hd] at hB1
  intro J hJ
  have main : ∀ ob H20 (τ : List Rs), St H H20 (.cell ob (ints (backR m).l).toArray 50 :: .cell b4 (ints zeroM.l).toArray 50 :: .cell b2 (ints m.l).toArray 50 :: []) → J [.pointer (some ⟨ob, 0, none⟩)] H20 := fun ob H20 τ hs20 => by
    refine hJ _ _ ⟨_, rfl, rowIn_whole (hs20.block 0 rfl), ?_⟩
    refine c111 fun H23 he23 => ⟨_, rfl, ?_⟩
    have hs23 := hs20.step he23
    refine br_not (fun hr1 => zero (by rw [hB1, if_pos hr1]) 1 rfl rfl hs23) fun hr1 => ?_
    rw [if_neg (by rw [hr1]; simp)] at hB1
    obtain ⟨ra, rb, rc, rd, _, _⟩ := (rightM_iff (backR m)).1 hr1
    have q1 := mul_bd ra be
    have q2 := mul_bd rb bf
    have q3 := mul_bd rc be
    have q4 := mul_bd rd bf
    refine ⟨by decide, by decide, (backR m).a, hs23.rdA 0 (j := 0) rfl rfl, by decide, by decide, m.e, hs23.rdA 2 (j := 4) rfl rfl, by decide, by decide, (backR m).b, hs23.rdA 0 (j := 1) rfl rfl, by decide, by decide, m.f, hs23.rdA 2 (j := 5) rfl rfl, ?_⟩
    rw [wrap_id (n := (backR m).a * m.e) (by omega) (by omega), wrap_id (n := (backR m).b * m.f) (by omega) (by omega), wrap_id (n := (backR m).a * m.e + (backR m).b * m.f) (by omega) (by omega), wrap_id (n := 0 - ((backR m).a * m.e + (backR m).b * m.f)) (by omega) (by omega), Int.zero_sub]
    refine c113 (by omega) ⟨_, rfl, by decide, by decide, ?_⟩
    refine hs23.putA 0 (j := 4) rfl (Nat.le_of_ble_eq_true rfl) fun H34 hs34 => ⟨by decide, by decide, (backR m).c, hs34.rdA 0 (j := 2) rfl rfl, by decide, by decide, m.e, hs34.rdA 2 (j := 4) rfl rfl, by decide, by decide, (backR m).d, hs34.rdA 0 (j := 3) rfl rfl, by decide, by decide, m.f, hs34.rdA 2 (j := 5) rfl rfl, ?_⟩
    rw [wrap_id (n := (backR m).c * m.e) (by omega) (by omega), wrap_id (n := (backR m).d * m.f) (by omega) (by omega), wrap_id (n := (backR m).c * m.e + (backR m).d * m.f) (by omega) (by omega), wrap_id (n := 0 - ((backR m).c * m.e + (backR m).d * m.f)) (by omega) (by omega), Int.zero_sub]
    refine c113 (by omega) ⟨_, rfl, by decide, by decide, ?_⟩
    refine hs34.putA 0 (j := 5) rfl (Nat.le_of_ble_eq_true rfl) fun H42 hs42 => ?_
    have hs42 : St H H42 (.cell ob (ints (backS m).l).toArray 50 :: .cell b4 (ints zeroM.l).toArray 50 :: .cell b2 (ints m.l).toArray 50 :: []) := hs42
    refine ⟨_, rfl, rowIn_whole (hs42.block 0 rfl), ?_⟩
    refine c111 fun H45 he45 => ⟨_, rfl, ?_⟩
    have hs45 := hs42.step he45
    refine br_not (fun hr2 => zero (by rw [hB1, if_pos hr2]) 1 rfl rfl hs45) fun hr2 => ?_
    rw [if_neg (by rw [hr2]; simp)] at hB1
    refine ⟨_, ?_, rowIn_whole (hs45.block 0 rfl), ?_, ?_⟩
    · rfl
    · rfl
    refine hs45.putAllA 1 (l := (backS m).l) rfl rfl fun H50 hs50 => ⟨_, rfl, rowIn_whole (hs50.block 1 rfl), ?_⟩
    have := hR H50 hs50.ext
    rw [hB1] at this
    exact this
  refine ⟨by decide, by decide, m.d, hs8.rdA 1 (j := 3) rfl rfl, by decide, by decide, by decide, m.b, hs8.rdA 1 (j := 1) rfl rfl, by decide, by decide, by decide, m.c, hs8.rdA 1 (j := 2) rfl rfl, by decide, by decide, by decide, m.a, hs8.rdA 1 (j := 0) rfl rfl, by decide, ?_⟩
  rw [wrap_id (n := 0 - m.b) (by omega) (by omega), wrap_id (n := 0 - m.c) (by omega) (by omega), Int.zero_sub, Int.zero_sub]
  rw [shl32 bd, shl32 (x := -m.b) (by omega), shl32 (x := -m.c) (by omega), shl32 ba]
  have put : ∀ {ob : Nat} {H1 : Heap}, St H H1 (.cell ob (ints zeroM.l).toArray 50 :: .cell b4 (ints zeroM.l).toArray 50 :: .cell b2 (ints m.l).toArray 50 :: []) →
      stAt H1 ⟨ob, 0, none⟩ (Array.toList (ints (backR m).l).toArray) fun H_70 => J [Value.pointer (some ⟨ob, 0, none⟩)] H_70 := fun {ob H1} hs => hs.putAllA 0 (l := (backR m).l) rfl rfl fun H2 hs2 => main ob H2 [] hs2
  have k1 : -144115188075855872 ≤ m.d * 4294967296 ∧ m.d * 4294967296 ≤ 144115188075855872 := by omega
  have k2 : -144115188075855872 ≤ -m.b * 4294967296 ∧ -m.b * 4294967296 ≤ 144115188075855872 := by omega
  have k3 : -144115188075855872 ≤ -m.c * 4294967296 ∧ -m.c * 4294967296 ≤ 144115188075855872 := by omega
  have k4 : -144115188075855872 ≤ m.a * 4294967296 ∧ m.a * 4294967296 ≤ 144115188075855872 := by omega
  have hdb : -2251799813685248 ≤ m.a * m.d - m.b * m.c ∧ m.a * m.d - m.b * m.c ≤ 2251799813685248 := by omega
  have rf : ∀ {H1 : Heap}, Ext H1 H1 := fun {H1} => Ext.refl H1
  refine ⟨c112 hd hdb k1 ⟨_, rfl, .inl rf, ⟨c112 hd hdb k2 ⟨_, rfl, .inl rf, ⟨c112 hd hdb k3 ⟨_, rfl, .inl rf, ⟨c112 hd hdb k4 ⟨_, rfl, hs8.alc fun b68 H69 hs69 => ⟨rfl, put hs69⟩⟩, ?_⟩⟩, ?_⟩⟩, ?_⟩⟩, ?_⟩
  · exact hs8.alcE fun b71 H72 he72 hs72 => ⟨.inl he72, c112 hd hdb k4 ⟨_, rfl, rfl, put hs72⟩⟩
  · exact hs8.alcE fun b71 H72 he72 hs72 => ⟨.inl he72, c112 hd hdb k3 ⟨_, rfl, .inl rf, c112 hd hdb k4 ⟨_, rfl, rfl, put hs72⟩⟩⟩
  · exact hs8.alcE fun b71 H72 he72 hs72 => ⟨.inl he72, c112 hd hdb k2 ⟨_, rfl, .inl rf, c112 hd hdb k3 ⟨_, rfl, .inl rf, c112 hd hdb k4 ⟨_, rfl, rfl, put hs72⟩⟩⟩⟩
  · exact hs8.alcE fun b71 H72 he72 hs72 => ⟨.inl he72, c112 hd hdb k1 ⟨_, rfl, .inl rf, c112 hd hdb k2 ⟨_, rfl, .inl rf, c112 hd hdb k3 ⟨_, rfl, .inl rf, c112 hd hdb k4 ⟨_, rfl, rfl, put hs72⟩⟩⟩⟩⟩
theorem c90 {m : M6} (hR : ∀ H', Ext H H' → R (.tuple #[.agg (ints (backM m).2.l).toArray, .int .i64 (backM m).1]) H') : CallsH Tryz.prog 90 #[.agg (ints m.l).toArray] H R := by
  refine Tryz.s90 ?_
  unfold Tryz.S90
  refine (St.nil H).alc fun b2 H3 hs3 => hs3.alc fun b4 H5 hs5 => ⟨_, rfl, rowIn_whole (hs5.block 1 rfl), ?_⟩
  refine c118 fun H8 he8 => ⟨_, rfl, ?_⟩
  have hs8 := hs5.step he8
  have zero : ∀ {v : Int} {H1 : Heap}, backM m = (v, zeroM) → ∀ (i : Nat) {τ : List Rs} {cs : Array Value}, τ[i]? = some (.cell b4 cs 71) → cs.size = 6 → St H H1 τ →
      (#[Value.int .i64 0, Value.int .i64 0, Value.int .i64 0, Value.int .i64 0, Value.int .i64 0, Value.int .i64 0].size = 6 ∧ stAt H1 ⟨b4, 0, none⟩ (Array.toList #[Value.int .i64 0, Value.int .i64 0, Value.int .i64 0, Value.int .i64 0, Value.int .i64 0, Value.int .i64 0]) fun H_10 => ∃ res11 : Array Value, res11.size = 6 ∧ rowIn H_10 ⟨b4, 0, none⟩ res11 ∧ R (Value.tuple #[Value.agg res11, Value.int .i64 v]) H_10) := fun {v H1} hb i {τ cs} hi hcs hs =>
    ⟨rfl, hs.putAll i hi (by rw [hcs]; rfl) (by simp [Value.oneCell']) fun H9 hs9 => ⟨(ints zeroM.l).toArray, rfl, rowIn_whole (hs9.block i (by rw [List.getElem?_set_self (List.getElem?_eq_some_iff.1 hi).1]; rfl)), by
      have := hR H9 hs9.ext
      rw [hb] at this; exact this⟩⟩
  refine br_not (fun hr => zero (by unfold backM; rw [if_pos hr]) 0 rfl rfl hs8) fun hr => ?_
  obtain ⟨ba, bb, bc, bd, be, bf⟩ := (rightM_iff m).1 hr
  have hB1 : backM m = (if m.a * m.d - m.b * m.c = 0 then (33, zeroM) else if rightM (backR m) = false then (33, zeroM) else if rightM (backS m) = false then (33, zeroM) else (0, backS m)) := by
    unfold backM; rw [if_neg (by rw [hr]; simp)]
  have p1 := mul_bd ba bd
  have p2 := mul_bd bb bc
  refine ⟨by decide, by decide, m.a, hs8.rdA 1 (j := 0) rfl rfl, by decide, by decide, m.d, hs8.rdA 1 (j := 3) rfl rfl, by decide, by decide, m.b, hs8.rdA 1 (j := 1) rfl rfl, by decide, by decide, m.c, hs8.rdA 1 (j := 2) rfl rfl, ?_⟩
  rw [wrap_id (n := m.a * m.d) (by omega) (by omega), wrap_id (n := m.b * m.c) (by omega) (by omega), wrap_id (n := m.a * m.d - m.b * m.c) (by omega) (by omega)]
  refine br_eq (fun hd => zero (by rw [hB1, if_pos hd]) 0 rfl rfl hs8) fun hd => ?_
  rw [if_neg hd] at hB1
  intro J hJ
  have main : ∀ ob H20 (τ : List Rs), St H H20 (.cell ob (ints (backR m).l).toArray 71 :: .cell b4 (ints zeroM.l).toArray 71 :: .cell b2 (ints m.l).toArray 71 :: []) → J [.pointer (some ⟨ob, 0, none⟩)] H20 := fun ob H20 τ hs20 => by
    refine hJ _ _ ⟨_, rfl, rowIn_whole (hs20.block 0 rfl), ?_⟩
    refine c118 fun H23 he23 => ⟨_, rfl, ?_⟩
    have hs23 := hs20.step he23
    refine br_not (fun hr1 => zero (by rw [hB1, if_pos hr1]) 1 rfl rfl hs23) fun hr1 => ?_
    rw [if_neg (by rw [hr1]; simp)] at hB1
    obtain ⟨ra, rb, rc, rd, _, _⟩ := (rightM_iff (backR m)).1 hr1
    have q1 := mul_bd ra be
    have q2 := mul_bd rb bf
    have q3 := mul_bd rc be
    have q4 := mul_bd rd bf
    refine ⟨by decide, by decide, (backR m).a, hs23.rdA 0 (j := 0) rfl rfl, by decide, by decide, m.e, hs23.rdA 2 (j := 4) rfl rfl, by decide, by decide, (backR m).b, hs23.rdA 0 (j := 1) rfl rfl, by decide, by decide, m.f, hs23.rdA 2 (j := 5) rfl rfl, ?_⟩
    rw [wrap_id (n := (backR m).a * m.e) (by omega) (by omega), wrap_id (n := (backR m).b * m.f) (by omega) (by omega), wrap_id (n := (backR m).a * m.e + (backR m).b * m.f) (by omega) (by omega), wrap_id (n := 0 - ((backR m).a * m.e + (backR m).b * m.f)) (by omega) (by omega), Int.zero_sub]
    refine c120 (by omega) ⟨_, rfl, by decide, by decide, ?_⟩
    refine hs23.putA 0 (j := 4) rfl (Nat.le_of_ble_eq_true rfl) fun H34 hs34 => ⟨by decide, by decide, (backR m).c, hs34.rdA 0 (j := 2) rfl rfl, by decide, by decide, m.e, hs34.rdA 2 (j := 4) rfl rfl, by decide, by decide, (backR m).d, hs34.rdA 0 (j := 3) rfl rfl, by decide, by decide, m.f, hs34.rdA 2 (j := 5) rfl rfl, ?_⟩
    rw [wrap_id (n := (backR m).c * m.e) (by omega) (by omega), wrap_id (n := (backR m).d * m.f) (by omega) (by omega), wrap_id (n := (backR m).c * m.e + (backR m).d * m.f) (by omega) (by omega), wrap_id (n := 0 - ((backR m).c * m.e + (backR m).d * m.f)) (by omega) (by omega), Int.zero_sub]
    refine c120 (by omega) ⟨_, rfl, by decide, by decide, ?_⟩
    refine hs34.putA 0 (j := 5) rfl (Nat.le_of_ble_eq_true rfl) fun H42 hs42 => ?_
    have hs42 : St H H42 (.cell ob (ints (backS m).l).toArray 71 :: .cell b4 (ints zeroM.l).toArray 71 :: .cell b2 (ints m.l).toArray 71 :: []) := hs42
    refine ⟨_, rfl, rowIn_whole (hs42.block 0 rfl), ?_⟩
    refine c118 fun H45 he45 => ⟨_, rfl, ?_⟩
    have hs45 := hs42.step he45
    refine br_not (fun hr2 => zero (by rw [hB1, if_pos hr2]) 1 rfl rfl hs45) fun hr2 => ?_
    rw [if_neg (by rw [hr2]; simp)] at hB1
    refine ⟨_, ?_, rowIn_whole (hs45.block 0 rfl), ?_, ?_⟩
    · rfl
    · rfl
    refine hs45.putAllA 1 (l := (backS m).l) rfl rfl fun H50 hs50 => ⟨_, rfl, rowIn_whole (hs50.block 1 rfl), ?_⟩
    have := hR H50 hs50.ext
    rw [hB1] at this
    exact this
  refine ⟨by decide, by decide, m.d, hs8.rdA 1 (j := 3) rfl rfl, by decide, by decide, m.b, hs8.rdA 1 (j := 1) rfl rfl, by decide, by decide, m.c, hs8.rdA 1 (j := 2) rfl rfl, by decide, by decide, m.a, hs8.rdA 1 (j := 0) rfl rfl, ?_⟩
  rw [wrap_id (n := 0 - m.b) (by omega) (by omega), wrap_id (n := 0 - m.c) (by omega) (by omega), Int.zero_sub, Int.zero_sub]
  rw [wrap_id (n := m.d * 4294967296) (by omega) (by omega), wrap_id (n := -m.b * 4294967296) (by omega) (by omega), wrap_id (n := -m.c * 4294967296) (by omega) (by omega), wrap_id (n := m.a * 4294967296) (by omega) (by omega)]
  have put : ∀ {ob : Nat} {H1 : Heap}, St H H1 (.cell ob (ints zeroM.l).toArray 71 :: .cell b4 (ints zeroM.l).toArray 71 :: .cell b2 (ints m.l).toArray 71 :: []) →
      stAt H1 ⟨ob, 0, none⟩ (Array.toList (ints (backR m).l).toArray) fun H_70 => J [Value.pointer (some ⟨ob, 0, none⟩)] H_70 := fun {ob H1} hs => hs.putAllA 0 (l := (backR m).l) rfl rfl fun H2 hs2 => main ob H2 [] hs2
  have k1 : -144115188075855872 ≤ m.d * 4294967296 ∧ m.d * 4294967296 ≤ 144115188075855872 := by omega
  have k2 : -144115188075855872 ≤ -m.b * 4294967296 ∧ -m.b * 4294967296 ≤ 144115188075855872 := by omega
  have k3 : -144115188075855872 ≤ -m.c * 4294967296 ∧ -m.c * 4294967296 ≤ 144115188075855872 := by omega
  have k4 : -144115188075855872 ≤ m.a * 4294967296 ∧ m.a * 4294967296 ≤ 144115188075855872 := by omega
  have hdb : -2251799813685248 ≤ m.a * m.d - m.b * m.c ∧ m.a * m.d - m.b * m.c ≤ 2251799813685248 := by omega
  have rf : ∀ {H1 : Heap}, Ext H1 H1 := fun {H1} => Ext.refl H1
  refine ⟨c119 hd hdb k1 ⟨_, rfl, .inl rf, ⟨c119 hd hdb k2 ⟨_, rfl, .inl rf, ⟨c119 hd hdb k3 ⟨_, rfl, .inl rf, ⟨c119 hd hdb k4 ⟨_, rfl, hs8.alc fun b68 H69 hs69 => ⟨rfl, put hs69⟩⟩, ?_⟩⟩, ?_⟩⟩, ?_⟩⟩, ?_⟩
  · exact hs8.alcE fun b71 H72 he72 hs72 => ⟨.inl he72, c119 hd hdb k4 ⟨_, rfl, rfl, put hs72⟩⟩
  · exact hs8.alcE fun b71 H72 he72 hs72 => ⟨.inl he72, c119 hd hdb k3 ⟨_, rfl, .inl rf, c119 hd hdb k4 ⟨_, rfl, rfl, put hs72⟩⟩⟩
  · exact hs8.alcE fun b71 H72 he72 hs72 => ⟨.inl he72, c119 hd hdb k2 ⟨_, rfl, .inl rf, c119 hd hdb k3 ⟨_, rfl, .inl rf, c119 hd hdb k4 ⟨_, rfl, rfl, put hs72⟩⟩⟩⟩
  · exact hs8.alcE fun b71 H72 he72 hs72 => ⟨.inl he72, c119 hd hdb k1 ⟨_, rfl, .inl rf, c119 hd hdb k2 ⟨_, rfl, .inl rf, c119 hd hdb k3 ⟨_, rfl, .inl rf, c119 hd hdb k4 ⟨_, rfl, rfl, put hs72⟩⟩⟩⟩⟩
end Go.Proofs
namespace Go.Proofs
open Go.Sh
variable {H0 H : Heap} {σ : List Rs} {R : Value → Heap → Prop}
def inP (ps : List Int) (i : Nat) : Bool := decide (0 ≤ ps.getD i 0 ∧ ps.getD i 0 ≤ 255)
def incP (ps : List Int) (i : Nat) : Bool := decide (i % 2 = 1 ∨ i = 0 ∨ ps.getD (i - 2) 0 < ps.getD i 0)
def kindP (kind : Int) (ps : List Int) : Bool :=
 if kind = 0 then decide (ps.length = 2 ∧ ps.getD 0 0 < ps.getD 1 0) else if kind = 1 then decide (2 ≤ ps.length ∧ ps.length ≤ 32 ∧ ps.length % 2 = 0) else if kind = 2 then decide (ps.length = 0) else if kind = 3 then decide (ps.length = 1) else false
def tabB (kind : Int) (ps : List Int) : Bool := (List.range ps.length).all (inP ps) && ((kind != 1 || (List.range ps.length).all (incP ps)) && kindP kind ps)
theorem rdG {p : Option Addr} {n : Nat} {ps : List Int} (h : IS H p n (ints ps)) {i : Int} (h0 : 0 ≤ i) (h1 : i < n) {K : Int → Prop} (hK : K (ps.getD i.toNat 0)) :
    ∃ a : Addr, p = some a ∧ 0 ≤ i ∧ i < ((n : Nat) : Int) ∧ ∃ v : Int, Sh.cell H (Addr.add a (Int.toNat i * 1)) = some (.int .i64 v) ∧ K v :=
  IS.rd h h0 h1 (getD_some ps 0 (by have := h.length; omega)) hK
theorem all_more {f : Nat → Bool} {k : Nat} (h : (List.range k).all f = true) (hf : f k = true) : (List.range (k + 1)).all f = true := by
 rw [List.range_succ, List.all_append, h, Bool.true_and, List.all_cons, List.all_nil, Bool.and_true]; exact hf
theorem all_at {f : Nat → Bool} {n k : Nat} (h : (List.range n).all f = true) (hk : k < n) : f k = true := List.all_eq_true.1 h k (List.mem_range.2 hk)
theorem tabB_of {kind : Int} {ps : List Int} (h1 : (List.range ps.length).all (inP ps) = true) (h2 : kind = 1 → (List.range ps.length).all (incP ps) = true) : tabB kind ps = kindP kind ps := by
 unfold tabB
 rw [h1, Bool.true_and]
 by_cases hk : kind = 1
 ·rw [h2 hk, Bool.or_true, Bool.true_and]
 ·rw [show (kind != 1) = true from by simpa using hk, Bool.true_or, Bool.true_and]
theorem tabB_in {kind : Int} {ps : List Int} {k : Nat} (hk : k < ps.length) (h : inP ps k = false) : tabB kind ps = false := by
 unfold tabB
 rw [show (List.range ps.length).all (inP ps) = false from by
  rw [Bool.eq_false_iff]; intro hh; rw [all_at hh hk] at h; cases h]
 rfl
theorem tabB_inc {ps : List Int} {k : Nat} (hk : k < ps.length) (h : incP ps k = false) : tabB 1 ps = false := by
 unfold tabB
 rw [show (List.range ps.length).all (incP ps) = false from by
  rw [Bool.eq_false_iff]; intro hh; rw [all_at hh hk] at h; cases h]
 simp
theorem c114 {kind : Int} {p : Option Addr} {n c : Nat} {ps : List Int} (h : IS H p n (ints ps)) (hn : n ≤ 1000000000000) (hR : R (.bool (tabB kind ps)) H) : CallsH Tryz.prog 114 #[.int .i64 kind, .slice p n c] H R := by
 refine Tryz.s114 ?_
 unfold Tryz.S114
 have hlen := h.length
 intro X hX
 have go : ∀ k, k ≤ n → (List.range k).all (inP ps) = true → (kind = 1 → (List.range k).all (incP ps) = true) → X [.int .i64 (k : Nat)] H := by
  refine upto fun k hk ih h1 h2 => hX _ _ (br_dec (fun hlt => ?_) fun hge => ?_)
  ·have hk' : k < n := by omega
   intro J hJ
   have bad : tabB kind ps = false → R (.bool false) H := fun hb => by rw [hb] at hR; exact hR
   have go2 : inP ps k = true → (kind = 1 → incP ps k = true) → J [] H := fun g1 g2 => by
    refine hJ _ ?_
    rw [wrap_id (by omega) (by omega)]
    exact ih hk' (all_more h1 g1) fun hk1 => all_more (h2 hk1) (g2 hk1)
   refine rdG (i := (k : Int)) h (by omega) hlt (br_dec (fun h3 => bad (tabB_in (k := k) (by omega) ?_)) fun h3 => br_dec (fun h4 => bad (tabB_in (k := k) (by omega) ?_)) fun h4 => ?_)
   ·exact decide_eq_false fun hh => by have := hh.1; rw [Int.toNat_natCast] at h3; omega
   ·exact decide_eq_false fun hh => by have := hh.2; rw [Int.toNat_natCast] at h4; omega
   rw [Int.toNat_natCast] at h3 h4 ⊢
   have g1 : inP ps k = true := decide_eq_true ⟨by omega, by omega⟩
   refine br_eq (fun hk1 => ⟨by decide, ?_⟩) fun hk1 => go2 g1 fun hh => absurd hh hk1
   rw [Int.tmod_eq_emod_of_nonneg (by omega)]
   refine br_eq (fun he => br_dec (fun hp => ?_) fun hp => go2 g1 fun _ => decide_eq_true (.inr (.inl (by omega)))) fun he => go2 g1 fun _ => decide_eq_true (.inl (by omega))
   have hk2 : 2 ≤ k := by omega
   rw [wrap_id (n := (k : Int) - 2) (by omega) (by omega)]
   refine rdG (i := (k : Int) - 2) h (by omega) (by omega) ?_
   rw [show Int.toNat ((k : Int) - 2) = k - 2 from by omega]
   refine br_dec (fun hle => bad ?_) fun hle => go2 g1 fun _ => decide_eq_true (.inr (.inr (by omega)))
   rw [hk1]
   exact tabB_inc (k := k) (by omega) (decide_eq_false fun hh => by rcases hh with hh | hh | hh <;> omega)
  ·have hkn : k = n := by omega
   subst hkn
   rw [← hlen] at h1 h2
   rw [tabB_of h1 h2] at hR
   unfold kindP at hR
   refine br_eq (fun k0 => ?_) fun k0 => br_eq (fun k1 => ?_) fun k1 => br_eq (fun k2 => ?_) fun k2 => br_eq (fun k3 => ?_) fun k3 => ?_
   ·rw [if_pos k0] at hR
    refine br_eq (fun hn2 => ?_) fun hn2 => ?_
    ·refine rdG (i := 0) h (by omega) (by omega) (rdG (i := 1) h (by omega) (by omega) ?_)
     rw [show decide (ps.length = 2 ∧ ps.getD 0 0 < ps.getD 1 0) = decide (ps.getD 0 0 < ps.getD 1 0) from decide_eq_decide.2 ⟨fun hh => hh.2, fun hh => ⟨by omega, hh⟩⟩] at hR
     exact hR
    ·rw [decide_eq_false (fun hh => hn2 (by omega))] at hR
     exact hR
   ·rw [if_neg k0, if_pos k1] at hR
    refine br_dec (fun g1 => br_dec (fun g2 => ⟨by decide, ?_⟩) fun g2 => ?_) fun g1 => ?_
    ·rw [Int.tmod_eq_emod_of_nonneg (by omega)]
     have : decide (2 ≤ ps.length ∧ ps.length ≤ 32 ∧ ps.length % 2 = 0) = ((k : Int) % 2 == 0) := by
      rw [Bool.eq_iff_iff, decide_eq_true_iff, beq_iff_eq]; omega
     rw [this] at hR
     exact hR
    ·rw [decide_eq_false (fun hh => g2 (by omega))] at hR
     exact hR
    ·rw [decide_eq_false (fun hh => g1 (by omega))] at hR
     exact hR
   ·rw [if_neg k0, if_neg k1, if_pos k2] at hR
    have : decide (ps.length = 0) = (((k : Nat) : Int) == 0) := by rw [Bool.eq_iff_iff, decide_eq_true_iff, beq_iff_eq]; omega
    rw [this] at hR; exact hR
   ·rw [if_neg k0, if_neg k1, if_neg k2, if_pos k3] at hR
    have : decide (ps.length = 1) = (((k : Nat) : Int) == 1) := by rw [Bool.eq_iff_iff, decide_eq_true_iff, beq_iff_eq]; omega
    rw [this] at hR; exact hR
   ·rw [if_neg k0, if_neg k1, if_neg k2, if_neg k3] at hR
    exact hR
 exact go 0 (Nat.zero_le _) rfl fun _ => rfl
structure CrvOk (ps : List Int) : Prop where
 len : 2 ≤ ps.length ∧ ps.length ≤ 32 ∧ ps.length % 2 = 0
 rng : ∀ i, 0 ≤ ps.getD i 0 ∧ ps.getD i 0 ≤ 255
 inc : ∀ i, 2 ≤ i → i < ps.length → i % 2 = 0 → ps.getD (i - 2) 0 < ps.getD i 0
theorem tabB_rng {kind : Int} {ps : List Int} (h : tabB kind ps = true) (i : Nat) : 0 ≤ ps.getD i 0 ∧ ps.getD i 0 ≤ 255 := by
 unfold tabB at h
 rw [Bool.and_eq_true] at h
 by_cases hi : i < ps.length
 ·exact of_decide_eq_true (all_at h.1 hi)
 ·rw [List.getD_eq_getElem?_getD, List.getElem?_eq_none (by omega)]; decide
theorem tabB_kind {kind : Int} {ps : List Int} (h : tabB kind ps = true) : kindP kind ps = true := by
 unfold tabB at h
 rw [Bool.and_eq_true, Bool.and_eq_true] at h
 exact h.2.2
theorem tabB_crv {ps : List Int} (h : tabB 1 ps = true) : CrvOk ps := by
 have hk := tabB_kind h
 have hr := tabB_rng h
 refine ⟨of_decide_eq_true hk, hr, fun i hi hl he => ?_⟩
 unfold tabB at h
 rw [Bool.and_eq_true, Bool.and_eq_true, Bool.or_eq_true] at h
 have h2 : (List.range ps.length).all (incP ps) = true := by
  rcases h.2.1 with h | h
  ·simp at h
  ·exact h
 rcases of_decide_eq_true (all_at h2 hl) with h3 | h3 | h3
 ·omega
 ·omega
 ·exact h3
theorem repsA256 : (List.toArray (reps (Int.toNat (256 : Int)) (Array.toList #[Value.int .i64 0]))) = (ints (List.replicate 256 0)).toArray := repsA 256
theorem c115 {p : Option Addr} {n c : Nat} {ps : List Int} (h : IS H p n (ints ps)) (hok : CrvOk ps) (hR : ∀ b H', Ext H H' → R (.slice (some ⟨b, 0, none⟩) 256 256) H') : CallsH Tryz.prog 115 #[.slice p n c] H R := by
 refine Tryz.s115 ?_
 unfold Tryz.S115
 have hlen := h.length
 obtain ⟨l1, l2, l3⟩ := hok.len
 refine ⟨by decide, by decide, by decide, by decide, ?_⟩
 rw [repsA256, wrap_id (n := (n : Int) - 2) (by omega) (by omega), wrap_id (n := (n : Int) - 1) (by omega) (by omega)]
 refine (St.nil H).alc fun b2 H3 hs3 => ?_
 intro X hX
 have go : ∀ k, k ≤ 256 → ∀ H1 (L : List Int), L.length = 256 → St H H1 [.cell b2 (ints L).toArray 3] → X [.int .i64 (k : Nat)] H1 := by
  refine upto fun k hk ih H1 L hL hs1 => hX _ _ (br_dec (fun hlt => ?_) fun hge => ?_)
  ·have hk' : k < 256 := by have : (k : Int) < 256 := hlt; omega
   have h1 := h.ext hs1.ext
   have put : ∀ (v : Int), ∃ a11 : Addr, (some ⟨b2, 0, none⟩) = some a11 ∧ 0 ≤ (k : Int) ∧ (k : Int) < (((Int.toNat (256 : Int)) : Nat) : Int) ∧ stAt H1 (Addr.add a11 (Int.toNat (k : Int) * 1)) [Value.int .i64 v] fun H_12 => X [Value.int .i64 (IntKind.wrap .i64 ((k : Int) + (1 : Int)))] H_12 := fun v => by
    refine ⟨_, rfl, by omega, hlt, ?_⟩
    rw [show Int.toNat (k : Int) * 1 = k from Nat.mul_one k, add_none, Nat.zero_add, wrap_id (by omega) (by omega)]
    exact hs1.putA 0 rfl (by omega) fun H2 hs2 => ih hk' H2 (L.set k v) (by rw [List.length_set]; exact hL) hs2
   refine rdG (i := 0) h1 (by omega) (by omega) (br_dec (fun _ => rdG (i := 1) h1 (by omega) (by omega) (put _)) fun hv0 => ?_)
   refine rdG (i := (n : Int) - 2) h1 (by omega) (by omega) (br_dec (fun _ => rdG (i := (n : Int) - 1) h1 (by omega) (by omega) (put _)) fun hv1 => ?_)
   rw [show Int.toNat ((n : Int) - 2) = n - 2 from by omega] at hv1
   have hv0 : ¬ (k : Int) ≤ ps.getD 0 0 := hv0
   intro X2 hX2
   have go2 : ∀ j, j ≤ 16 → 2 * j + 2 ≤ n → ps.getD (2 * j) 0 ≤ (k : Int) → X2 [.int .i64 ((2 * j : Nat) : Int)] H1 := by
    refine upto fun j hj ih2 hjn hpj => hX2 _ _ ?_
    have hne : 2 * j + 2 ≠ n := fun hh => by
     have : 2 * j = n - 2 := by omega
     rw [this] at hpj; omega
    have hj4 : 2 * j + 4 ≤ n := by omega
    rw [wrap_id (n := ((2 * j : Nat) : Int) + 2) (by omega) (by omega), wrap_id (n := ((2 * j : Nat) : Int) + 1) (by omega) (by omega), wrap_id (n := ((2 * j : Nat) : Int) + 3) (by omega) (by omega)]
    refine rdG (i := ((2 * j : Nat) : Int) + 2) h1 (by omega) (by omega) ?_
    rw [show Int.toNat (((2 * j : Nat) : Int) + 2) = 2 * j + 2 from by omega]
    refine br_dec (fun hle => ?_) fun hgt => ?_
    ·have := ih2 (by omega) (by omega) (by rw [show 2 * (j + 1) = 2 * j + 2 from by omega]; exact hle)
     rw [show ((2 * (j + 1) : Nat) : Int) = ((2 * j : Nat) : Int) + 2 from by omega] at this
     exact this
    ·refine rdG (i := ((2 * j : Nat) : Int) + 1) h1 (by omega) (by omega) (rdG (i := ((2 * j : Nat) : Int) + 3) h1 (by omega) (by omega) (rdG (i := ((2 * j : Nat) : Int) + 1) h1 (by omega) (by omega) (rdG (i := ((2 * j : Nat) : Int)) h1 (by omega) (by omega) (rdG (i := ((2 * j : Nat) : Int) + 2) h1 (by omega) (by omega) (rdG (i := ((2 * j : Nat) : Int)) h1 (by omega) (by omega) ⟨?_, put _⟩)))))
     have hi := hok.inc (2 * j + 2) (by omega) (by omega) (by omega)
     rw [show 2 * j + 2 - 2 = 2 * j from by omega] at hi
     rw [show Int.toNat (((2 * j : Nat) : Int) + 2) = 2 * j + 2 from by omega, Int.toNat_natCast]
     have r1 := hok.rng (2 * j + 2)
     have r2 := hok.rng (2 * j)
     rw [wrap_id (by omega) (by omega)]
     omega
   exact go2 0 (by omega) (by omega) (by rw [Nat.mul_zero]; omega)
  ·have hk6 : ¬ (k : Int) < 256 := hge
   have : k = 256 := by omega
   subst this
   exact hR b2 H1 hs1.ext
 exact go 0 (by omega) H3 _ (by simp) hs3
theorem c80 {kind : Int} {p : Option Addr} {n c : Nat} {ps : List Int} (h : IS H p n (ints ps)) (hn : n ≤ 1000000000000)
    (h0 : tabB kind ps = false → R (.tuple #[.slice none 0 0, .bool false]) H) (h1 : tabB kind ps = true → ∀ b H', Ext H H' → R (.tuple #[.slice (some ⟨b, 0, none⟩) 256 256, .bool true]) H') : CallsH Tryz.prog 80 #[.int .i64 kind, .slice p n c] H R := by
  refine Tryz.s80 ?_
  unfold Tryz.S80
  have hlen := h.length
  refine c114 h hn ⟨_, rfl, br_not (fun hb => h0 hb) fun hb => br_eq (fun hk1 => ?_) fun hk1 => ?_⟩
  · rw [hk1] at hb
    exact c115 h (tabB_crv hb) fun b H' he => ⟨_, _, _, rfl, h1 (by rw [hk1]; exact hb) b H' he⟩
  refine ⟨by decide, by decide, by decide, by decide, ?_⟩
  rw [repsA256]
  refine (St.nil H).alc fun b9 H10 hs10 => ?_
  intro X hX
  have hrng := tabB_rng hb
  have hkind := tabB_kind hb
  unfold kindP at hkind
  have go : ∀ k, k ≤ 256 → ∀ H1 (L : List Int), L.length = 256 → St H H1 [.cell b9 (ints L).toArray 3] → X [.int .i64 (k : Nat)] H1 := by
    refine upto fun k hk ih H1 L hL hs1 => hX _ _ (br_dec (fun hlt => ?_) fun hge => ?_)
    · have hk' : k < 256 := by have : (k : Int) < 256 := hlt; omega
      have g1 := h.ext hs1.ext
      intro J hJ
      have same : J [] H1 := hJ _ (by
        rw [wrap_id (by omega) (by omega)]
        exact ih hk' H1 L hL hs1)
      have put : ∀ (v : Int), ∃ a11 : Addr, (some ⟨b9, 0, none⟩) = some a11 ∧ 0 ≤ (k : Int) ∧ (k : Int) < (((Int.toNat (256 : Int)) : Nat) : Int) ∧ stAt H1 (Addr.add a11 (Int.toNat (k : Int) * 1)) [Value.int .i64 v] fun H_12 => J [] H_12 := fun v => by
        refine ⟨_, rfl, by omega, hlt, ?_⟩
        rw [show Int.toNat (k : Int) * 1 = k from Nat.mul_one k, add_none, Nat.zero_add]
        refine hs1.putA 0 rfl (by omega) fun H2 hs2 => hJ _ ?_
        rw [wrap_id (by omega) (by omega)]
        exact ih hk' H2 (L.set k v) (by rw [List.length_set]; exact hL) hs2
      refine br_eq (fun k0 => ?_) fun k0 => br_eq (fun k2 => put _) fun k2 => br_eq (fun k3 => ?_) fun k3 => same
      · rw [if_pos k0] at hkind
        have hk2 := of_decide_eq_true hkind
        refine rdG (i := 1) g1 (by omega) (by omega) (rdG (i := 0) g1 (by omega) (by omega) (rdG (i := 0) g1 (by omega) (by omega) ⟨by decide, ?_, put _⟩))
        have r1 := hrng 1
        have r0 := hrng 0
        show IntKind.wrap .i64 (ps.getD 1 0 - ps.getD 0 0) ≠ 0
        rw [wrap_id (by omega) (by omega)]
        omega
      · rw [if_neg k0, if_neg hk1, if_neg k2, if_pos k3] at hkind
        have hk2 := of_decide_eq_true hkind
        exact rdG (i := 0) g1 (by omega) (by omega) (br_dec (fun _ => put _) fun _ => same)
    · have hk6 : ¬ (k : Int) < 256 := hge
      have : k = 256 := by omega
      subst this
      exact h1 hb b9 H1 hs1.ext
  exact go 0 (by omega) H10 _ (by simp) hs10
end Go.Proofs
namespace Go.Sh
theorem St.elPutRow {H0 H : Heap} {σ : List Rs} (hs : St H0 H σ) (i : Nat) {p : Option Addr} {l c n : Nat} {el : TypeId} {A cs B : List Value} (hi : σ[i]? = some (.sl p l c el 19 (A ++ cs ++ B))) (hA : A.length = n * 19) {j : Nat} {vs : List Value} (hj : j + vs.length ≤ cs.length) (hc : 0 < cs.length) (hv : ∀ v ∈ vs, v.oneCell' = true) {a : Addr} (ha : p.map (fun a => a.add (n * 19)) = some a)
    {f : Heap → Prop} (hK : ∀ H', St H0 H' (σ.set i (.sl p l c el 19 (A ++ setL cs j vs ++ B))) → f H') : stAt H (a.add j) vs f := by
  obtain ⟨b, hb⟩ := hs.slSome i (j := 0) hi (by simp; omega)
  subst hb
  cases ha
  show stAt H (((⟨b, 0, none⟩ : Addr).add (n * 19)).add j) vs f
  rw [add_none, add_none, Nat.zero_add]
  refine Go.Sh.St.slIn hs i hi (by simp; omega) hv fun H' hs' => hK H' ?_
  have e : setL (A ++ cs ++ B) (n * 19 + j) vs = A ++ setL cs j vs ++ B := by
    unfold setL
    rw [List.append_assoc A cs B, ← hA, List.take_length_add_append, show A.length + j + vs.length = A.length + (j + vs.length) from by omega, List.drop_length_add_append, List.take_append_of_le_length (by omega), List.drop_append_of_le_length hj]
    simp
  rw [e] at hs'
  exact hs'
end Go.Sh
namespace Go.Proofs
open Go.Sh
variable {H0 H : Heap} {σ : List Rs} {R : Value → Heap → Prop}
theorem workMap {b d : Nat} {e : Ed} {s : EdS} {bb : Nat} (hb : H[bb]? = some (.cells (workL b d e s).toArray 86)) : rowIn H ⟨bb, 14, none⟩ (ints e.map.l).toArray :=
 rowIn_block hb fun j v hv => match j, hv with
  | 0, hv => hv
  | 1, hv => hv
  | 2, hv => hv
  | 3, hv => hv
  | 4, hv => hv
  | 5, hv => hv
  | j + 6, hv => by simp [ints, M6.l] at hv
def placeF (e : Ed) (f : LayF) : Int × LayF := if f.kind ≠ 0 then (41, f) else if e.n ≠ 0 ∧ e.n ≠ 1 then (32, f) else if (backM e.map).1 ≠ 0 then ((backM e.map).1, f) else (0, { f with map := e.map, smooth := e.n == 1 })
theorem c40 {b d : Nat} {e : Ed} {s : EdS} {K : Sl3} {ks : List T} (hs : St H0 H (resRoot b K ks ++ σ)) (hc : cntKs (layKs ks) ≤ 1000000000) (hR : Chg (placeF e) H0 σ R b ks e.id) :
    CallsH Tryz.prog 40 #[.agg (workL b d e s).toArray] H R := by
  refine Tryz.s40 ?_
  unfold Tryz.S40
  refine hs.alc fun b2 H3 hs3 => ⟨_, rfl, rowIn_whole (hs3.block 0 rfl), ?_⟩
  refine tgt hs3 (by omega) (fun hl H6 hs6 => ⟨_, _, rfl, ?_⟩) fun fr u K' ks' a H6 hl ha hs6 => ⟨_, _, rfl, ?_⟩
  · intro J hJ
    exact br_ne (fun _ => hR.none hl hs6.tail.app.2) fun h => absurd h (by decide)
  intro J hJ
  have bad : ∀ {v : Int} {H' : Heap}, placeF e fr.f = (v, fr.f) → v ≠ 0 → St H0 H' (openR fr (u ++ [rootFr b]) K' ks' ++ σ) → R (.int .i64 v) H' := fun hg hv hs => hR.err hl hg hv hs.app.2
  refine br_ne (fun h => absurd rfl h) fun _ => ⟨a, rfl, _, hs6.elCell 1 rfl (cellsKs_len fr.pre) (cells_1 fr K') ha, br_ne (fun hk => bad (by unfold placeF; rw [if_pos hk]) (by decide) hs6.tail) fun hk => ?_⟩
  have go : ¬ (e.n ≠ 0 ∧ e.n ≠ 1) → J [] H6 := fun hn => by
    have hF : placeF e fr.f = (if (backM e.map).1 ≠ 0 then ((backM e.map).1, fr.f) else (0, { fr.f with map := e.map, smooth := e.n == 1 })) := by
      unfold placeF; rw [if_neg (fun hh => hh hk), if_neg hn]
    refine hJ _ ⟨(ints e.map.l).toArray, rfl, workMap (hs6.block 0 rfl), ?_⟩
    refine c79 fun H13 he13 => ⟨_, _, rfl, ?_⟩
    refine (hs6.step he13).alc fun b16 H17 hs17 => ⟨rfl, hs17.putAllA 0 (l := (backM e.map).2.l) rfl rfl fun H18 hs18 => br_ne (fun hb => bad (by rw [hF, if_pos hb]) hb (hs18.drop 2)) fun hb => ?_⟩
    rw [if_neg (fun hh => hh hb)] at hF
    refine ⟨(ints e.map.l).toArray, rfl, workMap (hs18.block 1 rfl), _, hs18.get 1 rfl (j := 6) rfl, a, rfl, rfl, ?_⟩
    refine hs18.elPutRow 2 rfl (cellsKs_len fr.pre) (j := 9) (vs := ints e.map.l) (Nat.le_of_ble_eq_true rfl) (Nat.le_of_ble_eq_true rfl) (ints_one _) ha fun H22 hs22 => ⟨.inr ⟨_, hs22.get 1 rfl (j := 6) rfl, rfl⟩, a, rfl, ?_⟩
    refine hs22.elPut 2 rfl (cellsKs_len fr.pre) (j := 15) (Nat.le_of_ble_eq_true rfl) rfl ha fun H24 hs24 => ?_
    exact hR.done hl (P := fr.P) (M := fr.M) (A := fr.A) hF (hs24.drop 2)
  refine ⟨_, hs6.get 0 rfl (j := 6) rfl, br_ne (fun h0 => ⟨_, hs6.get 0 rfl (j := 6) rfl, br_ne (fun h1 => ?_) fun h1 => go fun h => h.2 h1⟩) fun h0 => go fun h => h.1 h0⟩
  exact bad (v := 32) (by unfold placeF; rw [if_neg (fun hh => hh hk), if_pos ⟨h0, h1⟩]) (by decide) hs6.tail
def adjustF (e : Ed) (f : LayF) : Int × LayF := if f.kind ≠ 2 then (41, f) else if tabB e.n e.params = false then (32, f) else (0, { f with table := e.n, params := e.params })
theorem c41 {b d : Nat} {e : Ed} {s : EdS} {K : Sl3} {ks : List T} (hs : St H0 H (resRoot b K ks ++ σ)) (hc : cntKs (layKs ks) ≤ 1000000000) (hed : rdEd H0 e s) (hpl : e.params.length ≤ 1000000000) (hR : Chg (adjustF e) H0 σ R b ks e.id) :
    CallsH Tryz.prog 41 #[.agg (workL b d e s).toArray] H R := by
  refine Tryz.s41 ?_
  unfold Tryz.S41
  refine hs.alc fun b2 H3 hs3 => ⟨_, rfl, rowIn_whole (hs3.block 0 rfl), ?_⟩
  refine tgt hs3 (by omega) (fun hl H6 hs6 => ⟨_, _, rfl, ?_⟩) fun fr u K' ks' a H6 hl ha hs6 => ⟨_, _, rfl, ?_⟩
  · exact br_ne (fun _ => hR.none hl hs6.tail.app.2) fun h => absurd h (by decide)
  have bad : ∀ {v : Int} {H' : Heap}, adjustF e fr.f = (v, fr.f) → v ≠ 0 → St H0 H' (openR fr (u ++ [rootFr b]) K' ks' ++ σ) → R (.int .i64 v) H' := fun hg hv hs => hR.err hl hg hv hs.app.2
  refine br_ne (fun h => absurd rfl h) fun _ => ⟨a, rfl, _, hs6.elCell 1 rfl (cellsKs_len fr.pre) (cells_1 fr K') ha, br_ne (fun hk => bad (by unfold adjustF; rw [if_pos hk]) (by decide) hs6.tail) fun hk => ?_⟩
  have hF : adjustF e fr.f = (if tabB e.n e.params = false then (32, fr.f) else (0, { fr.f with table := e.n, params := e.params })) := by unfold adjustF; rw [if_neg (fun hh => hh hk)]
  refine ⟨_, hs6.get 0 rfl (j := 6) rfl, _, _, _, hs6.get 0 rfl (j := 20) rfl, ?_⟩
  have hal := hed.params.length
  refine c80 (hed.params.ext hs6.ext) (by omega) (fun ht => ⟨_, _, _, _, rfl, br_t rfl (bad (by rw [hF, if_pos ht]) (by decide) hs6.tail)⟩) fun ht tb H14 he14 => ⟨_, _, _, _, rfl, br_f rfl ?_⟩
  rw [if_neg (by rw [ht]; simp)] at hF
  have hs14 := hs6.step he14
  refine ⟨_, hs14.get 0 rfl (j := 6) rfl, _, _, _, hs14.get 0 rfl (j := 20) rfl, ?_⟩
  refine c81 (hed.params.ext hs14.ext) hpl fun q H20 hq20 => ⟨_, _, _, rfl, .inl hq20.ext, a, rfl, ?_⟩
  have hs20 := hs14.call hq20
  refine hs20.elPut 2 rfl (cellsKs_len fr.pre) (j := 16) (Nat.le_of_ble_eq_true rfl) rfl ha fun H23 hs23 => ⟨a, rfl, ?_⟩
  refine hs23.elPut 2 rfl (cellsKs_len fr.pre) (j := 17) (Nat.le_of_ble_eq_true rfl) rfl ha fun H25 hs25 => ?_
  refine hR.done hl (P := fr.P) (M := fr.M) (A := q) (K' := K') (ks' := ks') hF ?_
  refine ((hs25.perm (τ := .cell b2 (workL b d e s).toArray 86 :: .sl fr.A.p fr.A.l fr.A.c 3 1 (ints fr.f.params) :: (openR ⟨fr.hdr, fr.pre, { fr.f with table := e.n, params := e.params }, fr.P, fr.M, q, fr.post⟩ (u ++ [rootFr b]) K' ks' ++ σ)) (permC fun _ x => ?_)).drop 2)
  show List.count x (.sl q.p q.l q.c 3 1 (ints e.params) :: .cell b2 (workL b d e s).toArray 86 :: ((.sl fr.hdr.p fr.hdr.l fr.hdr.c 58 19 (cellsKs fr.pre ++ cellsL { fr.f with table := e.n, params := e.params } fr.P.v fr.M.v q.v K'.v ++ cellsKs fr.post) :: .sl fr.P.p fr.P.l fr.P.c 3 1 (ints fr.f.p) :: .sl fr.M.p fr.M.l fr.M.c 5 1 (kints .u8 fr.f.mask) :: .sl fr.A.p fr.A.l fr.A.c 3 1 (ints fr.f.params) ::
    .sl K'.p K'.l K'.c 58 19 (cellsKs ks') :: (resKs ks' ++ (resKs fr.pre ++ (resKs fr.post ++ resUp (u ++ [rootFr b]) fr.hdr)))) ++ σ)) =
    List.count x (.cell b2 (workL b d e s).toArray 86 :: .sl fr.A.p fr.A.l fr.A.c 3 1 (ints fr.f.params) :: ((.sl fr.hdr.p fr.hdr.l fr.hdr.c 58 19 (cellsKs fr.pre ++ cellsL { fr.f with table := e.n, params := e.params } fr.P.v fr.M.v q.v K'.v ++ cellsKs fr.post) :: .sl fr.P.p fr.P.l fr.P.c 3 1 (ints fr.f.p) :: .sl fr.M.p fr.M.l fr.M.c 5 1 (kints .u8 fr.f.mask) :: .sl q.p q.l q.c 3 1 (ints e.params) ::
    .sl K'.p K'.l K'.c 58 19 (cellsKs ks') :: (resKs ks' ++ (resKs fr.pre ++ (resKs fr.post ++ resUp (u ++ [rootFr b]) fr.hdr)))) ++ σ))
  simp only [List.count_append, List.count_cons]
  ac_rfl
def stepL (w h next : Int) (D : List Lay) (e : Ed) : Int × List Lay :=
 if e.kind = 1 then addL next D e else if e.kind = 2 then removeL D e.id else if e.kind = 3 then moveL D e else if e.kind = 4 then chgL (paintF e) D e.id else if e.kind = 5 then chgL (lookF e) D e.id else
 if e.kind = 6 then chgL (hideF e) D e.id else if e.kind = 7 then chgL (maskF w h e) D e.id else if e.kind = 8 then chgL (placeF e) D e.id else if e.kind = 9 then chgL (adjustF e) D e.id else (41, [])
def nextL (next : Int) (e : Ed) : Int := if e.kind = 1 then next + 1 else next
structure EdOk (H0 : Heap) (e : Ed) (s : EdS) : Prop where
 rd : rdEd H0 e s
 shape : e.shape.length ≤ 1000000000
 params : e.params.length ≤ 1000000000
def kindFn (k : Int) : Nat := if k = 1 then 33 else if k = 2 then 34 else if k = 3 then 35 else if k = 4 then 36 else if k = 5 then 37 else if k = 6 then 38 else if k = 7 then 39 else if k = 8 then 40 else 41
theorem edit_call {b d : Nat} {e : Ed} {s : EdS} {K K0 : Sl3} {ks : List T} {w h next : Int} (hk : 1 ≤ e.kind ∧ e.kind ≤ 9) (hs : St H0 H (resRoot b K ks ++ (.cell d (docA w h next K0) 26 :: σ))) (hc : cntKs (layKs ks) ≤ 1000000000) (hnx : 0 ≤ next ∧ next ≤ 1000000000000000) (hsz : e.kind = 7 → sizedB w h = true) (hed : EdOk H0 e s)
    (hras : ∀ fr u ks', flK [] [] e.id (layKs ks) = some (fr :: u, ks') → okRas fr.f)
    (hbad : ∀ H', (stepL w h next (layKs ks) e).1 ≠ 0 → St H0 H' σ → R (.int .i64 (stepL w h next (layKs ks) e).1) H')
    (hok : ∀ Kn ksn H', (stepL w h next (layKs ks) e).1 = 0 → layKs ksn = (stepL w h next (layKs ks) e).2 → St H0 H' (resRoot b Kn ksn ++ (.cell d (docA w h (nextL next e) K0) 26 :: σ)) → R (.int .i64 0) H') :
    CallsH Tryz.prog (kindFn e.kind) #[.agg (workL b d e s).toArray] H R := by
  have hsl : s.S.l ≤ 1000000000 := by rw [← hed.rd.shape.len]; exact hed.shape
  by_cases k1 : e.kind = 1
  · have hst : stepL w h next (layKs ks) e = addL next (layKs ks) e := by unfold stepL; rw [if_pos k1]
    have hnl : nextL next e = next + 1 := by unfold nextL; rw [if_pos k1]
    rw [hst] at hbad hok
    rw [hnl] at hok
    rw [show kindFn e.kind = 33 from by unfold kindFn; rw [if_pos k1]]
    exact c33 hs hc hnx hbad hok
  have hnl : nextL next e = next := by unfold nextL; rw [if_neg k1]
  rw [hnl] at hok
  by_cases k2 : e.kind = 2
  · have hst : stepL w h next (layKs ks) e = removeL (layKs ks) e.id := by unfold stepL; rw [if_neg k1, if_pos k2]
    rw [hst] at hbad hok
    rw [show kindFn e.kind = 34 from by unfold kindFn; rw [if_neg k1, if_pos k2]]
    refine c34 hs hc (fun hz H' he => ?_) fun fr u K' ks' Kn ksn H' hz hl hs' => ?_
    · rcases find_cases b K ks e.id with ⟨_, hl⟩ | ⟨fr, u, K', ks', hz', _, _⟩
      · have hr : removeL (layKs ks) e.id = (40, []) := by unfold removeL; rw [hl]
        have := hbad H' (by rw [hr]; decide) (hs.step he).app.2.tail
        rw [hr] at this; exact this
      · rw [hz] at hz'; cases hz'
    · rcases find_cases b K ks e.id with ⟨hz', _⟩ | ⟨fr', u', K'', ks'', hz', _, hl'⟩
      · rw [hz] at hz'; cases hz'
      · rw [hz] at hz'
        simp only [Option.some.injEq, Prod.mk.injEq, List.cons.injEq] at hz'
        obtain ⟨⟨rfl, hu⟩, rfl, rfl⟩ := hz'
        have hu := List.append_cancel_right hu
        subst hu
        have hr : removeL (layKs ks) e.id = (0, plugL (u.map Fr.lay) (layKs fr.pre ++ layKs fr.post)) := by unfold removeL; rw [hl']; rfl
        refine hok Kn ksn H' (by rw [hr]) (by rw [hr]; exact hl) (St.app (σ := resT (fr.node K' ks')) (τ := resRoot b Kn ksn ++ (.cell d (docA w h next K0) 26 :: σ)) (hs'.perm (permC fun _ x => by simp only [List.count_append, List.count_cons]; ac_rfl))).2
  by_cases k3 : e.kind = 3
  · have hst : stepL w h next (layKs ks) e = moveL (layKs ks) e := by unfold stepL; rw [if_neg k1, if_neg k2, if_pos k3]
    rw [hst] at hbad hok
    rw [show kindFn e.kind = 35 from by unfold kindFn; rw [if_neg k1, if_neg k2, if_pos k3]]
    exact c35 hs hc (fun H' h1 h2 => hbad H' h1 h2.tail) hok
  have chg : ∀ {g : LayF → Int × LayF}, stepL w h next (layKs ks) e = chgL g (layKs ks) e.id → Chg g H0 (.cell d (docA w h next K0) 26 :: σ) R b ks e.id := fun {g} hst => by
    rw [hst] at hbad hok
    exact ⟨fun H' h1 h2 => hbad H' h1 h2.tail, hok⟩
  by_cases k4 : e.kind = 4
  · rw [show kindFn e.kind = 36 from by unfold kindFn; rw [if_neg k1, if_neg k2, if_neg k3, if_pos k4]]
    exact c36 hs hc hed.rd hras (chg (by unfold stepL; rw [if_neg k1, if_neg k2, if_neg k3, if_pos k4]))
  by_cases k5 : e.kind = 5
  · rw [show kindFn e.kind = 37 from by unfold kindFn; rw [if_neg k1, if_neg k2, if_neg k3, if_neg k4, if_pos k5]]
    exact c37 hs hc (chg (by unfold stepL; rw [if_neg k1, if_neg k2, if_neg k3, if_neg k4, if_pos k5]))
  by_cases k6 : e.kind = 6
  · rw [show kindFn e.kind = 38 from by unfold kindFn; rw [if_neg k1, if_neg k2, if_neg k3, if_neg k4, if_neg k5, if_pos k6]]
    exact c38 hs hc (chg (by unfold stepL; rw [if_neg k1, if_neg k2, if_neg k3, if_neg k4, if_neg k5, if_pos k6]))
  by_cases k7 : e.kind = 7
  · rw [show kindFn e.kind = 39 from by unfold kindFn; rw [if_neg k1, if_neg k2, if_neg k3, if_neg k4, if_neg k5, if_neg k6, if_pos k7]]
    exact c39 hs hc hed.rd hsl (hsz k7) (chg (by unfold stepL; rw [if_neg k1, if_neg k2, if_neg k3, if_neg k4, if_neg k5, if_neg k6, if_pos k7]))
  by_cases k8 : e.kind = 8
  · rw [show kindFn e.kind = 40 from by unfold kindFn; rw [if_neg k1, if_neg k2, if_neg k3, if_neg k4, if_neg k5, if_neg k6, if_neg k7, if_pos k8]]
    exact c40 hs hc (chg (by unfold stepL; rw [if_neg k1, if_neg k2, if_neg k3, if_neg k4, if_neg k5, if_neg k6, if_neg k7, if_pos k8]))
  · have k9 : e.kind = 9 := by omega
    rw [show kindFn e.kind = 41 from by unfold kindFn; rw [if_neg k1, if_neg k2, if_neg k3, if_neg k4, if_neg k5, if_neg k6, if_neg k7, if_neg k8]]
    exact c41 hs hc hed.rd hed.params (chg (by unfold stepL; rw [if_neg k1, if_neg k2, if_neg k3, if_neg k4, if_neg k5, if_neg k6, if_neg k7, if_neg k8, if_pos k9]))
end Go.Proofs
namespace Go.Proofs
open Go.Sh
variable {H0 H : Heap} {σ : List Rs} {R : Value → Heap → Prop}
theorem docA_one (w h next : Int) (K : Sl3) : ∀ v ∈ (docA w h next K).toList, v.oneCell' = true := by
 unfold docA
 simp only [List.forall_mem_cons]
 exact ⟨rfl, rfl, rfl, rfl, fun _ h => by cases h⟩
theorem edL_one (e : Ed) (s : EdS) : ∀ v ∈ edL e s, v.oneCell' = true := by
 unfold edL
 simp only [List.forall_mem_cons]
 exact ⟨rfl, rfl, rfl, rfl, rfl, rfl, rfl, rfl, rfl, rfl, rfl, rfl, rfl, rfl, rfl, rfl, rfl, rfl, rfl, fun _ h => by cases h⟩
theorem workL_one (b d : Nat) (e : Ed) (s : EdS) : ∀ v ∈ workL b d e s, v.oneCell' = true := by
 unfold workL
 simp only [List.forall_mem_cons]
 exact ⟨rfl, rfl, edL_one e s⟩
theorem c32 {d : Nat} {w h next : Int} {K : Sl3} (hb : H[d]? = some (.cells (docA w h next K) 26)) (hR : ∀ b H', St H H' [.cell b (cellsT (rootT K [])).toArray 58] → R (.pointer (some ⟨b, 0, none⟩)) H') : CallsH Tryz.prog 32 #[.pointer (some ⟨d, 0, none⟩)] H R := by
 refine Tryz.s32 ?_
 unfold Tryz.S32
 exact ⟨_, rfl, _, _, _, cell_get (i := 3) hb rfl, (St.nil H).alc fun b4 H5 hs5 => hR b4 H5 hs5⟩
theorem mk_root {b : Nat} {K : Sl3} {ks : List T} (hs : St H0 H (.cell b (cellsT (rootT K [])).toArray 58 :: (resG K ks ++ σ))) : St H0 H (resRoot b K ks ++ σ) := by
 have h1 := hs.toSl 0 (l := 1) (k := 19) (fs := cellsKs [rootT K ks]) rfl rfl (by rw [cellsKs_one]; rfl) (by rw [cellsKs_one]; exact cellsT_one _)
 have h2 := ((h1.nilSl 3 1).nilSl 5 1).nilSl 3 1
 refine h2.perm (permC fun _ x => ?_)
 have e1 : resRoot b K ks = .sl (some ⟨b, 0, none⟩) 1 1 58 19 (cellsKs [rootT K ks]) :: .sl none 0 0 3 1 [] :: .sl none 0 0 5 1 [] :: .sl none 0 0 3 1 [] :: resG K ks := by
  unfold resRoot
  rw [resG, resKs_one, rootT, resT_mk]; rfl
 rw [e1]
 show List.count x (.sl none 0 0 3 1 [] :: .sl none 0 0 5 1 [] :: .sl none 0 0 3 1 [] :: .sl (some ⟨b, 0, none⟩) 1 1 58 19 (cellsKs [rootT K ks]) :: (resG K ks ++ σ)) = _
 simp only [List.count_append, List.count_cons]
 ac_rfl
theorem un_root {b : Nat} {K : Sl3} {ks : List T} (hs : St H0 H (resRoot b K ks ++ σ)) : Sh.cell H ⟨b, 18, none⟩ = some (.slice K.p K.l K.c) ∧ St H0 H (resG K ks ++ σ) := by
 obtain ⟨a0, h1, h2, h3⟩ := hs.grp.get (i := 0) (t := rootT K ks) rfl
 cases h1
 rw [Nat.zero_mul, add_none] at h2
 refine ⟨h2 18 _ rfl, ?_⟩
 have e1 : resRoot b K ks = .sl (some ⟨b, 0, none⟩) 1 1 58 19 (cellsKs [rootT K ks]) :: .sl none 0 0 3 1 [] :: .sl none 0 0 5 1 [] :: .sl none 0 0 3 1 [] :: resG K ks := by
  unfold resRoot
  rw [resG, resKs_one, rootT, resT_mk]; rfl
 rw [e1] at hs
 exact hs.drop 4
def doL (w h next : Int) (D : List Lay) (e : Ed) : Int × Int × List Lay :=
 if e.kind < 1 ∨ e.kind > 9 then (41, 0, []) else if (stepL w h next D e).1 ≠ 0 then ((stepL w h next D e).1, 0, []) else (0, nextL next e, (stepL w h next D e).2)
def kindsA : Array Value := #[Value.func (.func 33) #[] #[], Value.func (.func 34) #[] #[], Value.func (.func 35) #[] #[], Value.func (.func 36) #[] #[], Value.func (.func 37) #[] #[], Value.func (.func 38) #[] #[], Value.func (.func 39) #[] #[], Value.func (.func 40) #[] #[], Value.func (.func 41) #[] #[]]
theorem kinds_get {k : Int} (h : 1 ≤ k ∧ k ≤ 9) : kindsA[(k - 1).toNat]? = some (.func (.func (kindFn k)) #[] #[]) := by
 obtain ⟨h1, h2⟩ := h
 obtain ⟨n, rfl⟩ : ∃ n : Nat, k = n := ⟨k.toNat, by omega⟩
 obtain ⟨m, rfl⟩ : ∃ m : Nat, n = m + 1 := ⟨n - 1, by omega⟩
 rw [show (((m + 1 : Nat) : Int) - 1).toNat = m from by omega]
 have : m < 9 := by omega
 obtain rfl | rfl | rfl | rfl | rfl | rfl | rfl | rfl | rfl : m = 0 ∨ m = 1 ∨ m = 2 ∨ m = 3 ∨ m = 4 ∨ m = 5 ∨ m = 6 ∨ m = 7 ∨ m = 8 := by omega
 all_goals rfl
theorem c17 {e : Ed} {s : EdS} {K : Sl3} {ks : List T} {w h next : Int} (hg : grp H K ks) (hokl : okKs (layKs ks)) (hc : cntKs (layKs ks) ≤ 1000000000) (hnx : 0 ≤ next ∧ next ≤ 1000000000000000) (hsz : e.kind = 7 → sizedB w h = true) (hed : EdOk H e s)
    (hras : ∀ fr u ks', flK [] [] e.id (layKs ks) = some (fr :: u, ks') → okRas fr.f)
    (hbad : ∀ H', (doL w h next (layKs ks) e).1 ≠ 0 → Ext H H' → R (.tuple #[.agg (docA 0 0 0 .nil), .int .i64 (doL w h next (layKs ks) e).1]) H')
    (hok : ∀ K' ks' H', (doL w h next (layKs ks) e).1 = 0 → layKs ks' = (doL w h next (layKs ks) e).2.2 → St H H' (resG K' ks') → R (.tuple #[.agg (docA w h (doL w h next (layKs ks) e).2.1 K'), .int .i64 0]) H') :
    CallsH Tryz.prog 17 #[.agg (docA w h next K), .agg (edL e s).toArray] H R := by
  have hlk := len_cnt (layKs ks)
  rw [layKs_len] at hlk
  refine Tryz.s17 ?_
  unfold Tryz.S17
  refine (St.nil H).alc fun b3 H4 hs4 => hs4.alc fun b5 H6 hs6 => hs6.alc fun b7 H8 hs8 => ?_
  intro J9 hJ9
  have main9 : ∀ (db : Nat) (K' : Sl3) (ks' : List T) (H11 : Heap), layKs ks' = layKs ks → St H H11 (.cell db (docA w h next K') 26 :: .cell b7 (docA 0 0 0 .nil) 26 :: .cell b5 (edL e s).toArray 52 :: (resG K' ks')) → J9 [.pointer (some ⟨db, 0, none⟩)] H11 := by
    intro db K' ks' H11 hlay hs11
    refine hJ9 _ _ ?_
    intro J12 hJ12
    have main12 : ∀ (wb rb : Nat) (H14 : Heap), St H H14 (.cell wb (workL rb db e s).toArray 86 :: .cell db (docA w h next K') 26 :: .cell b7 (docA 0 0 0 .nil) 26 :: .cell b5 (edL e s).toArray 52 :: (resRoot rb K' ks')) → J12 [.pointer (some ⟨wb, 0, none⟩)] H14 := by
      intro wb rb H14 hs14
      refine hJ12 _ _ ?_
      refine hs14.alc fun b15 H16 hs16 => ?_
      intro J17 hJ17
      have bad : ∀ {v : Int} {n : Int} {x : List Lay} {H1 : Heap} {τ : List Rs}, doL w h next (layKs ks) e = (v, n, x) → v ≠ 0 → ∀ (i : Nat), τ[i]? = some (.cell b7 (docA 0 0 0 .nil) 26) → St H H1 τ →
          (#[Value.int .i64 0, Value.int .i64 0, Value.int .i64 0, Value.slice none 0 0].size = 4 ∧ stAt H1 ⟨b7, 0, none⟩ (Array.toList #[Value.int .i64 0, Value.int .i64 0, Value.int .i64 0, Value.slice none 0 0]) fun H_36 => ∃ res37 : Array Value, res37.size = 4 ∧ rowIn H_36 ⟨b7, 0, none⟩ res37 ∧ R (Value.tuple #[Value.agg res37, Value.int .i64 v]) H_36) := fun {v n x H1 τ} hd hv i hi hs =>
        ⟨rfl, hs.putAll i hi rfl (docA_one 0 0 0 .nil) fun H2 hs2 => ⟨docA 0 0 0 .nil, rfl, rowIn_whole (hs2.block i (by rw [List.getElem?_set_self (List.getElem?_eq_some_iff.1 hi).1]; rfl)), by
          have := hbad H2 (by rw [hd]; exact hv) hs2.ext
          rw [hd] at this; exact this⟩⟩
      refine ⟨_, hs16.get 4 rfl (j := 0) rfl, br_dec (fun hk => bad (by unfold doL; rw [if_pos (.inl hk)]) (by decide) 3 rfl hs16) fun hk1 => ⟨_, hs16.get 4 rfl (j := 0) rfl, br_dec (fun hk => bad (by unfold doL; rw [if_pos (.inr hk)]) (by decide) 3 rfl hs16) fun hk2 => hJ17 _ ?_⟩⟩
      have hk1 : ¬ e.kind < 1 := hk1
      have hk2 : ¬ e.kind > 9 := hk2
      have hD : doL w h next (layKs ks) e = (if (stepL w h next (layKs ks) e).1 ≠ 0 then ((stepL w h next (layKs ks) e).1, 0, []) else (0, nextL next e, (stepL w h next (layKs ks) e).2)) := by
        unfold doL; rw [if_neg (by omega)]
      refine ⟨_, hs16.get 4 rfl (j := 0) rfl, _, rfl, ?_⟩
      show 0 ≤ (IntKind.wrap .i64 (e.kind - (1 : Int))) ∧ _
      rw [wrap_id (n := e.kind - 1) (by omega) (by omega)]
      refine ⟨by omega, by omega, kindFn e.kind, #[], #[], ?_, _, rfl, rowIn_whole (hs16.block 1 rfl), ?_⟩
      · rw [Nat.mul_one, add_none, Nat.zero_add]
        exact hs16.get 0 rfl (kinds_get ⟨by omega, by omega⟩)
      show CallsH Tryz.prog (kindFn e.kind) #[.agg (workL rb db e s).toArray] H16 _
      have hs17 : St H H16 (resRoot rb K' ks' ++ (.cell db (docA w h next K') 26 :: .cell b7 (docA 0 0 0 .nil) 26 :: .cell wb (workL rb db e s).toArray 86 :: [])) := by
        have h1 := St.del (St.tail hs16) 3
        exact h1.perm (permC fun _ x => by
          show List.count x (.cell wb (workL rb db e s).toArray 86 :: .cell db (docA w h next K') 26 :: .cell b7 (docA 0 0 0 .nil) 26 :: resRoot rb K' ks') = _
          simp only [List.count_append, List.count_cons, List.count_nil]; ac_rfl)
      refine edit_call ⟨by omega, by omega⟩ hs17 (by rw [hlay]; exact hc) hnx hsz ⟨hed.rd, hed.shape, hed.params⟩ (by rw [hlay]; exact hras) (fun H24 hne hs24 => ⟨_, rfl, br_ne (fun _ => ?_) fun hh => absurd hh hne⟩) fun Kn ksn H24 h0 hl hs24 => ⟨_, rfl, br_ne (fun hh => absurd rfl hh) fun _ => ?_⟩
      · rw [hlay] at hne ⊢
        exact bad (by rw [hD, if_pos hne]) hne 0 rfl hs24
      · rw [hlay] at h0 hl
        rw [if_neg (by rw [h0]; simp)] at hD
        obtain ⟨hcell, hs25⟩ := un_root hs24
        have hs26 : St H H24 (.cell wb (workL rb db e s).toArray 86 :: .cell db (docA w h (nextL next e) K') 26 :: .cell b7 (docA 0 0 0 .nil) 26 :: (resG Kn ksn)) := hs25.perm (permC fun _ x => by
          simp only [List.count_append, List.count_cons, List.count_nil]; ac_rfl)
        refine ⟨_, hs26.get 0 rfl (j := 0) rfl, _, rfl, _, _, _, hcell, ?_⟩
        refine hs26.put 1 rfl (j := 3) (Nat.le_of_ble_eq_true rfl) rfl fun H31 hs31 => ⟨docA w h (nextL next e) Kn, rfl, rowIn_whole (hs31.block 1 rfl), rfl, ?_⟩
        refine hs31.putAll 2 rfl rfl (docA_one w h (nextL next e) Kn) fun H33 hs33 => ⟨docA w h (nextL next e) Kn, rfl, rowIn_whole (hs33.block 2 rfl), ?_⟩
        have := hok Kn ksn H33 (by rw [hD]) (by rw [hD]; exact hl) (hs33.drop 3)
        rw [hD] at this
        exact this
    have hb5 : ∀ {H1 : Heap}, Ext H11 H1 → rowIn H1 ⟨b5, 0, none⟩ (edL e s).toArray := fun he => rowAt_ext he (rowIn_whole (hs11.block 2 rfl))
    refine ⟨(edL e s).toArray, rfl, hb5 (Ext.refl _), ?_, ?_⟩
    · refine c32 (hs11.block 0 rfl) fun rb H43 hp43 => ⟨_, rfl, .inl hp43.ext, rfl, by decide, ?_⟩
      have hs43 := hs11.call hp43
      refine hs43.alcE fun b45 H46 he46 hs46 => ⟨.inl he46, rfl, hs46.putAll 0 rfl rfl (workL_one rb db e s) fun H47 hs47 => main12 b45 rb H47 ?_⟩
      have h1 : St H H47 (.cell rb (cellsT (rootT K' [])).toArray 58 :: (resG K' ks' ++ (.cell b45 (workL rb db e s).toArray 86 :: .cell db (docA w h next K') 26 :: .cell b7 (docA 0 0 0 .nil) 26 :: .cell b5 (edL e s).toArray 52 :: []))) := hs47.perm (permC fun _ x => by
        show List.count x (.cell b45 (workL rb db e s).toArray 86 :: .cell rb (cellsT (rootT K' [])).toArray 58 :: .cell db (docA w h next K') 26 :: .cell b7 (docA 0 0 0 .nil) 26 :: .cell b5 (edL e s).toArray 52 :: (resG K' ks')) = _
        simp only [List.count_append, List.count_cons, List.count_nil]; ac_rfl)
      exact (mk_root h1).perm (permC fun _ x => by simp only [List.count_append, List.count_cons, List.count_nil]; ac_rfl)
    · refine hs11.alcE fun b50 H51 he51 hs51 => ⟨.inl he51, ?_⟩
      refine c32 (hs51.block 1 rfl) fun rb H53 hp53 => ⟨_, rfl, .inl hp53.ext, rfl, by decide, rfl, ?_⟩
      have hs53 := hs51.call hp53
      refine hs53.putAll 1 rfl rfl (workL_one rb db e s) fun H55 hs55 => main12 b50 rb H55 ?_
      have h1 : St H H55 (.cell rb (cellsT (rootT K' [])).toArray 58 :: (resG K' ks' ++ (.cell b50 (workL rb db e s).toArray 86 :: .cell db (docA w h next K') 26 :: .cell b7 (docA 0 0 0 .nil) 26 :: .cell b5 (edL e s).toArray 52 :: []))) := hs55.perm (permC fun _ x => by
        show List.count x (.cell rb (cellsT (rootT K' [])).toArray 58 :: .cell b50 (workL rb db e s).toArray 86 :: .cell db (docA w h next K') 26 :: .cell b7 (docA 0 0 0 .nil) 26 :: .cell b5 (edL e s).toArray 52 :: (resG K' ks')) = _
        simp only [List.count_append, List.count_cons, List.count_nil]; ac_rfl)
      exact (mk_root h1).perm (permC fun _ x => by simp only [List.count_append, List.count_cons, List.count_nil]; ac_rfl)
  refine ⟨_, hs8.get 2 rfl (j := 0) rfl, _, hs8.get 2 rfl (j := 1) rfl, _, hs8.get 2 rfl (j := 2) rfl, _, _, _, hs8.get 2 rfl (j := 3) rfl, ?_, ?_⟩
  · refine c31 (K := K) (hg.ext hs8.ext) hokl (by omega) fun K' ks' H63 hlay hp63 => ⟨_, _, _, rfl, .inl hp63.ext, ?_⟩
    have hs63 := hs8.callR hp63
    refine hs63.alcE fun b65 H66 he66 hs66 => ⟨.inl he66, rfl, hs66.putAll 0 rfl rfl (docA_one w h next K') fun H67 hs67 => main9 b65 K' ks' H67 hlay ?_⟩
    exact (St.del hs67 3)
  · refine hs8.alcE fun b74 H75 he75 hs75 => ⟨.inl he75, ?_⟩
    refine c31 (K := K) (hg.ext hs75.ext) hokl (by omega) fun K' ks' H77 hlay hp77 => ⟨_, _, _, rfl, .inl hp77.ext, rfl, ?_⟩
    have hs77 := hs75.callR hp77
    refine hs77.putAll 0 rfl rfl (docA_one w h next K') fun H79 hs79 => main9 b74 K' ks' H79 hlay ?_
    exact (St.del hs79 3)
end Go.Proofs
namespace Go.Proofs
open Go.Sh
theorem gD_left {α : Type} (a b : List α) (d : α) (i : Nat) (h : i < a.length) : (a ++ b).getD i d = a.getD i d := by simp [List.getD_eq_getElem?_getD, List.getElem?_append_left h]
theorem gD_right {α : Type} (a b : List α) (d : α) (i : Nat) (h : a.length ≤ i) : (a ++ b).getD i d = b.getD (i - a.length) d := by simp [List.getD_eq_getElem?_getD, List.getElem?_append_right h]
theorem gD_none {α : Type} (a : List α) (d : α) {i : Nat} (h : a.length ≤ i) : a.getD i d = d := by simp [List.getD_eq_getElem?_getD, List.getElem?_eq_none h]
def bpos (hi : Bool) (i : Nat) : Nat := if hi then 7 - i % 8 else i % 8
def bitB (hi : Bool) (B : List Int) (i : Nat) : Int := B.getD (i / 8) 0 / 2 ^ bpos hi i % 2
theorem bpos_lt (hi : Bool) (i : Nat) : bpos hi i < 8 := by unfold bpos; split <;> omega
theorem bpos_ne {hi : Bool} {i j : Nat} (h : i / 8 = j / 8) (hne : i ≠ j) : bpos hi i ≠ bpos hi j := by unfold bpos; split <;> omega
theorem pow_cast (n : Nat) : ((2 ^ n : Nat) : Int) = (2 : Int) ^ n := by simp
theorem two_pow_pos (n : Nat) : (0 : Int) < 2 ^ n := Int.pow_pos (by omega)
theorem ofInt_nat {n : Nat} {x : Int} (h0 : 0 ≤ x) (h1 : x < 2 ^ n) : (BitVec.ofInt n x).toNat = x.toNat := by
 rw [BitVec.toNat_ofInt]
 congr 1
 rw [pow_cast]; exact Int.emod_eq_of_lt h0 h1
theorem or_sum {a b : Int} {k : Nat} (a0 : 0 ≤ a) (ak : a < 2 ^ k) (b0 : 0 ≤ b) (hs : a + b * 2 ^ k < 9223372036854775808) : orI .i64 a (b * 2 ^ k) = a + b * 2 ^ k := by
 have hp := two_pow_pos k
 have hb : 0 ≤ b * 2 ^ k := Int.mul_nonneg b0 (Int.le_of_lt hp)
 have e64 : (2 : Int) ^ 64 = 18446744073709551616 := by decide
 unfold orI
 rw [show IntKind.bits .i64 = 64 from rfl, BitVec.toNat_or, ofInt_nat a0 (by omega), ofInt_nat hb (by omega)]
 have h1 : (b * 2 ^ k).toNat = 2 ^ k * b.toNat := by
  obtain ⟨n, rfl⟩ := Int.eq_ofNat_of_zero_le b0
  rw [← pow_cast, ← Int.natCast_mul, Int.toNat_natCast, Int.toNat_natCast, Nat.mul_comm]
 have h2 : a.toNat < 2 ^ k := by
  have := pow_cast k; omega
 rw [h1, Nat.or_comm, ← Nat.two_pow_add_eq_or_of_lt h2, ← h1]
 rw [wrap_id (by omega) (by omega)]
 omega
theorem or_sum' {a b : Int} {k : Nat} (a0 : 0 ≤ a) (ak : a < 2 ^ k) (b0 : 0 ≤ b) (hs : a + b * 2 ^ k < 9223372036854775808) : orI .i64 (b * 2 ^ k) a = a + b * 2 ^ k := by
 rw [← or_sum a0 ak b0 hs]
 unfold orI
 rw [BitVec.or_comm]
theorem shl_of {x : Int} {k : Nat} (h0 : 0 ≤ x) (hk : k ≤ 62) (hs : x * 2 ^ k < 9223372036854775808) : shlI .i64 x k = x * 2 ^ k := by
 unfold shlI
 rw [show min (k : Int).toNat (IntKind.bits .i64) = k from by rw [Int.toNat_natCast]; exact Nat.min_eq_left (by show k ≤ 64; omega)]
 have := Int.mul_nonneg h0 (Int.le_of_lt (two_pow_pos k))
 exact wrap_id (by omega) (by omega)
theorem or_byte : ∀ (x : Fin 256) (j : Fin 8) (b : Fin 2), x.val / 2 ^ j.val % 2 = 0 → orI .u8 (x.val : Int) (shlI .u8 (b.val : Int) (j.val : Int)) = ((x.val + b.val * 2 ^ j.val : Nat) : Int) ∧ x.val + b.val * 2 ^ j.val < 256 := by decide +kernel
theorem bit_set : ∀ (x : Fin 256) (j : Fin 8) (b : Fin 2) (i : Fin 8), x.val / 2 ^ j.val % 2 = 0 → (x.val + b.val * 2 ^ j.val) / 2 ^ i.val % 2 = if i = j then b.val else x.val / 2 ^ i.val % 2 := by decide +kernel
structure WOk (hi : Bool) (ws B : List Int) : Prop where
 len : B.length = (ws.length + 7) / 8
 rng : ∀ x ∈ B, 0 ≤ x ∧ x < 256
 bit : ∀ i : Nat, bitB hi B i = ws.getD i 0
theorem WOk.nil (hi : Bool) : WOk hi [] [] := ⟨rfl, by simp, fun i => by simp [bitB]⟩
theorem WOk.put {hi : Bool} {ws B : List Int} {b : Int} (h : WOk hi ws B) (hb : b = 0 ∨ b = 1) {C : List Int} (hC : C = if ws.length % 8 = 0 then B ++ [0] else B) :
    ∃ x, C[ws.length / 8]? = some x ∧ 0 ≤ x ∧ x < 256 ∧ WOk hi (ws ++ [b]) (C.set (ws.length / 8) (orI .u8 x (shlI .u8 b (bpos hi ws.length)))) := by
  have hl := h.len
  have hlen : C.length = ws.length / 8 + 1 := by
    rw [hC]; split
    · simp; omega
    · omega
  have hr : ∀ x ∈ C, 0 ≤ x ∧ x < 256 := by
    rw [hC]; split
    · intro x hx
      rcases List.mem_append.1 hx with hx | hx
      · exact h.rng x hx
      · simp at hx; subst hx; omega
    · exact h.rng
  have hbit : ∀ i : Nat, bitB hi C i = ws.getD i 0 := fun i => by
    rw [← h.bit i, hC]
    split
    · unfold bitB
      by_cases hi' : i / 8 < B.length
      · rw [gD_left _ _ _ _ hi']
      · rw [gD_none B _ (by omega)]
        by_cases he : i / 8 = B.length
        · rw [gD_right _ _ _ _ (by omega), he, Nat.sub_self]; rfl
        · rw [gD_none _ _ (by simp; omega)]
    · rfl
  have hx : C[ws.length / 8]? = some (C.getD (ws.length / 8) 0) := by
    rw [List.getD_eq_getElem?_getD, List.getElem?_eq_getElem (by omega)]; rfl
  generalize hxe : C.getD (ws.length / 8) 0 = x at hx
  have hxr := hr x (List.mem_of_getElem? hx)
  refine ⟨x, hx, hxr.1, hxr.2, ?_⟩
  obtain ⟨n, rfl⟩ := Int.eq_ofNat_of_zero_le hxr.1
  have hn : n < 256 := by omega
  obtain ⟨c, hc, rfl⟩ : ∃ c : Nat, c < 2 ∧ b = (c : Int) := by
    rcases hb with rfl | rfl
    · exact ⟨0, by omega, rfl⟩
    · exact ⟨1, by omega, rfl⟩
  have hz : n / 2 ^ bpos hi ws.length % 2 = 0 := by
    have h1 := hbit ws.length
    unfold bitB at h1
    rw [hxe, gD_none _ _ (Nat.le_refl _), ← pow_cast] at h1
    omega
  obtain ⟨ho, ho2⟩ := or_byte ⟨n, hn⟩ ⟨bpos hi ws.length, bpos_lt hi _⟩ ⟨c, hc⟩ hz
  simp only at ho ho2
  rw [ho]
  refine ⟨by rw [List.length_set, hlen, List.length_append, List.length_singleton]; omega, fun y hy => ?_, fun i => ?_⟩
  · rcases List.mem_or_eq_of_mem_set hy with hy | rfl
    · exact hr y hy
    · exact ⟨Int.natCast_nonneg _, Int.ofNat_lt.2 ho2⟩
  · by_cases he : i / 8 = ws.length / 8
    · have hs := bit_set ⟨n, hn⟩ ⟨bpos hi ws.length, bpos_lt hi _⟩ ⟨c, hc⟩ ⟨bpos hi i, bpos_lt hi _⟩ hz
      simp only [Fin.mk.injEq] at hs
      have hg : (C.set (ws.length / 8) ((n + c * 2 ^ bpos hi ws.length : Nat) : Int)).getD (i / 8) 0 = ((n + c * 2 ^ bpos hi ws.length : Nat) : Int) := by
        rw [he, List.getD_eq_getElem?_getD, List.getElem?_set_self (by omega)]; rfl
      unfold bitB
      rw [hg, ← pow_cast]
      by_cases hil : i = ws.length
      · subst hil
        rw [if_pos rfl] at hs
        rw [gD_right _ _ _ _ (Nat.le_refl _), Nat.sub_self]
        show _ = (c : Int)
        omega
      · rw [if_neg (bpos_ne he hil)] at hs
        have h1 := hbit i
        unfold bitB at h1
        rw [he, hxe, ← pow_cast] at h1
        have h2 : (ws ++ [(c : Int)]).getD i 0 = ws.getD i 0 := by
          by_cases hlt : i < ws.length
          · rw [gD_left _ _ _ _ hlt]
          · rw [gD_none _ _ (by simp; omega), gD_none _ _ (by omega)]
        rw [h2, ← h1]
        omega
    · have hg : (C.set (ws.length / 8) ((n + c * 2 ^ bpos hi ws.length : Nat) : Int)).getD (i / 8) 0 = C.getD (i / 8) 0 := by
        rw [List.getD_eq_getElem?_getD, List.getElem?_set_ne (Ne.symm he), ← List.getD_eq_getElem?_getD]
      have h2 : (ws ++ [(c : Int)]).getD i 0 = ws.getD i 0 := by
        by_cases hlt : i < ws.length
        · rw [gD_left _ _ _ _ hlt]
        · rw [gD_none _ _ (by simp; omega), gD_none _ _ (by omega)]
      rw [h2, ← hbit i]
      unfold bitB
      rw [hg]
end Go.Proofs
namespace Go.Proofs
open Go.Sh
def mulP (a b : Int) : Int := (a * b + 127) / 255
def bareP (c a : Int) : Int := if a = 0 then 0 else min 255 ((255 * c + a / 2) / a)
def screenP (x y : Int) : Int := x + y - mulP x y
def hardP (x y : Int) : Int := if y < 128 then mulP x (2 * y) else screenP x (2 * y - 255)
def blP (mode x y : Int) : Int :=
 if mode = 1 then mulP x y else if mode = 2 then screenP x y else if mode = 3 then hardP y x else if mode = 4 then min x y else if mode = 5 then max x y
 else if mode = 6 then (if x = 0 then 0 else if y = 255 then 255 else min 255 (255 * x / (255 - y)))
 else if mode = 7 then (if x = 255 then 255 else if y = 0 then 0 else 255 - min 255 (255 * (255 - x) / y))
 else if mode = 8 then hardP x y else if mode = 9 then max (x - y) (y - x) else if mode = 10 then x + y - 2 * mulP x y
 else if mode = 11 then min 255 (max 0 (mulP x x + 2 * mulP x y - 2 * mulP (mulP x x) y)) else y
structure C4 where
 r : Int
 g : Int
 b : Int
 a : Int
def C4.l (c : C4) : List Int := [c.r, c.g, c.b, c.a]
def spl (v : Int) : C4 := ⟨v / 16777216 % 256, v / 65536 % 256, v / 256 % 256, v % 256⟩
theorem splitL_spl (v : Int) : splitL v = (spl v).l := rfl
def joinP (c : C4) : Int := c.r * 16777216 + c.g * 65536 + c.b * 256 + c.a
def fadeP (c : C4) (f : Int) : C4 := ⟨mulP c.r f, mulP c.g f, mulP c.b f, mulP c.a f⟩
def mixP (mode sa da si di : Int) : Int := min (sa + da - mulP sa da) (mulP si (255 - da) + mulP di (255 - sa) + mulP (mulP sa da) (blP mode (bareP di da) (bareP si sa)))
def blendP (mode : Int) (s d : C4) : C4 := ⟨mixP mode s.a d.a s.r d.r, mixP mode s.a d.a s.g d.g, mixP mode s.a d.a s.b d.b, s.a + d.a - mulP s.a d.a⟩
def mapP1 (t : List Int) (c a : Int) : Int := mulP (t.getD (bareP c a).toNat 0) a
def mapP (t : List Int) (c : C4) : C4 := ⟨mapP1 t c.r c.a, mapP1 t c.g c.a, mapP1 t c.b c.a, c.a⟩
def adjP1 (t : List Int) (f c a : Int) : Int := min a (mulP (mapP1 t c a) f + mulP c (255 - f))
def adjP (t : List Int) (f : Int) (c : C4) : C4 := ⟨adjP1 t f c.r c.a, adjP1 t f c.g c.a, adjP1 t f c.b c.a, c.a⟩
def byte (x : Int) : Prop := 0 ≤ x ∧ x ≤ 255
structure OkC (c : C4) : Prop where
 r : 0 ≤ c.r ∧ c.r ≤ c.a
 g : 0 ≤ c.g ∧ c.g ≤ c.a
 b : 0 ≤ c.b ∧ c.b ≤ c.a
 a : c.a ≤ 255
theorem pixelB_iff {v : Int} : pixelB v = true ↔ (0 ≤ v ∧ v < 4294967296) ∧ OkC (spl v) := by
 unfold pixelB
 rw [decide_eq_true_iff]
 constructor
 ·intro h
  exact ⟨⟨h.1, h.2.1⟩, ⟨⟨by simp only [spl]; omega, h.2.2.1⟩, ⟨by simp only [spl]; omega, h.2.2.2.1⟩, ⟨by simp only [spl]; omega, h.2.2.2.2⟩, by simp only [spl]; omega⟩⟩
 ·intro h
  exact ⟨h.1.1, h.1.2, h.2.r.2, h.2.g.2, h.2.b.2⟩
theorem C4.ext' {c d : C4} (h1 : c.r = d.r) (h2 : c.g = d.g) (h3 : c.b = d.b) (h4 : c.a = d.a) : c = d := by
 cases c; cases d; simp at h1 h2 h3 h4; subst h1 h2 h3 h4; rfl
theorem spl_join {c : C4} (h1 : byte c.r) (h2 : byte c.g) (h3 : byte c.b) (h4 : byte c.a) : spl (joinP c) = c := by
 unfold byte at h1 h2 h3 h4
 refine C4.ext' ?_ ?_ ?_ ?_ <;> simp only [spl, joinP] <;> omega
theorem join_spl {v : Int} (h : 0 ≤ v ∧ v < 4294967296) : joinP (spl v) = v := by simp only [spl, joinP]; omega
theorem OkC.bytes {c : C4} (h : OkC c) : byte c.r ∧ byte c.g ∧ byte c.b ∧ byte c.a := by
 have h1 := h.r; have h2 := h.g; have h3 := h.b; have h4 := h.a
 unfold byte; omega
theorem ok_join {c : C4} (h : OkC c) : pixelB (joinP c) = true := by
 obtain ⟨h1, h2, h3, h4⟩ := h.bytes
 rw [pixelB_iff, spl_join h1 h2 h3 h4]
 unfold byte at h1 h2 h3 h4
 exact ⟨by simp only [joinP]; omega, h⟩
theorem pixZ0 : pixelB 0 = true := by decide
theorem spl_byte (v : Int) : byte (spl v).r ∧ byte (spl v).g ∧ byte (spl v).b ∧ byte (spl v).a := by simp only [spl, byte]; omega
theorem mul_sq {a b : Int} (ha : byte a) (hb : byte b) : 0 ≤ a * b ∧ a * b ≤ a * 255 ∧ a * b ≤ 255 * b := by
 unfold byte at ha hb
 exact ⟨Int.mul_nonneg ha.1 hb.1, Int.mul_le_mul_of_nonneg_left hb.2 ha.1, Int.mul_le_mul_of_nonneg_right ha.2 hb.1⟩
theorem mulP_bd {a b : Int} (ha : byte a) (hb : byte b) : 0 ≤ mulP a b ∧ mulP a b ≤ a ∧ mulP a b ≤ b := by
 obtain ⟨h1, h2, h3⟩ := mul_sq ha hb
 unfold mulP
 omega
theorem mulP_byte {a b : Int} (ha : byte a) (hb : byte b) : byte (mulP a b) := by
 have := mulP_bd ha hb; unfold byte at *; omega
theorem mulP_mono {a a' b : Int} (h : a ≤ a') (hb : 0 ≤ b) : mulP a b ≤ mulP a' b := by
 have := Int.mul_le_mul_of_nonneg_right h hb
 unfold mulP
 omega
theorem mulP_comm (a b : Int) : mulP a b = mulP b a := by unfold mulP; rw [Int.mul_comm]
theorem mulP_255 (a : Int) : mulP a 255 = a := by unfold mulP; omega
theorem mulP_0 (a : Int) : mulP a 0 = 0 := by unfold mulP; omega
theorem mulP_two {a b : Int} (ha : byte a) (hb : 0 ≤ b ∧ b ≤ 511) : 0 ≤ mulP a b ∧ mulP a b ≤ 511 := by
 unfold byte at ha
 have h1 := Int.mul_nonneg ha.1 hb.1
 have h2 := Int.mul_le_mul_of_nonneg_right ha.2 hb.1
 unfold mulP
 omega
theorem bareP_byte {c a : Int} (hc : 0 ≤ c) (ha : 0 ≤ a) : byte (bareP c a) := by
 unfold bareP byte
 split
 ·omega
 ·have : 0 ≤ (255 * c + a / 2) / a := Int.ediv_nonneg (by omega) ha
  omega
theorem screenP_bd {x y : Int} (hx : byte x) (hy : byte y) : 0 ≤ screenP x y ∧ screenP x y ≤ 510 := by
 have := mulP_bd hx hy
 unfold screenP byte at *; omega
theorem hardP_bd {x y : Int} (hx : byte x) (hy : byte y) : 0 ≤ hardP x y ∧ hardP x y ≤ 510 := by
 unfold hardP
 split
 ·have := mulP_bd hx (b := 2 * y) (by unfold byte at *; omega)
  unfold byte at *; omega
 ·exact screenP_bd hx (by unfold byte at *; omega)
theorem blP_bd (mode : Int) {x y : Int} (hx : byte x) (hy : byte y) : 0 ≤ blP mode x y ∧ blP mode x y ≤ 510 := by
 have h1 := mulP_bd hx hy
 have hx' := hx
 have hy' := hy
 unfold byte at hx' hy'
 unfold blP
 by_cases h1' : mode = 1
 ·rw [if_pos h1']; omega
 rw [if_neg h1']
 by_cases h2 : mode = 2
 ·rw [if_pos h2]; exact screenP_bd hx hy
 rw [if_neg h2]
 by_cases h3 : mode = 3
 ·rw [if_pos h3]; exact hardP_bd hy hx
 rw [if_neg h3]
 by_cases h4 : mode = 4
 ·rw [if_pos h4]; omega
 rw [if_neg h4]
 by_cases h5 : mode = 5
 ·rw [if_pos h5]; omega
 rw [if_neg h5]
 by_cases h6 : mode = 6
 ·rw [if_pos h6]
  by_cases hx0 : x = 0
  ·rw [if_pos hx0]; omega
  rw [if_neg hx0]
  by_cases hy0 : y = 255
  ·rw [if_pos hy0]; omega
  rw [if_neg hy0]
  have : 0 ≤ 255 * x / (255 - y) := Int.ediv_nonneg (by omega) (by omega)
  generalize 255 * x / (255 - y) = q at this
  omega
 rw [if_neg h6]
 by_cases h7 : mode = 7
 ·rw [if_pos h7]
  by_cases hx0 : x = 255
  ·rw [if_pos hx0]; omega
  rw [if_neg hx0]
  by_cases hy0 : y = 0
  ·rw [if_pos hy0]; omega
  rw [if_neg hy0]
  have : 0 ≤ 255 * (255 - x) / y := Int.ediv_nonneg (by omega) (by omega)
  generalize 255 * (255 - x) / y = q at this
  omega
 rw [if_neg h7]
 by_cases h8 : mode = 8
 ·rw [if_pos h8]; exact hardP_bd hx hy
 rw [if_neg h8]
 by_cases h9 : mode = 9
 ·rw [if_pos h9]; omega
 rw [if_neg h9]
 by_cases h10 : mode = 10
 ·rw [if_pos h10]; omega
 rw [if_neg h10]
 by_cases h11 : mode = 11
 ·rw [if_pos h11]
  generalize mulP x x + 2 * mulP x y - 2 * mulP (mulP x x) y = q
  omega
 rw [if_neg h11]
 omega
theorem over_bd {s d : Int} (hs : byte s) (hd : byte d) : s ≤ s + d - mulP s d ∧ d ≤ s + d - mulP s d ∧ s + d - mulP s d ≤ 255 := by
 have h1 := mulP_bd hs hd
 refine ⟨by omega, by omega, ?_⟩
 unfold byte at hs hd
 have h2 := Int.mul_nonneg (show 0 ≤ 255 - s by omega) (show 0 ≤ 255 - d by omega)
 have h3 : (255 - s) * (255 - d) = 65025 - 255 * s - 255 * d + s * d := by
  rw [Int.sub_mul, Int.mul_sub, Int.mul_sub]; omega
 unfold mulP
 omega
theorem mixP_bd (mode : Int) {sa da si di : Int} (hsa : byte sa) (hda : byte da) (hsi : 0 ≤ si ∧ si ≤ 255) (hdi : 0 ≤ di ∧ di ≤ 255) : 0 ≤ mixP mode sa da si di ∧ mixP mode sa da si di ≤ sa + da - mulP sa da := by
 have h1 := over_bd hsa hda
 have h2 := mulP_bd (a := si) (b := 255 - da) hsi (by unfold byte at *; omega)
 have h3 := mulP_bd (a := di) (b := 255 - sa) hdi (by unfold byte at *; omega)
 have h4 := mulP_two (mulP_byte hsa hda) (b := blP mode (bareP di da) (bareP si sa)) (by
  have := blP_bd mode (bareP_byte hdi.1 hda.1) (bareP_byte hsi.1 hsa.1); omega)
 unfold mixP byte at *
 omega
theorem blendP_ok (mode : Int) {s d : C4} (hs : OkC s) (hd : OkC d) : OkC (blendP mode s d) := by
 obtain ⟨s1, s2, s3, s4⟩ := hs.bytes
 obtain ⟨d1, d2, d3, d4⟩ := hd.bytes
 exact ⟨mixP_bd mode s4 d4 s1 d1, mixP_bd mode s4 d4 s2 d2, mixP_bd mode s4 d4 s3 d3, (over_bd s4 d4).2.2⟩
theorem fadeP_ok {c : C4} {f : Int} (hc : OkC c) (hf : byte f) : OkC (fadeP c f) := by
 obtain ⟨s1, s2, s3, s4⟩ := hc.bytes
 exact ⟨⟨(mulP_bd s1 hf).1, mulP_mono hc.r.2 hf.1⟩, ⟨(mulP_bd s2 hf).1, mulP_mono hc.g.2 hf.1⟩, ⟨(mulP_bd s3 hf).1, mulP_mono hc.b.2 hf.1⟩, by
  have := mulP_bd s4 hf; have := hc.a; show mulP c.a f ≤ 255; omega⟩
def TabOk8 (t : List Int) : Prop := ∀ i, byte (t.getD i 0)
theorem mapP1_bd {t : List Int} {c a : Int} (ht : TabOk8 t) (ha : byte a) : 0 ≤ mapP1 t c a ∧ mapP1 t c a ≤ a := by
 have := mulP_bd (ht (bareP c a).toNat) ha
 unfold mapP1; omega
theorem adjP1_bd {t : List Int} {f c a : Int} (ht : TabOk8 t) (hf : byte f) (hc : byte c) (ha : byte a) : 0 ≤ adjP1 t f c a ∧ adjP1 t f c a ≤ a := by
 have h1 := mapP1_bd (c := c) ht ha
 have h2 := mulP_bd (a := mapP1 t c a) (b := f) (by unfold byte at *; omega) hf
 have h3 := mulP_bd (a := c) (b := 255 - f) hc (by unfold byte at *; omega)
 unfold adjP1 byte at *
 omega
theorem adjP_ok {t : List Int} {f : Int} {c : C4} (ht : TabOk8 t) (hf : byte f) (hc : OkC c) : OkC (adjP t f c) := by
 obtain ⟨s1, s2, s3, s4⟩ := hc.bytes
 exact ⟨adjP1_bd ht hf s1 s4, adjP1_bd ht hf s2 s4, adjP1_bd ht hf s3 s4, hc.a⟩
end Go.Proofs
namespace Go.Proofs
open Go.Sh
variable {H0 H : Heap} {σ : List Rs} {R : Value → Heap → Prop}
theorem c102 {a b : Int} (h : 0 ≤ a * b ∧ a * b ≤ 1000000000000) (hR : R (.int .i64 (mulP a b)) H) : CallsH Tryz.prog 102 #[.int .i64 a, .int .i64 b] H R := by
 refine Tryz.s102 ⟨by decide, ?_⟩
 rw [wrap_id (n := a * b) (by omega) (by omega), wrap_id (n := a * b + 127) (by omega) (by omega), Int.tdiv_eq_ediv_of_nonneg (by omega), wrap_id (by omega) (by omega)]
 exact hR
theorem mul_call {a b : Int} (ha : 0 ≤ a ∧ a ≤ 1000000) (hb : 0 ≤ b ∧ b ≤ 1000000) (hR : R (.int .i64 (mulP a b)) H) : CallsH Tryz.prog 102 #[.int .i64 a, .int .i64 b] H R := by
 have h1 := Int.mul_nonneg ha.1 hb.1
 have h2 := Int.mul_le_mul_of_nonneg_left hb.2 ha.1
 exact c102 ⟨h1, by omega⟩ hR
theorem c106 {c a : Int} (hc : 0 ≤ c ∧ c ≤ 1000000) (ha : 0 ≤ a ∧ a ≤ 1000000) (hR : R (.int .i64 (bareP c a)) H) : CallsH Tryz.prog 106 #[.int .i64 c, .int .i64 a] H R := by
 refine Tryz.s106 (br_eq (fun h0 => ?_) fun h0 => ⟨by decide, h0, ?_⟩)
 ·rw [show bareP c a = 0 from by unfold bareP; rw [if_pos h0]] at hR; exact hR
 ·have hq : 0 ≤ (255 * c + a / 2) / a := Int.ediv_nonneg (by omega) ha.1
  have hq2 : (255 * c + a / 2) / a ≤ 255 * c + a / 2 := Int.ediv_le_self _ (by omega)
  rw [Int.tdiv_eq_ediv_of_nonneg ha.1, wrap_id (n := a / 2) (by omega) (by omega), wrap_id (n := 255 * c) (by omega) (by omega), wrap_id (n := 255 * c + a / 2) (by omega) (by omega), Int.tdiv_eq_ediv_of_nonneg (by omega), wrap_id (by omega) (by omega)]
  rw [show bareP c a = min 255 ((255 * c + a / 2) / a) from by unfold bareP; rw [if_neg h0]] at hR
  exact hR
theorem shlN {x : Int} {k : Int} {n : Nat} (hk : k = n) (h0 : 0 ≤ x ∧ x < 256) (hn : n ≤ 24) : shlI .i64 x k = x * 2 ^ n := by
 subst hk
 refine shl_of h0.1 (by omega) ?_
 have h1 : (2 : Int) ^ n ≤ 2 ^ 24 := by
  have := Nat.pow_le_pow_right (n := 2) (by decide) hn
  have e : ((2 ^ n : Nat) : Int) ≤ ((2 ^ 24 : Nat) : Int) := by exact_mod_cast this
  simpa using e
 have h2 := Int.mul_le_mul_of_nonneg_left h1 h0.1
 have e24 : (2 : Int) ^ 24 = 16777216 := by decide
 omega
theorem join_eq {c : C4} (h1 : byte c.r) (h2 : byte c.g) (h3 : byte c.b) (h4 : byte c.a) : orI .i64 (orI .i64 (orI .i64 (shlI .i64 c.r (24 : Int)) (shlI .i64 c.g (16 : Int))) (shlI .i64 c.b (8 : Int))) c.a = joinP c := by
 unfold byte at h1 h2 h3 h4
 have e24 : (2 : Int) ^ 24 = 16777216 := by decide
 have e16 : (2 : Int) ^ 16 = 65536 := by decide
 have e8 : (2 : Int) ^ 8 = 256 := by decide
 rw [shlN (k := 24) (n := 24) rfl (by omega) (by omega), shlN (k := 16) (n := 16) rfl (by omega) (by omega), shlN (k := 8) (n := 8) rfl (by omega) (by omega)]
 rw [or_sum' (a := c.g * 2 ^ 16) (b := c.r) (k := 24) (by omega) (by omega) (by omega) (by omega)]
 rw [show c.g * 2 ^ 16 + c.r * 2 ^ 24 = (c.g + c.r * 256) * 2 ^ 16 from by omega]
 rw [or_sum' (a := c.b * 2 ^ 8) (b := c.g + c.r * 256) (k := 16) (by omega) (by omega) (by omega) (by omega)]
 rw [show c.b * 2 ^ 8 + (c.g + c.r * 256) * 2 ^ 16 = (c.b + c.g * 256 + c.r * 65536) * 2 ^ 8 from by omega]
 rw [or_sum' (a := c.a) (b := c.b + c.g * 256 + c.r * 65536) (k := 8) (by omega) (by omega) (by omega) (by omega)]
 unfold joinP
 omega
theorem c66 {c : C4} (h1 : byte c.r) (h2 : byte c.g) (h3 : byte c.b) (h4 : byte c.a) (hR : ∀ H', Ext H H' → R (.int .i64 (joinP c)) H') : CallsH Tryz.prog 66 #[.agg (ints c.l).toArray] H R := by
 refine Tryz.s66 ?_
 unfold Tryz.S66
 refine (St.nil H).alc fun b2 H3 hs3 => ⟨by decide, by decide, c.r, hs3.rdA 0 (j := 0) rfl rfl, by decide, by decide, by decide, c.g, hs3.rdA 0 (j := 1) rfl rfl, by decide, by decide, by decide, c.b, hs3.rdA 0 (j := 2) rfl rfl, by decide, by decide, by decide, c.a, hs3.rdA 0 (j := 3) rfl rfl, ?_⟩
 rw [join_eq h1 h2 h3 h4]
 exact hR H3 hs3.ext
theorem c125 {x y : Int} (hx : byte x) (hy : byte y) (hR : R (.int .i64 (screenP x y)) H) : CallsH Tryz.prog 125 #[.int .i64 x, .int .i64 y] H R := by
 have hb := mulP_bd hx hy
 unfold byte at hx hy
 refine Tryz.s125 (mul_call (by omega) (by omega) ⟨_, rfl, ?_⟩)
 rw [wrap_id (n := x + y) (by omega) (by omega), wrap_id (by omega) (by omega)]
 exact hR
theorem c126 {x y : Int} (hx : byte x) (hy : byte y) (hR : R (.int .i64 (hardP x y)) H) : CallsH Tryz.prog 126 #[.int .i64 x, .int .i64 y] H R := by
 have hx' := hx
 have hy' := hy
 unfold byte at hx' hy'
 refine Tryz.s126 (br_dec (fun h => ?_) fun h => ?_)
 ·rw [wrap_id (n := 2 * y) (by omega) (by omega)]
  rw [show hardP x y = mulP x (2 * y) from by unfold hardP; rw [if_pos h]] at hR
  exact mul_call (by omega) (by omega) ⟨_, rfl, hR⟩
 ·rw [wrap_id (n := 2 * y) (by omega) (by omega), wrap_id (n := 2 * y - 255) (by omega) (by omega)]
  rw [show hardP x y = screenP x (2 * y - 255) from by unfold hardP; rw [if_neg h]] at hR
  exact c125 hx (by unfold byte; omega) ⟨_, rfl, hR⟩
theorem c105 {mode x y : Int} (hx : byte x) (hy : byte y) (hR : R (.int .i64 (blP mode x y)) H) : CallsH Tryz.prog 105 #[.int .i64 mode, .int .i64 x, .int .i64 y] H R := by
 have hb := mulP_bd hx hy
 have hx' := hx
 have hy' := hy
 unfold byte at hx' hy'
 unfold blP at hR
 refine Tryz.s105 (br_eq (fun h1 => ?_) fun h1 => br_eq (fun h2 => ?_) fun h2 => br_eq (fun h3 => ?_) fun h3 => br_eq (fun h4 => ?_) fun h4 => br_eq (fun h5 => ?_) fun h5 => br_eq (fun h6 => ?_) fun h6 => br_eq (fun h7 => ?_) fun h7 => br_eq (fun h8 => ?_) fun h8 => br_eq (fun h9 => ?_) fun h9 => br_eq (fun h10 => ?_) fun h10 => br_eq (fun h11 => ?_) fun h11 => ?_)
 ·rw [if_pos h1] at hR
  exact mul_call (by omega) (by omega) ⟨_, rfl, hR⟩
 ·rw [if_neg h1, if_pos h2] at hR
  exact c125 hx hy ⟨_, rfl, hR⟩
 ·rw [if_neg h1, if_neg h2, if_pos h3] at hR
  exact c126 hy hx ⟨_, rfl, hR⟩
 ·rw [if_neg h1, if_neg h2, if_neg h3, if_pos h4] at hR
  exact hR
 ·rw [if_neg h1, if_neg h2, if_neg h3, if_neg h4, if_pos h5] at hR
  exact hR
 ·rw [if_neg h1, if_neg h2, if_neg h3, if_neg h4, if_neg h5, if_pos h6] at hR
  refine br_eq (fun g1 => ?_) fun g1 => br_eq (fun g2 => ?_) fun g2 => ?_
  ·rw [if_pos g1] at hR; exact hR
  ·rw [if_neg g1, if_pos g2] at hR; exact hR
  ·rw [if_neg g1, if_neg g2] at hR
   have q1 : 0 ≤ 255 * x / (255 - y) := Int.ediv_nonneg (by omega) (by omega)
   have q2 : 255 * x / (255 - y) ≤ 255 * x := Int.ediv_le_self _ (by omega)
   rw [wrap_id (n := 255 - y) (by omega) (by omega), wrap_id (n := 255 * x) (by omega) (by omega), Int.tdiv_eq_ediv_of_nonneg (by omega), wrap_id (n := 255 * x / (255 - y)) (by omega) (by omega)]
   exact ⟨by omega, hR⟩
 ·rw [if_neg h1, if_neg h2, if_neg h3, if_neg h4, if_neg h5, if_neg h6, if_pos h7] at hR
  refine br_eq (fun g1 => ?_) fun g1 => br_eq (fun g2 => ?_) fun g2 => ⟨g2, ?_⟩
  ·rw [if_pos g1] at hR; exact hR
  ·rw [if_neg g1, if_pos g2] at hR; exact hR
  ·rw [if_neg g1, if_neg g2] at hR
   have q1 : 0 ≤ 255 * (255 - x) / y := Int.ediv_nonneg (by omega) (by omega)
   have q2 : 255 * (255 - x) / y ≤ 255 * (255 - x) := Int.ediv_le_self _ (by omega)
   rw [wrap_id (n := 255 - x) (by omega) (by omega), wrap_id (n := 255 * (255 - x)) (by omega) (by omega), Int.tdiv_eq_ediv_of_nonneg (by omega), wrap_id (n := 255 * (255 - x) / y) (by omega) (by omega), wrap_id (by omega) (by omega)]
   exact hR
 ·rw [if_neg h1, if_neg h2, if_neg h3, if_neg h4, if_neg h5, if_neg h6, if_neg h7, if_pos h8] at hR
  exact c126 hx hy ⟨_, rfl, hR⟩
 ·rw [if_neg h1, if_neg h2, if_neg h3, if_neg h4, if_neg h5, if_neg h6, if_neg h7, if_neg h8, if_pos h9] at hR
  rw [wrap_id (n := x - y) (by omega) (by omega), wrap_id (n := y - x) (by omega) (by omega)]
  exact hR
 ·rw [if_neg h1, if_neg h2, if_neg h3, if_neg h4, if_neg h5, if_neg h6, if_neg h7, if_neg h8, if_neg h9, if_pos h10] at hR
  refine mul_call (by omega) (by omega) ⟨_, rfl, ?_⟩
  rw [wrap_id (n := x + y) (by omega) (by omega), wrap_id (n := 2 * mulP x y) (by omega) (by omega), wrap_id (by omega) (by omega)]
  exact hR
 ·rw [if_neg h1, if_neg h2, if_neg h3, if_neg h4, if_neg h5, if_neg h6, if_neg h7, if_neg h8, if_neg h9, if_neg h10, if_pos h11] at hR
  have hxx := mulP_bd hx hx
  have hxxy := mulP_bd (mulP_byte hx hx) hy
  refine mul_call (by omega) (by omega) ⟨_, rfl, mul_call (by omega) (by omega) ⟨_, rfl, mul_call (by omega) (by omega) ⟨_, rfl, mul_call (by omega) (by omega) ⟨_, rfl, ?_⟩⟩⟩⟩
  rw [wrap_id (n := 2 * mulP x y) (by omega) (by omega), wrap_id (n := mulP x x + 2 * mulP x y) (by omega) (by omega), wrap_id (n := 2 * mulP (mulP x x) y) (by omega) (by omega), wrap_id (by omega) (by omega)]
  exact hR
 ·rw [if_neg h1, if_neg h2, if_neg h3, if_neg h4, if_neg h5, if_neg h6, if_neg h7, if_neg h8, if_neg h9, if_neg h10, if_neg h11] at hR
  exact hR
theorem c68 {c : C4} {f : Int} (h1 : byte c.r) (h2 : byte c.g) (h3 : byte c.b) (h4 : byte c.a) (hf : byte f) (hR : ∀ H', Ext H H' → R (.agg (ints (fadeP c f).l).toArray) H') : CallsH Tryz.prog 68 #[.agg (ints c.l).toArray, .int .i64 f] H R := by
 unfold byte at h1 h2 h3 h4 hf
 refine Tryz.s68 ?_
 unfold Tryz.S68
 refine (St.nil H).alc fun b3 H4 hs4 => hs4.alc fun b5 H6 hs6 => ⟨_, rfl, rowIn_whole (hs6.block 1 rfl), ?_⟩
 intro X hX
 refine hX _ _ (br_y (by decide) ⟨by decide, by decide, c.r, rfl, mul_call (by omega) (by omega) ⟨_, rfl, by decide, by decide, hs6.putA 1 (j := 0) rfl (Nat.le_of_ble_eq_true rfl) fun H7 hs7 => ?_⟩⟩)
 refine hX _ _ (br_y (by decide) ⟨by decide, by decide, c.g, rfl, mul_call (by omega) (by omega) ⟨_, rfl, by decide, by decide, hs7.putA 1 (j := 1) rfl (Nat.le_of_ble_eq_true rfl) fun H8 hs8 => ?_⟩⟩)
 refine hX _ _ (br_y (by decide) ⟨by decide, by decide, c.b, rfl, mul_call (by omega) (by omega) ⟨_, rfl, by decide, by decide, hs8.putA 1 (j := 2) rfl (Nat.le_of_ble_eq_true rfl) fun H9 hs9 => ?_⟩⟩)
 refine hX _ _ (br_y (by decide) ⟨by decide, by decide, c.a, rfl, mul_call (by omega) (by omega) ⟨_, rfl, by decide, by decide, hs9.putA 1 (j := 3) rfl (Nat.le_of_ble_eq_true rfl) fun H10 hs10 => ?_⟩⟩)
 refine hX _ _ (br_n (by decide) ⟨_, rfl, rowIn_whole (hs10.block 1 rfl), rfl, hs10.putAllA 0 (l := (fadeP c f).l) rfl rfl fun H11 hs11 => ⟨_, rfl, rowIn_whole (hs11.block 0 rfl), hR H11 hs11.ext⟩⟩)
end Go.Proofs
namespace Go.Proofs
open Go.Sh
variable {H0 H : Heap} {σ : List Rs} {R : Value → Heap → Prop}
theorem c101 {p : Option Addr} {cp : Nat} {t : List Int} {c : C4} (ht : IS H p 256 (ints t)) (hok : TabOk8 t) (h1 : byte c.r) (h2 : byte c.g) (h3 : byte c.b) (h4 : byte c.a) (hR : ∀ H', Ext H H' → R (.agg (ints (mapP t c).l).toArray) H') : CallsH Tryz.prog 101 #[.slice p 256 cp, .agg (ints c.l).toArray] H R := by
 have b1 := bareP_byte h1.1 h4.1
 have b2 := bareP_byte h2.1 h4.1
 have b3 := bareP_byte h3.1 h4.1
 have t1 := hok (bareP c.r c.a).toNat
 have t2 := hok (bareP c.g c.a).toNat
 have t3 := hok (bareP c.b c.a).toNat
 unfold byte at h1 h2 h3 h4 b1 b2 b3 t1 t2 t3
 refine Tryz.s101 ?_
 unfold Tryz.S101
 refine (St.nil H).alc fun ba H4 hs4 => hs4.alc fun bb H6 hs6 => ?_
 intro X hX
 refine hX _ _ (br_y (by decide) ⟨by decide, by decide, c.r, hs6.rdA 1 (j := 0) rfl rfl, by decide, by decide, c.a, hs6.rdA 1 (j := 3) rfl rfl, by decide, by decide, c.a, hs6.rdA 1 (j := 3) rfl rfl, c106 (by omega) (by omega) ⟨_, rfl, .inl (Ext.refl _), rdG (ht.ext hs6.ext) b1.1 (by omega) (mul_call (by omega) (by omega) ⟨_, rfl, by decide, by decide, hs6.putA 1 (j := 0) rfl (Nat.le_of_ble_eq_true rfl) fun H7 hs7 => ?_⟩)⟩⟩)
 refine hX _ _ (br_y (by decide) ⟨by decide, by decide, c.g, hs7.rdA 1 (j := 1) rfl rfl, by decide, by decide, c.a, hs7.rdA 1 (j := 3) rfl rfl, by decide, by decide, c.a, hs7.rdA 1 (j := 3) rfl rfl, c106 (by omega) (by omega) ⟨_, rfl, .inl (Ext.refl _), rdG (ht.ext hs7.ext) b2.1 (by omega) (mul_call (by omega) (by omega) ⟨_, rfl, by decide, by decide, hs7.putA 1 (j := 1) rfl (Nat.le_of_ble_eq_true rfl) fun H8 hs8 => ?_⟩)⟩⟩)
 refine hX _ _ (br_y (by decide) ⟨by decide, by decide, c.b, hs8.rdA 1 (j := 2) rfl rfl, by decide, by decide, c.a, hs8.rdA 1 (j := 3) rfl rfl, by decide, by decide, c.a, hs8.rdA 1 (j := 3) rfl rfl, c106 (by omega) (by omega) ⟨_, rfl, .inl (Ext.refl _), rdG (ht.ext hs8.ext) b3.1 (by omega) (mul_call (by omega) (by omega) ⟨_, rfl, by decide, by decide, hs8.putA 1 (j := 2) rfl (Nat.le_of_ble_eq_true rfl) fun H9 hs9 => ?_⟩)⟩⟩)
 exact hX _ _ (br_n (by decide) ⟨_, rfl, rowIn_whole (hs9.block 1 rfl), rfl, hs9.putAllA 0 (l := (mapP t c).l) rfl rfl fun H11 hs11 => ⟨_, rfl, rowIn_whole (hs11.block 0 rfl), hR H11 hs11.ext⟩⟩)
theorem c67 {mode : Int} {s d : C4} (hs : OkC s) (hd : OkC d) (hR : ∀ H', Ext H H' → R (.agg (ints (blendP mode s d).l).toArray) H') : CallsH Tryz.prog 67 #[.int .i64 mode, .agg (ints s.l).toArray, .agg (ints d.l).toArray] H R := by
 obtain ⟨s1, s2, s3, s4⟩ := hs.bytes
 obtain ⟨d1, d2, d3, d4⟩ := hd.bytes
 have ov := over_bd s4 d4
 have mv := mulP_byte s4 d4
 have w1 := blP_bd mode (bareP_byte d1.1 d4.1) (bareP_byte s1.1 s4.1)
 have w2 := blP_bd mode (bareP_byte d2.1 d4.1) (bareP_byte s2.1 s4.1)
 have w3 := blP_bd mode (bareP_byte d3.1 d4.1) (bareP_byte s3.1 s4.1)
 -- one colour
 have one : ∀ {si di : Int}, byte si → byte di → ∀ {K : Int → Prop}, K (mixP mode s.a d.a si di) → K (min (IntKind.wrap .i64 (IntKind.wrap .i64 (s.a + d.a) - mulP s.a d.a)) (IntKind.wrap .i64 (IntKind.wrap .i64 (mulP si (255 - d.a) + mulP di (255 - s.a)) + mulP (mulP s.a d.a) (blP mode (bareP di d.a) (bareP si s.a))))) := by
  intro si di hsi hdi K hK
  have q1 := mulP_bd (a := si) (b := 255 - d.a) hsi (by unfold byte at *; omega)
  have q2 := mulP_bd (a := di) (b := 255 - s.a) hdi (by unfold byte at *; omega)
  have q3 := mulP_two mv (b := blP mode (bareP di d.a) (bareP si s.a)) (by have := blP_bd mode (bareP_byte hdi.1 d4.1) (bareP_byte hsi.1 s4.1); omega)
  unfold byte at *
  rw [wrap_id (n := s.a + d.a) (by omega) (by omega), wrap_id (n := s.a + d.a - mulP s.a d.a) (by omega) (by omega), wrap_id (n := mulP si (255 - d.a) + mulP di (255 - s.a)) (by omega) (by omega), wrap_id (by omega) (by omega)]
  exact hK
 have w255s : IntKind.wrap .i64 (255 - s.a) = 255 - s.a := by unfold byte at *; exact wrap_id (by omega) (by omega)
 have w255d : IntKind.wrap .i64 (255 - d.a) = 255 - d.a := by unfold byte at *; exact wrap_id (by omega) (by omega)
 have hsum : IntKind.wrap .i64 (IntKind.wrap .i64 (s.a + d.a) - mulP s.a d.a) = s.a + d.a - mulP s.a d.a := by
  unfold byte at *
  rw [wrap_id (n := s.a + d.a) (by omega) (by omega), wrap_id (by omega) (by omega)]
 refine Tryz.s67 ?_
 unfold Tryz.S67
 refine (St.nil H).alc fun b4 H5 hs5 => hs5.alc fun b6 H7 hs7 => hs7.alc fun b8 H9 hs9 => ⟨by decide, by decide, s.a, hs9.rdA 2 (j := 3) rfl rfl, by decide, by decide, d.a, hs9.rdA 1 (j := 3) rfl rfl, ?_⟩
 have bm : ∀ {x : Int}, byte x → 0 ≤ x ∧ x ≤ 1000000 := fun h => ⟨h.1, by have := h.2; omega⟩
 refine mul_call (bm s4) (bm d4) ⟨_, rfl, by decide, by decide, s.a, hs9.rdA 2 (j := 3) rfl rfl, by decide, by decide, d.a, hs9.rdA 1 (j := 3) rfl rfl, hs9.alc fun b17 H18 hs18 => ⟨rfl, ?_⟩⟩
 refine hs18.putAllA 0 (l := [0, 0, 0, IntKind.wrap .i64 (IntKind.wrap .i64 (s.a + d.a) - mulP s.a d.a)]) rfl rfl fun H19 hs19 => ?_
 have hc : ∀ {x : Int}, byte x → byte (255 - x) := fun h => by unfold byte at *; omega
 intro X hX
 rw [hsum] at hs19
 have fin : ∀ {si di : Int}, byte si → byte di → min (s.a + d.a - mulP s.a d.a) (IntKind.wrap .i64 (IntKind.wrap .i64 (mulP si (255 - d.a) + mulP di (255 - s.a)) + mulP (mulP s.a d.a) (blP mode (bareP di d.a) (bareP si s.a)))) = mixP mode s.a d.a si di := by
  intro si di hsi hdi
  have := one hsi hdi (K := fun x => x = mixP mode s.a d.a si di) rfl
  rw [hsum] at this; exact this
 refine hX _ _ (br_y (by decide) ⟨by decide, by decide, d.r, hs19.rdA 2 (j := 0) rfl rfl, by decide, by decide, d.a, hs19.rdA 2 (j := 3) rfl rfl, by decide, by decide, s.r, hs19.rdA 3 (j := 0) rfl rfl, by decide, by decide, s.a, hs19.rdA 3 (j := 3) rfl rfl, c106 (bm d1) (bm d4) ⟨_, rfl, .inl (Ext.refl _), c106 (bm s1) (bm s4) ⟨_, rfl, c105 (bareP_byte d1.1 d4.1) (bareP_byte s1.1 s4.1) ⟨_, rfl, by decide, by decide, s.a + d.a - mulP s.a d.a, hs19.rdA 0 (j := 3) rfl rfl, by decide, by decide, s.r, hs19.rdA 3 (j := 0) rfl rfl, by decide, by decide, d.a, hs19.rdA 2 (j := 3) rfl rfl, by decide, by decide, d.r, hs19.rdA 2 (j := 0) rfl rfl, by decide, by decide, s.a, hs19.rdA 3 (j := 3) rfl rfl, ?_⟩⟩⟩⟩)
 rw [w255d, w255s]
 refine mul_call (bm s1) (bm (hc d4)) ⟨_, rfl, .inl (Ext.refl _), mul_call (bm d1) (bm (hc s4)) ⟨_, rfl, .inl (Ext.refl _), mul_call (bm mv) ⟨w1.1, by omega⟩ ⟨_, rfl, .inl (Ext.refl _), by decide, by decide, ?_⟩⟩⟩
 rw [fin s1 d1]
 refine hs19.putA 0 (j := 0) rfl (Nat.le_of_ble_eq_true rfl) fun H20 hs20 => ?_
 refine hX _ _ (br_y (by decide) ⟨by decide, by decide, d.g, hs20.rdA 2 (j := 1) rfl rfl, by decide, by decide, d.a, hs20.rdA 2 (j := 3) rfl rfl, by decide, by decide, s.g, hs20.rdA 3 (j := 1) rfl rfl, by decide, by decide, s.a, hs20.rdA 3 (j := 3) rfl rfl, c106 (bm d2) (bm d4) ⟨_, rfl, .inl (Ext.refl _), c106 (bm s2) (bm s4) ⟨_, rfl, c105 (bareP_byte d2.1 d4.1) (bareP_byte s2.1 s4.1) ⟨_, rfl, by decide, by decide, s.a + d.a - mulP s.a d.a, hs20.rdA 0 (j := 3) rfl rfl, by decide, by decide, s.g, hs20.rdA 3 (j := 1) rfl rfl, by decide, by decide, d.a, hs20.rdA 2 (j := 3) rfl rfl, by decide, by decide, d.g, hs20.rdA 2 (j := 1) rfl rfl, by decide, by decide, s.a, hs20.rdA 3 (j := 3) rfl rfl, ?_⟩⟩⟩⟩)
 rw [w255d, w255s]
 refine mul_call (bm s2) (bm (hc d4)) ⟨_, rfl, .inl (Ext.refl _), mul_call (bm d2) (bm (hc s4)) ⟨_, rfl, .inl (Ext.refl _), mul_call (bm mv) ⟨w2.1, by omega⟩ ⟨_, rfl, .inl (Ext.refl _), by decide, by decide, ?_⟩⟩⟩
 rw [fin s2 d2]
 refine hs20.putA 0 (j := 1) rfl (Nat.le_of_ble_eq_true rfl) fun H21 hs21 => ?_
 refine hX _ _ (br_y (by decide) ⟨by decide, by decide, d.b, hs21.rdA 2 (j := 2) rfl rfl, by decide, by decide, d.a, hs21.rdA 2 (j := 3) rfl rfl, by decide, by decide, s.b, hs21.rdA 3 (j := 2) rfl rfl, by decide, by decide, s.a, hs21.rdA 3 (j := 3) rfl rfl, c106 (bm d3) (bm d4) ⟨_, rfl, .inl (Ext.refl _), c106 (bm s3) (bm s4) ⟨_, rfl, c105 (bareP_byte d3.1 d4.1) (bareP_byte s3.1 s4.1) ⟨_, rfl, by decide, by decide, s.a + d.a - mulP s.a d.a, hs21.rdA 0 (j := 3) rfl rfl, by decide, by decide, s.b, hs21.rdA 3 (j := 2) rfl rfl, by decide, by decide, d.a, hs21.rdA 2 (j := 3) rfl rfl, by decide, by decide, d.b, hs21.rdA 2 (j := 2) rfl rfl, by decide, by decide, s.a, hs21.rdA 3 (j := 3) rfl rfl, ?_⟩⟩⟩⟩)
 rw [w255d, w255s]
 refine mul_call (bm s3) (bm (hc d4)) ⟨_, rfl, .inl (Ext.refl _), mul_call (bm d3) (bm (hc s4)) ⟨_, rfl, .inl (Ext.refl _), mul_call (bm mv) ⟨w3.1, by omega⟩ ⟨_, rfl, .inl (Ext.refl _), by decide, by decide, ?_⟩⟩⟩
 rw [fin s3 d3]
 refine hs21.putA 0 (j := 2) rfl (Nat.le_of_ble_eq_true rfl) fun H22 hs22 => ?_
 exact hX _ _ (br_n (by decide) ⟨_, rfl, rowIn_whole (hs22.block 0 rfl), rfl, hs22.putAllA 1 (l := (blendP mode s d).l) rfl rfl fun H11 hs11 => ⟨_, rfl, rowIn_whole (hs11.block 1 rfl), hR H11 hs11.ext⟩⟩)
end Go.Proofs
namespace Go.Proofs
open Go.Sh
variable {H0 H : Heap} {σ : List Rs} {R : Value → Heap → Prop}
def segV (ps : List Int) (v : Int) (j : Nat) : Int := ps.getD (j + 1) 0 + ((ps.getD (j + 3) 0 - ps.getD (j + 1) 0) * (v - ps.getD j 0)).tdiv (ps.getD (j + 2) 0 - ps.getD j 0)
def crvG (ps : List Int) (v : Int) : Nat → Nat → Int
 | 0, _ => ps.getD (ps.length - 1) 0
 | n + 1, j => if j + 2 < ps.length then (if v < ps.getD (j + 2) 0 then segV ps v j else crvG ps v n (j + 2)) else ps.getD (ps.length - 1) 0
def crvV (ps : List Int) (v : Int) : Int := if v ≤ ps.getD 0 0 then ps.getD 1 0 else crvG ps v 16 0
def lvlV (ps : List Int) (v : Int) : Int := min 255 ((255 * max 0 (v - ps.getD 0 0) + (ps.getD 1 0 - ps.getD 0 0) / 2) / (ps.getD 1 0 - ps.getD 0 0))
def tabV (kind : Int) (ps : List Int) (v : Int) : Int := if kind = 1 then crvV ps v else if kind = 0 then lvlV ps v else if kind = 2 then 255 - v else if v ≥ ps.getD 0 0 then 255 else 0
def tabL (kind : Int) (ps : List Int) : List Int := (List.range 256).map fun v => tabV kind ps (v : Nat)
theorem tabL_len (kind : Int) (ps : List Int) : (tabL kind ps).length = 256 := by simp [tabL]
theorem tabL_at {kind : Int} {ps : List Int} {k : Nat} (hk : k < 256) : (tabL kind ps).getD k 0 = tabV kind ps (k : Nat) := tab_getD hk
theorem tdiv_between {d t w : Int} (ht : 0 ≤ t ∧ t ≤ w) (hw : 0 < w) : (0 ≤ d → 0 ≤ (d * t).tdiv w ∧ (d * t).tdiv w ≤ d) ∧ (d ≤ 0 → d ≤ (d * t).tdiv w ∧ (d * t).tdiv w ≤ 0) := by
 have pos : ∀ e : Int, 0 ≤ e → 0 ≤ (e * t).tdiv w ∧ (e * t).tdiv w ≤ e := fun e he => by
  have h0 : 0 ≤ e * t := Int.mul_nonneg he ht.1
  have h1 : e * t ≤ e * w := Int.mul_le_mul_of_nonneg_left ht.2 he
  rw [Int.tdiv_eq_ediv_of_nonneg h0]
  refine ⟨Int.ediv_nonneg h0 (by omega), ?_⟩
  have := Int.ediv_le_ediv hw h1
  rwa [Int.mul_ediv_cancel _ (by omega)] at this
 refine ⟨pos d, fun hd => ?_⟩
 have h := pos (-d) (by omega)
 rw [Int.neg_mul, Int.neg_tdiv] at h
 omega
theorem segV_byte {ps : List Int} (hok : CrvOk ps) {v : Int} {j : Nat} (he : j % 2 = 0) (hj : j + 2 < ps.length) (h1 : ps.getD j 0 ≤ v) (h2 : v < ps.getD (j + 2) 0) : byte (segV ps v j) := by
 have q1 := hok.rng (j + 1)
 have q3 := hok.rng (j + 3)
 have hb := tdiv_between (d := ps.getD (j + 3) 0 - ps.getD (j + 1) 0) (t := v - ps.getD j 0) (w := ps.getD (j + 2) 0 - ps.getD j 0) ⟨by omega, by omega⟩ (by omega)
 unfold segV byte
 rcases Int.le_total 0 (ps.getD (j + 3) 0 - ps.getD (j + 1) 0) with h | h
 ·have := hb.1 h; omega
 ·have := hb.2 h; omega
theorem crvG_byte {ps : List Int} (hok : CrvOk ps) {v : Int} : ∀ (n j : Nat), j % 2 = 0 → ps.getD j 0 ≤ v → byte (crvG ps v n j)
 | 0, j, _, _ => by have := hok.rng (ps.length - 1); unfold crvG byte; exact this
 | n + 1, j, he, h1 => by
  unfold crvG
  split
  ·rename_i hj
   split
   ·rename_i h2; exact segV_byte hok he hj h1 h2
   ·rename_i h2; exact crvG_byte hok n (j + 2) (by omega) (by omega)
  ·have := hok.rng (ps.length - 1); unfold byte; exact this
theorem crvV_byte {ps : List Int} (hok : CrvOk ps) (v : Int) : byte (crvV ps v) := by
 unfold crvV
 split
 ·have := hok.rng 1; unfold byte; exact this
 ·rename_i h; exact crvG_byte hok 16 0 rfl (by omega)
theorem tabV_byte {kind : Int} {ps : List Int} (h : tabB kind ps = true) {v : Int} (hv : byte v) : byte (tabV kind ps v) := by
 unfold tabV
 by_cases k1 : kind = 1
 ·rw [if_pos k1]; subst k1; exact crvV_byte (tabB_crv h) v
 rw [if_neg k1]
 by_cases k0 : kind = 0
 ·rw [if_pos k0]
  have hk := tabB_kind h
  unfold kindP at hk
  rw [if_pos k0] at hk
  have hk2 := (of_decide_eq_true hk).2
  have : 0 ≤ (255 * max 0 (v - ps.getD 0 0) + (ps.getD 1 0 - ps.getD 0 0) / 2) / (ps.getD 1 0 - ps.getD 0 0) := Int.ediv_nonneg (by omega) (by omega)
  unfold lvlV byte
  omega
 rw [if_neg k0]
 unfold byte at *
 split
 ·omega
 ·split <;> omega
theorem tabL_ok {kind : Int} {ps : List Int} (h : tabB kind ps = true) : TabOk8 (tabL kind ps) := fun i => by
 by_cases hi : i < 256
 ·rw [tabL_at hi]; exact tabV_byte h (by unfold byte; omega)
 ·rw [List.getD_eq_getElem?_getD, List.getElem?_eq_none (by rw [tabL_len]; omega)]; unfold byte; decide
theorem crvG_end {ps : List Int} (hok : CrvOk ps) {v : Int} (h : ps.getD (ps.length - 2) 0 ≤ v) : ∀ (n j : Nat), j % 2 = 0 → crvG ps v n j = ps.getD (ps.length - 1) 0
 | 0, j, _ => rfl
 | n + 1, j, he => by
  obtain ⟨l1, l2, l3⟩ := hok.len
  unfold crvG
  split
  ·rename_i hj
   have mono : ∀ m i, i % 2 = 0 → i + 2 * m + 2 = ps.length → ps.getD i 0 ≤ ps.getD (ps.length - 2) 0 := by
    intro m
    induction m with
    | zero => intro i _ hi; rw [show ps.length - 2 = i from by omega]; exact Int.le_refl _
    | succ m ih =>
     intro i hi2 hi
     have := ih (i + 2) (by omega) (by omega)
     have h2 := hok.inc (i + 2) (by omega) (by omega) (by omega)
     rw [show i + 2 - 2 = i from by omega] at h2
     omega
   have := mono ((ps.length - (j + 2) - 2) / 2) (j + 2) (by omega) (by omega)
   rw [if_neg (by omega)]
   exact crvG_end hok h n (j + 2) (by omega)
  ·rfl
theorem fill_put {L : List Int} {k : Nat} {v : Int} (hk : k < L.length) (hv : v = L.getD k 0) : (fillA L k).set k v = fillA L (k + 1) := by rw [hv]; exact fillA_set hk
theorem crv_call {p : Option Addr} {n c : Nat} {ps : List Int} (h : IS H p n (ints ps)) (hok : CrvOk ps) (hR : ∀ b H', St H H' [.cell b (ints (tabL 1 ps)).toArray 3] → R (.slice (some ⟨b, 0, none⟩) 256 256) H') : CallsH Tryz.prog 115 #[.slice p n c] H R := by
 refine Tryz.s115 ?_
 unfold Tryz.S115
 have hlen := h.length
 obtain ⟨l1, l2, l3⟩ := hok.len
 refine ⟨by decide, by decide, by decide, by decide, ?_⟩
 rw [repsA256, wrap_id (n := (n : Int) - 2) (by omega) (by omega), wrap_id (n := (n : Int) - 1) (by omega) (by omega)]
 refine (St.nil H).alc fun b2 H3 hs3 => ?_
 intro X hX
 have go : ∀ k, k ≤ 256 → ∀ H1, St H H1 [.cell b2 (ints (fillA (tabL 1 ps) k)).toArray 3] → X [.int .i64 (k : Nat)] H1 := by
  refine upto fun k hk ih H1 hs1 => hX _ _ (br_dec (fun hlt => ?_) fun hge => ?_)
  ·have hk' : k < 256 := by have : (k : Int) < 256 := hlt; omega
   have h1 := h.ext hs1.ext
   have put : ∀ (v : Int), v = crvV ps (k : Nat) → ∃ a11 : Addr, (some ⟨b2, 0, none⟩) = some a11 ∧ 0 ≤ (k : Int) ∧ (k : Int) < (((Int.toNat (256 : Int)) : Nat) : Int) ∧ stAt H1 (Addr.add a11 (Int.toNat (k : Int) * 1)) [Value.int .i64 v] fun H_12 => X [Value.int .i64 (IntKind.wrap .i64 ((k : Int) + (1 : Int)))] H_12 := fun v hv => by
    refine ⟨_, rfl, by omega, hlt, ?_⟩
    rw [show Int.toNat (k : Int) * 1 = k from Nat.mul_one k, add_none, Nat.zero_add, wrap_id (by omega) (by omega)]
    refine hs1.putA 0 rfl (by rw [fillA_len (by rw [tabL_len]; omega), tabL_len]; exact hk') fun H2 hs2 => ih hk' H2 ?_
    have e := fill_put (L := tabL 1 ps) (k := k) (v := v) (by rw [tabL_len]; exact hk') (by rw [tabL_at hk', hv]; unfold tabV; rw [if_pos rfl])
    have hs2 : St H H2 [.cell b2 (ints ((fillA (tabL 1 ps) k).set k v)).toArray 3] := hs2
    rw [e] at hs2
    exact hs2
   refine rdG (i := 0) h1 (by omega) (by omega) (br_dec (fun hv0 => rdG (i := 1) h1 (by omega) (by omega) (put _ (by unfold crvV; rw [if_pos (show (k : Int) ≤ ps.getD 0 0 from hv0)]; rfl))) fun hv0 => ?_)
   have hv0 : ¬ (k : Int) ≤ ps.getD 0 0 := hv0
   refine rdG (i := (n : Int) - 2) h1 (by omega) (by omega) (br_dec (fun hv1 => rdG (i := (n : Int) - 1) h1 (by omega) (by omega) (put _ ?_)) fun hv1 => ?_)
   ·rw [show Int.toNat ((n : Int) - 2) = ps.length - 2 from by omega] at hv1
    rw [show Int.toNat ((n : Int) - 1) = ps.length - 1 from by omega]
    unfold crvV
    rw [if_neg hv0, crvG_end hok hv1 16 0 rfl]
   rw [show Int.toNat ((n : Int) - 2) = n - 2 from by omega] at hv1
   intro X2 hX2
   have go2 : ∀ j, j ≤ 16 → 2 * j + 2 ≤ n → ps.getD (2 * j) 0 ≤ (k : Int) → crvV ps (k : Nat) = crvG ps (k : Nat) (16 - j) (2 * j) → X2 [.int .i64 ((2 * j : Nat) : Int)] H1 := by
    refine upto fun j hj ih2 hjn hpj hcv => hX2 _ _ ?_
    have hne : 2 * j + 2 ≠ n := fun hh => by
     have : 2 * j = n - 2 := by omega
     rw [this] at hpj; omega
    have hj4 : 2 * j + 4 ≤ n := by omega
    rw [show 16 - j = (16 - (j + 1)) + 1 from by omega] at hcv
    unfold crvG at hcv
    rw [if_pos (by omega)] at hcv
    rw [wrap_id (n := ((2 * j : Nat) : Int) + 2) (by omega) (by omega), wrap_id (n := ((2 * j : Nat) : Int) + 1) (by omega) (by omega), wrap_id (n := ((2 * j : Nat) : Int) + 3) (by omega) (by omega)]
    refine rdG (i := ((2 * j : Nat) : Int) + 2) h1 (by omega) (by omega) ?_
    rw [show Int.toNat (((2 * j : Nat) : Int) + 2) = 2 * j + 2 from by omega]
    refine br_dec (fun hle => ?_) fun hgt => ?_
    ·rw [if_neg (by omega)] at hcv
     have := ih2 (by omega) (by omega) (by rw [show 2 * (j + 1) = 2 * j + 2 from by omega]; exact hle) (by rw [hcv, show 2 * (j + 1) = 2 * j + 2 from by omega])
     rw [show ((2 * (j + 1) : Nat) : Int) = ((2 * j : Nat) : Int) + 2 from by omega] at this
     exact this
    ·rw [if_pos (by omega)] at hcv
     refine rdG (i := ((2 * j : Nat) : Int) + 1) h1 (by omega) (by omega) (rdG (i := ((2 * j : Nat) : Int) + 3) h1 (by omega) (by omega) (rdG (i := ((2 * j : Nat) : Int) + 1) h1 (by omega) (by omega) (rdG (i := ((2 * j : Nat) : Int)) h1 (by omega) (by omega) (rdG (i := ((2 * j : Nat) : Int) + 2) h1 (by omega) (by omega) (rdG (i := ((2 * j : Nat) : Int)) h1 (by omega) (by omega) ⟨?_, put _ ?_⟩)))))
     ·have hi := hok.inc (2 * j + 2) (by omega) (by omega) (by omega)
      rw [show 2 * j + 2 - 2 = 2 * j from by omega] at hi
      rw [show Int.toNat (((2 * j : Nat) : Int) + 2) = 2 * j + 2 from by omega, Int.toNat_natCast]
      have r1 := hok.rng (2 * j + 2)
      have r2 := hok.rng (2 * j)
      rw [wrap_id (by omega) (by omega)]
      omega
     ·rw [hcv, show Int.toNat (((2 * j : Nat) : Int) + 2) = 2 * j + 2 from by omega, Int.toNat_natCast, show Int.toNat (((2 * j : Nat) : Int) + 1) = 2 * j + 1 from by omega, show Int.toNat (((2 * j : Nat) : Int) + 3) = 2 * j + 3 from by omega]
      have r0 := hok.rng (2 * j)
      have r1 := hok.rng (2 * j + 1)
      have r2 := hok.rng (2 * j + 2)
      have r3 := hok.rng (2 * j + 3)
      have hb := segV_byte hok (v := (k : Nat)) (j := 2 * j) (by omega) (by omega) hpj (by omega)
      unfold segV byte at hb
      unfold segV
      generalize ps.getD (2 * j) 0 = a at *
      generalize ps.getD (2 * j + 1) 0 = b at *
      generalize ps.getD (2 * j + 2) 0 = cc at *
      generalize ps.getD (2 * j + 3) 0 = d at *
      have hm : -65025 ≤ (d - b) * ((k : Int) - a) ∧ (d - b) * ((k : Int) - a) ≤ 65025 := mul_bd (x := d - b) (y := (k : Int) - a) (A := 255) (B := 255) (by omega) (by omega)
      rw [wrap_id (n := d - b) (by omega) (by omega), wrap_id (n := (k : Int) - a) (by omega) (by omega), wrap_id (n := cc - a) (by omega) (by omega), wrap_id (n := (d - b) * ((k : Int) - a)) (by omega) (by omega)]
      generalize Int.tdiv ((d - b) * ((k : Int) - a)) (cc - a) = q at hb ⊢
      rw [wrap_id (n := q) (by omega) (by omega), wrap_id (by omega) (by omega)]
   exact go2 0 (by omega) (by omega) (by rw [Nat.mul_zero]; omega) (by unfold crvV; rw [if_neg hv0])
  ·have hk6 : ¬ (k : Int) < 256 := hge
   have : k = 256 := by omega
   subst this
   have e : fillA (tabL 1 ps) 256 = tabL 1 ps := by have := fillA_all (tabL 1 ps); rw [tabL_len] at this; exact this
   rw [e] at hs1
   exact hR b2 H1 hs1
 refine go 0 (by omega) H3 ?_
 rw [fillA_zero, tabL_len]
 exact hs3
theorem tab_call {kind : Int} {p : Option Addr} {n c : Nat} {ps : List Int} (h : IS H p n (ints ps)) (hn : n ≤ 1000000000000) (hb : tabB kind ps = true)
    (hR : ∀ b H', St H H' [.cell b (ints (tabL kind ps)).toArray 3] → R (.tuple #[.slice (some ⟨b, 0, none⟩) 256 256, .bool true]) H') : CallsH Tryz.prog 80 #[.int .i64 kind, .slice p n c] H R := by
  refine Tryz.s80 ?_
  unfold Tryz.S80
  have hlen := h.length
  refine c114 h hn ⟨_, rfl, br_not (fun hf => by rw [hb] at hf; cases hf) fun _ => br_eq (fun hk1 => ?_) fun hk1 => ?_⟩
  · subst hk1
    exact crv_call h (tabB_crv hb) fun b H' he => ⟨_, _, _, rfl, hR b H' he⟩
  refine ⟨by decide, by decide, by decide, by decide, ?_⟩
  rw [repsA256]
  refine (St.nil H).alc fun b9 H10 hs10 => ?_
  intro X hX
  have hrng := tabB_rng hb
  have hkind := tabB_kind hb
  unfold kindP at hkind
  have go : ∀ k, k ≤ 256 → ∀ H1, St H H1 [.cell b9 (ints (fillA (tabL kind ps) k)).toArray 3] → X [.int .i64 (k : Nat)] H1 := by
    refine upto fun k hk ih H1 hs1 => hX _ _ (br_dec (fun hlt => ?_) fun hge => ?_)
    · have hk' : k < 256 := by have : (k : Int) < 256 := hlt; omega
      have g1 := h.ext hs1.ext
      intro J hJ
      have same : (tabL kind ps).getD k 0 = 0 → J [] H1 := fun hz => hJ _ (by
        rw [wrap_id (by omega) (by omega)]
        refine ih hk' H1 ?_
        have e := fillA_set (L := tabL kind ps) (s := k) (by rw [tabL_len]; exact hk')
        rw [hz, fillA_set0 (by rw [tabL_len]; exact hk')] at e
        rw [← e]; exact hs1)
      have put : ∀ (v : Int), v = tabV kind ps (k : Nat) → ∃ a11 : Addr, (some ⟨b9, 0, none⟩) = some a11 ∧ 0 ≤ (k : Int) ∧ (k : Int) < (((Int.toNat (256 : Int)) : Nat) : Int) ∧ stAt H1 (Addr.add a11 (Int.toNat (k : Int) * 1)) [Value.int .i64 v] fun H_12 => J [] H_12 := fun v hv => by
        refine ⟨_, rfl, by omega, hlt, ?_⟩
        rw [show Int.toNat (k : Int) * 1 = k from Nat.mul_one k, add_none, Nat.zero_add]
        refine hs1.putA 0 rfl (by rw [fillA_len (by rw [tabL_len]; omega), tabL_len]; exact hk') fun H2 hs2 => hJ _ ?_
        rw [wrap_id (by omega) (by omega)]
        refine ih hk' H2 ?_
        have e := fill_put (L := tabL kind ps) (k := k) (v := v) (by rw [tabL_len]; exact hk') (by rw [tabL_at hk', hv])
        have hs2 : St H H2 [.cell b9 (ints ((fillA (tabL kind ps) k).set k v)).toArray 3] := hs2
        rw [e] at hs2
        exact hs2
      refine br_eq (fun k0 => ?_) fun k0 => br_eq (fun k2 => put _ ?_) fun k2 => br_eq (fun k3 => ?_) fun k3 => ?_
      · rw [if_pos k0] at hkind
        have hk2 := of_decide_eq_true hkind
        have r1 := hrng 1
        have r0 := hrng 0
        refine rdG (i := 1) g1 (by omega) (by omega) (rdG (i := 0) g1 (by omega) (by omega) (rdG (i := 0) g1 (by omega) (by omega) ⟨by decide, ?_, put _ ?_⟩))
        · show IntKind.wrap .i64 (ps.getD 1 0 - ps.getD 0 0) ≠ 0
          rw [wrap_id (by omega) (by omega)]
          omega
        · show _ = tabV kind ps (k : Nat)
          unfold tabV
          rw [if_neg hk1, if_pos k0]
          unfold lvlV
          show min 255 (IntKind.wrap .i64 (Int.tdiv (IntKind.wrap .i64 ((IntKind.wrap .i64 (255 * max 0 (IntKind.wrap .i64 ((k : Int) - ps.getD 0 0)))) + (IntKind.wrap .i64 (Int.tdiv (IntKind.wrap .i64 (ps.getD 1 0 - ps.getD 0 0)) 2)))) (IntKind.wrap .i64 (ps.getD 1 0 - ps.getD 0 0)))) = _
          generalize ps.getD 0 0 = a at *
          generalize ps.getD 1 0 = b at *
          have hd : 0 ≤ (b - a) / 2 ∧ (b - a) / 2 ≤ 255 := by omega
          rw [wrap_id (n := (k : Int) - a) (by omega) (by omega), wrap_id (n := b - a) (by omega) (by omega), Int.tdiv_eq_ediv_of_nonneg (a := b - a) (by omega), wrap_id (n := (b - a) / 2) (by omega) (by omega), wrap_id (n := 255 * max 0 ((k : Int) - a)) (by omega) (by omega), wrap_id (n := 255 * max 0 ((k : Int) - a) + (b - a) / 2) (by omega) (by omega), Int.tdiv_eq_ediv_of_nonneg (by omega)]
          have q1 : 0 ≤ (255 * max 0 ((k : Int) - a) + (b - a) / 2) / (b - a) := Int.ediv_nonneg (by omega) (by omega)
          have q2 : (255 * max 0 ((k : Int) - a) + (b - a) / 2) / (b - a) ≤ 255 * max 0 ((k : Int) - a) + (b - a) / 2 := Int.ediv_le_self _ (by omega)
          rw [wrap_id (by omega) (by omega)]
      · unfold tabV
        rw [if_neg hk1, if_neg k0, if_pos k2, wrap_id (by omega) (by omega)]
      · rw [if_neg k0, if_neg hk1, if_neg k2, if_pos k3] at hkind
        have hk2 := of_decide_eq_true hkind
        have hv : tabV kind ps (k : Nat) = if (k : Int) ≥ ps.getD 0 0 then 255 else 0 := by
          unfold tabV
          rw [if_neg hk1, if_neg k0, if_neg k2]
        refine rdG (i := 0) g1 (by omega) (by omega) (br_dec (fun hge => put _ ?_) fun hge => same ?_)
        · rw [hv, if_pos (show (k : Int) ≥ ps.getD 0 0 from hge)]
        · rw [tabL_at hk', hv, if_neg (show ¬ (k : Int) ≥ ps.getD 0 0 from hge)]
      · rw [if_neg k0, if_neg hk1, if_neg k2, if_neg k3] at hkind
        cases hkind
    · have hk6 : ¬ (k : Int) < 256 := hge
      have : k = 256 := by omega
      subst this
      have e : fillA (tabL kind ps) 256 = tabL kind ps := by have := fillA_all (tabL kind ps); rw [tabL_len] at this; exact this
      rw [e] at hs1
      exact hR b9 H1 hs1
  refine go 0 (by omega) H10 ?_
  rw [fillA_zero, tabL_len]
  exact hs10
end Go.Proofs
namespace Go.Proofs
open Go.Sh
variable {H0 H : Heap} {σ : List Rs} {R : Value → Heap → Prop}
def picAt (w h : Int) (P : List Int) (x y : Int) : Int := if x < 0 ∨ x ≥ w ∨ y < 0 ∨ y ≥ h then 0 else P.getD (y * w + x).toNat 0
def wsum (x0 x1 x2 x3 s t : Int) : Int := (32768 + x0 * ((256 - s) * (256 - t)) + x1 * (s * (256 - t)) + x2 * ((256 - s) * t) + x3 * (s * t)) / 65536
def smC (w h : Int) (P : List Int) (u v : Int) : C4 :=
 let i := (u - 32768) / 65536; let j := (v - 32768) / 65536; let s := (u - 32768) / 256 % 256; let t := (v - 32768) / 256 % 256
 let a := spl (picAt w h P i j); let b := spl (picAt w h P (i + 1) j); let c := spl (picAt w h P i (j + 1)); let d := spl (picAt w h P (i + 1) (j + 1))
 ⟨wsum a.r b.r c.r d.r s t, wsum a.g b.g c.g d.g s t, wsum a.b b.b c.b d.b s t, wsum a.a b.a c.a d.a s t⟩
def atU (b0 b1 b4 x y : Int) : Int := (b0 * (2 * x + 1) + b1 * (2 * y + 1)) / 2 + b4
def atP (w h : Int) (P : List Int) (m : M6) (x y : Int) (smooth : Bool) : Int :=
 if smooth then joinP (smC w h P (atU m.a m.b m.e x y) (atU m.c m.d m.f x y)) else picAt w h P (atU m.a m.b m.e x y / 65536) (atU m.c m.d m.f x y / 65536)
theorem wsum_mono {x0 x1 x2 x3 y0 y1 y2 y3 s t : Int} (hs : byte s) (ht : byte t) (h0 : x0 ≤ y0) (h1 : x1 ≤ y1) (h2 : x2 ≤ y2) (h3 : x3 ≤ y3) : wsum x0 x1 x2 x3 s t ≤ wsum y0 y1 y2 y3 s t := by
 unfold byte at hs ht
 have e0 := Int.mul_le_mul_of_nonneg_right h0 (Int.mul_nonneg (show 0 ≤ 256 - s by omega) (show 0 ≤ 256 - t by omega))
 have e1 := Int.mul_le_mul_of_nonneg_right h1 (Int.mul_nonneg (show 0 ≤ s by omega) (show 0 ≤ 256 - t by omega))
 have e2 := Int.mul_le_mul_of_nonneg_right h2 (Int.mul_nonneg (show 0 ≤ 256 - s by omega) (show 0 ≤ t by omega))
 have e3 := Int.mul_le_mul_of_nonneg_right h3 (Int.mul_nonneg (show 0 ≤ s by omega) (show 0 ≤ t by omega))
 unfold wsum
 generalize x0 * ((256 - s) * (256 - t)) = p0 at *
 generalize x1 * (s * (256 - t)) = p1 at *
 generalize x2 * ((256 - s) * t) = p2 at *
 generalize x3 * (s * t) = p3 at *
 generalize y0 * ((256 - s) * (256 - t)) = q0 at *
 generalize y1 * (s * (256 - t)) = q1 at *
 generalize y2 * ((256 - s) * t) = q2 at *
 generalize y3 * (s * t) = q3 at *
 omega
theorem wsum_const (x s t : Int) : wsum x x x x s t = x := by
 have e : (256 - s) * (256 - t) + s * (256 - t) + (256 - s) * t + s * t = 65536 := by
  rw [Int.sub_mul, Int.mul_sub, Int.mul_sub, Int.sub_mul]; omega
 unfold wsum
 have e2 : x * ((256 - s) * (256 - t)) + x * (s * (256 - t)) + x * ((256 - s) * t) + x * (s * t) = x * 65536 := by
  rw [← Int.mul_add, ← Int.mul_add, ← Int.mul_add, e]
 generalize x * ((256 - s) * (256 - t)) = p0 at *
 generalize x * (s * (256 - t)) = p1 at *
 generalize x * ((256 - s) * t) = p2 at *
 generalize x * (s * t) = p3 at *
 omega
theorem wsum_bd {x0 x1 x2 x3 s t : Int} (hs : byte s) (ht : byte t) (h0 : byte x0) (h1 : byte x1) (h2 : byte x2) (h3 : byte x3) : byte (wsum x0 x1 x2 x3 s t) := by
 have l := wsum_mono hs ht h0.1 h1.1 h2.1 h3.1
 have u := wsum_mono hs ht h0.2 h1.2 h2.2 h3.2
 rw [wsum_const] at l u
 exact ⟨l, u⟩
structure PicOk (w h : Int) (P : List Int) : Prop where
 hw : 0 ≤ w ∧ w ≤ 32768
 hh : 0 ≤ h ∧ h ≤ 32768
 len : (P.length : Int) = w * h
 px : P.all pixelB = true
theorem in_pic {w h x y : Int} {n : Nat} (hl : (n : Int) = w * h) (hx : 0 ≤ x ∧ x < w) (hy : 0 ≤ y ∧ y < h) : 0 ≤ y * w + x ∧ y * w + x < n ∧ 0 ≤ y * w := by
 have h1 : 0 ≤ y * w := Int.mul_nonneg hy.1 (by omega)
 have h2 : (y + 1) * w ≤ h * w := Int.mul_le_mul_of_nonneg_right (by omega) (by omega)
 rw [Int.add_mul, Int.one_mul, Int.mul_comm h w] at h2
 omega
theorem PicOk.at {w h : Int} {P : List Int} (hp : PicOk w h P) (x y : Int) : pixelB (picAt w h P x y) = true := by
 unfold picAt
 split
 ·exact pixZ0
 ·rename_i hn
  have := in_pic hp.len (x := x) (y := y) (by omega) (by omega)
  have hlt : (y * w + x).toNat < P.length := by omega
  rw [List.getD_eq_getElem?_getD, List.getElem?_eq_getElem hlt]
  exact List.all_eq_true.1 hp.px _ (List.getElem_mem hlt)
theorem spl_ok {v : Int} (h : pixelB v = true) : OkC (spl v) := (pixelB_iff.1 h).2
theorem smC_ok {w h : Int} {P : List Int} (hp : PicOk w h P) (u v : Int) : OkC (smC w h P u v) := by
 have hs : byte ((u - 32768) / 256 % 256) := by unfold byte; omega
 have ht : byte ((v - 32768) / 256 % 256) := by unfold byte; omega
 have a := spl_ok (hp.at ((u - 32768) / 65536) ((v - 32768) / 65536))
 have b := spl_ok (hp.at ((u - 32768) / 65536 + 1) ((v - 32768) / 65536))
 have c := spl_ok (hp.at ((u - 32768) / 65536) ((v - 32768) / 65536 + 1))
 have d := spl_ok (hp.at ((u - 32768) / 65536 + 1) ((v - 32768) / 65536 + 1))
 obtain ⟨a1, a2, a3, a4⟩ := a.bytes
 obtain ⟨b1, b2, b3, b4⟩ := b.bytes
 obtain ⟨c1, c2, c3, c4⟩ := c.bytes
 obtain ⟨d1, d2, d3, d4⟩ := d.bytes
 exact ⟨⟨(wsum_bd hs ht a1 b1 c1 d1).1, wsum_mono hs ht a.r.2 b.r.2 c.r.2 d.r.2⟩, ⟨(wsum_bd hs ht a2 b2 c2 d2).1, wsum_mono hs ht a.g.2 b.g.2 c.g.2 d.g.2⟩, ⟨(wsum_bd hs ht a3 b3 c3 d3).1, wsum_mono hs ht a.b.2 b.b.2 c.b.2 d.b.2⟩, (wsum_bd hs ht a4 b4 c4 d4).2⟩
theorem atP_ok {w h : Int} {P : List Int} (hp : PicOk w h P) (m : M6) (x y : Int) (sm : Bool) : pixelB (atP w h P m x y sm) = true := by
 unfold atP
 split
 ·exact ok_join (smC_ok hp _ _)
 ·exact hp.at _ _
def picA (w h : Int) (p : Option Addr) (l c : Nat) : Array Value := #[.int .i64 w, .int .i64 h, .slice p l c]
theorem c124 {w h : Int} {p : Option Addr} {l c : Nat} {P : List Int} {x y : Int} (hp : IS H p l (ints P)) (hw : 0 ≤ w ∧ w ≤ 32768) (hh : 0 ≤ h ∧ h ≤ 32768) (hl : (P.length : Int) = w * h) (hR : ∀ H', Ext H H' → R (.int .i64 (picAt w h P x y)) H') : CallsH Tryz.prog 124 #[.agg (picA w h p l c), .int .i64 x, .int .i64 y] H R := by
 refine Tryz.s124 ?_
 unfold Tryz.S124
 refine (St.nil H).alc fun b4 H5 hs5 => ?_
 intro J6 hJ6
 have out : (x < 0 ∨ x ≥ w ∨ y < 0 ∨ y ≥ h) → R (.int .i64 0) H5 := fun ho => by
  have := hR H5 hs5.ext
  rw [show picAt w h P x y = 0 from by unfold picAt; rw [if_pos ho]] at this; exact this
 refine br_dec (fun h1 => out (.inl h1)) fun h1 => ⟨w, hs5.get 0 rfl (j := 0) rfl, br_dec (fun h2 => out (.inr (.inl h2))) fun h2 => br_dec (fun h3 => out (.inr (.inr (.inl h3)))) fun h3 => ⟨h, hs5.get 0 rfl (j := 1) rfl, br_dec (fun h4 => out (.inr (.inr (.inr h4)))) fun h4 => hJ6 _ ?_⟩⟩
 have hin := in_pic hl (x := x) (y := y) (by omega) (by omega)
 have hlen := hp.length
 have hwh : w * h ≤ 32768 * 32768 := Int.mul_le_mul hw.2 hh.2 hh.1 (by decide)
 refine ⟨p, l, c, hs5.get 0 rfl (j := 2) rfl, w, hs5.get 0 rfl (j := 0) rfl, ?_⟩
 rw [wrap_id (n := y * w) (by omega) (by omega), wrap_id (n := y * w + x) (by omega) (by omega)]
 refine rdG (hp.ext hs5.ext) hin.1 (by omega) ?_
 have := hR H5 hs5.ext
 rw [show picAt w h P x y = P.getD (y * w + x).toNat 0 from by unfold picAt; rw [if_neg (by omega)]] at this
 exact this
theorem c123 {w h : Int} {p : Option Addr} {l c : Nat} {P : List Int} {u v : Int} (hp : IS H p l (ints P)) (hok : PicOk w h P) (hu : -1000000000000000 ≤ u ∧ u ≤ 1000000000000000) (hv : -1000000000000000 ≤ v ∧ v ≤ 1000000000000000) (hR : ∀ H', Ext H H' → R (.int .i64 (joinP (smC w h P u v))) H') : CallsH Tryz.prog 123 #[.agg (picA w h p l c), .int .i64 u, .int .i64 v] H R := by
  refine Tryz.s123 ?_
  unfold Tryz.S123
  have e16 : ∀ z, shrI .i64 z (16 : Int) = z / 65536 := shr16'
  have e8 : ∀ z, shrI .i64 z (8 : Int) = z / 256 := shr8'
  simp only [wrap_id (n := u - 32768) (by omega) (by omega), wrap_id (n := v - 32768) (by omega) (by omega), e16, e8, and255, wrap_id (n := (u - 32768) / 65536 + 1) (by omega) (by omega), wrap_id (n := (v - 32768) / 65536 + 1) (by omega) (by omega)]
  have hs : byte ((u - 32768) / 256 % 256) := by unfold byte; omega
  have ht : byte ((v - 32768) / 256 % 256) := by unfold byte; omega
  generalize hi : (u - 32768) / 65536 = i
  generalize hj : (v - 32768) / 65536 = j
  generalize hsx : (u - 32768) / 256 % 256 = s at hs ⊢
  generalize htx : (v - 32768) / 256 % 256 = t at ht ⊢
  have hsm : smC w h P u v = ⟨wsum (spl (picAt w h P i j)).r (spl (picAt w h P (i + 1) j)).r (spl (picAt w h P i (j + 1))).r (spl (picAt w h P (i + 1) (j + 1))).r s t, wsum (spl (picAt w h P i j)).g (spl (picAt w h P (i + 1) j)).g (spl (picAt w h P i (j + 1))).g (spl (picAt w h P (i + 1) (j + 1))).g s t, wsum (spl (picAt w h P i j)).b (spl (picAt w h P (i + 1) j)).b (spl (picAt w h P i (j + 1))).b (spl (picAt w h P (i + 1) (j + 1))).b s t, wsum (spl (picAt w h P i j)).a (spl (picAt w h P (i + 1) j)).a (spl (picAt w h P i (j + 1))).a (spl (picAt w h P (i + 1) (j + 1))).a s t⟩ := by
    unfold smC; rw [hi, hj, hsx, htx]
  have hsmok := smC_ok hok u v
  rw [hsm] at hR hsmok
  have y0 := spl_byte (picAt w h P i j)
  have y1 := spl_byte (picAt w h P (i + 1) j)
  have y2 := spl_byte (picAt w h P i (j + 1))
  have y3 := spl_byte (picAt w h P (i + 1) (j + 1))
  have at_ : ∀ {H1 : Heap} {R1 : Value → Heap → Prop} (x y : Int), Ext H H1 → (∀ H', Ext H1 H' → R1 (.int .i64 (picAt w h P x y)) H') → CallsH Tryz.prog 124 #[.agg (picA w h p l c), .int .i64 x, .int .i64 y] H1 R1 := fun x y he hr => c124 (hp.ext he) hok.hw hok.hh hok.len hr
  have sp_ : ∀ {H1 : Heap} {R1 : Value → Heap → Prop} (z : Int), (∀ H', Ext H1 H' → R1 (.agg (ints (spl z).l).toArray) H') → CallsH Tryz.prog 45 #[.int .i64 z] H1 R1 := fun z hr => c45 hr
  obtain ⟨A, hA⟩ : ∃ A, A = spl (picAt w h P i j) := ⟨_, rfl⟩
  obtain ⟨B, hB⟩ : ∃ B, B = spl (picAt w h P (i + 1) j) := ⟨_, rfl⟩
  obtain ⟨C, hC⟩ : ∃ C, C = spl (picAt w h P i (j + 1)) := ⟨_, rfl⟩
  obtain ⟨D, hD⟩ : ∃ D, D = spl (picAt w h P (i + 1) (j + 1)) := ⟨_, rfl⟩
  rw [← hA, ← hB, ← hC, ← hD] at hR hsmok
  rw [← hA] at y0
  rw [← hB] at y1
  rw [← hC] at y2
  rw [← hD] at y3
  have w0 : IntKind.wrap .i64 (IntKind.wrap .i64 (256 - s) * IntKind.wrap .i64 (256 - t)) = (256 - s) * (256 - t) := by
    unfold byte at hs ht
    have := mul_bd (x := 256 - s) (y := 256 - t) (A := 256) (B := 256) (by omega) (by omega)
    rw [wrap_id (n := 256 - s) (by omega) (by omega), wrap_id (n := 256 - t) (by omega) (by omega), wrap_id (by omega) (by omega)]
  have w1 : IntKind.wrap .i64 (s * IntKind.wrap .i64 (256 - t)) = s * (256 - t) := by
    unfold byte at hs ht
    have := mul_bd (x := s) (y := 256 - t) (A := 256) (B := 256) (by omega) (by omega)
    rw [wrap_id (n := 256 - t) (by omega) (by omega), wrap_id (by omega) (by omega)]
  have w2 : IntKind.wrap .i64 (IntKind.wrap .i64 (256 - s) * t) = (256 - s) * t := by
    unfold byte at hs ht
    have := mul_bd (x := 256 - s) (y := t) (A := 256) (B := 256) (by omega) (by omega)
    rw [wrap_id (n := 256 - s) (by omega) (by omega), wrap_id (by omega) (by omega)]
  have w3 : IntKind.wrap .i64 (s * t) = s * t := by
    unfold byte at hs ht
    have := mul_bd (x := s) (y := t) (A := 256) (B := 256) (by omega) (by omega)
    rw [wrap_id (by omega) (by omega)]
  rw [w0, w1, w2, w3]
  have wb : (0 ≤ (256 - s) * (256 - t) ∧ (256 - s) * (256 - t) ≤ 65536) ∧ (0 ≤ s * (256 - t) ∧ s * (256 - t) ≤ 65536) ∧ (0 ≤ (256 - s) * t ∧ (256 - s) * t ≤ 65536) ∧ (0 ≤ s * t ∧ s * t ≤ 65536) := by
    unfold byte at hs ht
    have q0 := mul_bd (x := 256 - s) (y := 256 - t) (A := 256) (B := 256) (by omega) (by omega)
    have q1 := mul_bd (x := s) (y := 256 - t) (A := 256) (B := 256) (by omega) (by omega)
    have q2 := mul_bd (x := 256 - s) (y := t) (A := 256) (B := 256) (by omega) (by omega)
    have q3 := mul_bd (x := s) (y := t) (A := 256) (B := 256) (by omega) (by omega)
    have p0 := Int.mul_nonneg (show 0 ≤ 256 - s by omega) (show 0 ≤ 256 - t by omega)
    have p1 := Int.mul_nonneg (show 0 ≤ s by omega) (show 0 ≤ 256 - t by omega)
    have p2 := Int.mul_nonneg (show 0 ≤ 256 - s by omega) (show 0 ≤ t by omega)
    have p3 := Int.mul_nonneg (show 0 ≤ s by omega) (show 0 ≤ t by omega)
    omega
  -- one product more
  have add1 : ∀ {acc x wt : Int}, byte x → 0 ≤ wt ∧ wt ≤ 65536 → -1000000000000 ≤ acc ∧ acc ≤ 1000000000000 → IntKind.wrap .i64 (acc + IntKind.wrap .i64 (x * wt)) = acc + x * wt ∧ 0 ≤ x * wt ∧ x * wt ≤ 16777216 := by
    intro acc x wt hx hw ha
    have p := Int.mul_nonneg hx.1 hw.1
    have q := Int.mul_le_mul_of_nonneg_right hx.2 hw.1
    have q2 : x * wt ≤ 16777216 := by omega
    rw [wrap_id (n := x * wt) (by omega) (by omega), wrap_id (by omega) (by omega)]
    exact ⟨rfl, p, q2⟩
  refine (St.nil H).alc fun b4 H5 hs5 => ⟨by decide, by decide, by decide, by decide, ?_⟩
  intro J6 hJ6
  have after : ∀ (bf : Nat) (H8 : Heap), St H H8 [.cell bf (ints (A.l ++ B.l ++ C.l ++ D.l)).toArray 157] → J6 [.pointer (some ⟨bf, 0, none⟩)] H8 := fun bf H8 hs8 => by
    refine hJ6 _ _ (hs8.alc fun b9 H10 hs10 => ⟨rfl, hs10.putAllA 0 (l := [(256 - s) * (256 - t), s * (256 - t), (256 - s) * t, s * t]) rfl rfl fun H11 hs11 => hs11.alc fun b12 H13 hs13 => ?_⟩)
    intro X14 hX14
    have col : ∀ (c : Nat) (H1 : Heap) (L : List Int) (x0 x1 x2 x3 : Int), c < 4 → L.length = 4 → (A.l ++ B.l ++ C.l ++ D.l)[c]? = some x0 → (A.l ++ B.l ++ C.l ++ D.l)[4 + c]? = some x1 → (A.l ++ B.l ++ C.l ++ D.l)[8 + c]? = some x2 → (A.l ++ B.l ++ C.l ++ D.l)[12 + c]? = some x3 → byte x0 → byte x1 → byte x2 → byte x3 →
        St H H1 [.cell b12 (ints L).toArray 94, .cell b9 (ints [(256 - s) * (256 - t), s * (256 - t), (256 - s) * t, s * t]).toArray 94, .cell bf (ints (A.l ++ B.l ++ C.l ++ D.l)).toArray 157] →
        (∀ H2, St H H2 [.cell b12 (ints (L.set c (wsum x0 x1 x2 x3 s t))).toArray 94, .cell b9 (ints [(256 - s) * (256 - t), s * (256 - t), (256 - s) * t, s * t]).toArray 94, .cell bf (ints (A.l ++ B.l ++ C.l ++ D.l)).toArray 157] → X14 [.int .i64 ((c + 1 : Nat) : Int)] H2) → X14 [.int .i64 (c : Nat)] H1 := by
      intro c H1 L x0 x1 x2 x3 hc hL g0 g1 g2 g3 z0 z1 z2 z3 hs1 hK
      obtain ⟨v0, v1, v2, v3⟩ := wb
      refine hX14 _ _ (br_y (by omega) ⟨_, rfl, rowIn_whole (hs1.block 1 rfl), ?_⟩)
      intro X18 hX18
      have rd : ∀ (k : Nat) (x : Int), (A.l ++ B.l ++ C.l ++ D.l)[4 * k + c]? = some x → Sh.cell H1 (Addr.add (Addr.add ⟨bf, 0, none⟩ (k * 4)) (Int.toNat (c : Int) * 1)) = some (.int .i64 x) := fun k x hx => by
        rw [Int.toNat_natCast, Nat.mul_one, add_none, add_none, Nat.zero_add, Nat.mul_comm k 4]
        exact hs1.rdA 2 rfl hx
      obtain ⟨a0, p0, r0⟩ := add1 (acc := 32768) z0 v0 (by omega)
      obtain ⟨a1, p1, r1⟩ := add1 (acc := 32768 + x0 * ((256 - s) * (256 - t))) z1 v1 (by omega)
      obtain ⟨a2, p2, r2⟩ := add1 (acc := 32768 + x0 * ((256 - s) * (256 - t)) + x1 * (s * (256 - t))) z2 v2 (by omega)
      obtain ⟨a3, p3, r3⟩ := add1 (acc := 32768 + x0 * ((256 - s) * (256 - t)) + x1 * (s * (256 - t)) + x2 * ((256 - s) * t)) z3 v3 (by omega)
      refine hX18 _ _ _ (br_y (by decide) ⟨by decide, by decide, _, rfl, by decide, by decide, by omega, by omega, x0, rd 0 x0 (by simpa using g0), ?_⟩)
      rw [a0]
      refine hX18 _ _ _ (br_y (by decide) ⟨by decide, by decide, _, rfl, by decide, by decide, by omega, by omega, x1, rd 1 x1 g1, ?_⟩)
      rw [a1]
      refine hX18 _ _ _ (br_y (by decide) ⟨by decide, by decide, _, rfl, by decide, by decide, by omega, by omega, x2, rd 2 x2 g2, ?_⟩)
      rw [a2]
      refine hX18 _ _ _ (br_y (by decide) ⟨by decide, by decide, _, rfl, by decide, by decide, by omega, by omega, x3, rd 3 x3 g3, ?_⟩)
      rw [a3]
      refine hX18 _ _ _ (br_n (by decide) ⟨by decide, by omega, by omega, ?_⟩)
      rw [Int.toNat_natCast, Nat.mul_one, add_none, Nat.zero_add]
      refine hs1.putA 0 rfl (by omega) fun H2 hs2 => ?_
      have := hK H2 hs2
      rw [wrap_id (by omega) (by omega)]
      exact this
    refine col 0 H13 [0, 0, 0, 0] A.r B.r C.r D.r (by decide) rfl rfl rfl rfl rfl y0.1 y1.1 y2.1 y3.1 hs13 fun H14 hs14 => ?_
    refine col 1 H14 _ A.g B.g C.g D.g (by decide) (by simp) rfl rfl rfl rfl y0.2.1 y1.2.1 y2.2.1 y3.2.1 hs14 fun H15 hs15 => ?_
    refine col 2 H15 _ A.b B.b C.b D.b (by decide) (by simp) rfl rfl rfl rfl y0.2.2.1 y1.2.2.1 y2.2.2.1 y3.2.2.1 hs15 fun H16 hs16 => ?_
    refine col 3 H16 _ A.a B.a C.a D.a (by decide) (by simp) rfl rfl rfl rfl y0.2.2.2 y1.2.2.2 y2.2.2.2 y3.2.2.2 hs16 fun H17 hs17 => ?_
    refine hX14 _ _ (br_n (by decide) ⟨_, rfl, rowIn_whole (hs17.block 0 rfl), ?_⟩)
    obtain ⟨q1, q2, q3, q4⟩ := hsmok.bytes
    exact c66 q1 q2 q3 q4 fun H18 he18 => ⟨_, rfl, hR H18 (hs17.step he18).ext⟩
  have rowE4 : ∀ {H1 : Heap}, Ext H5 H1 → rowIn H1 ⟨b4, 0, none⟩ (picA w h p l c) := fun he => rowAt_ext he (rowIn_whole (hs5.block 0 rfl))
  refine ⟨picA w h p l c, rfl, rowE4 (Ext.refl _), picA w h p l c, rfl, rowE4 (Ext.refl _), picA w h p l c, rfl, rowE4 (Ext.refl _), picA w h p l c, rfl, rowE4 (Ext.refl _), ?_⟩
  have ex5 : Ext H H5 := hs5.ext
  have x0 : Ext H5 H5 := Ext.refl _
  have lay : ∀ {H1 : Heap} (b : Nat), St H H1 [.cell b (ints (List.replicate 16 0)).toArray 157] → (List.toArray (setL (setL (setL (setL [Value.int .i64 0, .int .i64 0, .int .i64 0, .int .i64 0, .int .i64 0, .int .i64 0, .int .i64 0, .int .i64 0, .int .i64 0, .int .i64 0, .int .i64 0, .int .i64 0, .int .i64 0, .int .i64 0, .int .i64 0, .int .i64 0] 0 (ints A.l).toArray.toList) 4 (ints B.l).toArray.toList) 8 (ints C.l).toArray.toList) 12 (ints D.l).toArray.toList)).size = 16 ∧ stAt H1 ⟨b, 0, none⟩ (Array.toList (List.toArray (setL (setL (setL (setL [Value.int .i64 0, .int .i64 0, .int .i64 0, .int .i64 0, .int .i64 0, .int .i64 0, .int .i64 0, .int .i64 0, .int .i64 0, .int .i64 0, .int .i64 0, .int .i64 0, .int .i64 0, .int .i64 0, .int .i64 0, .int .i64 0] 0 (ints A.l).toArray.toList) 4 (ints B.l).toArray.toList) 8 (ints C.l).toArray.toList) 12 (ints D.l).toArray.toList))) fun H2 => J6 [.pointer (some ⟨b, 0, none⟩)] H2 := fun b hs1 =>
    ⟨rfl, hs1.putAllA 0 (l := A.l ++ B.l ++ C.l ++ D.l) rfl rfl fun H2 hs2 => after b H2 hs2⟩
  have fin1 : ∀ {H1 : Heap}, Ext H5 H1 → alc H1 (.cells #[.int .i64 0, .int .i64 0, .int .i64 0, .int .i64 0, .int .i64 0, .int .i64 0, .int .i64 0, .int .i64 0, .int .i64 0, .int .i64 0, .int .i64 0, .int .i64 0, .int .i64 0, .int .i64 0, .int .i64 0, .int .i64 0] 157) fun b H2 => (List.toArray (setL (setL (setL (setL [Value.int .i64 0, .int .i64 0, .int .i64 0, .int .i64 0, .int .i64 0, .int .i64 0, .int .i64 0, .int .i64 0, .int .i64 0, .int .i64 0, .int .i64 0, .int .i64 0, .int .i64 0, .int .i64 0, .int .i64 0, .int .i64 0] 0 (ints A.l).toArray.toList) 4 (ints B.l).toArray.toList) 8 (ints C.l).toArray.toList) 12 (ints D.l).toArray.toList)).size = 16 ∧ stAt H2 ⟨b, 0, none⟩ (Array.toList (List.toArray (setL (setL (setL (setL [Value.int .i64 0, .int .i64 0, .int .i64 0, .int .i64 0, .int .i64 0, .int .i64 0, .int .i64 0, .int .i64 0, .int .i64 0, .int .i64 0, .int .i64 0, .int .i64 0, .int .i64 0, .int .i64 0, .int .i64 0, .int .i64 0] 0 (ints A.l).toArray.toList) 4 (ints B.l).toArray.toList) 8 (ints C.l).toArray.toList) 12 (ints D.l).toArray.toList))) fun H3 => J6 [.pointer (some ⟨b, 0, none⟩)] H3 := fun {H1} he => (St.of_ext (ex5.trans he)).alc fun b H2 hs2 => lay b hs2
  have spA : ∀ {H1 : Heap} {R1 : Value → Heap → Prop}, (∀ H', Ext H1 H' → R1 (.agg (ints A.l).toArray) H') → CallsH Tryz.prog 45 #[.int .i64 (picAt w h P i j)] H1 R1 := fun hr => sp_ _ fun H' he => by rw [← hA]; exact hr H' he
  have spB : ∀ {H1 : Heap} {R1 : Value → Heap → Prop}, (∀ H', Ext H1 H' → R1 (.agg (ints B.l).toArray) H') → CallsH Tryz.prog 45 #[.int .i64 (picAt w h P (i + 1) j)] H1 R1 := fun hr => sp_ _ fun H' he => by rw [← hB]; exact hr H' he
  have spC : ∀ {H1 : Heap} {R1 : Value → Heap → Prop}, (∀ H', Ext H1 H' → R1 (.agg (ints C.l).toArray) H') → CallsH Tryz.prog 45 #[.int .i64 (picAt w h P i (j + 1))] H1 R1 := fun hr => sp_ _ fun H' he => by rw [← hC]; exact hr H' he
  have spD : ∀ {H1 : Heap} {R1 : Value → Heap → Prop}, (∀ H', Ext H1 H' → R1 (.agg (ints D.l).toArray) H') → CallsH Tryz.prog 45 #[.int .i64 (picAt w h P (i + 1) (j + 1))] H1 R1 := fun hr => sp_ _ fun H' he => by rw [← hD]; exact hr H' he
  clear sp_
  repeat' first
    | (refine ⟨rfl, by decide, rfl, by decide, rfl, by decide, rfl, by decide, ?_⟩; first | exact fin1 ‹Ext H5 _› | exact lay _ ‹St H _ [Rs.cell _ (ints (List.replicate 16 0)).toArray _]›)
    | (refine at_ _ _ (ex5.trans ‹Ext H5 _›) fun Hn hn => ⟨_, rfl, ?_⟩; have hxn := Ext.trans ‹Ext H5 _› hn; (try have hsn := St.step ‹St H _ [Rs.cell _ (ints (List.replicate 16 0)).toArray _]› hn); (try refine ⟨.inl hn, ?_⟩))
    | ((first | refine spA fun Hn hn => ⟨_, rfl, ?_⟩ | refine spB fun Hn hn => ⟨_, rfl, ?_⟩ | refine spC fun Hn hn => ⟨_, rfl, ?_⟩ | refine spD fun Hn hn => ⟨_, rfl, ?_⟩); have hxn := Ext.trans ‹Ext H5 _› hn; (try have hsn := St.step ‹St H _ [Rs.cell _ (ints (List.replicate 16 0)).toArray _]› hn); (try refine ⟨.inl hn, ?_⟩))
    | (refine St.alcE (St.of_ext (ex5.trans ‹Ext H5 _›)) fun bn Hn hn hs0 => ?_; have hsn : St H Hn [.cell bn (ints (List.replicate 16 0)).toArray 157] := hs0; have hxn := Ext.trans ‹Ext H5 _› hn; clear hs0; (try refine ⟨.inl hn, ?_⟩))
    | refine ⟨?_, ?_⟩
end Go.Proofs
namespace Go.Proofs
open Go.Sh
structure DocL where
 w : Int
 h : Int
 next : Int
 ks : List Lay
def zeroD : DocL := ⟨0, 0, 0, []⟩
def doD (D : DocL) (e : Ed) : Int × DocL := if (doL D.w D.h D.next D.ks e).1 ≠ 0 then ((doL D.w D.h D.next D.ks e).1, zeroD) else (0, ⟨D.w, D.h, (doL D.w D.h D.next D.ks e).2.1, (doL D.w D.h D.next D.ks e).2.2⟩)
def oneM : M6 := ⟨65536, 0, 0, 65536, 0, 0⟩
structure goodF (w h next : Int) (f : LayF) : Prop where
 id : 1 ≤ f.id ∧ f.id < next
 kind : 0 ≤ f.kind ∧ f.kind ≤ 2
 opacity : 0 ≤ f.opacity ∧ f.opacity ≤ 255
 mode : 0 ≤ f.mode ∧ f.mode ≤ 11
 maskLen : f.mask = [] ∨ (f.mask.length : Int) = w * h
 maskV : ∀ c ∈ f.mask, c = 0 ∨ c = 255
 bare : f.kind ≠ 0 → f.w = 0 ∧ f.h = 0 ∧ f.p = [] ∧ f.map = oneM ∧ f.smooth = false
 plain : f.kind ≠ 2 → f.table = 2 ∧ f.params = []
 adj : f.kind = 2 → f.mode = 0
 ras : f.kind = 0 → sizedB f.w f.h = true ∧ (f.p.length : Int) = f.w * f.h ∧ f.p.all pixelB = true ∧ (backM f.map).1 = 0
 tab : tabB f.table f.params = true
mutual
def gT (G : LayF → Prop) : Lay → Prop
 | .mk f ks => G f ∧ (f.kind = 1 ∨ ks = []) ∧ gKs G ks
def gKs (G : LayF → Prop) : List Lay → Prop
 | [] => True
 | t :: ts => gT G t ∧ gKs G ts
end
mutual
def idsT : Lay → List Int
 | .mk f ks => f.id :: idsKs ks
def idsKs : List Lay → List Int
 | [] => []
 | t :: ts => idsT t ++ idsKs ts
end
structure Inv (D : DocL) : Prop where
 size : sizedB D.w D.h = true
 next : 1 ≤ D.next
 cnt : cntKs D.ks ≤ 4096
 dep : depKs D.ks ≤ 64
 ids : (idsKs D.ks).Nodup
 good : gKs (goodF D.w D.h D.next) D.ks
variable {G : LayF → Prop}
theorem gKs_app {a b : List Lay} : gKs G (a ++ b) ↔ gKs G a ∧ gKs G b := by
 induction a with
 | nil => simp [gKs]
 | cons t a ih => rw [List.cons_append, gKs, ih, gKs, and_assoc]
theorem gKs_iff {ts : List Lay} : gKs G ts ↔ ∀ t ∈ ts, gT G t := by
 induction ts with
 | nil => simp [gKs]
 | cons t ts ih => rw [gKs, ih, List.forall_mem_cons]
theorem gT_imp {G' : LayF → Prop} (h : ∀ f, G f → G' f) : ∀ t, gT G t → gT G' t := Lay.ind fun f ks ih hg => by
 rw [gT] at hg ⊢
 exact ⟨h f hg.1, hg.2.1, gKs_iff.2 fun t ht => ih t ht (gKs_iff.1 hg.2.2 t ht)⟩
theorem gKs_imp {G' : LayF → Prop} (h : ∀ f, G f → G' f) {ts : List Lay} (hg : gKs G ts) : gKs G' ts := gKs_iff.2 fun t ht => gT_imp h t (gKs_iff.1 hg t ht)
def gUp (G : LayF → Prop) : List FrL → Prop
 | [] => True
 | fr :: u => gKs G fr.pre ∧ gKs G fr.post ∧ G fr.f ∧ fr.f.kind = 1 ∧ gUp G u
theorem g_unplug : ∀ {u : List FrL} {ks : List Lay}, gKs G (plugL u ks) → ks ≠ [] → gUp G u ∧ gKs G ks
 | [], ks, h, _ => ⟨trivial, h⟩
 | fr :: u, ks, h, hne => by
  rw [plugL] at h
  obtain ⟨h1, h2⟩ := g_unplug h (by simp)
  rw [gKs_app, gKs, gT] at h2
  refine ⟨⟨h2.1, h2.2.2, h2.2.1.1, ?_, h1⟩, h2.2.1.2.2⟩
  rcases h2.2.1.2.1 with h | h
  ·exact h
  ·exact absurd h hne
theorem g_plug : ∀ {u : List FrL} {ks : List Lay}, gUp G u → gKs G ks → gKs G (plugL u ks)
 | [], ks, _, h => h
 | fr :: u, ks, hu, h => by
  rw [plugL]
  refine g_plug hu.2.2.2.2 ?_
  rw [gKs_app, gKs, gT]
  exact ⟨hu.1, ⟨hu.2.2.1, .inl hu.2.2.2.1, h⟩, hu.2.1⟩
theorem g_node {fr : FrL} {u : List FrL} {ks : List Lay} (h : gKs G (plugL (fr :: u) ks)) : gUp G u ∧ gKs G fr.pre ∧ gT G (.mk fr.f ks) ∧ gKs G fr.post := by
 rw [plugL] at h
 obtain ⟨h1, h2⟩ := g_unplug h (by simp)
 rw [gKs_app, gKs] at h2
 exact ⟨h1, h2.1, h2.2.1, h2.2.2⟩
theorem g_set {fr : FrL} {u : List FrL} {ks : List Lay} (h1 : gUp G u) (h2 : gKs G fr.pre) (h3 : gT G (.mk fr.f ks)) (h4 : gKs G fr.post) : gKs G (plugL (fr :: u) ks) := by
 rw [plugL]
 refine g_plug h1 ?_
 rw [gKs_app, gKs]
 exact ⟨h2, h3, h4⟩
def idsUp : List FrL → List Int
 | [] => []
 | fr :: u => fr.f.id :: (idsKs fr.pre ++ idsKs fr.post ++ idsUp u)
theorem idsKs_app (a b : List Lay) : idsKs (a ++ b) = idsKs a ++ idsKs b := by
 induction a with
 | nil => simp [idsKs]
 | cons t a ih => rw [List.cons_append, idsKs, ih, idsKs, List.append_assoc]
theorem ids_plug : ∀ (u : List FrL) (ks : List Lay), (idsKs (plugL u ks)).Perm (idsKs ks ++ idsUp u)
 | [], ks => by rw [idsUp, List.append_nil]; exact List.Perm.refl _
 | fr :: u, ks => by
  rw [plugL]
  refine (ids_plug u _).trans (List.perm_iff_count.2 fun x => ?_)
  simp only [idsKs_app, idsKs, idsT, idsUp, List.count_append, List.count_cons]
  ac_rfl
def depUp : List FrL → Nat → Nat
 | [], d => d
 | fr :: u, d => depUp u (max (depKs fr.pre) (max (1 + d) (depKs fr.post)))
theorem dep_plug : ∀ (u : List FrL) (ks : List Lay), depKs (plugL u ks) = depUp u (depKs ks)
 | [], ks => rfl
 | fr :: u, ks => by rw [plugL, dep_plug u, depKs_app, depKs, depL, depUp]
theorem depUp_mono : ∀ (u : List FrL) {d d' : Nat}, d ≤ d' → depUp u d ≤ depUp u d'
 | [], d, d', h => h
 | fr :: u, d, d', h => by rw [depUp, depUp]; exact depUp_mono u (by omega)
theorem fl_plug (id : Int) : ∀ (t : Lay) (up : List FrL) (pre post : List Lay) (z : ZL), flT up pre post id t = some z → plugL z.1 z.2 = plugL up (pre ++ t :: post) ∧ ∃ fr u, z.1 = fr :: u ∧ fr.f.id = id := by
 refine Lay.ind fun f ks ih up pre post z hz => ?_
 rw [flT] at hz
 split at hz
 ·rename_i h; cases hz; exact ⟨rfl, _, _, rfl, h⟩
 ·have : ∀ (ts : List Lay), (∀ t ∈ ts, t ∈ ks) → ∀ (u : List FrL) (pre0 : List Lay), flK u pre0 id ts = some z → plugL z.1 z.2 = plugL u (pre0 ++ ts) ∧ ∃ fr u, z.1 = fr :: u ∧ fr.f.id = id := by
   intro ts
   induction ts with
   | nil => intro _ u pre0 h; rw [flK] at h; cases h
   | cons t ts ih2 =>
    intro hm u pre0 h
    rw [flK] at h
    split at h
    ·rename_i z' hz'
     cases h
     exact ih t (hm t List.mem_cons_self) _ _ _ _ hz'
    ·have := ih2 (fun t ht => hm t (List.mem_cons_of_mem _ ht)) _ _ h
     rw [List.append_assoc] at this
     exact this
  exact this ks (fun _ h => h) _ _ hz
theorem flK_plug {id : Int} : ∀ (ts : List Lay) (up : List FrL) (pre : List Lay) (z : ZL), flK up pre id ts = some z → plugL z.1 z.2 = plugL up (pre ++ ts) ∧ ∃ fr u, z.1 = fr :: u ∧ fr.f.id = id
 | [], up, pre, z, h => by rw [flK] at h; cases h
 | t :: ts, up, pre, z, h => by
  rw [flK] at h
  split at h
  ·rename_i z' hz'
   cases h
   exact fl_plug id t _ _ _ _ hz'
  ·have := flK_plug ts _ _ _ h
   rw [List.append_assoc] at this
   exact this
theorem fl_cases (id : Int) (D : List Lay) : flK [] [] id D = none ∨ ∃ fr u ks, flK [] [] id D = some (fr :: u, ks) ∧ fr.f.id = id ∧ plugL (fr :: u) ks = D := by
 cases h : flK [] [] id D with
 | none => exact .inl rfl
 | some z =>
  obtain ⟨h1, fr, u, h2, h3⟩ := flK_plug D _ _ z h
  obtain ⟨z1, z2⟩ := z
  simp only at h2 h1
  subst h2
  exact .inr ⟨fr, u, z2, rfl, h3, h1⟩
theorem Inv.okL {w h next : Int} (hsz : sizedB w h = true) : ∀ t, gT (goodF w h next) t → cntL t ≤ 1000000 → okL t := Lay.ind fun f ks ih hg hc => by
 rw [gT] at hg
 rw [cntL] at hc
 have hlen := len_cnt ks
 obtain ⟨q1, q2, q3, q4, q5⟩ := of_decide_eq_true hsz
 rw [Go.Proofs.okL]
 refine ⟨?_, ?_, ?_, by omega, okKs_iff.2 fun t ht => ih t ht (gKs_iff.1 hg.2.2 t ht) (by have := cnt_mem ht; omega)⟩
 ·by_cases hk : f.kind = 0
  ·obtain ⟨h1, h2, _⟩ := hg.1.ras hk
   obtain ⟨_, _, _, _, h3⟩ := of_decide_eq_true h1
   omega
  ·rw [(hg.1.bare hk).2.2.1]; simp
 ·rcases hg.1.maskLen with h | h
  ·rw [h]; simp
  ·omega
 ·by_cases hk : f.kind = 2
  ·have ht := tabB_kind hg.1.tab
   unfold kindP at ht
   split at ht
   ·have := of_decide_eq_true ht; omega
   ·split at ht
    ·have := of_decide_eq_true ht; omega
    ·split at ht
     ·have := of_decide_eq_true ht; omega
     ·split at ht
      ·have := of_decide_eq_true ht; omega
      ·cases ht
  ·rw [(hg.1.plain hk).2]; simp
theorem Inv.ok {D : DocL} (h : Inv D) : okKs D.ks := okKs_iff.2 fun t ht => Inv.okL h.size t (gKs_iff.1 h.good t ht) (by have := cnt_mem ht; have := h.cnt; omega)
theorem Inv.found {D : DocL} (h : Inv D) {id : Int} {fr : FrL} {u : List FrL} {ks : List Lay} (hf : flK [] [] id D.ks = some (fr :: u, ks)) : goodF D.w D.h D.next fr.f ∧ (fr.f.kind = 1 ∨ ks = []) := by
 have hp := (flK_plug D.ks _ _ _ hf).1
 have hg := h.good
 have hp : plugL (fr :: u) ks = D.ks := hp
 rw [← hp] at hg
 have := (g_node hg).2.2.1
 rw [gT] at this
 exact ⟨this.1, this.2.1⟩
theorem Inv.ras {D : DocL} (h : Inv D) {id : Int} {fr : FrL} {u : List FrL} {ks : List Lay} (hf : flK [] [] id D.ks = some (fr :: u, ks)) : okRas fr.f := fun hk => ⟨((h.found hf).1.ras hk).1, ((h.found hf).1.ras hk).2.1⟩
theorem chg_inv {D : DocL} (h : Inv D) {g : LayF → Int × LayF} {id : Int} (hg : ∀ f, goodF D.w D.h D.next f → (g f).1 = 0 → goodF D.w D.h D.next (g f).2 ∧ (g f).2.id = f.id ∧ (g f).2.kind = f.kind) (h0 : (chgL g D.ks id).1 = 0) : Inv ⟨D.w, D.h, D.next, (chgL g D.ks id).2⟩ := by
 rcases fl_cases id D.ks with hn | ⟨fr, u, ks, hf, hid, hp⟩
 ·rw [chg_none hn] at h0; exact absurd h0 (by decide)
 ·obtain ⟨g1, g2⟩ := h.found hf
  by_cases he : (g fr.f).1 = 0
  ·have hge : g fr.f = (0, (g fr.f).2) := Prod.ext he rfl
   have hc := chg_ok (g := g) hf hge
   obtain ⟨k1, k2, k3⟩ := hg fr.f g1 he
   rw [hc]
   have hgd := h.good
   have hi := h.ids
   have hcn := h.cnt
   have hdp := h.dep
   rw [← hp] at hgd hi hcn hdp
   obtain ⟨u1, u2, u3, u4⟩ := g_node hgd
   rw [gT] at u3
   refine ⟨h.size, h.next, ?_, ?_, ?_, ?_⟩
   ·show cntKs (plugL (⟨fr.pre, (g fr.f).2, fr.post⟩ :: u) ks) ≤ 4096
    rw [cnt_plug] at hcn ⊢; exact hcn
   ·show depKs (plugL (⟨fr.pre, (g fr.f).2, fr.post⟩ :: u) ks) ≤ 64
    rw [dep_plug] at hdp ⊢; exact hdp
   ·refine ((ids_plug _ _).nodup_iff).2 ?_
    have := ((ids_plug _ _).nodup_iff).1 hi
    rw [idsUp] at this ⊢
    rw [k2]; exact this
   ·refine g_set (fr := ⟨fr.pre, (g fr.f).2, fr.post⟩) u1 u2 ?_ u4
    rw [gT]
    exact ⟨k1, by rw [k3]; exact u3.2.1, u3.2.2⟩
  ·have := chg_bad (g := g) hf (show g fr.f = ((g fr.f).1, (g fr.f).2) from rfl) he
   rw [this] at h0; exact absurd h0 he
end Go.Proofs
namespace Go.Proofs
open Go.Sh
theorem look_good {w h next : Int} {e : Ed} {f : LayF} (hg : goodF w h next f) (h0 : (lookF e f).1 = 0) : goodF w h next (lookF e f).2 ∧ (lookF e f).2.id = f.id ∧ (lookF e f).2.kind = f.kind := by
 unfold lookF at h0 ⊢
 split at h0
 ·simp at h0
 ·rename_i c1
  split at h0
  ·simp at h0
  ·rename_i c2
   rw [if_neg c1, if_neg c2]
   refine ⟨⟨hg.id, hg.kind, by show 0 ≤ e.n ∧ e.n ≤ 255; omega, by show 0 ≤ e.m ∧ e.m ≤ 11; omega, hg.maskLen, hg.maskV, hg.bare, hg.plain, fun hk => ?_, hg.ras, hg.tab⟩, rfl, rfl⟩
   show e.m = 0
   exact Decidable.byContradiction fun hm => c2 ⟨hk, hm⟩
theorem hide_good {w h next : Int} {e : Ed} {f : LayF} (hg : goodF w h next f) (h0 : (hideF e f).1 = 0) : goodF w h next (hideF e f).2 ∧ (hideF e f).2.id = f.id ∧ (hideF e f).2.kind = f.kind := by
 unfold hideF at h0 ⊢
 split at h0
 ·simp at h0
 ·rename_i c1
  rw [if_neg c1]
  exact ⟨⟨hg.id, hg.kind, hg.opacity, hg.mode, hg.maskLen, hg.maskV, hg.bare, hg.plain, hg.adj, hg.ras, hg.tab⟩, rfl, rfl⟩
theorem paint_good {w h next : Int} {e : Ed} {f : LayF} (hg : goodF w h next f) (h0 : (paintF e f).1 = 0) : goodF w h next (paintF e f).2 ∧ (paintF e f).2.id = f.id ∧ (paintF e f).2.kind = f.kind := by
 unfold paintF at h0 ⊢
 split at h0
 ·simp at h0
 rename_i c1
 split at h0
 ·simp at h0
 rename_i c2
 split at h0
 ·simp at h0
 rename_i c3
 split at h0
 ·simp at h0
 rename_i c4
 rw [if_neg c1, if_neg c2, if_neg c3, if_neg c4]
 refine ⟨⟨hg.id, hg.kind, hg.opacity, hg.mode, hg.maskLen, hg.maskV, fun hk => absurd hk c1, hg.plain, hg.adj, fun hk => ?_, hg.tab⟩, rfl, rfl⟩
 obtain ⟨r1, r2, r3, r4⟩ := hg.ras hk
 refine ⟨r1, ?_, ?_, r4⟩
 ·show ((paintP e f.w f.p).length : Int) = _
  unfold paintP; rw [List.length_map, List.length_range]; exact r2
 ·show (paintP e f.w f.p).all pixelB = true
  rw [List.all_eq_true]
  intro v hv
  unfold paintP at hv
  obtain ⟨q, hq, rfl⟩ := List.mem_map.1 hv
  have hql := List.mem_range.1 hq
  split
  ·rename_i hin
   have hr := idxP_rng hin
   have hl : (e.p.length : Int) = e.w * e.h := Decidable.byContradiction fun hh => c2 (.inr (.inr (.inr (.inr hh))))
   have hlt : (idxP e f.w q).toNat < e.p.length := by omega
   rw [List.getD_eq_getElem?_getD, List.getElem?_eq_getElem hlt]
   have hc3 : e.p.any (fun v => !pixelB v) = false := by simpa using c3
   have := List.any_eq_false.1 hc3 _ (List.getElem_mem hlt)
   simpa using this
  ·rw [List.getD_eq_getElem?_getD, List.getElem?_eq_getElem hql]
   exact List.all_eq_true.1 r3 _ (List.getElem_mem hql)
theorem mask_good {w h next : Int} (hsz : sizedB w h = true) {e : Ed} {f : LayF} (hg : goodF w h next f) (h0 : (maskF w h e f).1 = 0) : goodF w h next (maskF w h e f).2 ∧ (maskF w h e f).2.id = f.id ∧ (maskF w h e f).2.kind = f.kind := by
 obtain ⟨q1, q2, q3, q4, q5⟩ := of_decide_eq_true hsz
 have hpos : 0 ≤ w * h := Int.mul_nonneg (by omega) (by omega)
 unfold maskF at h0 ⊢
 split at h0
 ·simp at h0
 rename_i c1
 rw [if_neg c1]
 split at h0
 ·rename_i c2
  rw [if_pos c2]
  exact ⟨⟨hg.id, hg.kind, hg.opacity, hg.mode, .inl rfl, fun _ hc => (by cases hc), hg.bare, hg.plain, hg.adj, hg.ras, hg.tab⟩, rfl, rfl⟩
 rename_i c2
 rw [if_neg c2]
 split at h0
 ·simp at h0
 rename_i c3
 rw [if_neg c3]
 refine ⟨⟨hg.id, hg.kind, hg.opacity, hg.mode, .inr ?_, fun c hc => ?_, hg.bare, hg.plain, hg.adj, hg.ras, hg.tab⟩, rfl, rfl⟩
 ·show ((maskL w h (fun x y => withinB e.shape x y != (e.n == 1))).length : Int) = w * h
  unfold maskL; rw [List.length_map, List.length_range]; omega
 ·unfold maskL at hc
  obtain ⟨q, hq, rfl⟩ := List.mem_map.1 hc
  split
  ·exact .inr rfl
  ·exact .inl rfl
theorem place_good {w h next : Int} {e : Ed} {f : LayF} (hg : goodF w h next f) (h0 : (placeF e f).1 = 0) : goodF w h next (placeF e f).2 ∧ (placeF e f).2.id = f.id ∧ (placeF e f).2.kind = f.kind := by
 unfold placeF at h0 ⊢
 split at h0
 ·simp at h0
 rename_i c1
 split at h0
 ·simp at h0
 rename_i c2
 split at h0
 ·rename_i c3; exact absurd h0 c3
 rename_i c3
 rw [if_neg c1, if_neg c2, if_neg c3]
 refine ⟨⟨hg.id, hg.kind, hg.opacity, hg.mode, hg.maskLen, hg.maskV, fun hk => absurd hk c1, hg.plain, hg.adj, fun hk => ?_, hg.tab⟩, rfl, rfl⟩
 obtain ⟨r1, r2, r3, r4⟩ := hg.ras hk
 exact ⟨r1, r2, r3, Decidable.byContradiction c3⟩
theorem adjust_good {w h next : Int} {e : Ed} {f : LayF} (hg : goodF w h next f) (h0 : (adjustF e f).1 = 0) : goodF w h next (adjustF e f).2 ∧ (adjustF e f).2.id = f.id ∧ (adjustF e f).2.kind = f.kind := by
 unfold adjustF at h0 ⊢
 split at h0
 ·simp at h0
 rename_i c1
 split at h0
 ·simp at h0
 rename_i c2
 rw [if_neg c1, if_neg c2]
 exact ⟨⟨hg.id, hg.kind, hg.opacity, hg.mode, hg.maskLen, hg.maskV, hg.bare, fun hk => absurd hk c1, hg.adj, hg.ras, by simpa using c2⟩, rfl, rfl⟩
theorem home_cases (D : List Lay) (to : Int) {v : List FrL} {kh : List Lay} (h : homeL D to = (0, v, kh)) : plugL v kh = D ∧ ∀ {G : LayF → Prop}, gKs G D → gUp G v ∧ gKs G kh := by
 unfold homeL at h
 split at h
 ·cases h; exact ⟨rfl, fun hg => ⟨trivial, hg⟩⟩
 ·rcases fl_cases to D with hn | ⟨fr, u, ks, hf, hid, hp⟩
  ·rw [hn] at h; cases h
  ·rw [hf] at h
   simp only at h
   split at h
   ·rename_i hk
    cases h
    refine ⟨hp, fun {G} hg => ?_⟩
    rw [← hp] at hg
    obtain ⟨u1, u2, u3, u4⟩ := g_node hg
    rw [gT] at u3
    exact ⟨⟨u2, u4, u3.1, hk, u1⟩, u3.2.2⟩
   ·cases h
theorem home_tri {D : List Lay} {to : Int} (h : (homeL D to).1 = 0) : homeL D to = (0, (homeL D to).2.1, (homeL D to).2.2) := by
 rw [← h]
theorem put_ok {v : List FrL} {kh : List Lay} {a : Int} {l : Lay} (h0 : (putL v kh a l).1 = 0) : ∃ i, atL a kh.length = some i ∧ (putL v kh a l).2 = plugL v (kh.take i ++ l :: kh.drop i) ∧ depKs (plugL v (kh.take i ++ l :: kh.drop i)) ≤ 64 := by
 unfold putL at h0 ⊢
 split at h0
 ·simp at h0
 ·rename_i i hi
  refine ⟨i, hi, rfl, ?_⟩
  simp only at h0
  split at h0
  ·simp at h0
  ·omega
theorem put_ids (v : List FrL) (kh : List Lay) (i : Nat) (l : Lay) : (idsKs (plugL v (kh.take i ++ l :: kh.drop i))).Perm (idsT l ++ idsKs (plugL v kh)) := by
 refine (ids_plug _ _).trans ?_
 refine List.Perm.trans ?_ (List.Perm.append_left _ (ids_plug v kh).symm)
 refine List.perm_iff_count.2 fun x => ?_
 have h := idsKs_app (kh.take i) (kh.drop i)
 rw [List.take_append_drop] at h
 rw [h]
 simp only [idsKs_app, idsKs, List.count_append]
 ac_rfl
theorem put_cnt (v : List FrL) (kh : List Lay) (i : Nat) (l : Lay) : cntKs (plugL v (kh.take i ++ l :: kh.drop i)) = cntL l + cntKs (plugL v kh) := by
 rw [cnt_plug, cnt_plug, cntKs_app, cntKs]
 have h := cntKs_app (kh.take i) (kh.drop i)
 rw [List.take_append_drop] at h
 omega
theorem put_g {G : LayF → Prop} {v : List FrL} {kh : List Lay} {i : Nat} {l : Lay} (h1 : gUp G v) (h2 : gKs G kh) (h3 : gT G l) : gKs G (plugL v (kh.take i ++ l :: kh.drop i)) := by
 refine g_plug h1 ?_
 have h := gKs_app (G := G) (a := kh.take i) (b := kh.drop i)
 rw [List.take_append_drop] at h
 rw [gKs_app, gKs]
 exact ⟨(h.1 h2).1, h3, (h.1 h2).2⟩
theorem ids_lt {w h next : Int} : ∀ t, gT (goodF w h next) t → ∀ x ∈ idsT t, 1 ≤ x ∧ x < next := Lay.ind fun f ks ih hg x hx => by
 rw [gT] at hg
 rw [idsT] at hx
 rcases List.mem_cons.1 hx with rfl | hx
 ·exact hg.1.id
 ·have : ∀ (ts : List Lay), (∀ t ∈ ts, t ∈ ks) → x ∈ idsKs ts → 1 ≤ x ∧ x < next := by
   intro ts
   induction ts with
   | nil => intro _ h; cases h
   | cons t ts ih2 =>
    intro hm h
    rw [idsKs, List.mem_append] at h
    rcases h with h | h
    ·exact ih t (hm t List.mem_cons_self) (gKs_iff.1 hg.2.2 t (hm t List.mem_cons_self)) x h
    ·exact ih2 (fun t ht => hm t (List.mem_cons_of_mem _ ht)) h
  exact this ks (fun _ h => h) hx
theorem ids_ltKs {w h next : Int} : ∀ {ts : List Lay}, gKs (goodF w h next) ts → ∀ x ∈ idsKs ts, 1 ≤ x ∧ x < next
 | [], _, x, hx => by cases hx
 | t :: ts, hg, x, hx => by
  rw [gKs] at hg
  rw [idsKs, List.mem_append] at hx
  rcases hx with hx | hx
  ·exact ids_lt t hg.1 x hx
  ·exact ids_ltKs hg.2 x hx
theorem good_next {w h next : Int} {f : LayF} (hg : goodF w h next f) : goodF w h (next + 1) f := ⟨by have := hg.id; omega, hg.kind, hg.opacity, hg.mode, hg.maskLen, hg.maskV, hg.bare, hg.plain, hg.adj, hg.ras, hg.tab⟩
theorem pixel0 : pixelB 0 = true := by decide
theorem new_good {w h next : Int} {e : Ed} (hnx : 1 ≤ next) (h1 : ¬ (e.n < 0 ∨ e.n > 2)) (h2 : ¬ (e.n = 0 ∧ sizedB e.w e.h = false)) : goodF w h (next + 1) (newL next e) := by
 refine ⟨⟨hnx, by show next < next + 1; omega⟩, by show 0 ≤ e.n ∧ e.n ≤ 2; omega, ⟨by show (0 : Int) ≤ 255; decide, by show (255 : Int) ≤ 255; decide⟩, ⟨by show (0 : Int) ≤ 0; decide, by show (0 : Int) ≤ 11; decide⟩, .inl rfl, fun _ hc => (by cases hc), fun hk => ?_, fun _ => ⟨rfl, rfl⟩, fun _ => rfl, fun hk => ?_, by show tabB 2 [] = true; decide⟩
 ·have hk : e.n ≠ 0 := hk
  unfold newL; rw [if_neg hk, if_neg hk, if_neg hk]; exact ⟨rfl, rfl, rfl, rfl, rfl⟩
 ·have hk : e.n = 0 := hk
  have hsz : sizedB e.w e.h = true := by
   cases hs : sizedB e.w e.h with
   | true => rfl
   | false => exact absurd ⟨hk, hs⟩ h2
  obtain ⟨q1, q2, q3, q4, q5⟩ := of_decide_eq_true hsz
  have hpos : 0 ≤ e.w * e.h := Int.mul_nonneg (by omega) (by omega)
  unfold newL
  rw [if_pos hk, if_pos hk, if_pos hk]
  refine ⟨hsz, by rw [List.length_replicate]; exact Int.toNat_of_nonneg hpos, ?_, show (backM oneM).1 = 0 from by decide⟩
  rw [List.all_eq_true]
  intro v hv
  rw [(List.mem_replicate.1 hv).2]
  exact pixel0
theorem add_inv {D : DocL} (h : Inv D) {e : Ed} (h0 : (addL D.next D.ks e).1 = 0) : Inv ⟨D.w, D.h, D.next + 1, (addL D.next D.ks e).2⟩ := by
 unfold addL at h0 ⊢
 split at h0
 ·simp at h0
 rename_i c1
 split at h0
 ·simp at h0
 rename_i c2
 split at h0
 ·rename_i c3; exact absurd h0 c3
 rename_i c3
 split at h0
 ·rename_i c4; exact absurd h0 c4
 rename_i c4
 split at h0
 ·simp at h0
 rename_i c5
 rw [if_neg c1, if_neg c2, if_neg c3, if_neg c4, if_neg c5]
 have hho := home_tri (Decidable.byContradiction c3)
 obtain ⟨hp, hgu⟩ := home_cases D.ks e.to hho
 obtain ⟨i, hi, hpu, hdp⟩ := put_ok (Decidable.byContradiction c4)
 obtain ⟨g1, g2⟩ := hgu (gKs_imp (fun f => good_next) h.good)
 rw [hpu]
 refine ⟨h.size, by have := h.next; show 1 ≤ D.next + 1; omega, ?_, hdp, ?_, ?_⟩
 ·show cntKs (plugL _ _) ≤ 4096
  rw [put_cnt, hp, cntL, cntKs]; omega
 ·refine ((put_ids _ _ i _).nodup_iff).2 ?_
  rw [hp, idsT, idsKs]
  show ((newL D.next e).id :: ([] ++ idsKs D.ks)).Nodup
  rw [List.nil_append, List.nodup_cons]
  exact ⟨fun hm => by
   have h1 := (ids_ltKs h.good _ hm).2
   have h2 : (newL D.next e).id = D.next := rfl
   omega, h.ids⟩
 ·refine put_g g1 g2 ?_
  rw [gT]
  exact ⟨new_good h.next c1 c2, .inr rfl, trivial⟩
theorem out_inv {D : DocL} (h : Inv D) {id : Int} {fr : FrL} {u : List FrL} {ks : List Lay} (hf : flK [] [] id D.ks = some (fr :: u, ks)) :
    Inv ⟨D.w, D.h, D.next, plugL u (fr.pre ++ fr.post)⟩ ∧ gT (goodF D.w D.h D.next) (.mk fr.f ks) ∧ (idsT (.mk fr.f ks) ++ idsKs (plugL u (fr.pre ++ fr.post))).Nodup ∧ cntL (.mk fr.f ks) + cntKs (plugL u (fr.pre ++ fr.post)) = cntKs D.ks := by
  have hp : plugL (fr :: u) ks = D.ks := (flK_plug D.ks _ _ _ hf).1
  have hgd := h.good
  have hi := h.ids
  have hcn := h.cnt
  have hdp := h.dep
  rw [← hp] at hgd hi hcn hdp
  obtain ⟨u1, u2, u3, u4⟩ := g_node hgd
  have hids : (idsKs (plugL (fr :: u) ks)).Perm (idsT (.mk fr.f ks) ++ idsKs (plugL u (fr.pre ++ fr.post))) := by
    refine (ids_plug _ _).trans (List.Perm.trans ?_ (List.Perm.append_left _ (ids_plug u _).symm))
    refine List.perm_iff_count.2 fun x => ?_
    simp only [idsUp, idsT, idsKs_app, List.count_append, List.count_cons]
    ac_rfl
  have hno := (hids.nodup_iff).1 hi
  have hct : cntL (.mk fr.f ks) + cntKs (plugL u (fr.pre ++ fr.post)) = cntKs D.ks := by
    rw [← hp, cnt_plug, cnt_plug, cntUp, cntKs_app, cntL]; omega
  refine ⟨⟨h.size, h.next, by have := h.cnt; show cntKs (plugL u (fr.pre ++ fr.post)) ≤ 4096; omega, ?_, (List.nodup_append.1 hno).2.1, ?_⟩, u3, hno, hct⟩
  · show depKs (plugL u (fr.pre ++ fr.post)) ≤ 64
    rw [dep_plug] at hdp ⊢
    refine Nat.le_trans ?_ hdp
    rw [depUp, depKs_app]
    exact depUp_mono u (by omega)
  · exact g_plug u1 (gKs_app.2 ⟨u2, u4⟩)
theorem move_inv {D : DocL} (h : Inv D) {e : Ed} (h0 : (moveL D.ks e).1 = 0) : Inv ⟨D.w, D.h, D.next, (moveL D.ks e).2⟩ := by
 rcases fl_cases e.id D.ks with hn | ⟨fr, u, ks, hf, hid, hp⟩
 ·unfold moveL at h0; rw [hn] at h0; simp at h0
 ·obtain ⟨o1, o2, o3, o4⟩ := out_inv h hf
  unfold moveL at h0 ⊢
  rw [hf] at h0 ⊢
  simp only at h0 ⊢
  split at h0
  ·rename_i c; exact absurd h0 c
  rename_i c1
  split at h0
  ·simp at h0
  rename_i c2
  split at h0
  ·rename_i c; exact absurd h0 c
  rename_i c3
  rw [if_neg c1, if_neg c2, if_neg c3]
  have hho := home_tri (Decidable.byContradiction c3)
  obtain ⟨hp2, hgu⟩ := home_cases _ e.to hho
  obtain ⟨i, hi, hpu, hdp⟩ := put_ok h0
  obtain ⟨g1, g2⟩ := hgu o1.good
  rw [hpu]
  refine ⟨h.size, h.next, ?_, hdp, ?_, put_g g1 g2 o2⟩
  ·show cntKs (plugL _ _) ≤ 4096
   have := h.cnt
   rw [put_cnt, hp2]; omega
  ·refine ((put_ids _ _ i _).nodup_iff).2 ?_
   rw [hp2]; exact o3
theorem do_inv {D : DocL} (h : Inv D) {e : Ed} (h0 : (doD D e).1 = 0) : Inv (doD D e).2 := by
 unfold doD at h0 ⊢
 by_cases hd : (doL D.w D.h D.next D.ks e).1 ≠ 0
 ·rw [if_pos hd] at h0; exact absurd h0 hd
 rw [if_neg hd]
 unfold doL at hd ⊢
 by_cases hk : e.kind < 1 ∨ e.kind > 9
 ·rw [if_pos hk] at hd; simp at hd
 rw [if_neg hk] at hd ⊢
 by_cases hs : (stepL D.w D.h D.next D.ks e).1 ≠ 0
 ·rw [if_pos hs] at hd; exact absurd hs hd
 rw [if_neg hs]
 have hs := Decidable.byContradiction hs
 show Inv ⟨D.w, D.h, nextL D.next e, (stepL D.w D.h D.next D.ks e).2⟩
 unfold stepL at hs ⊢
 by_cases k1 : e.kind = 1
 ·rw [if_pos k1] at hs ⊢; rw [show nextL D.next e = D.next + 1 from by unfold nextL; rw [if_pos k1]]; exact add_inv h hs
 rw [if_neg k1] at hs ⊢
 rw [show nextL D.next e = D.next from by unfold nextL; rw [if_neg k1]]
 by_cases k2 : e.kind = 2
 ·rw [if_pos k2] at hs ⊢
  rcases fl_cases e.id D.ks with hn | ⟨fr, u, ks, hf, hid, hp⟩
  ·unfold removeL at hs; rw [hn] at hs; simp at hs
  ·have := (out_inv h hf).1
   unfold removeL; rw [hf]; exact this
 rw [if_neg k2] at hs ⊢
 by_cases k3 : e.kind = 3
 ·rw [if_pos k3] at hs ⊢; exact move_inv h hs
 rw [if_neg k3] at hs ⊢
 by_cases k4 : e.kind = 4
 ·rw [if_pos k4] at hs ⊢; exact chg_inv h (fun f => paint_good) hs
 rw [if_neg k4] at hs ⊢
 by_cases k5 : e.kind = 5
 ·rw [if_pos k5] at hs ⊢; exact chg_inv h (fun f => look_good) hs
 rw [if_neg k5] at hs ⊢
 by_cases k6 : e.kind = 6
 ·rw [if_pos k6] at hs ⊢; exact chg_inv h (fun f => hide_good) hs
 rw [if_neg k6] at hs ⊢
 by_cases k7 : e.kind = 7
 ·rw [if_pos k7] at hs ⊢; exact chg_inv h (fun f => mask_good h.size) hs
 rw [if_neg k7] at hs ⊢
 by_cases k8 : e.kind = 8
 ·rw [if_pos k8] at hs ⊢; exact chg_inv h (fun f => place_good) hs
 rw [if_neg k8] at hs ⊢
 by_cases k9 : e.kind = 9
 ·rw [if_pos k9] at hs ⊢; exact chg_inv h (fun f => adjust_good) hs
 ·rw [if_neg k9] at hs; simp at hs
theorem new_inv {w h : Int} (hs : sizedB w h = true) : Inv ⟨w, h, 1, []⟩ := ⟨hs, Int.le_refl _, by simp [cntKs], by simp [depKs], by simp [idsKs], trivial⟩
theorem do_next {D : DocL} {e : Ed} (h0 : (doD D e).1 = 0) : D.next ≤ (doD D e).2.next ∧ (doD D e).2.next ≤ D.next + 1 ∧ (doD D e).2.w = D.w ∧ (doD D e).2.h = D.h := by
 unfold doD at h0 ⊢
 by_cases hd : (doL D.w D.h D.next D.ks e).1 ≠ 0
 ·rw [if_pos hd] at h0; exact absurd h0 hd
 rw [if_neg hd]
 unfold doL at hd ⊢
 by_cases hk : e.kind < 1 ∨ e.kind > 9
 ·rw [if_pos hk] at hd; simp at hd
 rw [if_neg hk] at hd ⊢
 by_cases hs : (stepL D.w D.h D.next D.ks e).1 ≠ 0
 ·rw [if_pos hs] at hd; exact absurd hs hd
 rw [if_neg hs]
 refine ⟨?_, ?_, rfl, rfl⟩ <;> (show _; unfold nextL; split <;> simp <;> omega)
end Go.Proofs
namespace Go.Proofs
open Go.Sh
variable {H0 H : Heap} {σ : List Rs} {R : Value → Heap → Prop}
theorem shr1' (x : Int) : shrI .i64 x (1 : Int) = x / 2 := shrTo x rfl rfl (by decide)
structure MapOk (m : M6) : Prop where
 ok : ((-16777216 ≤ m.a ∧ m.a ≤ 16777216) ∧ (-16777216 ≤ m.b ∧ m.b ≤ 16777216) ∧ (-16777216 ≤ m.c ∧ m.c ≤ 16777216) ∧ (-16777216 ≤ m.d ∧ m.d ≤ 16777216) ∧ (-68719476736 ≤ m.e ∧ m.e ≤ 68719476736) ∧ (-68719476736 ≤ m.f ∧ m.f ≤ 68719476736))
theorem backM_ok (m : M6) : MapOk (backM m).2 := by
 unfold backM
 split
 ·exact ⟨by decide⟩
 split
 ·exact ⟨by decide⟩
 split
 ·exact ⟨by decide⟩
 split
 ·exact ⟨by decide⟩
 ·rename_i h; exact ⟨(rightM_iff _).1 (by simpa using h)⟩
theorem atU_eq {b0 b1 b4 x y : Int} (h0 : -16777216 ≤ b0 ∧ b0 ≤ 16777216) (h1 : -16777216 ≤ b1 ∧ b1 ≤ 16777216) (h4 : -68719476736 ≤ b4 ∧ b4 ≤ 68719476736) (hx : 0 ≤ x ∧ x ≤ 65536) (hy : 0 ≤ y ∧ y ≤ 65536) :
    IntKind.wrap .i64 (shrI .i64 (IntKind.wrap .i64 (IntKind.wrap .i64 (b0 * IntKind.wrap .i64 (IntKind.wrap .i64 (2 * x) + 1)) + IntKind.wrap .i64 (b1 * IntKind.wrap .i64 (IntKind.wrap .i64 (2 * y) + 1)))) 1 + b4) = atU b0 b1 b4 x y ∧ -1000000000000000 ≤ atU b0 b1 b4 x y ∧ atU b0 b1 b4 x y ≤ 1000000000000000 := by
  have p0 := mul_bd (x := b0) (y := 2 * x + 1) (A := 16777216) (B := 131073) h0 (by omega)
  have p1 := mul_bd (x := b1) (y := 2 * y + 1) (A := 16777216) (B := 131073) h1 (by omega)
  unfold atU
  rw [wrap_id (n := 2 * x) (by omega) (by omega), wrap_id (n := 2 * y) (by omega) (by omega), wrap_id (n := 2 * x + 1) (by omega) (by omega), wrap_id (n := 2 * y + 1) (by omega) (by omega)]
  generalize b0 * (2 * x + 1) = q0 at *
  generalize b1 * (2 * y + 1) = q1 at *
  rw [wrap_id (n := q0) (by omega) (by omega), wrap_id (n := q1) (by omega) (by omega), wrap_id (n := q0 + q1) (by omega) (by omega), shr1', wrap_id (by omega) (by omega)]
  exact ⟨rfl, by omega, by omega⟩
theorem c104 {w h : Int} {p : Option Addr} {l c : Nat} {P : List Int} {m : M6} {x y : Int} {sm : Bool} (hp : IS H p l (ints P)) (hok : PicOk w h P) (hm : MapOk m) (hx : 0 ≤ x ∧ x ≤ 65536) (hy : 0 ≤ y ∧ y ≤ 65536) (hR : ∀ H', Ext H H' → R (.int .i64 (atP w h P m x y sm)) H') : CallsH Tryz.prog 104 #[.agg (picA w h p l c), .agg (ints m.l).toArray, .int .i64 x, .int .i64 y, .bool sm] H R := by
 obtain ⟨m0, m1, m2, m3, m4, m5⟩ := hm.ok
 obtain ⟨eu, bu1, bu2⟩ := atU_eq m0 m1 m4 hx hy
 obtain ⟨ev, bv1, bv2⟩ := atU_eq m2 m3 m5 hx hy
 refine Tryz.s104 ?_
 unfold Tryz.S104
 refine (St.nil H).alc fun b6 H7 hs7 => hs7.alc fun b8 H9 hs9 => ⟨by decide, by decide, m.a, hs9.rdA 0 (j := 0) rfl rfl, by decide, by decide, m.b, hs9.rdA 0 (j := 1) rfl rfl, by decide, by decide, by decide, m.e, hs9.rdA 0 (j := 4) rfl rfl, by decide, by decide, m.c, hs9.rdA 0 (j := 2) rfl rfl, by decide, by decide, m.d, hs9.rdA 0 (j := 3) rfl rfl, by decide, by decide, by decide, m.f, hs9.rdA 0 (j := 5) rfl rfl, ?_⟩
 rw [eu, ev]
 unfold atP at hR
 refine br_i (fun hsm => ?_) fun hsm => ?_
 ·rw [if_pos hsm] at hR
  refine ⟨_, rfl, rowIn_whole (hs9.block 1 rfl), c123 (hp.ext hs9.ext) hok ⟨bu1, bu2⟩ ⟨bv1, bv2⟩ fun H18 he18 => ⟨_, rfl, hR H18 (hs9.step he18).ext⟩⟩
 ·rw [if_neg (by rw [hsm]; decide)] at hR
  refine ⟨_, rfl, rowIn_whole (hs9.block 1 rfl), by decide, by decide, ?_⟩
  rw [shr16', shr16']
  exact c124 (hp.ext hs9.ext) hok.hw hok.hh hok.len fun H18 he18 => ⟨_, rfl, hR H18 (hs9.step he18).ext⟩
def partP (f : LayF) (at_ : Int) : Int := if f.mask.length = 0 then f.opacity else mulP f.opacity (f.mask.getD at_.toNat 0)
def overP (f : LayF) (g s out : Int) : Int := if s ≠ 0 ∧ g > 0 then joinP (blendP f.mode (fadeP (spl s) g) (spl out)) else out
def adjustP (f : LayF) (g out : Int) : Int := joinP (adjP (tabL f.table f.params) g (spl out))
def seenP (f : LayF) (x y : Int) : Int := atP f.w f.h f.p (backM f.map).2 x y f.smooth
mutual
def layPx (W x y : Int) : Lay → Int → Int
 | .mk f ks, out => if f.hidden = true then out else if f.kind = 2 then adjustP f (partP f (y * W + x)) out else overP f (partP f (y * W + x)) (if f.kind = 0 then seenP f x y else lsPx W x y ks 0) out
def lsPx (W x y : Int) : List Lay → Int → Int
 | [], out => out
 | t :: ts, out => lsPx W x y ts (layPx W x y t out)
end
theorem lsPx_app (W x y : Int) : ∀ (a b : List Lay) (out : Int), lsPx W x y (a ++ b) out = lsPx W x y b (lsPx W x y a out)
 | [], b, out => by rw [List.nil_append, lsPx]
 | t :: a, b, out => by rw [List.cons_append, lsPx, lsPx, lsPx_app W x y a b]
theorem part_byte {w h next : Int} {f : LayF} (hf : goodF w h next f) (i : Int) : byte (partP f i) := by
 have ho := hf.opacity
 unfold partP
 split
 ·exact ho
 ·refine mulP_byte ho ?_
  rw [List.getD_eq_getElem?_getD]
  cases hm : f.mask[i.toNat]? with
  | none => unfold byte; decide
  | some c =>
   have := hf.maskV c (List.mem_of_getElem? hm)
   unfold byte
   simp only [Option.getD_some]
   omega
theorem ras_pic {w h next : Int} {f : LayF} (hf : goodF w h next f) (hk : f.kind = 0) : PicOk f.w f.h f.p := by
 obtain ⟨h1, h2, h3, h4⟩ := hf.ras hk
 unfold sizedB at h1
 obtain ⟨q1, q2, q3, q4, q5⟩ := of_decide_eq_true h1
 exact ⟨by omega, by omega, h2, h3⟩
theorem over_px {w h next : Int} {f : LayF} {g s out : Int} (hg : byte g) (hs : pixelB s = true) (ho : pixelB out = true) : pixelB (overP f g s out) = true := by
 unfold overP
 split
 ·exact ok_join (blendP_ok _ (fadeP_ok (spl_ok hs) hg) (spl_ok ho))
 ·exact ho
theorem adjust_px {f : LayF} {g out : Int} (ht : tabB f.table f.params = true) (hg : byte g) (ho : pixelB out = true) : pixelB (adjustP f g out) = true := ok_join (adjP_ok (tabL_ok ht) hg (spl_ok ho))
theorem lay_px {w h next : Int} (W x y : Int) : ∀ t, gT (goodF w h next) t → ∀ out, pixelB out = true → pixelB (layPx W x y t out) = true := by
 refine Lay.ind fun f ks ih hg out ho => ?_
 obtain ⟨hf, _, hks⟩ := hg
 have ls : ∀ (ts : List Lay), (∀ t ∈ ts, t ∈ ks) → ∀ out, pixelB out = true → pixelB (lsPx W x y ts out) = true := by
  intro ts
  induction ts with
  | nil => intro _ out ho; rw [lsPx]; exact ho
  | cons t ts ih2 =>
   intro hsub out ho
   rw [lsPx]
   exact ih2 (fun u hu => hsub u (List.mem_cons_of_mem _ hu)) _ (ih t (hsub t List.mem_cons_self) (gKs_iff.1 hks t (hsub t List.mem_cons_self)) out ho)
 have hb := part_byte hf (y * W + x)
 rw [layPx]
 split
 ·exact ho
 split
 ·exact adjust_px hf.tab hb ho
 ·split
  ·rename_i hk0
   exact over_px (w := w) (h := h) (next := next) hb (atP_ok (ras_pic hf hk0) _ _ _ _) ho
  ·exact over_px (w := w) (h := h) (next := next) hb (ls ks (fun _ h => h) 0 pixZ0) ho
theorem ls_px {w h next : Int} (W x y : Int) {ts : List Lay} (hg : gKs (goodF w h next) ts) : ∀ {out : Int}, pixelB out = true → pixelB (lsPx W x y ts out) = true := by
 induction ts with
 | nil => intro out ho; rw [lsPx]; exact ho
 | cons t ts ih =>
  intro out ho
  rw [lsPx]
  exact ih hg.2 (lay_px W x y t hg.1 out ho)
end Go.Proofs
namespace Go.Proofs
open Go.Sh
variable {H0 H : Heap} {σ : List Rs} {R : Value → Heap → Prop}
def DocR (H : Heap) (A : Array Value) (D : DocL) : Prop := ∃ K ks, A = docA D.w D.h D.next K ∧ grp H K ks ∧ layKs ks = D.ks
theorem DocR.ext {H H' : Heap} {A : Array Value} {D : DocL} (h : DocR H A D) (he : Ext H H') : DocR H' A D := let ⟨K, ks, h1, h2, h3⟩ := h; ⟨K, ks, h1, h2.ext he, h3⟩
theorem DocR.size {H : Heap} {A : Array Value} {D : DocL} (h : DocR H A D) : A.size = 4 := by obtain ⟨K, ks, rfl, _⟩ := h; rfl
theorem DocR.one {H : Heap} {A : Array Value} {D : DocL} (h : DocR H A D) : ∀ v ∈ A.toList, v.oneCell' = true := by obtain ⟨K, ks, rfl, _⟩ := h; exact docA_one _ _ _ _
theorem DocR.zero (H : Heap) : DocR H (docA 0 0 0 .nil) zeroD := ⟨.nil, [], rfl, grp.nil H, rfl⟩
theorem DocR.new (H : Heap) (w h : Int) : DocR H (docA w h 1 .nil) ⟨w, h, 1, []⟩ := ⟨.nil, [], rfl, grp.nil H, rfl⟩
def zeroF : LayF := ⟨0, 0, false, 0, 0, 0, 0, [], [], ⟨0, 0, 0, 0, 0, 0⟩, false, 0, []⟩
def LayR (H : Heap) (A : Array Value) (l : Lay) : Prop := ∃ t, A = (cellsT t).toArray ∧ rdT H t ∧ layT t = l
theorem LayR.ext {H H' : Heap} {A : Array Value} {l : Lay} (h : LayR H A l) (he : Ext H H') : LayR H' A l := let ⟨t, h1, h2, h3⟩ := h; ⟨t, h1, rdT.ext he t h2, h3⟩
theorem LayR.zero (H : Heap) : LayR H (cellsL zeroF Sl3.nil.v Sl3.nil.v Sl3.nil.v Sl3.nil.v).toArray (.mk zeroF []) := by
 refine ⟨.mk zeroF .nil .nil .nil .nil [], rfl, ?_, rfl⟩
 rw [rdT]
 exact ⟨⟨rfl, fun i v h => by simp [zeroF, ints] at h⟩, ⟨rfl, fun i v h => by simp [zeroF, kints] at h⟩, ⟨rfl, fun i v h => by simp [zeroF, ints] at h⟩, grp.nil H⟩
end Go.Proofs
