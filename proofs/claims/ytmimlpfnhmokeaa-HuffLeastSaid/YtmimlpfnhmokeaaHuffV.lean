/-
  OWN WORK. HuffLeast over heaps.
-/
import Derived.Test.YtmimlpfnhmokeaaHuffU
set_option linter.unusedVariables false
set_option linter.unusedSimpArgs false
namespace Go.Proofs
open Go.Sh

set_option maxHeartbeats 2000000 in
theorem law3 {H : Heap} {p : Option Addr} {l c : Nat} {cs : List Int} {most : Int} (h : IS H p l (ints cs)) : CallsH Try.prog 3 #[.slice p l c, .int .i64 most] H (fun u H' => u = .bool true ∧ Ext H H') := by
  have hl : cs.length = l := by have := h.len; rw [ints_len] at this; omega
  refine Try.s3 ?_
  generalize hRd : (fun (u : Value) (H' : Heap) => u = Value.bool true ∧ Ext H H') = R
  have R1 : ∀ H', Ext H H' → R (.bool true) H' := fun H' e => by subst hRd; exact ⟨rfl, e⟩
  have R2 : ∀ (a b : Int) H', a = b → Ext H H' → R (.bool (a == b)) H' := fun a b H' hab e => by subst hab; rw [beq_self_eq_true]; exact R1 H' e
  clear hRd
  unfold Try.S3
  refine c10 fun H1 e1 => ⟨_, rfl, br_f rfl (br_dec (fun _ => R1 H1 e1) (fun h1000 => ?_))⟩
  have h1 := h.ext e1
  intro J hJ
  have main : ∀ right : Bool, (right = true ↔ 1 ≤ most ∧ most ≤ 16 ∧ l ≤ 300) → J [.bool right, .int .i64 (0 : Int)] H1 := by
    intro right hright
    refine hJ _ _ H1 ?_
    intro X hX
    have loop : ∀ (m t : Nat) (rt : Bool), l - t = m → t ≤ l → (rt = true ↔ (1 ≤ most ∧ most ≤ 16 ∧ l ≤ 300) ∧ ∀ v ∈ cs.take t, 0 ≤ v ∧ v ≤ 1099511627776) → X [.bool rt, .int .i64 ((leavesM (cs.take t)).length : Nat), .int .i64 t] H1 := by
      intro m
      induction m with
      | zero =>
        intro t rt hm ht hrt
        rw [List.take_of_length_le (by omega)] at hrt ⊢
        refine hX _ _ _ H1 (br_n (by omega) ?_)
        refine c11 h1 (by omega) (fun H2 e2 hn => ⟨_, _, _, _, rfl, ?_⟩) fun ok H2 b f2 e2 => ⟨_, _, _, _, rfl, ?_⟩
        · intro J2 hJ2
          cases rt with
          | false => exact br_t rfl (br_t rfl (R1 H2 (e1.trans e2)))
          | true =>
            obtain ⟨⟨q1, q2, q3⟩, q4⟩ := hrt.1 rfl
            refine br_f rfl ⟨by omega, br_dec (fun _ => br_t rfl (R1 H2 (e1.trans e2))) (fun hle => absurd (OkL.mk q1 q2 (by omega) q4 ?_) hn)⟩
            rw [shl_one q1 q2] at hle
            omega
        · have hr : rt = true := hrt.2 ⟨⟨ok.m1, ok.m2, by have := ok.len; omega⟩, ok.rng⟩
          subst hr
          have m1 := ok.m1
          have m2 := ok.m2
          have l300 := ok.len
          intro J2 hJ2
          refine br_f rfl ⟨by omega, br_dec (fun hgt => ?_) (fun _ => hJ2 H2 ?_)⟩
          · rw [shl_one m1 m2] at hgt
            have := ok.few
            omega
          obtain ⟨okc, hlen⟩ := lenM_ok ok
          have e12 := e1.trans e2
          have h2 := h.ext e12
          have crng := costM_rng (ls := lenM cs most.toNat) ok.rng okc.w.rng
          refine c12 f2.rs.is (fun hn => absurd okc.w hn) fun _ => ⟨_, _, rfl, ?_⟩
          intro J3 hJ3
          refine br_f rfl (br_ne (fun hh => absurd rfl hh) (fun _ => br_f rfl (br_n (by have := okc.le; omega) (hJ3 H2 ?_))))
          intro Y hY
          have lget : ∀ i : Nat, i < l → ∃ v, (lenM cs most.toNat)[i]? = some v ∧ cell H2 ⟨b, i, none⟩ = some (.int .i64 v) := fun i hi => by
            have hv : (lenM cs most.toNat)[i]? = some (lenM cs most.toNat)[i] := List.getElem?_eq_getElem (by omega)
            obtain ⟨blk, q1, v1⟩ := f2.rs.cell (ints_get hv)
            cases q1
            exact ⟨_, hv, v1⟩
          have inner : ∀ (m2 i : Nat), l - i = m2 → i ≤ l → Y [.int .i64 (costM cs (lenM cs most.toNat) i), .int .i64 i] H2 := by
            intro m2
            induction m2 with
            | zero =>
              intro i hm2 hi
              refine hY _ _ H2 (br_n (by omega) (br_dec (fun _ => R1 H2 e12) (fun h40 => ?_)))
              refine c14 h2 (by omega) fun H3 q k c' f3 e3 => ⟨_, _, _, rfl, ?_⟩
              have hil : i = cs.length := by omega
              subst hil
              have hk : k = (leavesM cs).length := by
                have := f3.rs.len
                rw [ints_len, sortD_eq] at this
                simp [ssort_len] at this
                omega
              have e13 := e12.trans e3
              have hmm : most = ((most.toNat : Nat) : Int) := by omega
              have hsl := ssort_len (leavesM cs)
              have hc := c13 (m := most.toNat) (c := c') (S := fun j => csum ((ssort (leavesM cs)).take j)) f3.rs.is (by omega) (by omega) (by omega) rfl (sums_rng ok.rng (by omega)) (fun j hj => by
                rw [sortD_eq, drop_sum _ _ (by omega), hk, hsl]) (R := fun r49 H_50 => ∃ r51 : Int, r49 = Value.int .i64 r51 ∧ R (Value.bool ((costM cs (lenM cs most.toNat) cs.length : Int) == r51)) H_50) (fun hz => ⟨_, rfl, R2 _ _ _ (cost_zero ok (by omega)) e13⟩) (fun v hv1 hv => ⟨_, rfl, R2 _ _ _ (cost_one ok (by omega) hv) e13⟩) (fun v hv2 hv H4 e4 => ⟨_, rfl, R2 _ _ _ (by
                  obtain ⟨w, w1, w2⟩ := cost_two ok (by omega)
                  rw [hsl] at w1
                  rw [hk] at hv
                  have : w = v := Option.some.inj (w1.symm.trans hv)
                  rw [w2, this, List.take_of_length_le (by omega)]) (e13.trans e4)⟩) (fun hv2 => by
                  obtain ⟨w, w1, w2⟩ := cost_two ok (by omega)
                  rw [hsl] at w1
                  exact ⟨w, by rw [hk]; exact w1⟩)
              rw [← hmm] at hc
              exact hc
            | succ m2 ih2 =>
              intro i hm2 hi
              have wi : IntKind.wrap .i64 ((i : Int) + 1) = ((i + 1 : Nat) : Int) := by rw [wrap_id (by omega) (by omega)]; omega
              have ha : cs[i]? = some cs[i] := List.getElem?_eq_getElem (by omega)
              generalize cs[i] = a at ha
              obtain ⟨a1, q1, v1⟩ := h2.cell (ints_get ha)
              obtain ⟨u, hu, cu⟩ := lget i (by omega)
              obtain ⟨z1, z2⟩ := lenM_zero ok ha hu
              obtain ⟨g1, g2⟩ := ok.rng a (List.mem_of_getElem? ha)
              obtain ⟨g3, g4⟩ := okc.w.rng u (List.mem_of_getElem? hu)
              have p1 := Int.mul_nonneg g1 g3
              have p2 : a * u ≤ 1099511627776 * 16 := Int.mul_le_mul g2 g4 g3 (by omega)
              have hs := costM_succ ha hu
              have r1 := crng (i + 1) (by omega) hlen
              have wc : IntKind.wrap .i64 (costM cs (lenM cs most.toNat) i + IntKind.wrap .i64 (a * u)) = costM cs (lenM cs most.toNat) (i + 1) := by
                rw [wrap_id (n := a * u) (by omega) (by omega), ← hs, wrap_id (by omega) (by omega)]
              have hb : (!((u == (0 : Int)) == (a == (0 : Int)))) = false := by
                have : (u == (0 : Int)) = (a == (0 : Int)) := by rw [Bool.eq_iff_iff, beq_iff_eq, beq_iff_eq]; exact z1
                rw [this]; simp
              refine hY _ _ H2 (br_y (by omega) ⟨_, q1, by omega, by omega, a, by simpa using v1, ?_⟩)
              intro J4 hJ4
              refine ⟨_, rfl, by omega, by omega, u, by simpa using cu, br_f hb ⟨_, rfl, by omega, by omega, u, by simpa using cu, br_n (by omega) (hJ4 H2 ⟨_, rfl, by omega, by omega, u, by simpa using cu, ?_⟩)⟩⟩
              rw [wi, wc]
              exact ih2 (i + 1) (by omega) (by omega)
          have := inner l 0 (by omega) (by omega)
          simpa [costM] using this
      | succ m ih =>
        intro t rt hm ht hrt
        have wt' : IntKind.wrap .i64 ((t : Int) + 1) = ((t + 1 : Nat) : Int) := by rw [wrap_id (by omega) (by omega)]; omega
        have hv : cs[t]? = some cs[t] := List.getElem?_eq_getElem (by omega)
        have htk : cs.take (t + 1) = cs.take t ++ [cs[t]] := List.take_succ_eq_append_getElem (by omega)
        generalize cs[t] = a at hv htk
        obtain ⟨a1, q1, v1⟩ := h1.cell (ints_get hv)
        have hll : (leavesM (cs.take t)).length ≤ l := by have := leavesFrom_len 0 (cs.take t); unfold leavesM; simp at this; omega
        have wl : IntKind.wrap .i64 (((leavesM (cs.take t)).length : Int) + 1) = (((leavesM (cs.take t)).length + 1 : Nat) : Int) := by rw [wrap_id (by omega) (by omega)]; omega
        have hsn := leaves_take_len hv
        refine hX _ _ _ H1 (br_y (by omega) ⟨_, q1, by omega, by omega, a, by simpa using v1, ?_⟩)
        rw [wt', wl]
        intro J2 hJ2
        have go : ∀ r2 : Bool, (r2 = true ↔ rt = true ∧ 0 ≤ a ∧ a ≤ 1099511627776) → J2 [.bool r2] H1 := fun r2 hr2 => by
          have nx := ih (t + 1) r2 (by omega) (by omega) (by
            rw [hr2, hrt, htk]
            constructor
            · rintro ⟨⟨b1, b2⟩, b3⟩
              refine ⟨b1, fun v hv' => ?_⟩
              rcases List.mem_append.1 hv' with hv' | hv'
              · exact b2 v hv'
              · rw [List.mem_singleton.1 hv']; exact b3
            · rintro ⟨b1, b2⟩
              exact ⟨⟨b1, fun v hv' => b2 v (List.mem_append_left _ hv')⟩, b2 a (List.mem_append_right _ List.mem_cons_self)⟩)
          rw [hsn] at nx
          refine hJ2 _ H1 (br_dec (fun hp => ?_) (fun hp => ?_))
          · rw [if_pos hp] at nx; exact nx
          · rw [if_neg hp] at nx; exact nx
        cases rt with
        | false => exact br_f rfl (go false (by simp))
        | true =>
          refine br_t rfl (br_dec (fun hp => go _ ?_) (fun hp => go _ ?_))
          · rw [decide_eq_true_eq]; constructor
            · intro hh; exact ⟨rfl, by omega, hh⟩
            · intro hh; exact hh.2.2
          · constructor
            · intro hh; cases hh
            · intro hh; omega
    have := loop l 0 right (by omega) (by omega) (by rw [hright]; simp)
    simpa [leavesM, leavesFrom] using this
  refine br_dec (fun g1 => br_dec (fun g2 => main _ ?_) (fun g2 => main _ ?_)) (fun g1 => main _ ?_)
  · rw [decide_eq_true_eq]; omega
  · constructor
    · intro hh; cases hh
    · intro hh; omega
  · constructor
    · intro hh; cases hh
    · intro hh; omega

end Go.Proofs
