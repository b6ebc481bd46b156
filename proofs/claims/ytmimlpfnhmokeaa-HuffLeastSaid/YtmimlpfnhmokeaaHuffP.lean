/-
  OWN WORK. HuffOrder and HuffBack over heaps.
-/
import Derived.Test.YtmimlpfnhmokeaaHuffO
import Derived.Test.YtmimlpfnhmokeaaHuffM
set_option linter.unusedVariables false
set_option linter.unusedSimpArgs false
namespace Go.Proofs
open Go.Sh

theorem leaves_take_len {cs : List Int} {i : Nat} {a : Int} (h : cs[i]? = some a) : (leavesM (cs.take (i + 1))).length = (leavesM (cs.take i)).length + if a > 0 then 1 else 0 := by
  rw [leavesM_snoc h, List.length_append]
  split <;> rfl

set_option maxHeartbeats 1000000 in
theorem law4 {H : Heap} {p : Option Addr} {l c : Nat} {cs : List Int} {most : Int} (h : IS H p l (ints cs)) : CallsH Try.prog 4 #[.slice p l c, .int .i64 most] H (fun u H' => u = .bool true ∧ Ext H H') := by
  have hl : cs.length = l := by have := h.len; rw [ints_len] at this; omega
  refine Try.s4 ?_
  generalize hRd : (fun (u : Value) (H' : Heap) => u = Value.bool true ∧ Ext H H') = R
  have R1 : ∀ H', Ext H H' → R (.bool true) H' := fun H' e => by subst hRd; exact ⟨rfl, e⟩
  clear hRd
  unfold Try.S4
  refine c10 fun H1 e1 => ⟨_, rfl, br_f rfl (br_dec (fun _ => R1 H1 e1) (fun h300 => ?_))⟩
  refine c11 (h.ext e1) (by omega) (fun H2 e2 hn => ⟨_, _, _, _, rfl, br_t rfl (R1 H2 (e1.trans e2))⟩) fun ok H2 b f2 e2 => ⟨_, _, _, _, rfl, br_f rfl ?_⟩
  have e12 := e1.trans e2
  have h2 := h.ext e12
  obtain ⟨okc, hlen⟩ := lenM_ok ok
  have m2 := ok.m2
  intro X hX
  have lget : ∀ i : Nat, i < l → ∃ v, (lenM cs most.toNat)[i]? = some v ∧ cell H2 ⟨b, i, none⟩ = some (.int .i64 v) := fun i hi => by
    have hv : (lenM cs most.toNat)[i]? = some (lenM cs most.toNat)[i] := List.getElem?_eq_getElem (by omega)
    obtain ⟨blk, q1, v1⟩ := f2.rs.cell (ints_get hv)
    cases q1
    exact ⟨_, hv, v1⟩
  have loop : ∀ (m i : Nat), l - i = m → i ≤ l → X [.int .i64 ((leavesM (cs.take i)).length : Nat), .int .i64 i] H2 := by
    intro m
    induction m with
    | zero =>
      intro i hm hi
      rw [List.take_of_length_le (by omega)]
      refine hX _ _ H2 (br_n (by omega) ?_)
      refine c15 f2.rs.is (fun hn => absurd okc.w hn) fun _ => ⟨_, _, rfl, br_dec (fun _ => R1 H2 e12) (fun hge => ?_)⟩
      obtain ⟨X2, t⟩ := two_of ok (by omega)
      rw [t.whole (by omega)]
      exact R1 H2 e12
    | succ m ih =>
      intro i hm hi
      have wi : IntKind.wrap .i64 ((i : Int) + 1) = ((i + 1 : Nat) : Int) := by rw [wrap_id (by omega) (by omega)]; omega
      have hv : cs[i]? = some cs[i] := List.getElem?_eq_getElem (by omega)
      generalize cs[i] = a at hv
      obtain ⟨a1, q1, v1⟩ := h2.cell (ints_get hv)
      have hll : (leavesM (cs.take i)).length ≤ l := by have := leavesFrom_len 0 (cs.take i); unfold leavesM; simp at this; omega
      have wl : IntKind.wrap .i64 (((leavesM (cs.take i)).length : Int) + 1) = (((leavesM (cs.take i)).length + 1 : Nat) : Int) := by rw [wrap_id (by omega) (by omega)]; omega
      have hsn := leaves_take_len hv
      obtain ⟨u, hu, cu⟩ := lget i (by omega)
      refine hX _ _ H2 (br_y (by omega) ⟨_, q1, by omega, by omega, a, by simpa using v1, ?_⟩)
      rw [wi, wl]
      intro J hJ
      have go : J [.int .i64 ((leavesM (cs.take (i + 1))).length : Nat)] H2 := by
        refine hJ _ H2 ?_
        intro Y hY
        have inner : ∀ (m2 j : Nat), l - j = m2 → j ≤ l → Y [.int .i64 j] H2 := by
          intro m2
          induction m2 with
          | zero => intro j hm2 hj; exact hY _ H2 (br_n (by omega) (ih (i + 1) (by omega) (by omega)))
          | succ m2 ih2 =>
            intro j hm2 hj
            have wj : IntKind.wrap .i64 ((j : Int) + 1) = ((j + 1 : Nat) : Int) := by rw [wrap_id (by omega) (by omega)]; omega
            have hw : cs[j]? = some cs[j] := List.getElem?_eq_getElem (by omega)
            generalize cs[j] = b' at hw
            obtain ⟨a2, q2, v2⟩ := h2.cell (ints_get hw)
            obtain ⟨v, hv', cv⟩ := lget j (by omega)
            have nx := ih2 (j + 1) (by omega) (by omega)
            refine hY _ H2 (br_y (by omega) ⟨_, q2, by omega, by omega, b', by simpa using v2, ?_⟩)
            rw [wj]
            refine br_dec (fun hab => br_dec (fun hb0 => ⟨_, rfl, by omega, by omega, u, by simpa using cu, _, rfl, by omega, by omega, v, by simpa using cv, br_n ?_ nx⟩) (fun _ => nx)) (fun _ => nx)
            have := lenM_order ok hv hw hab hb0 hu hv'
            omega
        exact inner l 0 (by omega) (by omega)
      refine br_dec (fun hp => ?_) (fun hp => ?_)
      · rw [if_pos hp] at hsn; rw [hsn] at go; exact go
      · rw [if_neg hp] at hsn; rw [hsn] at go; exact go
  have := loop l 0 (by omega) (by omega)
  simpa [leavesM, leavesFrom] using this

set_option maxHeartbeats 1000000 in
theorem law8 {H : Heap} {p ps : Option Addr} {l c l3 c3 : Nat} {cs ss : List Int} {most : Int} (h : IS H p l (ints cs)) (hs : IS H ps l3 (ints ss)) : CallsH Try.prog 8 #[.slice p l c, .int .i64 most, .slice ps l3 c3] H (fun u H' => u = .bool true ∧ Ext H H') := by
  have hl : cs.length = l := by have := h.len; rw [ints_len] at this; omega
  have hsl : ss.length = l3 := by have := hs.len; rw [ints_len] at this; omega
  refine Try.s8 ?_
  generalize hRd : (fun (u : Value) (H' : Heap) => u = Value.bool true ∧ Ext H H') = R
  have R1 : ∀ H', Ext H H' → R (.bool true) H' := fun H' e => by subst hRd; exact ⟨rfl, e⟩
  clear hRd
  unfold Try.S8
  refine c10 fun H1 e1 => ⟨_, rfl, br_f rfl ?_⟩
  intro J hJ
  refine br_dec (fun _ => R1 H1 e1) (fun h300 => br_dec (fun _ => R1 H1 e1) (fun s300 => hJ H1 ?_))
  refine c11 (h.ext e1) (by omega) (fun H2 e2 hn => ⟨_, _, _, _, rfl, br_t rfl (R1 H2 (e1.trans e2))⟩) fun ok H2 b f2 e2 => ⟨_, _, _, _, rfl, br_f rfl ?_⟩
  obtain ⟨okc, hlen⟩ := lenM_ok ok
  generalize lenM cs most.toNat = ls at f2 okc hlen
  have hll : ls.length = l := by omega
  refine c16 f2.rs.is (fun hn => absurd okc hn) fun _ H3 cb fc e3 => ⟨_, _, _, _, rfl, ?_⟩
  refine c18 (f2.rs.ext e3).is (fun hn => absurd okc hn) fun _ H4 d q L k P F hd fs hP hL t e4 => ⟨_, _, rfl, ?_⟩
  have e14 := e1.trans (e2.trans (e3.trans e4))
  have f4 := (f2.rs.ext e3).ext e4
  have c4 := fc.rs.ext e4
  have s4 := hs.ext e14
  have hrng := t.rng2 hP hL okc.w.len
  have l300 := okc.w.len
  intro J2 hJ2
  refine br_f rfl (br_f rfl (br_f rfl (hJ2 H4 ?_)))
  intro X hX
  have lget : ∀ i, i < l → ∃ n : Nat, ls[i]? = some (n : Int) ∧ n ≤ 16 ∧ cell H4 ⟨b, i, none⟩ = some (.int .i64 n) := fun i hi => by
    have hv : ls[i]? = some ls[i] := List.getElem?_eq_getElem (by omega)
    have hr := okc.w.rng _ (List.mem_of_getElem? hv)
    obtain ⟨blk, q1, v1⟩ := f4.cell (ints_get hv)
    cases q1
    have e : ls[i] = ((ls[i].toNat : Nat) : Int) := by omega
    refine ⟨ls[i].toNat, by rw [hv]; congr 1, by omega, by rw [← e]; exact v1⟩
  have cget : ∀ i, i < l → cell H4 ⟨cb, i, none⟩ = some (.int .i64 (codeM ls i)) := fun i hi => by
    obtain ⟨blk, q1, v1⟩ := c4.cell (ints_get (codesM_get (ls := ls) (i := i) (by omega)))
    cases q1; exact v1
  have loop : ∀ (m i : Nat), l3 - i = m → i ≤ l3 → X [.int .i64 (0 : Int), .int .i64 i] H4 := by
    intro m
    induction m with
    | zero => intro i hm hi; exact hX _ _ H4 (br_n (by omega) (R1 H4 e14))
    | succ m ih =>
      intro i hm hi
      have wi : IntKind.wrap .i64 ((i : Int) + 1) = ((i + 1 : Nat) : Int) := by rw [wrap_id (by omega) (by omega)]; omega
      have hv : ss[i]? = some ss[i] := List.getElem?_eq_getElem (by omega)
      generalize ss[i] = s at hv
      obtain ⟨a1, q1, v1⟩ := s4.cell (ints_get hv)
      refine hX _ _ H4 (br_y (by omega) ?_)
      rw [wi]
      intro J3 hJ3
      have nx : J3 [.int .i64 (0 : Int)] H4 := hJ3 _ H4 (ih (i + 1) (by omega) (by omega))
      refine ⟨_, q1, by omega, by omega, s, by simpa using v1, ?_⟩
      intro J4 hJ4
      refine br_dec (fun _ => nx) (fun s0 => br_dec (fun _ => nx) (fun s1 => ?_))
      have hsn : ((s.toNat : Nat) : Int) = s := by omega
      obtain ⟨n, hn, hn16, cn⟩ := lget s.toNat (by omega)
      refine ⟨_, rfl, by omega, by omega, n, by simpa using cn, br_eq (fun _ => nx) (fun hn0 => hJ4 H4 ?_)⟩
      refine ⟨_, rfl, by omega, by omega, n, by simpa using cn, ?_⟩
      have wn : IntKind.wrap .i64 ((n : Int) - 1) = ((n - 1 : Nat) : Int) := by rw [wrap_id (by omega) (by omega)]; omega
      rw [wn]
      intro Y hY
      have crng := code_rng okc hn (by omega)
      have inner : ∀ (kk st : Nat), kk + 1 ≤ n → P[st]? = some (n - 1 - kk, codeM ls s.toNat / 2 ^ (kk + 1)) → Y [.int .i64 st, .int .i64 kk] H4 := by
        intro kk
        induction kk with
        | zero =>
          intro st hk hst
          refine hY _ _ H4 (br_y (by omega) ⟨_, rfl, by omega, by omega, codeM ls s.toNat, by simpa using cget s.toNat (by omega), by omega, ?_⟩)
          rw [andI_one, shr64 (by omega) (by omega), Int.toNat_natCast]
          have := step_sym okc hP t (bit := codeM ls s.toNat / 2 ^ 0 % 2) (s := s.toNat) hst (by rw [hn]; congr 1; omega) (by
            rw [Int.emod_emod, div_bit]; simp)
          refine c19 hd fs hrng (by omega) st _ ⟨_, _, rfl, ?_⟩
          rw [this]
          intro J5 hJ5
          have fin : J5 [] H4 := hJ5 H4 (hY _ _ H4 (br_n (by
            have : IntKind.wrap .i64 (((0 : Nat) : Int) - 1) = -1 := by decide
            rw [this]; omega) nx))
          refine br_n (by omega) (br_t rfl (br_ne (fun hh => absurd hsn hh) (fun _ => br_ne (fun hh => absurd rfl hh) (fun _ => fin))))
        | succ kk ihk =>
          intro st hk hst
          have wk : IntKind.wrap .i64 (((kk + 1 : Nat) : Int) - 1) = (kk : Int) := by rw [wrap_id (by omega) (by omega)]; omega
          refine hY _ _ H4 (br_y (by omega) ⟨_, rfl, by omega, by omega, codeM ls s.toNat, by simpa using cget s.toNat (by omega), by omega, ?_⟩)
          rw [andI_one, shr64 (by omega) (by omega), Int.toNat_natCast, wk]
          obtain ⟨j, hj, e, hp⟩ := step_on okc hP t (bit := codeM ls s.toNat / 2 ^ (kk + 1) % 2) (s := s.toNat) hst hn (by omega) (by
            rw [Int.emod_emod, div_bit]
            have : n - (n - 1 - (kk + 1) + 1) = kk + 1 := by omega
            rw [this])
          rw [Int.emod_emod, div_bit] at hp
          have e2 : n - 1 - (kk + 1) + 1 = n - 1 - kk := by omega
          rw [e2] at hp
          refine c19 hd fs hrng (by omega) st _ ⟨_, _, rfl, ?_⟩
          rw [e]
          intro J5 hJ5
          have fin : J5 [] H4 := hJ5 H4 (ihk j (by omega) hp)
          exact br_y (by omega) (br_ne (fun hh => absurd rfl hh) (fun _ => br_n (by omega) (br_f (by simp; omega) fin)))
      refine inner (n - 1) 0 (by omega) ?_
      have e1 : n - 1 - (n - 1) = 0 := by omega
      have e2 : n - 1 + 1 = n := by omega
      rw [e1, e2, Int.ediv_eq_zero_of_lt crng.1 crng.2]
      exact t.root
  exact loop l3 0 (by omega) (by omega)

end Go.Proofs
