/-
  OWN WORK. Several texts in one: JpO, JpP, JpQ, JpR, JpS, JpT, JpH, JpU, JpW, JqA, JpV, JpX, JqC, FlUa.
-/
import Derived.Test.YtcggbdggpdcnjaaMgJpegNearD
import Derived.Test.YtcggbdggpdcnjaaMgJpegNearC

set_option linter.unusedVariables false
set_option linter.unusedSimpArgs false
namespace Go.Proofs
open Go.Sh
variable {H0 H : Heap} {σ : List Rs} {R : Value → Heap → Prop}
theorem getD_byte {l : List Int} (h : ∀ x ∈ l, 0 ≤ x ∧ x < 256) (i : Nat) : 0 ≤ l.getD i 0 ∧ l.getD i 0 < 256 := by
 rcases Nat.lt_or_ge i l.length with hi | hi
 ·exact h _ (List.mem_of_getElem? (get_gD l 0 hi))
 ·rw [gD_none l 0 hi]; omega
theorem byte_parts' {c : Int} (h : 0 ≤ c ∧ c < 256) : andI .i64 c 15 = c % 16 ∧ shrI .i64 c 4 = c / 16 := by
 obtain ⟨n, rfl⟩ := Int.eq_ofNat_of_zero_le h.1
 have := byte_parts ⟨n, by omega⟩
 simp only at this
 rw [this.1, this.2]
 omega
theorem cut16M_id {v : Int} (h : -32768 ≤ v ∧ v ≤ 32767) : cut16M v = v := by unfold cut16M; omega
theorem cut16M_rng (v : Int) : -32768 ≤ cut16M v ∧ cut16M v ≤ 32767 := by unfold cut16M; omega
section
variable {u a : Nat} {B : List Int}
structure NumJ (H0 : Heap) (σ : List Rs) (u a n : Nat) (B : List Int) (r : Int) (okb : Bool) (a2 : Nat) (H : Heap) : Prop where
 rng : -32768 ≤ r ∧ r ≤ 32768
 st : St H0 H (unR u B a2 okb :: σ)
 no : okb = false → numJ n ((bitsH B).drop a) = none
 yes : okb = true → numJ n ((bitsH B).drop a) = some (r, (bitsH B).drop a2)
theorem number_join (hs : St H0 H (unR u B a true :: σ)) {n : Nat} (hn : n ≤ 15) :
    CallsH Try.prog 54 #[.pointer (some ⟨u, 0, none⟩), .int .i64 (n : Nat)] H fun v H' => ∃ r okb a2, v = .int .i64 r ∧ NumJ H0 σ u a n B r okb a2 H' :=
  c54 hs hn (fun hno v H' hv hs' => ⟨v, false, a, rfl, hv, hs', fun _ => hno, nofun⟩) (fun v hyes hv H' hs' => ⟨v, true, _, rfl, hv, hs', nofun, fun _ => hyes⟩)
set_option maxHeartbeats 1000000 in
theorem c31 (hs : St H0 H (unR u B a true :: σ)) {j t0 t1 : Nat} {Q : Heap → Prop} {T0 T1 : TabJ} (hj : σ[j]? = some (.pers Q)) (hT0 : TabP H0 Q t0 T0) (hT1 : TabP H0 Q t1 T1) {la : Int} (hla : -100000 ≤ la ∧ la ≤ 100000)
    (hbad : blockJ (T0, T1) la ((bitsH B).drop a) = none → ∀ X H' a', X.length = 64 → St H0 H' (unR u B a' false :: σ) → R (.agg (ints X).toArray) H')
    (hR : ∀ X a', blockJ (T0, T1) la ((bitsH B).drop a) = some (X, (bitsH B).drop a') → X.length = 64 → ∀ H', St H0 H' (unR u B a' true :: σ) → R (.agg (ints X).toArray) H') :
    CallsH Try.prog 31 #[.pointer (some ⟨u, 0, none⟩), .agg #[.pointer (some ⟨t0, 0, none⟩), .pointer (some ⟨t1, 0, none⟩)], .int .i64 la] H R := by
  obtain ⟨res, hres⟩ : ∃ r, blockJ (T0, T1) la ((bitsH B).drop a) = r := ⟨_, rfl⟩
  rw [hres] at hbad
  simp only [hres] at hR
  unfold blockJ at hres
  simp only at hres
  refine Try.s31 ?_
  unfold Try.S31
  refine hs.alc fun b4 H1 hs1 => hs1.alc fun b6 H2 hs2 => ⟨by decide, by decide, _, hs2.get 1 (j := 0) rfl rfl, ?_⟩
  rw [zeroA] at hs2
  have hs2 : St H0 H2 (unR u B a true :: .cell b6 (ints (List.replicate 64 0)).toArray 40 :: .cell b4 #[.pointer (some ⟨t0, 0, none⟩), .pointer (some ⟨t1, 0, none⟩)] 76 :: σ) := hs2.front 2 rfl
  clear hs1
  refine c52 hs2 (j := j + 2) hj hT0 (fun hno H3 a' hs3 => ⟨_, rfl, ?_⟩) (fun s a' hsy hsl H3 hs3 => ⟨_, rfl, ?_⟩)
  · rw [hno] at hres
    simp only at hres
    intro J hJ
    refine br_n (by decide) (hJ H3 ⟨_, rfl, _, unR_ok hs3, br_t rfl ?_⟩)
    exact retA hs3 1 rfl (by simp) fun H4 hs4 => hbad hres.symm _ H4 a' (by simp) ((hs4.del 1).del 1)
  rw [hsy] at hres
  simp only at hres
  have hv := getD_byte hT0.rng s
  intro J hJ
  by_cases h11 : 11 < T0.2.getD s 0
  · rw [if_pos h11] at hres
    refine br_y (by omega) ⟨_, rfl, unR_fail hs3 false fun H4 hs4 => hJ H4 ⟨_, rfl, _, unR_ok hs4, br_t rfl ?_⟩⟩
    exact retA hs4 1 rfl (by simp) fun H5 hs5 => hbad hres.symm _ H5 a' (by simp) ((hs5.del 1).del 1)
  rw [if_neg h11] at hres
  refine br_n (by omega) (hJ H3 ⟨_, rfl, _, unR_ok hs3, br_f rfl ?_⟩)
  clear hJ J
  obtain ⟨n, hn⟩ := Int.eq_ofNat_of_zero_le hv.1
  rw [hn] at hres h11 ⊢
  rw [Int.toNat_natCast] at hres
  refine (number_join hs3 (by omega)).mono fun w H4 ⟨r, okb, a2, hw, hnum⟩ => ⟨r, hw, c53 ⟨_, rfl, by decide, by decide, ?_⟩⟩
  obtain ⟨hrr, hs4, hno, hyes⟩ := hnum
  have hc := cut16M_rng (la + r)
  rw [wrap_id (n := la + r) (by omega) (by omega)]
  refine (hs4.front 1 rfl).putA 0 (j := 0) rfl (by simp) fun H5 hs5 => c13 fun H6 e6 => ⟨_, rfl, ((hs5.step e6).alc fun b29 H7 hs7 => ⟨by rw [intsA_size]; rfl, hs7.putAllA 0 rfl (by simp [zigI_len]) fun H8 hs8 => ?_⟩)⟩
  have hs8 : St H0 H8 (unR u B a2 okb :: .cell b29 (ints zigI).toArray 40 :: .cell b6 (ints (zeros64.set 0 (cut16M (la + r)))).toArray 40 :: .cell b4 #[.pointer (some ⟨t0, 0, none⟩), .pointer (some ⟨t1, 0, none⟩)] 76 :: σ) := hs8.front 2 rfl
  clear hs7 hs5 hs4 hs3 hs2
  intro X hX
  -- the end
  have fin : ∀ (H9 : Heap) (okb : Bool) (out : List Int) (a3 : Nat), out.length = 64 → St H0 H9 (unR u B a3 okb :: .cell b29 (ints zigI).toArray 40 :: .cell b6 (ints out).toArray 40 :: .cell b4 #[.pointer (some ⟨t0, 0, none⟩), .pointer (some ⟨t1, 0, none⟩)] 76 :: σ) →
      (okb = false → res = none) → (okb = true → res = some (out, (bitsH B).drop a3)) →
      ∃ v : Array Value, v.size = 64 ∧ rowIn H9 ⟨b6, 0, none⟩ v ∧ v.size = 64 ∧ stAt H9 ⟨b6, 0, none⟩ v.toList fun H' => ∃ re : Array Value, re.size = 64 ∧ rowIn H' ⟨b6, 0, none⟩ re ∧ R (.agg re) H' := fun H9 okb out a3 hol hs9 hno hyes => by
    refine retA (K := fun re H' => R (.agg re) H') hs9 2 rfl hol fun H10 hs10 => ?_
    have hs10 : St H0 H10 (unR u B a3 okb :: σ) := ((hs10.del 1).del 1).del 1
    cases okb with
    | false => exact hbad (hno rfl) _ H10 a3 hol hs10
    | true => exact hR out a3 (hyes rfl) hol H10 hs10
  -- with no more to read
  have stop : ∀ (H9 : Heap) (out : List Int) (a3 : Nat) (k : Int), out.length = 64 → St H0 H9 (unR u B a3 false :: .cell b29 (ints zigI).toArray 40 :: .cell b6 (ints out).toArray 40 :: .cell b4 #[.pointer (some ⟨t0, 0, none⟩), .pointer (some ⟨t1, 0, none⟩)] 76 :: σ) →
      res = none → X [.int .i64 k] H9 := fun H9 out a3 k hol hs9 hn => by
    refine hX _ H9 ?_
    intro J hJ
    refine br_dec (fun h => ⟨_, rfl, _, unR_ok hs9, br_f rfl ?_⟩) (fun h => ?_)
    · exact fin H9 false out a3 hol hs9 (fun _ => hn) (fun h => by cases h)
    · exact fin H9 false out a3 hol hs9 (fun _ => hn) (fun h => by cases h)
  have loop : ∀ (m k : Nat) (out : List Int) (a3 : Nat) (H9 : Heap), 64 - k ≤ m → 1 ≤ k → k ≤ 64 → out.length = 64 → acJ T1 k out ((bitsH B).drop a3) = res → St H0 H9 (unR u B a3 true :: .cell b29 (ints zigI).toArray 40 :: .cell b6 (ints out).toArray 40 :: .cell b4 #[.pointer (some ⟨t0, 0, none⟩), .pointer (some ⟨t1, 0, none⟩)] 76 :: σ) → X [.int .i64 (k : Nat)] H9 := by
    intro m
    induction m with
    | zero =>
      intro k out a3 H9 hm hk1 hk hol he hs9
      rw [acJ, if_neg (by omega)] at he
      refine hX _ H9 ?_
      intro J hJ
      exact br_n (by omega) (fin H9 true out a3 hol hs9 (fun h => by cases h) (fun _ => he.symm))
    | succ m ih =>
      intro k out a3 H9 hm hk1 hk hol he hs9
      refine hX _ H9 ?_
      intro J hJ
      by_cases hlt : k < 64
      · rw [acJ, if_pos hlt] at he
        refine br_y (by omega) ⟨_, rfl, _, unR_ok hs9, br_t rfl (hJ H9 ⟨by decide, by decide, _, hs9.get 3 (j := 1) rfl rfl, ?_⟩)⟩
        clear hJ J
        refine c52 hs9 (j := j + 3) hj hT1 (fun hno H3 a' hs3 => ⟨_, rfl, by decide, ?_⟩) (fun s a' hsy hsl H3 hs3 => ⟨_, rfl, by decide, ?_⟩)
        · rw [hno] at he
          intro J hJ
          exact ⟨_, rfl, _, unR_ok hs3, br_t rfl (fin H3 false out a' hol hs3 (fun _ => he.symm) (fun h => by cases h))⟩
        · rw [hsy] at he
          simp only at he
          have hv := getD_byte hT1.rng s
          generalize T1.2.getD s 0 = c at he hv ⊢
          obtain ⟨e1, e2⟩ := byte_parts' hv
          rw [e1, e2, wrap_id (n := (k : Int) + c / 16) (by omega) (by omega)]
          intro J hJ
          refine ⟨_, rfl, _, unR_ok hs3, br_f rfl (br_eq (fun h0 => ?_) (fun h0 => ?_))⟩
          · rw [if_pos h0] at he
            exact fin H3 true out a' hol hs3 (fun h => by cases h) (fun _ => he.symm)
          · rw [if_neg h0] at he
            have bad : (10 < c % 16 ∨ c % 16 = 0 ∧ c / 16 ≠ 15 ∨ 63 < k + (c / 16).toNat) → ∃ a57 : Addr, some (⟨u, 0, none⟩ : Addr) = some a57 ∧ stAt H3 (.add a57 1) [.bool false] fun H58 => ∃ v59 : Array Value, v59.size = 64 ∧ rowIn H58 ⟨b6, 0, none⟩ v59 ∧ v59.size = 64 ∧ stAt H58 ⟨b6, 0, none⟩ v59.toList fun H60 => ∃ re61 : Array Value, re61.size = 64 ∧ rowIn H60 ⟨b6, 0, none⟩ re61 ∧ R (.agg re61) H60 := fun hb => by
              rw [if_pos hb] at he
              exact ⟨_, rfl, unR_fail hs3 false fun H4 hs4 => fin H4 false out a' hol hs4 (fun _ => he.symm) (fun h => by cases h)⟩
            have good : ¬ (10 < c % 16 ∨ c % 16 = 0 ∧ c / 16 ≠ 15 ∨ 63 < k + (c / 16).toNat) → J [] H3 := fun hb => by
              rw [if_neg hb] at he
              refine hJ H3 (br_dec (fun hc0 => ?_) (fun hc0 => ?_))
              · rw [if_neg (by omega)] at he
                have hk2 : k + (c / 16).toNat < 64 := by omega
                obtain ⟨n2, hn2⟩ := Int.eq_ofNat_of_zero_le (show 0 ≤ c % 16 by omega)
                rw [hn2] at he ⊢
                rw [Int.toNat_natCast] at he
                have ek : (k : Int) + c / 16 = ((k + (c / 16).toNat : Nat) : Int) := by omega
                rw [ek]
                have hz := zigI_get hk2
                have hzl := zig_lt hk2
                refine ⟨by omega, by omega, ((zig (k + (c / 16).toNat) : Nat) : Int), ?_, (number_join hs3 (by omega)).mono fun w H4 ⟨r2, okb2, a4, hw, hnum⟩ => ⟨r2, hw, .inr ⟨((zig (k + (c / 16).toNat) : Nat) : Int), ?_, rfl⟩, by omega, by omega, ?_⟩⟩
                · rw [add_none, Nat.zero_add, Int.toNat_natCast, Nat.mul_one]; exact hs3.rdA 1 rfl hz
                · rw [add_none, Nat.zero_add, Int.toNat_natCast, Nat.mul_one]; exact hnum.st.rdA 1 rfl hz
                · rw [add_none, Nat.zero_add, Int.toNat_natCast, Nat.mul_one, wrap_id (by omega) (by omega)]
                  refine hnum.st.putA 2 rfl (by rw [hol]; exact hzl) fun H5 hs5 => ?_
                  cases okb2 with
                  | false =>
                    rw [hnum.no rfl] at he
                    exact stop H5 _ a4 _ (by rw [List.length_set]; exact hol) hs5 he.symm
                  | true =>
                    rw [hnum.yes rfl] at he
                    simp only at he
                    rw [show ((k + (c / 16).toNat : Nat) : Int) + 1 = ((k + (c / 16).toNat + 1 : Nat) : Int) by omega]
                    exact ih _ _ a4 H5 (by omega) (by omega) (by omega) (by rw [List.length_set]; exact hol) he hs5
              · rw [if_pos (by omega)] at he
                rw [wrap_id (by omega) (by omega), show (k : Int) + c / 16 + 1 = ((k + (c / 16).toNat + 1 : Nat) : Int) by omega]
                exact ih _ out a' H3 (by omega) (by omega) (by omega) hol he hs3
            refine br_dec (fun h1 => bad (by omega)) (fun h1 => br_eq (fun h2 => br_ne (fun h3 => bad (by omega)) (fun h3 => br_dec (fun h4 => bad (by omega)) (fun h4 => good (by omega)))) (fun h2 => br_dec (fun h4 => bad (by omega)) (fun h4 => good (by omega))))
      · rw [acJ, if_neg hlt] at he
        exact br_n (by omega) (fin H9 true out a3 hol hs9 (fun h => by cases h) (fun _ => he.symm))
  cases okb with
  | false =>
    rw [hno rfl] at hres
    exact stop H8 _ a2 _ (by rw [List.length_set, zeros64_len]) hs8 hres.symm
  | true =>
    rw [hyes rfl] at hres
    exact loop 63 1 _ a2 H8 (by omega) (by omega) (by omega) (by rw [List.length_set, zeros64_len]) hres hs8
end
end Go.Proofs
namespace Go.Proofs
open Go.Sh
variable {H0 H : Heap} {σ : List Rs} {R : Value → Heap → Prop}
def tabV (n : Nat) (f : Nat → Value) : Array Value := ((List.range n).map f).toArray
theorem tabV_size (n : Nat) (f : Nat → Value) : (tabV n f).size = n := by simp [tabV]
theorem tabV_get {n j : Nat} {f : Nat → Value} (h : j < n) : (tabV n f)[j]? = some (f j) := by simp [tabV, h]
def updV (f : Nat → Value) (j : Nat) (v : Value) : Nat → Value := fun i => if i = j then v else f i
theorem updV_at (f : Nat → Value) (j : Nat) (v : Value) : updV f j v j = v := if_pos rfl
theorem updV_ne {f : Nat → Value} {i j : Nat} {v : Value} (h : i ≠ j) : updV f j v i = f i := if_neg h
theorem tabV_set {n j : Nat} {f : Nat → Value} {v : Value} (h : j < n) : (tabV n f).setIfInBounds j v = tabV n (updV f j v) := by
 refine Array.ext_getElem? fun i => ?_
 rw [Array.getElem?_setIfInBounds, tabV_size]
 rcases Nat.lt_or_ge i n with hi | hi
 ·rw [tabV_get hi, tabV_get hi]
  by_cases e : j = i
  ·subst e; rw [if_pos rfl, if_pos h, updV_at]
  ·rw [if_neg e, updV_ne (Ne.symm e)]
 ·rw [if_neg (by omega), Array.getElem?_eq_none (by rw [tabV_size]; exact hi), Array.getElem?_eq_none (by rw [tabV_size]; exact hi)]
theorem updV_one {f : Nat → Value} (h : ∀ i, (f i).oneCell' = true) {j : Nat} {v : Value} (hv : v.oneCell' = true) : ∀ i, (updV f j v i).oneCell' = true := fun i => by
 unfold updV; split
 ·exact hv
 ·exact h i
theorem tabV_one {n : Nat} {f : Nat → Value} (h : ∀ i, (f i).oneCell' = true) : ∀ v ∈ (tabV n f).toList, v.oneCell' = true := fun v hv => by
 simp only [tabV, List.mem_map, List.mem_range] at hv
 obtain ⟨i, _, rfl⟩ := hv
 exact h i
theorem getV (hs : St H0 H σ) (i : Nat) {b n j : Nat} {f : Nat → Value} {ty : TypeId} (hi : σ[i]? = some (.cell b (tabV n f) ty)) (hj : j < n) : cell H ⟨b, j, none⟩ = some (f j) := hs.get i hi (tabV_get hj)
theorem putV (hs : St H0 H σ) (i : Nat) {b n j : Nat} {f : Nat → Value} {ty : TypeId} {v : Value} {K : Heap → Prop} (hi : σ[i]? = some (.cell b (tabV n f) ty)) (hj : j < n) (ho : v.oneCell' = true)
    (hK : ∀ H', St H0 H' (σ.set i (.cell b (tabV n (updV f j v)) ty)) → K H') : stAt H ⟨b, j, none⟩ [v] K :=
  hs.put i hi (by rw [tabV_size]; exact hj) ho fun H' hs' => hK H' (by rw [tabV_set hj] at hs'; exact hs')
structure SlB (H : Heap) (p : Option Addr) (l c : Nat) (b : List Int) : Prop where
 is : IS H p l (kints .u8 b)
 le : l ≤ c
 rng : ∀ x ∈ b, 0 ≤ x ∧ x < 256
theorem SlB.len {p : Option Addr} {l c : Nat} {b : List Int} (h : SlB H p l c b) : b.length = l := h.is.length
theorem IS.zero (H : Heap) (p : Option Addr) : IS H p 0 [] := ⟨rfl, fun i v h => by simp at h⟩
theorem SlB.cut {p : Option Addr} {l c : Nat} {b : List Int} (h : SlB H p l c b) {m n : Nat} (hm : m ≤ n) (hn : n ≤ l) : SlB H (if c = m then p else Option.map (fun x => Addr.add x (m * 1)) p) (n - m) (c - m) ((b.take n).drop m) := by
 have hl := h.len
 refine ⟨?_, by have := h.le; omega, fun x hx => h.rng x (List.mem_of_mem_take (List.mem_of_mem_drop hx))⟩
 have he : (b.take n).drop m = (b.drop m).take (n - m) := by rw [List.take_drop, show m + (n - m) = n by omega]
 rw [he]
 split
 ·have hle := h.le
  have : n - m = 0 := by omega
  rw [this, List.take_zero]
  exact IS.zero _ _
 ·cases p with
  | none =>
   have : l = 0 := by
    rcases Nat.eq_zero_or_pos l with h0 | h0
    ·exact h0
    ·obtain ⟨a, ha, _⟩ := h.is.get 0 _ (kints_get (get_gD b 0 (by omega))); cases ha
   have : n - m = 0 := by omega
   rw [this, List.take_zero]
   exact IS.zero _ _
  | some a =>
   have := h.is.part (i := m) (n := n - m) (by omega)
   simp only [Option.map_some, Nat.mul_one]
   rw [show kints .u8 ((b.drop m).take (n - m)) = ((kints .u8 b).drop m).take (n - m) by simp [kints, List.map_drop, List.map_take]]
   exact this
theorem SlB.from_ {p : Option Addr} {l c : Nat} {b : List Int} (h : SlB H p l c b) {m : Nat} (hm : m ≤ l) : SlB H (if c = m then p else Option.map (fun x => Addr.add x (m * 1)) p) (l - m) (c - m) (b.drop m) := by
 have := h.cut hm (Nat.le_refl l)
 rwa [List.take_of_length_le (by rw [h.len]; exact Nat.le_refl _)] at this
theorem SlB.rd {p : Option Addr} {l c : Nat} {b : List Int} (h : SlB H0 p l c b) (he : Ext H0 H) {i : Int} (h0 : 0 ≤ i) (h1 : i < l) {K : Int → Prop} (hK : K (b.getD i.toNat 0)) :
    ∃ a : Addr, p = some a ∧ 0 ≤ i ∧ i < ((l : Nat) : Int) ∧ ∃ v : Int, Sh.cell H (Addr.add a (Int.toNat i * 1)) = some (.int .u8 v) ∧ K v :=
  (h.is.ext he).rd h0 h1 (get_gD b 0 (by rw [h.len]; omega)) hK
theorem SlB.byte {p : Option Addr} {l c : Nat} {b : List Int} (h : SlB H p l c b) (i : Nat) : 0 ≤ b.getD i 0 ∧ b.getD i 0 < 256 := getD_byte h.rng i
theorem big2 {x y : Int} (hx : 0 ≤ x ∧ x < 256) (hy : 0 ≤ y ∧ y < 256) : orI .i64 (shlI .i64 (IntKind.wrap .i64 x) (8 : Int)) (IntKind.wrap .i64 y) = x * 256 + y := by
 rw [wrap_id (n := x) (by omega) (by omega), wrap_id (n := y) (by omega) (by omega)]
 have e8 : (2 : Int) ^ 8 = 256 := by decide
 have := shl_of (x := x) (k := 8) hx.1 (by omega) (by omega)
 rw [show ((8 : Nat) : Int) = 8 from rfl] at this
 rw [this, or_sum' (a := y) (b := x) (k := 8) hy.1 (by omega) hx.1 (by omega)]
 omega
structure JrP (H0 : Heap) (Q : Heap → Prop) (f : Nat → Value) (p : Option Addr) (l c : Nat) (s : Jst) : Prop where
 b : f 0 = .slice p l c
 W : f 1 = .int .i64 s.W
 Ht : f 2 = .int .i64 s.Ht
 rgb : f 3 = .slice none 0 0
 half : f 4 = .bool s.half
 bl : f 5 = .slice none 0 0
 seen : f 6 = .bool s.seen
 wh : ∀ k, k < 3 → s.wh.getD k 0 < 4 ∧ f (7 + k) = .int .i64 (s.wh.getD k 0 : Nat)
 st : ∀ k, k < 4 → (s.st.getD k none = none ∧ f (10 + k) = .pointer none) ∨ ∃ L b, s.st.getD k none = some L ∧ L.length = 64 ∧ (∀ i, i < 64 → 1 ≤ L.getD i 0 ∧ L.getD i 0 ≤ 255) ∧ f (10 + k) = .pointer (some ⟨b, 0, none⟩) ∧ ∀ H, Q H → H[b]? = some (.cells (ints L).toArray 40)
 cd : ∀ k, k < 8 → (s.cd.getD k none = none ∧ f (14 + k) = .pointer none) ∨ ∃ T t, s.cd.getD k none = some T ∧ f (14 + k) = .pointer (some ⟨t, 0, none⟩) ∧ TabP H0 Q t T
 stl : s.st.length = 4
 cdl : s.cd.length = 8
 one : ∀ i, (f i).oneCell' = true
def jrR (H0 : Heap) (r : Nat) (p : Option Addr) (l c : Nat) (s : Jst) : Rs := .ex fun (x : (Nat → Value) × (Heap → Prop)) => .pu (JrP H0 x.2 x.1 p l c s) (.star (.cell r (tabV 22 x.1) 75) (.pers x.2))
section
variable {r l c : Nat} {p : Option Addr} {s : Jst} {b : List Int}
theorem jrR_op (hs : St H0 H (jrR H0 r p l c s :: σ)) : ∃ f Q, JrP H0 Q f p l c s ∧ St H0 H (.cell r (tabV 22 f) 75 :: .pers Q :: σ) := by
 obtain ⟨⟨f, Q⟩, hs⟩ := hs.unex
 obtain ⟨h, hs⟩ := hs.fact
 exact ⟨f, Q, h, hs.cut⟩
theorem jrR_mk {f : Nat → Value} {Q : Heap → Prop} (h : JrP H0 Q f p l c s) (hs : St H0 H (.cell r (tabV 22 f) 75 :: .pers Q :: σ)) : St H0 H (jrR H0 r p l c s :: σ) :=
 St.inex (f := fun (x : (Nat → Value) × (Heap → Prop)) => .pu (JrP H0 x.2 x.1 p l c s) (.star (.cell r (tabV 22 x.1) 75) (.pers x.2))) (f, Q) (St.with h hs.cat)
theorem jrR_b (hs : St H0 H (jrR H0 r p l c s :: σ)) : cell H ⟨r, 0, none⟩ = some (.slice p l c) := by
 obtain ⟨f, Q, h, hs⟩ := jrR_op hs
 rw [getV hs 0 rfl (by omega), h.b]
theorem TabP.mono {Q Q' : Heap → Prop} {t : Nat} {T : TabJ} (h : TabP H0 Q t T) (hq : ∀ H, Q' H → Q H) : TabP H0 Q' t T := by
 obtain ⟨h1, h2, d, q, c, P, F, h3, h4, h5, h6⟩ := h
 exact ⟨h1, h2, d, q, c, P, F, h3, h4, h5, fun H h => h6 H (hq H h)⟩
theorem JrP.setB {Q : Heap → Prop} {f : Nat → Value} (h : JrP H0 Q f p l c s) (p' : Option Addr) (l' c' : Nat) : JrP H0 Q (updV f 0 (.slice p' l' c')) p' l' c' s where
 b := updV_at _ _ _
 W := by rw [updV_ne (by omega)]; exact h.W
 Ht := by rw [updV_ne (by omega)]; exact h.Ht
 rgb := by rw [updV_ne (by omega)]; exact h.rgb
 half := by rw [updV_ne (by omega)]; exact h.half
 bl := by rw [updV_ne (by omega)]; exact h.bl
 seen := by rw [updV_ne (by omega)]; exact h.seen
 wh k hk := by rw [updV_ne (by omega)]; exact h.wh k hk
 st k hk := by rw [updV_ne (by omega)]; exact h.st k hk
 cd k hk := by rw [updV_ne (by omega)]; exact h.cd k hk
 stl := h.stl
 cdl := h.cdl
 one := updV_one h.one rfl
theorem jrR_putB (hs : St H0 H (jrR H0 r p l c s :: σ)) (p' : Option Addr) (l' c' : Nat) {K : Heap → Prop} (hK : ∀ H', St H0 H' (jrR H0 r p' l' c' s :: σ) → K H') : stAt H ⟨r, 0, none⟩ [.slice p' l' c'] K := by
 obtain ⟨f, Q, h, hs⟩ := jrR_op hs
 exact putV hs 0 rfl (by omega) rfl fun H' hs' => hK H' (jrR_mk (h.setB p' l' c') hs')
theorem c47 (hs : St H0 H (jrR H0 r p l c s :: σ)) (hb : SlB H0 p l c b)
    (hbad : segM b = none → ∀ H', St H0 H' σ → R (.tuple #[.slice none 0 0, .bool false]) H')
    (hR : ∀ d rest p1 l1 c1 p2 l2 c2, segM b = some (d, rest) → SlB H0 p1 l1 c1 d → SlB H0 p2 l2 c2 rest → ∀ H', St H0 H' (jrR H0 r p2 l2 c2 s :: σ) → R (.tuple #[.slice p1 l1 c1, .bool true]) H') :
    CallsH Try.prog 47 #[.pointer (some ⟨r, 0, none⟩)] H R := by
  have hl := hb.len
  have hle := hb.le
  have hB := jrR_b hs
  unfold segM at hbad hR
  rw [hl] at hbad hR
  refine Try.s47 ⟨_, rfl, _, _, _, hB, br_dec (fun h => ?_) (fun h => ⟨_, rfl, _, _, _, hB, ?_⟩)⟩
  · rw [if_pos (by omega)] at hbad; exact hbad rfl H hs.tail
  rw [if_neg (by omega)] at hbad
  refine hb.rd hs.ext (by omega) (by omega) ⟨by omega, _, rfl, _, _, _, hB, ?_⟩
  refine hb.rd hs.ext (by omega) (by omega) ?_
  have b0 := hb.byte 0
  have b1 := hb.byte 1
  rw [show Int.toNat 0 = 0 from rfl, show Int.toNat 1 = 1 from rfl, big2 b0 b1]
  generalize hn : b.getD 0 0 * 256 + b.getD 1 0 = n at hbad hR ⊢
  have hn0 : 0 ≤ n := by omega
  intro J hJ
  refine br_dec (fun h2 => ?_) (fun h2 => ⟨_, rfl, _, _, _, hB, br_dec (fun h3 => ?_) (fun h3 => hJ H ⟨_, rfl, _, _, _, hB, hn0, by omega, by omega, by omega, _, rfl, _, _, _, hB, hn0, by omega, _, rfl, ?_⟩)⟩)
  · rw [if_pos (by omega)] at hbad; exact hbad rfl H hs.tail
  · rw [if_pos (by omega)] at hbad; exact hbad rfl H hs.tail
  · refine jrR_putB hs _ _ _ fun H' hs' => ?_
    rw [if_neg (by omega), if_neg (by omega)] at hR
    have h1 := hb.cut (m := 2) (n := n.toNat) (by omega) (by omega)
    have h2 := hb.from_ (m := n.toNat) (by omega)
    exact hR _ _ _ _ _ _ _ _ rfl h1 h2 H' hs'
theorem JrP.setT {Q : Heap → Prop} {f : Nat → Value} (h : JrP H0 Q f p l c s) {k t : Nat} {L : List Int} (hk : k < 4) (hL : L.length = 64) (hr : ∀ i, i < 64 → 1 ≤ L.getD i 0 ∧ L.getD i 0 ≤ 255) :
    JrP H0 (fun H => Q H ∧ H[t]? = some (.cells (ints L).toArray 40)) (updV f (10 + k) (.pointer (some ⟨t, 0, none⟩))) p l c { s with st := s.st.set k (some L) } where
  b := by rw [updV_ne (by omega)]; exact h.b
  W := by rw [updV_ne (by omega)]; exact h.W
  Ht := by rw [updV_ne (by omega)]; exact h.Ht
  rgb := by rw [updV_ne (by omega)]; exact h.rgb
  half := by rw [updV_ne (by omega)]; exact h.half
  bl := by rw [updV_ne (by omega)]; exact h.bl
  seen := by rw [updV_ne (by omega)]; exact h.seen
  wh k hk := by rw [updV_ne (by omega)]; exact h.wh k hk
  st j hj := by
    have hsl := h.stl
    rw [getD_set_ite _ _ _ _ _ (by omega)]
    by_cases e : k = j
    · subst e
      rw [if_pos rfl, updV_at]
      exact .inr ⟨L, t, rfl, hL, hr, rfl, fun H hQ => hQ.2⟩
    · rw [if_neg e, updV_ne (by omega)]
      rcases h.st j hj with h1 | ⟨L', b', h1, h2, h3, h4, h5⟩
      · exact .inl h1
      · exact .inr ⟨L', b', h1, h2, h3, h4, fun H hQ => h5 H hQ.1⟩
  cd j hj := by
    rw [updV_ne (by omega)]
    rcases h.cd j hj with h1 | ⟨T, t', h1, h2, h3⟩
    · exact .inl h1
    · exact .inr ⟨T, t', h1, h2, h3.mono fun H hQ => hQ.1⟩
  stl := by simp [h.stl]
  cdl := h.cdl
  one := updV_one h.one rfl
theorem c48 (hs : St H0 H (jrR H0 r p l c s :: σ)) {d : List Int} {dp : Option Addr} {dl dc : Nat} (hd : SlB H0 dp dl dc d) (hdl : dl ≤ 1000000000)
    (hbad : stepsD d s.st = none → ∀ H', St H0 H' σ → R (.bool false) H')
    (hR : ∀ S, stepsD d s.st = some S → ∀ H', St H0 H' (jrR H0 r p l c { s with st := S } :: σ) → R (.bool true) H') :
    CallsH Try.prog 48 #[.pointer (some ⟨r, 0, none⟩), .slice dp dl dc] H R := by
  obtain ⟨res, hres⟩ : ∃ x, stepsD d s.st = x := ⟨_, rfl⟩
  rw [hres] at hbad
  simp only [hres] at hR
  refine Try.s48 ?_
  unfold Try.S48
  refine c13 fun H1 e1 => ⟨_, rfl, (hs.step e1).alc fun b6 H2 hs2 => ⟨by rw [intsA_size]; rfl, hs2.putAllA 0 rfl (by simp [zigI_len]) fun H3 hs3 => ?_⟩⟩
  have hs3 : St H0 H3 (jrR H0 r p l c s :: .cell b6 (ints zigI).toArray 40 :: σ) := hs3.swap
  clear hs2
  intro X hX
  have loop : ∀ (m : Nat) (d : List Int) (dp : Option Addr) (dl dc : Nat) (S : StepsT) (H4 : Heap), d.length ≤ m → SlB H0 dp dl dc d → dl ≤ 1000000000 → stepsD d S = res → St H0 H4 (jrR H0 r p l c { s with st := S } :: .cell b6 (ints zigI).toArray 40 :: σ) → X [.slice dp dl dc] H4 := by
    intro m
    induction m with
    | zero =>
      intro d dp dl dc S H4 hm hd hdl he hs4
      have hl := hd.len
      rw [stepsD, if_pos (List.length_eq_zero_iff.1 (by omega))] at he
      exact hX _ _ _ H4 (br_n (by omega) (hR S he.symm H4 (hs4.del 1)))
    | succ m ih =>
      intro d dp dl dc S H4 hm hd hdl he hs4
      have hl := hd.len
      by_cases h0 : dl = 0
      · rw [stepsD, if_pos (List.length_eq_zero_iff.1 (by omega))] at he
        exact hX _ _ _ H4 (br_n (by omega) (hR S he.symm H4 (hs4.del 1)))
      have hd0 : d ≠ [] := fun h => by rw [h] at hl; exact h0 hl.symm
      rw [stepsD, if_neg hd0] at he
      refine hX _ _ _ H4 (br_y (by omega) ?_)
      intro J hJ
      have no : ¬ okT d → ∀ H', St H0 H' σ → R (.bool false) H' := fun hn => by
        rw [dif_neg hn] at he
        exact hbad he.symm
      refine br_dec (fun h65 => no (fun h => by have := h.1; omega) H4 hs4.tail.tail) (fun h65 => hd.rd hs4.ext (by omega) (by omega) (br_dec (fun h3 => no (fun h => by have := h.2.1; rw [show Int.toNat 0 = 0 from rfl] at h3; omega) H4 hs4.tail.tail) (fun h3 => hJ H4 ?_)))
      rw [show Int.toNat 0 = 0 from rfl] at h3
      refine hs4.alc fun b14 H5 hs5 => ⟨(ints zigI).toArray, by rw [intsA_size]; rfl, rowIn_whole (hs5.block 2 rfl), ?_⟩
      rw [zeroA] at hs5
      intro Y hY
      have go : ∀ i, i ≤ 64 → (∀ k, k < i → d.getD (1 + k) 0 ≠ 0) → ∀ H6, St H0 H6 (.cell b14 (ints (spread zeros64 (d.drop 1) i)).toArray 40 :: jrR H0 r p l c { s with st := S } :: .cell b6 (ints zigI).toArray 40 :: σ) → Y [.int .i64 (i : Nat)] H6 := upto fun i hi ihi hnz H6 hs6 => by
        refine hY _ H6 (br_dec (fun hlt => ?_) (fun hge => ?_))
        · have hlt : i < 64 := by omega
          have hz := zigI_get hlt
          have hzl := zig_lt hlt
          have hwi : IntKind.wrap .i64 ((1 : Int) + (i : Nat)) = ((1 + i : Nat) : Int) := by rw [wrap_id (by omega) (by omega)]; omega
          rw [hwi]
          refine ⟨by omega, by omega, ((zig i : Nat) : Int), by rw [Int.toNat_natCast, Nat.mul_one, List.getElem?_toArray]; exact ints_get hz, hd.rd hs6.ext (by omega) (by omega) ⟨by omega, by omega, ?_⟩⟩
          have hbt := hd.byte (1 + i)
          rw [add_none, Nat.zero_add, Int.toNat_natCast, Int.toNat_natCast, Nat.mul_one, wrap_id (by omega) (by omega)]
          have hsl : (spread zeros64 (d.drop 1) i).length = 64 := by rw [spread_len, zeros64_len]
          refine hs6.putA 0 rfl (by omega) fun H7 hs7 => ⟨by omega, by omega, d.getD (1 + i) 0, ?_, br_eq (fun hz0 => ?_) (fun hz0 => ?_)⟩
          · exact hs7.rdA 0 rfl (List.getElem?_set_self (by omega))
          · exact no (fun h => h.2.2 i hlt hz0) H7 hs7.tail.tail.tail
          · rw [w1 (by omega)]
            refine ihi hlt (fun k hk => ?_) H7 ?_
            · rcases Nat.lt_or_ge k i with h | h
              · exact hnz k h
              · rw [show k = i by omega]; exact hz0
            · have e : (d.drop 1).getD i 0 = d.getD (1 + i) 0 := by rw [List.getD_eq_getElem?_getD, List.getElem?_drop, ← List.getD_eq_getElem?_getD]
              rw [← e] at hs7
              exact hs7
        · have : i = 64 := by omega
          subst this
          have hok : okT d := ⟨by omega, by omega, hnz⟩
          rw [dif_pos hok] at he
          have b0 := hd.byte 0
          refine hd.rd hs6.ext (by omega) (by omega) ⟨_, rfl, ?_⟩
          rw [show Int.toNat 0 = 0 from rfl]
          obtain ⟨k, hk⟩ := Int.eq_ofNat_of_zero_le b0.1
          rw [hk] at he h3 ⊢
          rw [Int.toNat_natCast] at he
          refine ⟨by omega, by omega, ?_⟩
          rw [add_none, add_none, Nat.zero_add, Int.toNat_natCast, Nat.mul_one]
          have hs6 := hs6.swap
          obtain ⟨f, Q, hJr, hs7⟩ := jrR_op hs6
          refine putV hs7 0 rfl (by omega) rfl fun H8 hs8 => ⟨by omega, by omega, ?_⟩
          have hsl : (spread zeros64 (d.drop 1) 64).length = 64 := by rw [spread_len, zeros64_len]
          have hrng : ∀ i, i < 64 → 1 ≤ (spread zeros64 (d.drop 1) 64).getD i 0 ∧ (spread zeros64 (d.drop 1) 64).getD i 0 ≤ 255 := fun i hi => by
            rw [spread_get _ _ zeros64_len 64 (by omega) i hi, if_pos (zag_lt hi), List.getD_eq_getElem?_getD, List.getElem?_drop, ← List.getD_eq_getElem?_getD]
            have h1 := hnz _ (zag_lt hi)
            have h2 := hd.byte (1 + zag i)
            omega
          have hs9 : St H0 H8 (.pers Q :: .cell b14 (ints (spread zeros64 (d.drop 1) 64)).toArray 40 :: .cell r (tabV 22 (updV f (10 + k) (.pointer (some ⟨b14, 0, none⟩)))) 75 :: .cell b6 (ints zigI).toArray 40 :: σ) := by
            refine hs8.perm ?_
            exact (List.Perm.swap _ _ _).trans (List.Perm.cons _ (List.Perm.swap _ _ _))
          have hs10 := St.persOf (τ := [.pers Q, .cell b14 (ints (spread zeros64 (d.drop 1) 64)).toArray 40]) (Q := fun H => Q H ∧ H[b14]? = some (.cells (ints (spread zeros64 (d.drop 1) 64)).toArray 40)) hs9 fun H' hs' => ⟨hs'.persGet 0 rfl, hs'.block 1 rfl⟩
          have hs11 := jrR_mk (hJr.setT (k := k) (t := b14) (by omega) hsl hrng) hs10.swap
          refine ih (d.drop 65) _ _ _ _ H8 (by rw [List.length_drop]; omega) (hd.from_ (m := 65) (by omega)) (by omega) he hs11
      exact go 0 (by omega) (fun k hk => by omega) H5 hs5
  exact loop d.length d dp dl dc s.st H3 (Nat.le_refl _) hd hdl hres hs3
end
end Go.Proofs
namespace Go.Proofs
open Go.Sh
variable {H0 H : Heap} {σ : List Rs} {R : Value → Heap → Prop}
theorem cut_get {d : List Int} {m n j : Nat} (h : m + j < n) : ((d.take n).drop m).getD j 0 = d.getD (m + j) 0 := by
 rw [List.getD_eq_getElem?_getD, List.getElem?_drop, List.getElem?_take, if_pos h, ← List.getD_eq_getElem?_getD]
theorem wr8 {x : Int} (h : 0 ≤ x ∧ x < 256) : IntKind.wrap .u8 x = x := by simp [IntKind.wrap, IntKind.bits, IntKind.signed]; omega
theorem byte_parts8 : ∀ s : Fin 256, andI .u8 (s.val : Int) 15 = ((s.val % 16 : Nat) : Int) ∧ shrI .u8 (s.val : Int) 4 = ((s.val / 16 : Nat) : Int) := by decide +kernel
theorem byte_parts8' {c : Int} (h : 0 ≤ c ∧ c < 256) : andI .u8 c 15 = c % 16 ∧ shrI .u8 c 4 = c / 16 := by
 obtain ⟨n, rfl⟩ := Int.eq_ofNat_of_zero_le h.1
 have := byte_parts8 ⟨n, by omega⟩
 simp only at this
 rw [this.1, this.2]
 omega
section
variable {r l c : Nat} {p : Option Addr} {s : Jst} {b : List Int}
theorem JrP.setS {Q : Heap → Prop} {f f' : Nat → Value} (h : JrP H0 Q f p l c s) {W Ht : Int} {half seen : Bool} {wh : List Nat} (hf : ∀ i, (i = 0 ∨ i = 3 ∨ i = 5 ∨ 10 ≤ i) → f' i = f i) (h1 : f' 1 = .int .i64 W) (h2 : f' 2 = .int .i64 Ht) (h4 : f' 4 = .bool half) (h6 : f' 6 = .bool seen)
    (hw : ∀ k, k < 3 → wh.getD k 0 < 4 ∧ f' (7 + k) = .int .i64 (wh.getD k 0 : Nat)) (ho : ∀ i, (f' i).oneCell' = true) : JrP H0 Q f' p l c { s with W := W, Ht := Ht, seen := seen, half := half, wh := wh } where
  b := by rw [hf _ (by omega)]; exact h.b
  W := h1
  Ht := h2
  rgb := by rw [hf _ (by omega)]; exact h.rgb
  half := h4
  bl := by rw [hf _ (by omega)]; exact h.bl
  seen := h6
  wh := hw
  st k hk := by rw [hf _ (by omega)]; exact h.st k hk
  cd k hk := by rw [hf _ (by omega)]; exact h.cd k hk
  stl := h.stl
  cdl := h.cdl
  one := ho
theorem wh_get {d : List Int} {k : Nat} (hk : k < 3) : ((List.range 3).map fun k => (d.getD (8 + 3 * k) 0).toNat).getD k 0 = (d.getD (8 + 3 * k) 0).toNat := by
 rw [List.getD_eq_getElem?_getD, List.getElem?_map, List.getElem?_range hk]; rfl
set_option maxHeartbeats 1000000 in
theorem c49 (hs : St H0 H (jrR H0 r p l c s :: σ)) {d : List Int} {dp : Option Addr} {dl dc : Nat} (hd : SlB H0 dp dl dc d)
    (hbad : sizesM d s = none → ∀ H', St H0 H' σ → R (.bool false) H')
    (hR : ∀ s', sizesM d s = some s' → ∀ H', St H0 H' (jrR H0 r p l c s' :: σ) → R (.bool true) H') :
    CallsH Try.prog 49 #[.pointer (some ⟨r, 0, none⟩), .slice dp dl dc] H R := by
  have hl := hd.len
  have hle := hd.le
  obtain ⟨f0, Q, hJr, hs0⟩ := jrR_op hs
  have no : ¬ (s.seen = false ∧ d.length = 15 ∧ d.getD 0 0 = 8 ∧ d.getD 5 0 = 3 ∧ (∀ k, k < 3 → partOk d k) ∧ SizedM (d.getD 3 0 * 256 + d.getD 4 0) (d.getD 1 0 * 256 + d.getD 2 0)) → ∀ H', St H0 H' σ → R (.bool false) H' := fun hn => hbad (by unfold sizesM; rw [if_neg hn])
  refine Try.s49 ?_
  unfold Try.S49
  intro J hJ
  refine ⟨_, rfl, s.seen, by rw [← hJr.seen]; exact getV hs0 0 (j := 6) rfl (by omega), ?_⟩
  cases hseen : s.seen with
  | true => exact br_t rfl (no (fun h => by rw [hseen] at h; cases h.1) H hs.tail)
  | false =>
  refine br_f rfl (br_ne (fun h => no (fun hh => by omega) H hs.tail) (fun h15 => ?_))
  have h15 : dl = 15 := by omega
  subst h15
  have hrd : ∀ {H' : Heap} {i : Nat}, Ext H0 H' → i < 15 → ∀ {K : Int → Prop}, K (d.getD i 0) → ∃ a : Addr, dp = some a ∧ 0 ≤ (i : Int) ∧ (i : Int) < ((15 : Nat) : Int) ∧ ∃ v : Int, Sh.cell H' (Addr.add a (Int.toNat (i : Int) * 1)) = some (.int .u8 v) ∧ K v := fun {H'} {i} he hi {K} hK => hd.rd he (i := (i : Int)) (by omega) (by omega) (by rw [Int.toNat_natCast]; exact hK)
  refine hrd hs.ext (i := 0) (by omega) (br_ne (fun h => no (fun hh => by omega) H hs.tail) (fun h8 => hrd hs.ext (i := 5) (by omega) (br_ne (fun h => no (fun hh => by omega) H hs.tail) (fun h3 => hJ H ⟨_, rfl, ?_⟩))))
  refine putV hs0 0 (j := 6) rfl (by omega) rfl fun H1 hs1 => ?_
  refine hrd hs1.ext (i := 1) (by omega) ⟨by decide, hrd hs1.ext (i := 2) (by omega) (hrd hs1.ext (i := 3) (by omega) ⟨by decide, hrd hs1.ext (i := 4) (by omega) ⟨_, rfl, ?_⟩⟩)⟩
  rw [big2 (hd.byte 1) (hd.byte 2), big2 (hd.byte 3) (hd.byte 4)]
  have hb1 := hd.byte 1
  have hb2 := hd.byte 2
  have hb3 := hd.byte 3
  have hb4 := hd.byte 4
  refine putV hs1 0 (j := 2) rfl (by omega) rfl fun H2 hs2 => ⟨_, rfl, ?_⟩
  refine putV hs2 0 (j := 1) rfl (by omega) rfl fun H3 hs3 => ?_
  intro X hX
  have loop : ∀ k, k ≤ 3 → (∀ j, j < k → partOk d j) → ∀ (f : Nat → Value) (H4 : Heap), (∀ i, (i = 0 ∨ i = 3 ∨ i = 4 ∨ i = 5 ∨ 10 ≤ i) → f i = f0 i) → f 1 = .int .i64 (d.getD 3 0 * 256 + d.getD 4 0) → f 2 = .int .i64 (d.getD 1 0 * 256 + d.getD 2 0) → f 6 = .bool true →
      (∀ j, j < k → f (7 + j) = .int .i64 (d.getD (8 + 3 * j) 0)) → (∀ i, (f i).oneCell' = true) → St H0 H4 (.cell r (tabV 22 f) 75 :: .pers Q :: σ) → X [.int .i64 (k : Nat)] H4 := upto fun k hk ih hpk f H4 hf h1 h2 h6 hw ho hs4 => by
    have nk : ¬ partOk d k → k < 3 → ∀ H', St H0 H' σ → R (.bool false) H' := fun hn hk => no fun hh => hn (hh.2.2.2.2.1 k hk)
    refine hX _ H4 (br_dec (fun hlt => ?_) (fun hge => ?_))
    · have hlt : k < 3 := by omega
      have w3 : IntKind.wrap .i64 ((3 : Int) * (k : Nat)) = ((3 * k : Nat) : Int) := by rw [wrap_id (by omega) (by omega)]; omega
      have w9 : IntKind.wrap .i64 ((9 : Int) + ((3 * k : Nat) : Int)) = ((9 + 3 * k : Nat) : Int) := by rw [wrap_id (by omega) (by omega)]; omega
      have w6 : IntKind.wrap .i64 ((6 : Int) + ((3 * k : Nat) : Int)) = ((6 + 3 * k : Nat) : Int) := by rw [wrap_id (by omega) (by omega)]; omega
      rw [w3, w9, w6, Int.toNat_natCast, Int.toNat_natCast]
      refine ⟨by omega, by omega, by omega, by omega, ?_⟩
      have hp := hd.cut (m := 6 + 3 * k) (n := 9 + 3 * k) (by omega) (by omega)
      have hq : ∀ {H' : Heap} {j : Nat}, Ext H0 H' → j < 3 → ∀ {K : Int → Prop}, K (d.getD (6 + 3 * k + j) 0) → _ := fun {H'} {j} he hj {K} hK => hp.rd (H := H') he (i := (j : Int)) (by omega) (by omega) (K := K) (by rw [Int.toNat_natCast, cut_get (by omega)]; exact hK)
      intro J2 hJ2
      have b0 := hd.byte (6 + 3 * k + 0)
      have b1 := hd.byte (6 + 3 * k + 1)
      have b2 := hd.byte (6 + 3 * k + 2)
      have e1 : 6 + 3 * k + 1 = 7 + 3 * k := by omega
      have e2 : 6 + 3 * k + 2 = 8 + 3 * k := by omega
      rw [e1] at b1
      rw [e2] at b2
      rw [Nat.add_zero] at b0
      refine hq hs4.ext (j := 0) (by omega) ?_
      rw [Nat.add_zero, wrap_id (n := d.getD (6 + 3 * k) 0) (by omega) (by omega), w1 (by omega)]
      refine br_ne (fun h => nk (fun hh => by have := hh.1; omega) hlt H4 hs4.tail.tail) (fun hc0 => ?_)
      -- the table's number
      have last : (d.getD (7 + 3 * k) 0 = 17 ∨ k = 0 ∧ d.getD (7 + 3 * k) 0 = 34) → J2 [] H4 ∨ True := fun _ => .inr trivial
      clear last
      have go : (d.getD (7 + 3 * k) 0 = 17 ∨ k = 0 ∧ d.getD (7 + 3 * k) 0 = 34) → d.getD (8 + 3 * k) 0 ≤ 3 → J2 [] H4 := fun h7 h8' => by
        refine hJ2 H4 (hq hs4.ext (j := 2) (by omega) ⟨_, rfl, by omega, by omega, ?_⟩)
        rw [e2, wrap_id (n := d.getD (8 + 3 * k) 0) (by omega) (by omega), add_none, add_none, Nat.zero_add, Int.toNat_natCast, Nat.mul_one]
        refine putV hs4 0 rfl (by omega) rfl fun H5 hs5 => ?_
        rw [w1 (by omega)]
        refine ih hlt (fun j hj => ?_) _ H5 (fun i hi => ?_) ?_ ?_ ?_ (fun j hj => ?_) (updV_one ho rfl) hs5
        · rcases Nat.lt_or_ge j k with h | h
          · exact hpk j h
          · rw [show j = k by omega]; exact ⟨by omega, h7, h8'⟩
        · rw [updV_ne (by omega)]; exact hf i hi
        · rw [updV_ne (by omega)]; exact h1
        · rw [updV_ne (by omega)]; exact h2
        · rw [updV_ne (by omega)]; exact h6
        · rcases Nat.lt_or_ge j k with h | h
          · rw [updV_ne (by omega)]; exact hw j h
          · rw [show j = k by omega, updV_at]
      refine hq hs4.ext (j := 1) (by omega) ?_
      rw [e1]
      refine br_ne (fun h17 => br_dec (fun hk0 => nk (fun hh => by rcases hh.2.1 with h | h <;> omega) hlt H4 hs4.tail.tail) (fun hk0 => hq hs4.ext (j := 1) (by omega) ?_)) (fun h17 => hq hs4.ext (j := 2) (by omega) ?_)
      · rw [e1]
        refine br_ne (fun h34 => nk (fun hh => by rcases hh.2.1 with h | h <;> omega) hlt H4 hs4.tail.tail) (fun h34 => hq hs4.ext (j := 2) (by omega) ?_)
        rw [e2]
        exact br_dec (fun h3 => nk (fun hh => by have := hh.2.2; omega) hlt H4 hs4.tail.tail) (fun h3 => go (.inr ⟨by omega, h34⟩) (by omega))
      · rw [e2]
        exact br_dec (fun h3 => nk (fun hh => by have := hh.2.2; omega) hlt H4 hs4.tail.tail) (fun h3 => go (.inl h17) (by omega))
    · have : k = 3 := by omega
      subst this
      refine hrd hs4.ext (i := 7) (by omega) ⟨_, rfl, ?_⟩
      refine putV hs4 0 (j := 4) rfl (by omega) rfl fun H5 hs5 => ⟨_, rfl, d.getD 3 0 * 256 + d.getD 4 0, ?_, _, rfl, d.getD 1 0 * 256 + d.getD 2 0, ?_, c22 ⟨_, rfl, ?_⟩⟩
      · exact (getV hs5 0 (j := 1) rfl (by omega)).trans (by rw [updV_ne (by omega), h1])
      · exact (getV hs5 0 (j := 2) rfl (by omega)).trans (by rw [updV_ne (by omega), h2])
      · by_cases hz : SizedM (d.getD 3 0 * 256 + d.getD 4 0) (d.getD 1 0 * 256 + d.getD 2 0)
        · rw [decide_eq_true hz]
          refine hR { s with W := d.getD 3 0 * 256 + d.getD 4 0, Ht := d.getD 1 0 * 256 + d.getD 2 0, seen := true, half := decide (d.getD 7 0 = 34), wh := (List.range 3).map fun k => (d.getD (8 + 3 * k) 0).toNat } (by unfold sizesM; rw [if_pos ⟨hseen, hl, h8, h3, hpk, hz⟩]) H5 (jrR_mk (f := updV f 4 (.bool (decide (d.getD 7 0 = 34)))) (Q := Q) ?_ ?_)
          · refine hJr.setS (fun i hi => ?_) ?_ ?_ (updV_at _ _ _) ?_ (fun k hk => ?_) (updV_one ho rfl)
            · rw [updV_ne (by omega)]; exact hf i (by omega)
            · rw [updV_ne (by omega)]; exact h1
            · rw [updV_ne (by omega)]; exact h2
            · rw [updV_ne (by omega)]; exact h6
            · rw [updV_ne (by omega), wh_get hk, hw k hk]
              have h8' := (hpk k hk).2.2
              have hb := hd.byte (8 + 3 * k)
              exact ⟨by omega, by congr 1; omega⟩
          · have e : (decide (d.getD 7 0 = 34)) = (d.getD 7 0 == 34) := rfl
            rw [e]
            exact hs5
        · rw [decide_eq_false hz]
          exact no (fun hh => hz hh.2.2.2.2.2) H5 hs5.tail.tail
  refine loop 0 (by omega) (fun j hj => by omega) _ H3 (fun i hi => ?_) ?_ ?_ ?_ (fun j hj => by omega) (updV_one (updV_one (updV_one hJr.one rfl) rfl) rfl) hs3
  · rw [updV_ne (by omega), updV_ne (by omega), updV_ne (by omega)]
  · exact updV_at _ _ _
  · rw [updV_ne (by omega)]; exact updV_at _ _ _
  · rw [updV_ne (by omega), updV_ne (by omega)]; exact updV_at _ _ _
end
end Go.Proofs
namespace Go.Proofs
open Go.Sh
variable {H0 H : Heap} {σ : List Rs} {R : Value → Heap → Prop}
theorem lensN_succ (d : List Int) (n : Nat) : lensN d (n + 1) = lensN d n ++ List.replicate (d.getD (n + 1) 0).toNat ((n + 1 : Nat) : Int) := by unfold lensN; rw [List.range_succ, List.flatMap_append]; simp
theorem lensN_len (d : List Int) (h : ∀ x ∈ d, 0 ≤ x ∧ x < 256) : ∀ n, (lensN d n).length ≤ 255 * n
 | 0 => by simp [lensN]
 | n + 1 => by
  rw [lensN_succ, List.length_append, List.length_replicate]
  have := lensN_len d h n
  have := getD_byte h (n + 1)
  omega
section
variable {r l c : Nat} {p : Option Addr} {s : Jst} {b : List Int}
theorem JrP.setC {Q Q' : Heap → Prop} {f : Nat → Value} (h : JrP H0 Q f p l c s) (hq : ∀ H, Q' H → Q H) {k t : Nat} {T : TabJ} (hk : k < 8) (hT : TabP H0 Q' t T) :
    JrP H0 Q' (updV f (14 + k) (.pointer (some ⟨t, 0, none⟩))) p l c { s with cd := s.cd.set k (some T) } where
  b := by rw [updV_ne (by omega)]; exact h.b
  W := by rw [updV_ne (by omega)]; exact h.W
  Ht := by rw [updV_ne (by omega)]; exact h.Ht
  rgb := by rw [updV_ne (by omega)]; exact h.rgb
  half := by rw [updV_ne (by omega)]; exact h.half
  bl := by rw [updV_ne (by omega)]; exact h.bl
  seen := by rw [updV_ne (by omega)]; exact h.seen
  wh k hk := by rw [updV_ne (by omega)]; exact h.wh k hk
  st j hj := by
    rw [updV_ne (by omega)]
    rcases h.st j hj with h1 | ⟨L', b', h1, h2, h3, h4, h5⟩
    · exact .inl h1
    · exact .inr ⟨L', b', h1, h2, h3, h4, fun H hQ => h5 H (hq H hQ)⟩
  cd j hj := by
    have hsl := h.cdl
    rw [getD_set_ite _ _ _ _ _ (by omega)]
    by_cases e : k = j
    · subst e
      rw [if_pos rfl, updV_at]
      exact .inr ⟨T, t, rfl, rfl, hT⟩
    · rw [if_neg e, updV_ne (by omega)]
      rcases h.cd j hj with h1 | ⟨T', t', h1, h2, h3⟩
      · exact .inl h1
      · exact .inr ⟨T', t', h1, h2, h3.mono hq⟩
  stl := h.stl
  cdl := by simp [h.cdl]
  one := updV_one h.one rfl
set_option maxHeartbeats 1000000 in
theorem c50 (hs : St H0 H (jrR H0 r p l c s :: σ)) {d : List Int} {dp : Option Addr} {dl dc : Nat} (hd : SlB H0 dp dl dc d) (hdl : dl ≤ 1000000000)
    (hbad : codesD d s.cd = none → ∀ H', St H0 H' σ → R (.bool false) H')
    (hR : ∀ C, codesD d s.cd = some C → ∀ H', St H0 H' (jrR H0 r p l c { s with cd := C } :: σ) → R (.bool true) H') :
    CallsH Try.prog 50 #[.pointer (some ⟨r, 0, none⟩), .slice dp dl dc] H R := by
  obtain ⟨res, hres⟩ : ∃ x, codesD d s.cd = x := ⟨_, rfl⟩
  rw [hres] at hbad
  simp only [hres] at hR
  refine Try.s50 ?_
  unfold Try.S50
  intro X hX
  have loop : ∀ (m : Nat) (d : List Int) (dp : Option Addr) (dl dc : Nat) (C : List (Option (List Int × List Int))) (H4 : Heap), d.length ≤ m → SlB H0 dp dl dc d → dl ≤ 1000000000 → codesD d C = res → St H0 H4 (jrR H0 r p l c { s with cd := C } :: σ) → X [.slice dp dl dc] H4 := by
    intro m
    induction m with
    | zero =>
      intro d dp dl dc C H4 hm hd hdl he hs4
      have hl := hd.len
      rw [codesD, if_pos (List.length_eq_zero_iff.1 (by omega))] at he
      exact hX _ _ _ H4 (br_n (by omega) (hR C he.symm H4 hs4))
    | succ m ih =>
      intro d dp dl dc C H4 hm hd hdl he hs4
      have hl := hd.len
      have hle := hd.le
      by_cases h0 : dl = 0
      · rw [codesD, if_pos (List.length_eq_zero_iff.1 (by omega))] at he
        exact hX _ _ _ H4 (br_n (by omega) (hR C he.symm H4 hs4))
      have hd0 : d ≠ [] := fun h => by rw [h] at hl; exact h0 hl.symm
      rw [codesD, if_neg hd0] at he
      refine hX _ _ _ H4 (br_y (by omega) ?_)
      intro J hJ
      have no : ¬ (17 ≤ d.length ∧ d.getD 0 0 % 16 ≤ 3 ∧ d.getD 0 0 / 16 ≤ 1 ∧ (lensM d).length ≤ 256 ∧ 17 + (lensM d).length ≤ d.length ∧ OkC (lensM d)) → ∀ H', St H0 H' σ → R (.bool false) H' := fun hn => by
        rw [dif_neg hn] at he
        exact hbad he.symm
      have b0 := hd.byte 0
      obtain ⟨p1, p2⟩ := byte_parts8' b0
      refine br_dec (fun h17 => no (fun h => by have := h.1; omega) H4 hs4.tail) (fun h17 => hd.rd hs4.ext (by omega) (by omega) ?_)
      rw [show Int.toNat 0 = 0 from rfl, p1]
      refine br_dec (fun h3 => no (fun h => by have := h.2.1; omega) H4 hs4.tail) (fun h3 => hd.rd hs4.ext (by omega) (by omega) ⟨by decide, ?_⟩)
      rw [show Int.toNat 0 = 0 from rfl, p2]
      refine br_dec (fun h1 => no (fun h => by have := h.2.2.1; omega) H4 hs4.tail) (fun h1 => hJ H4 ⟨by omega, by omega, by omega, by omega, ?_⟩)
      clear hJ J
      rw [show Int.toNat 17 = 17 from rfl, show Int.toNat 1 = 1 from rfl]
      have hcut := hd.cut (m := 1) (n := 17) (by omega) (by omega)
      intro Y hY
      have go : ∀ n, n ≤ 16 → ∀ lp lc H5, St H0 H5 (.sl lp (lensN d n).length lc 3 1 (ints (lensN d n)) :: jrR H0 r p l c { s with cd := C } :: σ) → Y [.slice lp (lensN d n).length lc, .int .i64 (n : Nat)] H5 := upto fun n hn ihn lp lc H5 hs5 => by
        refine hY _ _ _ _ H5 (br_dec (fun hlt => ?_) (fun hge => ?_))
        · have hlt : n < 16 := by omega
          refine hcut.rd hs5.ext (by omega) (by omega) ?_
          rw [Int.toNat_natCast, cut_get (by omega), show 1 + n = n + 1 by omega]
          have hbn := hd.byte (n + 1)
          obtain ⟨q, hq⟩ := Int.eq_ofNat_of_zero_le hbn.1
          have hls := lensN_succ d n
          rw [hq, Int.toNat_natCast] at hls
          rw [hq]
          intro Z hZ
          have hlen := lensN_len d hd.rng n
          have inner : ∀ t, t ≤ q → ∀ lp lc H6, St H0 H6 (.sl lp (lensN d n ++ List.replicate t ((n + 1 : Nat) : Int)).length lc 3 1 (ints (lensN d n ++ List.replicate t ((n + 1 : Nat) : Int))) :: jrR H0 r p l c { s with cd := C } :: σ) → Z [.slice lp (lensN d n ++ List.replicate t ((n + 1 : Nat) : Int)).length lc, .int .u8 (t : Nat)] H6 := upto fun t ht iht lp lc H6 hs6 => by
            refine hZ _ _ _ _ H6 (br_dec (fun hltt => ?_) (fun hget => ?_))
            · have hltt : t < q := by omega
              refine hs6.alc fun b18 H7 hs7 => ?_
              rw [w1 (by omega)] at hs7
              refine hs7.appC 1 0 rfl rfl rfl (fun v hv => by rw [List.mem_singleton.1 hv]; rfl) (by decide) rfl (by rw [List.length_append, List.length_replicate]; omega) (by rw [List.length_append, List.length_replicate]; omega) fun p' c' H8 hs8 => ?_
              have hs8 := hs8.tail
              simp only [List.set_cons_zero, List.set_cons_succ] at hs8
              have e : ints (lensN d n ++ List.replicate t ((n + 1 : Nat) : Int)) ++ [Value.int .i64 ((n + 1 : Nat) : Int)] = ints (lensN d n ++ List.replicate (t + 1) ((n + 1 : Nat) : Int)) := by rw [List.replicate_succ', ← List.append_assoc, ints_append (_ ++ _)]; rfl
              have e' : (lensN d n ++ List.replicate t ((n + 1 : Nat) : Int)).length + 1 = (lensN d n ++ List.replicate (t + 1) ((n + 1 : Nat) : Int)).length := by simp; omega
              rw [e, e'] at hs8
              rw [e', wr8 (by omega), show (t : Int) + 1 = ((t + 1 : Nat) : Int) by omega]
              exact iht hltt p' c' H8 hs8
            · have : t = q := by omega
              subst this
              rw [← hls] at hs6 ⊢
              rw [w1 (by omega)]
              exact ihn hlt lp lc H6 hs6
          have := inner 0 (by omega) lp lc H5 (by rw [List.replicate_zero, List.append_nil]; exact hs5)
          rw [List.replicate_zero, List.append_nil] at this
          exact this
        · have : n = 16 := by omega
          subst this
          have hln : (lensM d).length ≤ 255 * 16 := lensN_len d hd.rng 16
          intro J2 hJ2
          have hL : lensN d 16 = lensM d := rfl
          rw [hL] at hs5 ⊢
          rw [wrap_id (n := (17 : Int) + _) (by omega) (by omega)]
          refine br_dec (fun hlt => no (fun h => by have := h.2.2.2.2.1; omega) H5 hs5.tail.tail) (fun hlt => br_dec (fun h256 => no (fun h => by have := h.2.2.2.1; omega) H5 hs5.tail.tail) (fun h256 => hJ2 H5 ?_))
          clear hJ2 J2
          refine newDecR (hs5.is 0 rfl) (fun hno => ⟨_, _, rfl, br_t rfl (no (fun h => hno h.2.2.2.2.2) H5 hs5.tail.tail)⟩) (fun ok H6 db P F hs6 => ⟨_, _, rfl, br_f rfl ?_⟩)
          have hs6 := hs5.call hs6
          have h : 17 ≤ d.length ∧ d.getD 0 0 % 16 ≤ 3 ∧ d.getD 0 0 / 16 ≤ 1 ∧ (lensM d).length ≤ 256 ∧ 17 + (lensM d).length ≤ d.length ∧ OkC (lensM d) := ⟨by omega, by omega, by omega, by omega, by omega, ok⟩
          rw [dif_pos h] at he
          rw [hL, wrap_id (n := (17 : Int) + _) (by omega) (by omega)]
          obtain ⟨a1, q1, q2, q3, v1, q4, rfl⟩ := hd.rd hs6.ext (i := 0) (by omega) (by omega) (K := fun v => v = d.getD 0 0) rfl
          refine ⟨a1, q1, q2, q3, _, q4, a1, q1, q2, q3, _, q4, ?_⟩
          refine ⟨by decide, by omega, by omega, by omega, by omega, _, rfl, ?_⟩
          rw [p1, p2, show (17 : Int) + ((lensM d).length : Nat) = ((17 + (lensM d).length : Nat) : Int) by omega, Int.toNat_natCast]
          refine hs6.alcE fun b33 H7 e7 hs7 => ⟨.inl e7, ?_⟩
          rw [wr8 (x := d.getD 0 0 / 16 * 4) (by omega), wr8 (by omega)]
          rw [show 17 + (lensM d).length - 17 = (lensM d).length by omega] at hs7
          obtain ⟨k, hk⟩ := Int.eq_ofNat_of_zero_le (show 0 ≤ d.getD 0 0 % 16 + 4 * (d.getD 0 0 / 16) by omega)
          rw [hk, Int.toNat_natCast] at he
          rw [show d.getD 0 0 % 16 + d.getD 0 0 / 16 * 4 = (k : Int) by omega]
          refine ⟨by omega, by omega, ?_⟩
          rw [add_none, add_none, Nat.zero_add, Int.toNat_natCast, Nat.mul_one]
          have hs8 := hs7.front 3 rfl
          obtain ⟨f, Q, hJr, hs9⟩ := jrR_op hs8
          refine putV hs9 0 rfl (by omega) rfl fun H8 hs10 => ⟨by omega, by omega, ?_⟩
          have hs11 := (hs10.swap).perm (List.Perm.cons _ ((List.Perm.swap _ _ _).trans (List.Perm.cons _ (List.Perm.swap _ _ _))))
          have hcd := hd.cut (m := 17) (n := 17 + (lensM d).length) (by omega) (by omega)
          rw [show 17 + (lensM d).length - 17 = (lensM d).length by omega] at hcd
          have hsy : (d.take (17 + (lensM d).length)).drop 17 = (d.drop 17).take (lensM d).length := by rw [List.take_drop]
          rw [hsy] at hcd
          obtain ⟨_, _, _, hPl, tr, _, _⟩ := decR_use hs11 (j := 2) rfl
          have hs12 := St.persOf (τ := [.pers Q, _, _]) (Q := fun H => Q H ∧ TabI b33 db (if dc = 17 then dp else Option.map (fun x => Addr.add x (17 * 1)) dp) (dc - 17) (lensM d) P F H) hs11 fun H' hs' => ⟨hs'.persGet 0 rfl, by
            obtain ⟨q2, k2, _, _, _, hdd, hrs⟩ := decR_use hs' (j := 2) rfl
            exact ⟨hs'.block 1 rfl, q2, k2, hdd, hrs⟩⟩
          have hT : TabP H0 (fun H => Q H ∧ TabI b33 db (if dc = 17 then dp else Option.map (fun x => Addr.add x (17 * 1)) dp) (dc - 17) (lensM d) P F H) b33 (lensM d, (d.drop 17).take (lensM d).length) :=
            ⟨ok, hcd.rng, db, _, _, P, F, hcd.is, hPl, tr, fun H hQ => hQ.2⟩
          have hs13 := jrR_mk (hJr.setC (k := k) (t := b33) (fun H hQ => hQ.1) (by omega) hT) hs12.swap
          refine ih _ _ _ _ _ H8 (by rw [List.length_drop]; omega) (hd.from_ (m := 17 + (lensM d).length) (by omega)) (by omega) he ?_
          exact hs13.del 1
      exact go 0 (by omega) none 0 H4 (hs4.nilSl _ _)
  exact loop d.length d dp dl dc s.cd H (Nat.le_refl _) hd hdl hres hs
end
end Go.Proofs
namespace Go.Proofs
open Go.Sh
variable {H0 H : Heap} {σ : List Rs} {R : Value → Heap → Prop}
theorem putV2 (hs : St H0 H σ) (i : Nat) {b n j : Nat} {f : Nat → Value} {ty : TypeId} {v w : Value} {K : Heap → Prop} (hi : σ[i]? = some (.cell b (tabV n f) ty)) (hj : j + 1 < n) (hv : v.oneCell' = true) (hw : w.oneCell' = true)
    (hK : ∀ H', St H0 H' (σ.set i (.cell b (tabV n (updV (updV f j v) (j + 1) w)) ty)) → K H') : stAt H ⟨b, j, none⟩ [v, w] K :=
  hs.putRow i hi (by rw [tabV_size]; simp; omega) (fun u hu => by simp at hu; rcases hu with rfl | rfl <;> assumption) fun H' hs' => hK H' (by
    have e : (setL (tabV n f).toList j [v, w]).toArray = tabV n (updV (updV f j v) (j + 1) w) := by
      have hlen : j + [v, w].length ≤ (tabV n f).toList.length := by show j + 2 ≤ _; rw [Array.length_toList, tabV_size]; omega
      refine Array.ext_getElem? fun i => ?_
      rw [List.getElem?_toArray, setL_get hlen]
      rcases Nat.lt_or_ge i n with h | h
      · rw [tabV_get h]
        by_cases h1 : i = j
        · subst h1
          rw [if_pos (by simp), Nat.sub_self, updV_ne (by omega), updV_at]; rfl
        · by_cases h2 : i = j + 1
          · subst h2
            rw [if_pos (by simp), updV_at, show j + 1 - j = 1 by omega]; rfl
          · rw [if_neg (by simp; omega), updV_ne h2, updV_ne h1, Array.getElem?_toList, tabV_get h]
      · rw [if_neg (by simp; omega), Array.getElem?_eq_none (by rw [tabV_size]; exact h), Array.getElem?_toList, Array.getElem?_eq_none (by rw [tabV_size]; exact h)]
    rw [e] at hs'; exact hs')
section
variable {r l c : Nat} {p : Option Addr} {s : Jst} {b : List Int}
theorem JrP.cdp {Q : Heap → Prop} {f : Nat → Value} (h : JrP H0 Q f p l c s) {k : Nat} (hk : k < 8) : ∃ x : Option Addr, f (14 + k) = .pointer x ∧ (x.isNone = true → ¬ (s.cd.getD k none).isSome) ∧ (x.isNone = false → (s.cd.getD k none).isSome) := by
 rcases h.cd k hk with ⟨h1, h2⟩ | ⟨T, t, h1, h2, _⟩
 ·exact ⟨none, h2, fun _ => by rw [h1]; simp, nofun⟩
 ·exact ⟨_, h2, nofun, fun _ => by rw [h1]; rfl⟩
theorem JrP.stp {Q : Heap → Prop} {f : Nat → Value} (h : JrP H0 Q f p l c s) {k : Nat} (hk : k < 4) : ∃ x : Option Addr, f (10 + k) = .pointer x ∧ (x.isNone = true → ¬ (s.st.getD k none).isSome) ∧ (x.isNone = false → (s.st.getD k none).isSome) := by
 rcases h.st k hk with ⟨h1, h2⟩ | ⟨L, t, h1, _, _, h2, _⟩
 ·exact ⟨none, h2, fun _ => by rw [h1]; simp, nofun⟩
 ·exact ⟨_, h2, nofun, fun _ => by rw [h1]; rfl⟩
def scanV (f : Nat → Value) (t : List (Nat × Nat)) (i : Nat) : Value := f (14 + (if i % 2 = 0 then (t.getD (i / 2) (0, 0)).1 else (t.getD (i / 2) (0, 0)).2))
def scanL (d : List Int) : List (Nat × Nat) := (List.range 3).map fun k => ((d.getD (2 + 2 * k) 0 / 16).toNat, (4 + d.getD (2 + 2 * k) 0 % 16).toNat)
theorem scanL_get {d : List Int} {k : Nat} (hk : k < 3) : (scanL d).getD k (0, 0) = ((d.getD (2 + 2 * k) 0 / 16).toNat, (4 + d.getD (2 + 2 * k) 0 % 16).toNat) := by
 unfold scanL
 rw [List.getD_eq_getElem?_getD, List.getElem?_map, List.getElem?_range hk]; rfl
theorem tabV_congr {n : Nat} {f g : Nat → Value} (h : ∀ i, i < n → f i = g i) : tabV n f = tabV n g := by
 unfold tabV
 congr 1
 exact List.map_congr_left fun i hi => h i (List.mem_range.1 hi)
theorem six_nil : (#[.pointer none, .pointer none, .pointer none, .pointer none, .pointer none, .pointer none] : Array Value) = tabV 6 fun _ => .pointer none := rfl
set_option maxHeartbeats 1000000 in
theorem c51 {f : Nat → Value} {Q : Heap → Prop} (hJr : JrP H0 Q f p l c s) (hs : St H0 H (.cell r (tabV 22 f) 75 :: σ)) {d : List Int} {dp : Option Addr} {dl dc : Nat} (hd : SlB H0 dp dl dc d)
    (hbad : scanM d s = none → ∀ cs H', cs.size = 6 → (∀ v ∈ cs.toList, v.oneCell' = true) → St H0 H' (.cell r (tabV 22 f) 75 :: σ) → R (.tuple #[.agg cs, .bool false]) H')
    (hR : ∀ t, scanM d s = some t → ∀ H', St H0 H' (.cell r (tabV 22 f) 75 :: σ) → R (.tuple #[.agg (tabV 6 (scanV f t)), .bool true]) H') :
    CallsH Try.prog 51 #[.pointer (some ⟨r, 0, none⟩), .slice dp dl dc] H R := by
  have hl := hd.len
  have no : ¬ (s.seen = true ∧ d.length = 10 ∧ d.getD 0 0 = 3 ∧ d.getD 7 0 = 0 ∧ d.getD 8 0 = 63 ∧ d.getD 9 0 = 0 ∧ ∀ k, k < 3 → scanOk d s k) → scanM d s = none := fun hn => by unfold scanM; rw [if_neg hn]
  refine Try.s51 ?_
  unfold Try.S51
  refine hs.alc fun b3 H1 hs1 => ?_
  rw [six_nil] at hs1
  have ret : ∀ (g : Nat → Value) (H2 : Heap), scanM d s = none → (∀ i, (g i).oneCell' = true) → St H0 H2 (.cell b3 (tabV 6 g) 77 :: .cell r (tabV 22 f) 75 :: σ) →
      ∃ v : Array Value, v.size = 6 ∧ rowIn H2 ⟨b3, 0, none⟩ v ∧ v.size = 6 ∧ stAt H2 ⟨b3, 0, none⟩ v.toList fun H' => ∃ re : Array Value, re.size = 6 ∧ rowIn H' ⟨b3, 0, none⟩ re ∧ R (.tuple #[.agg re, .bool false]) H' := fun g H2 hn hg hs2 =>
    retC (K := fun re H' => R (.tuple #[.agg re, .bool false]) H') hs2 0 rfl (tabV_size _ _) (tabV_one hg) fun H3 hs3 => hbad hn _ H3 (tabV_size _ _) (tabV_one hg) hs3.tail
  have r0 := fun hn => ret _ H1 hn (fun _ => rfl) hs1
  intro J hJ
  refine ⟨_, rfl, s.seen, by rw [← hJr.seen]; exact getV hs1 1 (j := 6) rfl (by omega), ?_⟩
  cases hseen : s.seen with
  | false => exact br_t rfl (r0 (no fun h => by rw [hseen] at h; cases h.1))
  | true =>
  refine br_f rfl (br_ne (fun h => r0 (no fun hh => by omega)) (fun h10 => ?_))
  have h10 : dl = 10 := by omega
  subst h10
  have hrd : ∀ {H' : Heap} {i : Nat}, Ext H0 H' → i < 10 → ∀ {K : Int → Prop}, K (d.getD i 0) → ∃ a : Addr, dp = some a ∧ 0 ≤ (i : Int) ∧ (i : Int) < ((10 : Nat) : Int) ∧ ∃ v : Int, Sh.cell H' (Addr.add a (Int.toNat (i : Int) * 1)) = some (.int .u8 v) ∧ K v := fun {H'} {i} he hi {K} hK => hd.rd he (i := (i : Int)) (by omega) (by omega) (by rw [Int.toNat_natCast]; exact hK)
  refine hrd hs1.ext (i := 0) (by omega) (br_ne (fun h => r0 (no fun hh => by omega)) (fun h3 => ?_))
  refine hrd hs1.ext (i := 7) (by omega) (br_ne (fun h => r0 (no fun hh => by omega)) (fun h7 => ?_))
  refine hrd hs1.ext (i := 8) (by omega) (br_ne (fun h => r0 (no fun hh => by omega)) (fun h8 => ?_))
  refine hrd hs1.ext (i := 9) (by omega) (br_ne (fun h => r0 (no fun hh => by omega)) (fun h9 => hJ H1 ?_))
  intro X hX
  have loop : ∀ k, k ≤ 3 → (∀ j, j < k → scanOk d s j) → ∀ (g : Nat → Value) (H4 : Heap), (∀ j, j < k → g (2 * j) = scanV f (scanL d) (2 * j) ∧ g (2 * j + 1) = scanV f (scanL d) (2 * j + 1)) → (∀ i, (g i).oneCell' = true) →
      St H0 H4 (.cell b3 (tabV 6 g) 77 :: .cell r (tabV 22 f) 75 :: σ) → X [.int .i64 (k : Nat)] H4 := upto fun k hk ih hpk g H4 hg ho hs4 => by
    refine hX _ H4 (br_dec (fun hlt => ?_) (fun hge => ?_))
    · have hlt : k < 3 := by omega
      have rk := fun hn : ¬ scanOk d s k => ret g H4 (no fun hh => hn (hh.2.2.2.2.2.2 k hlt)) ho hs4
      have w2 : IntKind.wrap .i64 ((2 : Int) * (k : Nat)) = ((2 * k : Nat) : Int) := by rw [wrap_id (by omega) (by omega)]; omega
      have w22 : IntKind.wrap .i64 ((2 : Int) + ((2 * k : Nat) : Int)) = ((2 + 2 * k : Nat) : Int) := by rw [wrap_id (by omega) (by omega)]; omega
      have w12 : IntKind.wrap .i64 ((1 : Int) + ((2 * k : Nat) : Int)) = ((1 + 2 * k : Nat) : Int) := by rw [wrap_id (by omega) (by omega)]; omega
      rw [w2, w22, w12]
      have bv := hd.byte (2 + 2 * k)
      have bw := hd.byte (1 + 2 * k)
      obtain ⟨p1, p2⟩ := byte_parts8' bv
      refine hrd hs4.ext (i := 2 + 2 * k) (by omega) ⟨by decide, hrd hs4.ext (i := 2 + 2 * k) (by omega) ?_⟩
      rw [p1, p2]
      intro J2 hJ2
      refine hrd hs4.ext (i := 1 + 2 * k) (by omega) ?_
      rw [wrap_id (n := d.getD (1 + 2 * k) 0) (by omega) (by omega), w1 (by omega)]
      refine br_ne (fun h => rk (fun hh => by have := hh.1; omega)) (fun hc0 => br_dec (fun h => rk (fun hh => by have := hh.2.1; omega)) (fun ha => br_dec (fun h => rk (fun hh => by have := hh.2.2.1; omega)) (fun hb => ⟨_, rfl, by omega, by omega, ?_⟩)))
      obtain ⟨hw4, hwk⟩ := hJr.wh k hlt
      refine ⟨(s.wh.getD k 0 : Nat), ?_, _, rfl, by omega, by omega, ?_⟩
      · rw [add_none, add_none, Nat.zero_add, Int.toNat_natCast, Nat.mul_one, getV hs4 1 rfl (by omega), hwk]
      obtain ⟨x, hx, hx1, hx2⟩ := hJr.stp hw4
      refine ⟨x, ?_, ?_⟩
      · rw [add_none, add_none, Nat.zero_add, Int.toNat_natCast, Nat.mul_one, getV hs4 1 rfl (by omega), hx]
      cases hxn : x.isNone with
      | true => exact br_t rfl (rk (fun hh => hx1 hxn hh.2.2.2.1))
      | false =>
      obtain ⟨na, hna⟩ := Int.eq_ofNat_of_zero_le (show 0 ≤ d.getD (2 + 2 * k) 0 / 16 by omega)
      obtain ⟨nb, hnb⟩ := Int.eq_ofNat_of_zero_le (show 0 ≤ d.getD (2 + 2 * k) 0 % 16 by omega)
      obtain ⟨y, hy, hy1, hy2⟩ := hJr.cdp (k := na) (by omega)
      obtain ⟨z, hz, hz1, hz2⟩ := hJr.cdp (k := 4 + nb) (by omega)
      have hwb : IntKind.wrap .u8 (d.getD (2 + 2 * k) 0 % 16 + 4) = ((4 + nb : Nat) : Int) := by rw [wr8 (by omega)]; omega
      have hta : (d.getD (2 + 2 * k) 0 / 16).toNat = na := by omega
      have htb : (4 + d.getD (2 + 2 * k) 0 % 16).toNat = 4 + nb := by omega
      refine br_f rfl (hJ2 H4 ⟨_, rfl, by omega, by omega, y, ?_, _, rfl, by omega, by omega, z, ?_, by omega, by omega, rfl, ?_⟩)
      · rw [hna, add_none, add_none, Nat.zero_add, Int.toNat_natCast, Nat.mul_one, getV hs4 1 rfl (by omega), hy]
      · rw [hwb, add_none, add_none, Nat.zero_add, Int.toNat_natCast, Nat.mul_one, getV hs4 1 rfl (by omega), hz]
      rw [add_none, Nat.zero_add, Int.toNat_natCast]
      have hok : y.isNone = false → z.isNone = false → scanOk d s k := fun h1 h2 => ⟨by omega, by omega, by omega, hx2 hxn, by rw [hta]; exact hy2 h1, by rw [htb]; exact hz2 h2⟩
      refine putV2 hs4 0 (j := k * 2) rfl (by omega) rfl rfl fun H5 hs5 => ⟨by omega, by omega, by omega, by omega, y, ?_, ?_⟩
      · rw [add_none, show Int.toNat 0 * 1 = 0 from rfl, Nat.add_zero, getV hs5 0 rfl (by omega), updV_ne (by omega), updV_at]
      have ho5 := updV_one (j := k * 2 + 1) (v := .pointer z) (updV_one (j := k * 2) (v := .pointer y) ho rfl) rfl
      have rk5 := fun hn : ¬ scanOk d s k => ret _ H5 (no fun hh => hn (hh.2.2.2.2.2.2 k hlt)) ho5 hs5
      cases hyn : y.isNone with
      | true => exact br_t rfl (rk5 (fun hh => hy1 hyn (by rw [← hta]; exact hh.2.2.2.2.1)))
      | false =>
      refine br_f rfl ⟨by omega, by omega, by omega, by omega, z, ?_, ?_⟩
      · rw [add_none, show Int.toNat 1 * 1 = 1 from rfl, getV hs5 0 rfl (by omega), updV_at]
      cases hzn : z.isNone with
      | true => exact br_t rfl (rk5 (fun hh => hz1 hzn (by rw [← htb]; exact hh.2.2.2.2.2)))
      | false =>
      rw [w1 (by omega)]
      refine br_f rfl (ih hlt (fun j hj => ?_) _ H5 (fun j hj => ?_) ho5 hs5)
      · rcases Nat.lt_or_ge j k with h | h
        · exact hpk j h
        · rw [show j = k by omega]; exact hok hyn hzn
      · rcases Nat.lt_or_ge j k with h | h
        · rw [updV_ne (by omega), updV_ne (by omega), updV_ne (by omega), updV_ne (by omega)]; exact hg j h
        · have : j = k := by omega
          subst this
          rw [show j * 2 = 2 * j by omega, updV_ne (by omega), updV_at, updV_at]
          unfold scanV
          rw [if_pos (by omega), if_neg (by omega), show 2 * j / 2 = j by omega, show (2 * j + 1) / 2 = j by omega, scanL_get hlt]
          simp only
          rw [hta, htb, hy, hz]
          exact ⟨rfl, rfl⟩
    · have : k = 3 := by omega
      subst this
      have hsc : scanM d s = some (scanL d) := by unfold scanM; rw [if_pos ⟨hseen, hl, h3, h7, h8, h9, hpk⟩]; rfl
      refine retC (K := fun re H' => R (.tuple #[.agg re, .bool true]) H') hs4 0 rfl (tabV_size _ _) (tabV_one ho) fun H5 hs5 => ?_
      have e : tabV 6 g = tabV 6 (scanV f (scanL d)) := tabV_congr fun i hi => by
        rcases Nat.mod_two_eq_zero_or_one i with h | h
        · have := (hg (i / 2) (by omega)).1
          rwa [show 2 * (i / 2) = i by omega] at this
        · have := (hg (i / 2) (by omega)).2
          rwa [show 2 * (i / 2) + 1 = i by omega] at this
      rw [e]
      exact hR _ hsc H5 hs5.tail
  exact loop 0 (by omega) (fun j hj => by omega) _ H1 (fun j hj => by omega) (fun _ => rfl) hs1
end
end Go.Proofs
namespace Go.Proofs
open Go.Sh
variable {H0 H : Heap} {σ : List Rs} {R : Value → Heap → Prop}
noncomputable def markM (ma : Int) (d r : List Int) (s : Jst) : Option (Jst × List (Nat × Nat) × List Int) :=
 if 224 ≤ ma ∧ ma ≤ 239 ∨ ma = 254 then headM r s
 else if ma = 219 then (match stepsD d s.st with
  | none => none
  | some S => headM r { s with st := S })
 else if ma = 192 then (match sizesM d s with
  | none => none
  | some s' => headM r s')
 else if ma = 196 then (match codesD d s.cd with
  | none => none
  | some C => headM r { s with cd := C })
 else if ma = 218 then (match scanM d s with
  | none => none
  | some t => some (s, t, r))
 else none
theorem headM_no {b : List Int} {s : Jst} (h : b.length < 2 ∨ b.getD 0 0 ≠ 255) : headM b s = none := by rw [headM, if_pos h]
theorem headM_noseg {b : List Int} {s : Jst} (h : segM (b.drop 2) = none) : headM b s = none := by
 by_cases h1 : b.length < 2 ∨ b.getD 0 0 ≠ 255
 ·exact headM_no h1
 ·rw [headM, if_neg h1]
  split
  ·rfl
  ·rename_i heq; rw [h] at heq; cases heq
theorem headM_seg {b d r : List Int} {s : Jst} (h1 : ¬ (b.length < 2 ∨ b.getD 0 0 ≠ 255)) (h : segM (b.drop 2) = some (d, r)) : headM b s = markM (b.getD 1 0) d r s := by
 rw [headM, if_neg h1]
 split
 ·rename_i heq; rw [h] at heq; cases heq
 ·rename_i heq; rw [h] at heq; cases heq; rfl
theorem drop2 {b : List Int} {i : Nat} (h : i + 1 < b.length) : b.drop i = b.getD i 0 :: b.getD (i + 1) 0 :: b.drop (i + 2) := by
 rw [List.drop_eq_getElem_cons (by omega), List.drop_eq_getElem_cons h, gD_get (List.getElem?_eq_getElem (show i < b.length by omega)), gD_get (List.getElem?_eq_getElem h)]
section
variable {r l c : Nat} {p : Option Addr} {s : Jst} {b : List Int}
set_option maxHeartbeats 1000000 in
theorem c28 (hs : St H0 H (jrR H0 r p l c s :: σ)) (hb : SlB H0 p l c b) (hbl : l ≤ 1000000000)
    (hbad : headM b s = none → ∀ cs H', cs.size = 6 → (∀ v ∈ cs.toList, v.oneCell' = true) → St H0 H' σ → R (.tuple #[.agg cs, .bool false]) H')
    (hR : ∀ s' t rest, headM b s = some (s', t, rest) → ∀ f Q p' l' c', JrP H0 Q f p' l' c' s' → SlB H0 p' l' c' rest → l' ≤ 1000000000 → ∀ H', St H0 H' (.cell r (tabV 22 f) 75 :: .pers Q :: σ) → R (.tuple #[.agg (tabV 6 (scanV f t)), .bool true]) H') :
    CallsH Try.prog 28 #[.pointer (some ⟨r, 0, none⟩)] H R := by
  obtain ⟨res, hres⟩ : ∃ x, headM b s = x := ⟨_, rfl⟩
  rw [hres] at hbad
  simp only [hres] at hR
  refine Try.s28 ?_
  unfold Try.S28
  refine hs.alc fun b2 H1 hs1 => ?_
  rw [six_nil] at hs1
  have hs1 := hs1.swap
  have ret : ∀ {ρ : Rs} (H2 : Heap), res = none → St H0 H2 (ρ :: .cell b2 (tabV 6 fun _ => .pointer none) 77 :: σ) →
      ∃ v : Array Value, v.size = 6 ∧ rowIn H2 ⟨b2, 0, none⟩ v ∧ v.size = 6 ∧ stAt H2 ⟨b2, 0, none⟩ v.toList fun H' => ∃ re : Array Value, re.size = 6 ∧ rowIn H' ⟨b2, 0, none⟩ re ∧ R (.tuple #[.agg re, .bool false]) H' := fun H2 hn hs2 =>
    retC (K := fun re H' => R (.tuple #[.agg re, .bool false]) H') hs2 1 rfl (tabV_size _ _) (tabV_one fun _ => rfl) fun H3 hs3 => hbad hn _ H3 (tabV_size _ _) (tabV_one fun _ => rfl) hs3.tail.tail
  have ret' : ∀ (H2 : Heap), res = none → St H0 H2 (.cell b2 (tabV 6 fun _ => .pointer none) 77 :: σ) →
      ∃ v : Array Value, v.size = 6 ∧ rowIn H2 ⟨b2, 0, none⟩ v ∧ v.size = 6 ∧ stAt H2 ⟨b2, 0, none⟩ v.toList fun H' => ∃ re : Array Value, re.size = 6 ∧ rowIn H' ⟨b2, 0, none⟩ re ∧ R (.tuple #[.agg re, .bool false]) H' := fun H2 hn hs2 =>
    retC (K := fun re H' => R (.tuple #[.agg re, .bool false]) H') hs2 0 rfl (tabV_size _ _) (tabV_one fun _ => rfl) fun H3 hs3 => hbad hn _ H3 (tabV_size _ _) (tabV_one fun _ => rfl) hs3.tail
  intro X hX
  have loop : ∀ (m : Nat) (b : List Int) (p : Option Addr) (l c : Nat) (s : Jst) (H2 : Heap), b.length ≤ m → SlB H0 p l c b → l ≤ 1000000000 → headM b s = res → St H0 H2 (jrR H0 r p l c s :: .cell b2 (tabV 6 fun _ => .pointer none) 77 :: σ) → X [] H2 := by
    intro m
    induction m with
    | zero =>
      intro b p l c s H2 hm hb hbl he hs2
      have hl := hb.len
      rw [headM_no (.inl (by omega))] at he
      refine hX H2 ?_
      intro J hJ
      exact ⟨_, rfl, _, _, _, jrR_b hs2, br_y (by omega) (ret H2 he.symm hs2)⟩
    | succ m ih =>
      intro b p l c s H2 hm hb hbl he hs2
      have hl := hb.len
      have hle := hb.le
      refine hX H2 ?_
      intro J hJ
      refine ⟨_, rfl, _, _, _, jrR_b hs2, br_dec (fun h2 => ?_) (fun h2 => ⟨_, rfl, _, _, _, jrR_b hs2, hb.rd hs2.ext (by omega) (by omega) (br_ne (fun hff => ?_) (fun hff => hJ H2 ?_))⟩)⟩
      · rw [headM_no (.inl (by omega))] at he
        exact ret H2 he.symm hs2
      · rw [headM_no (.inr hff)] at he
        exact ret H2 he.symm hs2
      clear hJ J
      have hok : ¬ (b.length < 2 ∨ b.getD 0 0 ≠ 255) := fun h => by
        rcases h with h | h
        · omega
        · exact h hff
      have hma := hb.byte 1
      refine ⟨_, rfl, _, _, _, jrR_b hs2, hb.rd hs2.ext (by omega) (by omega) ⟨_, rfl, _, _, _, jrR_b hs2, by decide, by omega, _, rfl, ?_⟩⟩
      refine jrR_putB hs2 _ _ _ fun H3 hs3 => ?_
      have hb2 := hb.from_ (m := 2) (by omega)
      refine c47 hs3 hb2 (fun hno H4 hs4 => ⟨_, _, _, _, rfl, br_t rfl ?_⟩) (fun d rest p1 l1 c1 p2 l2 c2 hseg hd hrest H4 hs4 => ⟨_, _, _, _, rfl, br_f rfl ?_⟩)
      · rw [headM_noseg hno] at he
        exact ret' H4 he.symm hs4
      rw [headM_seg hok hseg] at he
      rw [show Int.toNat 1 = 1 from rfl]
      generalize b.getD 1 0 = ma at he hma ⊢
      unfold markM at he
      have hsl := segM_len hseg
      rw [List.length_drop] at hsl
      have hrl := hrest.len
      have hdl : l1 ≤ 1000000000 := by
        have h1 := hd.len
        have : d.length ≤ b.length := by
          unfold segM at hseg
          split at hseg
          · cases hseg
          · split at hseg
            · cases hseg
            · cases hseg; simp; omega
        omega
      have hm' : rest.length ≤ m := by omega
      intro J hJ
      have go : ∀ (s' : Jst) (H5 : Heap), headM rest s' = res → St H0 H5 (jrR H0 r p2 l2 c2 s' :: .cell b2 (tabV 6 fun _ => .pointer none) 77 :: σ) → J [.bool true] H5 := fun s' H5 he' hs5 =>
        hJ _ H5 (br_f rfl (ih rest p2 l2 c2 s' H5 hm' hrest (by omega) he' hs5))
      have stop : ∀ (H5 : Heap), res = none → St H0 H5 (.cell b2 (tabV 6 fun _ => .pointer none) 77 :: σ) → J [.bool false] H5 := fun H5 hn hs5 => hJ _ H5 (br_t rfl (ret' H5 hn hs5))
      refine br_dec (fun h1 => br_dec (fun h2 => ?_) (fun h2 => ?_)) (fun h1 => ?_)
      · rw [if_pos (.inl ⟨h1, h2⟩)] at he
        exact go s H4 he hs4
      all_goals
        refine br_eq (fun hfe => ?_) (fun hfe => ?_)
        · rw [if_pos (.inr hfe)] at he
          exact go s H4 he hs4
        rw [if_neg (by omega)] at he
        refine br_eq (fun hm1 => ?_) (fun hm1 => ?_)
        · rw [if_pos hm1] at he
          refine c48 hs4 hd hdl (fun hno H5 hs5 => ⟨_, rfl, ?_⟩) (fun S hS H5 hs5 => ⟨_, rfl, ?_⟩)
          · rw [hno] at he; exact stop H5 he.symm hs5
          · rw [hS] at he; exact go _ H5 he hs5
        rw [if_neg hm1] at he
        refine br_eq (fun hm2 => ?_) (fun hm2 => ?_)
        · rw [if_pos hm2] at he
          refine c49 hs4 hd (fun hno H5 hs5 => ⟨_, rfl, ?_⟩) (fun S hS H5 hs5 => ⟨_, rfl, ?_⟩)
          · rw [hno] at he; exact stop H5 he.symm hs5
          · rw [hS] at he; exact go _ H5 he hs5
        rw [if_neg hm2] at he
        refine br_eq (fun hm3 => ?_) (fun hm3 => ?_)
        · rw [if_pos hm3] at he
          refine c50 hs4 hd hdl (fun hno H5 hs5 => ⟨_, rfl, ?_⟩) (fun S hS H5 hs5 => ⟨_, rfl, ?_⟩)
          · rw [hno] at he; exact stop H5 he.symm hs5
          · rw [hS] at he; exact go _ H5 he hs5
        rw [if_neg hm3] at he
        refine br_eq (fun hm4 => ?_) (fun hm4 => ?_)
        · rw [if_pos hm4] at he
          obtain ⟨f, Q, hJr, hs4'⟩ := jrR_op hs4
          refine c51 hJr hs4' hd (fun hno cs H5 hcs ho hs5 => ⟨_, _, rfl, hcs, ?_⟩) (fun t ht H5 hs5 => ⟨_, _, rfl, tabV_size _ _, ?_⟩)
          · rw [hno] at he
            refine hs5.putAll 2 rfl (by rw [Array.length_toList, hcs, tabV_size]) ho fun H6 hs6 => ⟨cs, hcs, ?_, hbad he.symm cs H6 hcs ho hs6.tail.tail.tail⟩
            exact rowIn_whole (hs6.block 2 rfl)
          · rw [ht] at he
            have ho : ∀ v ∈ (tabV 6 (scanV f t)).toList, v.oneCell' = true := tabV_one fun i => hJr.one _
            refine hs5.putAll 2 rfl (by rw [Array.length_toList, tabV_size, tabV_size]) ho fun H6 hs6 => ⟨_, tabV_size _ _, rowIn_whole (hs6.block 2 rfl), ?_⟩
            exact hR s t rest he.symm f Q p2 l2 c2 hJr hrest (by omega) H6 (hs6.del 2)
        · rw [if_neg hm4] at he
          exact stop H4 he.symm hs4.tail
  exact loop b.length b p l c s H1 (Nat.le_refl _) hb hbl hres hs1
theorem w1' {i : Nat} (hi : i ≤ 1000000000000) : IntKind.wrap .i64 ((i : Int) + 1) = ((i + 1 : Nat) : Int) := by rw [wrap_id (by omega) (by omega)]; omega
theorem c29 {f : Nat → Value} (hf : f 0 = .slice p l c) (hs : St H0 H (.cell r (tabV 22 f) 75 :: σ)) (hb : SlB H0 p l c b) (hbl : l ≤ 1000000000)
    (hbad : bodyM b = none → ∀ q n m H', St H0 H' (.cell r (tabV 22 f) 75 :: σ) → R (.tuple #[.slice q n m, .bool false]) H')
    (hR : ∀ out, bodyM b = some out → (∀ x ∈ out, 0 ≤ x ∧ x < 256) → out.length ≤ l → ∀ q m H', St H0 H' (.sl q out.length m 5 1 (kints .u8 out) :: .cell r (tabV 22 f) 75 :: σ) → R (.tuple #[.slice q out.length m, .bool true]) H') :
    CallsH Try.prog 29 #[.pointer (some ⟨r, 0, none⟩)] H R := by
  have hl := hb.len
  obtain ⟨res, hres⟩ : ∃ x, bodyM b = x := ⟨_, rfl⟩
  rw [hres] at hbad
  simp only [hres] at hR
  refine Try.s29 ?_
  unfold Try.S29
  intro X hX
  have loop : ∀ (m i : Nat) (acc : List Int) (q : Option Addr) (k : Nat) (H2 : Heap), l - i ≤ m → i ≤ l → acc.length ≤ i → (∀ x ∈ acc, 0 ≤ x ∧ x < 256) → (bodyM (b.drop i)).map (acc ++ ·) = res → St H0 H2 (.sl q acc.length k 5 1 (kints .u8 acc) :: .cell r (tabV 22 f) 75 :: σ) →
      X [.slice q acc.length k, .int .i64 (i : Nat)] H2 := by
    intro m
    induction m with
    | zero =>
      intro i acc q k H2 hm hi hacc hrng he hs2
      have hB : cell H2 ⟨r, 0, none⟩ = some (.slice p l c) := by rw [getV hs2 1 rfl (by omega), hf]
      refine hX _ _ _ _ H2 ⟨_, rfl, _, _, _, hB, ?_⟩
      rw [w1' (by omega)]
      refine br_n (by omega) (hbad ?_ _ _ _ H2 hs2.tail)
      rw [← he, List.drop_eq_nil_of_le (by omega)]; rfl
    | succ m ih =>
      intro i acc q k H2 hm hi hacc hrng he hs2
      have hB : ∀ {H2 : Heap} {ρ : Rs}, St H0 H2 (ρ :: .cell r (tabV 22 f) 75 :: σ) → cell H2 ⟨r, 0, none⟩ = some (.slice p l c) := fun hs2 => by rw [getV hs2 1 rfl (by omega), hf]
      refine hX _ _ _ _ H2 ⟨_, rfl, _, _, _, hB hs2, ?_⟩
      rw [w1' (by omega)]
      refine br_dec (fun hlt => ⟨_, rfl, _, _, _, hB hs2, hb.rd hs2.ext (by omega) (by omega) ?_⟩) (fun hge => hbad ?_ _ _ _ H2 hs2.tail)
      · have hlt : i + 1 < l := by omega
        rw [Int.toNat_natCast]
        rw [drop2 (by omega)] at he
        have bi := hb.byte i
        have bi1 := hb.byte (i + 1)
        have put : ∀ (v : Int) (i' : Nat), 0 ≤ v ∧ v < 256 → i < i' → i' ≤ l → (bodyM (b.drop i')).map ((acc ++ [v]) ++ ·) = res → alc H2 (.cells #[.int .u8 v] 5) fun b12 H13 => appQ 1 1 #[.int .u8 0] H13 q acc.length k (some ⟨b12, 0, none⟩) 1 5 fun op ol oc H15 => X [.slice op ol oc, .int .i64 (i' : Nat)] H15 := fun v i' hv hi1 hi2 he' => by
          refine hs2.alc fun b12 H3 hs3 => hs3.appC 1 0 rfl rfl rfl (fun w hw => by rw [List.mem_singleton.1 hw]; rfl) (by decide) rfl (by omega) (by omega) fun p' c' H4 hs4 => ?_
          have hs4 := hs4.tail
          simp only [List.set_cons_zero, List.set_cons_succ] at hs4
          have e : kints .u8 acc ++ [Value.int .u8 v] = kints .u8 (acc ++ [v]) := by rw [kints_append]; rfl
          have e' : acc.length + 1 = (acc ++ [v]).length := by simp
          rw [e, e'] at hs4
          rw [e']
          refine ih i' (acc ++ [v]) p' c' H4 (by omega) (by omega) (by rw [← e']; omega) (fun x hx => ?_) he' hs4
          rcases List.mem_append.1 hx with h | h
          · exact hrng x h
          · rw [List.mem_singleton.1 h]; exact hv
        rw [bodyM] at he
        refine br_ne (fun hc => ?_) (fun hc => ?_)
        · rw [if_pos hc] at he
          refine put _ (i + 1) bi (by omega) (by omega) ?_
          rw [List.drop_eq_getElem_cons (by omega), ← gD_get (List.getElem?_eq_getElem (show i + 1 < b.length by omega)) (d := 0), show i + 1 + 1 = i + 2 by omega, ← he, Option.map_map]
          congr 1; funext x; simp
        · rw [if_neg (by omega)] at he
          refine ⟨_, rfl, _, _, _, hB hs2, hb.rd hs2.ext (by omega) (by omega) ?_⟩
          rw [Int.toNat_natCast]
          refine br_ne (fun hd => ?_) (fun hd => ?_)
          · rw [if_pos hd] at he
            refine ⟨_, rfl, _, _, _, hB hs2, hb.rd hs2.ext (by omega) (by omega) ?_⟩
            rw [Int.toNat_natCast]
            refine br_eq (fun h9 => ⟨_, rfl, _, _, _, hB hs2, ?_⟩) (fun h9 => ?_)
            · rw [wrap_id (by omega) (by omega)]
              by_cases hend : i + 2 = l
              · rw [if_pos ⟨h9, List.drop_eq_nil_of_le (by omega)⟩] at he
                simp only [Option.map_some, List.append_nil] at he
                rw [show ((i : Int) + 2 == (l : Int)) = true from by rw [beq_iff_eq]; omega]
                exact hR acc he.symm hrng (by omega) q k H2 hs2
              · rw [if_neg (fun h => by have := congrArg List.length h.2; simp at this; omega)] at he
                rw [show ((i : Int) + 2 == (l : Int)) = false from by rw [beq_eq_false_iff_ne]; omega]
                exact hbad he.symm _ _ _ H2 hs2.tail
            · rw [if_neg (fun h => h9 h.1)] at he
              exact hbad he.symm _ _ _ H2 hs2.tail
          · rw [if_neg (by omega)] at he
            rw [w1' (by omega)]
            refine put _ (i + 2) bi (by omega) (by omega) ?_
            rw [← he, hc, Option.map_map]
            congr 1; funext x; simp
      · have : (b.drop i).length ≤ 1 := by rw [List.length_drop]; omega
        rw [← he]
        match h : b.drop i with
        | [] => rfl
        | [x] => rfl
        | x :: y :: z => rw [h] at this; simp at this
  exact loop l 0 [] none 0 H (by omega) (by omega) (by simp) (by simp) (by rw [List.drop_zero, hres]; cases res <;> simp) (hs.nilSl _ _)
end
end Go.Proofs
namespace Go.Proofs
open Go.Sh
variable {H0 H : Heap} {σ : List Rs} {R : Value → Heap → Prop}
theorem flat_take {l : List (List Int)} {t : Nat} {b : List Int} (h : l[t]? = some b) : (l.take (t + 1)).flatten = (l.take t).flatten ++ b := by
 rw [List.take_add_one, h]; simp
theorem St.rebase {H1 H2 : Heap} (he : Ext H H1) (hs : St H1 H2 σ) : St H H2 σ := by
 have := (St.of_ext he).call hs
 rwa [List.append_nil] at this
theorem order_cnt (W Ht : Nat) (half : Bool) (hW : W ≤ 1000) (hH : Ht ≤ 1000) : (orderM W Ht half).length ≤ 95256 := by
 have h1 := rows_len half (unitsN half W) (unitsN half Ht)
 have hny : unitsN half Ht ≤ 126 := by unfold unitsN sideM; cases half <;> simp <;> omega
 have hnx : unitsN half W ≤ 126 := by unfold unitsN sideM; cases half <;> simp <;> omega
 have hb2 : unitsN half Ht * (6 * unitsN half W) ≤ 126 * (6 * 126) := Nat.mul_le_mul (by omega) (by omega)
 unfold orderM
 omega
theorem order_cnt2 (W Ht : Nat) (half : Bool) (hW : W ≤ 40000) (hH : Ht ≤ 40000) : (orderM W Ht half).length ≤ 150060006 := by
 have h1 := rows_len half (unitsN half W) (unitsN half Ht)
 have hny : unitsN half Ht ≤ 5001 := by unfold unitsN sideM; cases half <;> simp <;> omega
 have hnx : unitsN half W ≤ 5001 := by unfold unitsN sideM; cases half <;> simp <;> omega
 have hb2 : unitsN half Ht * (6 * unitsN half W) ≤ 5001 * (6 * 5001) := Nat.mul_le_mul (by omega) (by omega)
 unfold orderM
 omega
theorem rowPlaces {H : Heap} {p : Option Addr} {n : Nat} {el : TypeId} {O : List (Nat × Nat × Nat)} (h : RS H p n el 3 (ints (flat3 O))) {t : Nat} {u : Nat × Nat × Nat} (hu : O[t]? = some u) (ht : t < n) :
    ∃ blk, p = some ⟨blk, 0, none⟩ ∧ rowIn H ⟨blk, t * 3, none⟩ #[.int .i64 (u.1 : Nat), .int .i64 (u.2.1 : Nat), .int .i64 (u.2.2 : Nat)] :=
  h.row ht (by decide) fun j v hv => by
    obtain ⟨h1, h2, h3⟩ := flat3_get hu
    have hj := (Array.getElem?_eq_some_iff.1 hv).1
    obtain rfl | rfl | rfl : j = 0 ∨ j = 1 ∨ j = 2 := by simp at hj; omega
    · cases hv; exact ints_get h1
    · cases hv; exact ints_get h2
    · cases hv; exact ints_get h3
set_option maxHeartbeats 4000000 in
theorem c8 {w h q : Int} {l c : Nat} {p : Option Addr} {rgb : List Int} {half : Bool} (hi : IS H p l (kints .u8 rgb)) (hr : ∀ x ∈ rgb, 0 ≤ x ∧ x < 256) (hl : l ≤ 3000)
    (h31 : ¬ SizedM w h → ∀ H', Ext H H' → R (.tuple #[.slice none 0 0, .int .i64 31]) H')
    (h25 : SizedM w h → (l : Int) ≠ 3 * w * h → ∀ H', Ext H H' → R (.tuple #[.slice none 0 0, .int .i64 25]) H')
    (h32 : SizedM w h → (l : Int) = 3 * w * h → ¬ (1 ≤ q ∧ q ≤ 100) → ∀ H', Ext H H' → R (.tuple #[.slice none 0 0, .int .i64 32]) H')
    (hR : ∀ W Ht : Nat, w = W → h = Ht → 1 ≤ W → 1 ≤ Ht → l = 3 * (W * Ht) → W * Ht ≤ 1000 → 1 ≤ q ∧ q ≤ 100 → ∀ H' b m, St H H' [.sl b (orderM W Ht half).length m 40 64 (ints (blocksL W Ht rgb q half).flatten)] → R (.tuple #[.slice b (orderM W Ht half).length m, .int .i64 0]) H') :
    CallsH Try.prog 8 #[.int .i64 w, .int .i64 h, .slice p l c, .int .i64 q, .bool half] H R := by
  refine Try.s8 ?_
  unfold Try.S8
  refine stepsC fun H1 e1 => ⟨_, _, rfl, ?_⟩
  refine (St.of_ext e1).alc fun b10 H2 hs2 => ⟨by rw [intsA_size]; exact stL_len q false, hs2.putAllA 0 rfl (by rw [stL_len]; simp) fun H3 hs3 => ?_⟩
  refine stepsC fun H4 e4 => ⟨_, _, rfl, ?_⟩
  refine (hs3.step e4).alc fun b17 H5 hs5 => ⟨by rw [intsA_size]; exact stL_len q true, hs5.putAllA 0 rfl (by rw [stL_len]; simp) fun H6 hs6 => ?_⟩
  have e6 := hs6.ext
  refine c22 ⟨_, rfl, br_not (fun hns => h31 (of_decide_eq_false hns) H6 e6) (fun hsz => ?_)⟩
  have hsz := of_decide_eq_true hsz
  have hm := mul_bd2 (w := w) (h := h) (by unfold SizedM at hsz; omega) (by unfold SizedM at hsz; omega)
  have e3 : IntKind.wrap .i64 (IntKind.wrap .i64 (3 * w) * h) = 3 * w * h := by
    unfold SizedM at hsz
    have e := Int.mul_assoc 3 w h
    rw [wrap_id (n := 3 * w) (by omega) (by omega), wrap_id (by omega) (by omega)]
  rw [e3]
  refine br_ne (fun hne => h25 hsz hne H6 e6) (fun heq => br_not (fun hnq => h32 hsz heq (of_decide_eq_false hnq) H6 e6) (fun hq => ?_))
  have hq := of_decide_eq_true hq
  unfold SizedM at hsz
  obtain ⟨W, rfl⟩ := Int.eq_ofNat_of_zero_le (show 0 ≤ w by omega)
  obtain ⟨Ht, rfl⟩ := Int.eq_ofNat_of_zero_le (show 0 ≤ h by omega)
  rw [Int.mul_assoc, ← Int.natCast_mul] at heq
  have hlN : l = 3 * (W * Ht) := by omega
  have hn : W * Ht ≤ 1000 := by omega
  have hW : 1 ≤ W := by omega
  have hH : 1 ≤ Ht := by omega
  obtain ⟨bW, bH⟩ := le_of_area hW hH hn
  have hR := hR W Ht rfl rfl hW hH hlN hn hq
  clear h31 h25 h32 heq e3 hm
  have hst : ∀ d, stL q d = stepsM q d := fun d => by unfold stL; rw [if_pos hq]
  rw [hst, hst] at hs6
  refine c23 (hi.ext e6) hr hlN hW hH hn fun H7 p0 c0 p1 n1 c1 p2 n2 c2 e7 i0 i1 i2 => ⟨_, rfl, ?_⟩
  have k10 : H7[b10]? = some (.cells (ints (stepsM q false)).toArray 40) := e7 _ _ (hs6.block 1 rfl)
  have k17 : H7[b17]? = some (.cells (ints (stepsM q true)).toArray 40) := e7 _ _ (hs6.block 0 rfl)
  have e67 := e6.trans e7
  have hsl : ∀ d, (stepsM q d).length = 64 := stepsM_len q
  refine (St.nil H7).alc fun b26 H8 hs8 => ⟨rfl, hs8.putAll 0 rfl rfl (by simp [Value.oneCell']) fun H9 hs9 => ?_⟩
  have hs9 : St H7 H9 [.cell b26 #[.int .i64 (W : Nat), .int .i64 (Ht : Nat), .slice p0 (W * Ht) c0, .int .i64 (hw half W : Nat), .int .i64 (hw half Ht : Nat), .slice p1 n1 c1, .int .i64 (hw half W : Nat), .int .i64 (hw half Ht : Nat), .slice p2 n2 c2] 60] := hs9
  refine c24 (Nat.le_trans bW (by decide)) (Nat.le_trans bH (by decide)) fun H10 qo mo hs10 => ⟨_, _, _, rfl, ?_⟩
  have hs10 := hs9.call hs10
  have hor := order_rng W Ht half bW bH
  have hcnt := order_cnt W Ht half bW bH
  have hbl := blocksL_len W Ht rgb q half
  have h64 := blocksL_64 W Ht rgb q half
  have hget : ∀ (t : Nat) (u : Nat × Nat × Nat), (orderM W Ht half)[t]? = some u → (blocksL W Ht rgb q half)[t]? = some (blockV W Ht rgb q half u) := fun t u h => by simp [blocksL, h]
  generalize hO : orderM W Ht half = O at *
  generalize hB : blocksL W Ht rgb q half = B at *
  -- a part's sample
  have pdim : ∀ n : Nat, 1 ≤ n → 1 ≤ hw half n ∧ hw half n ≤ n := fun n hn => by unfold hw; split <;> omega
  have parea : hw half W * hw half Ht ≤ 1000 := Nat.le_trans (Nat.mul_le_mul (pdim W hW).2 (pdim Ht hH).2) hn
  have plen : ∀ k, (partL W Ht rgb half k).length = hw half W * hw half Ht := fun k => by
    unfold partL hw
    cases half with
    | true => simp only [if_true]; exact halfL_len _ _ _
    | false => simp only [Bool.false_eq_true, if_false]; exact planeL_len _ _ _
  have part : ∀ {H11 : Heap} {R : Value → Heap → Prop} (k x y : Nat), k < 3 → x ≤ 3000 → y ≤ 3000 → St H7 H11 [.cell b26 #[.int .i64 (W : Nat), .int .i64 (Ht : Nat), .slice p0 (W * Ht) c0, .int .i64 (hw half W : Nat), .int .i64 (hw half Ht : Nat), .slice p1 n1 c1, .int .i64 (hw half W : Nat), .int .i64 (hw half Ht : Nat), .slice p2 n2 c2] 60] → (∀ H', Ext H11 H' → R (.int .i64 (sampM W Ht rgb half k x y)) H') →
      ∃ v47 : Array Value, v47.size = 3 ∧ rowIn H11 ⟨b26, k * 3, none⟩ v47 ∧ CallsH Try.prog 25 #[.agg v47, .int .i64 (x : Nat), .int .i64 (y : Nat)] H11 R := fun {H11 R} k x y hk hx hy hs hR' => by
    obtain rfl | rfl | rfl : k = 0 ∨ k = 1 ∨ k = 2 := by omega
    · refine ⟨#[.int .i64 (W : Nat), .int .i64 (Ht : Nat), .slice p0 (W * Ht) c0], rfl, rowIn_block (hs.block 0 rfl) fun j v hv => ?_, c25 (i0.ext hs.ext) (planeL_len _ _ _) hW hH hn (by omega) (by omega) fun H' e' => ?_⟩
      · have hj := (Array.getElem?_eq_some_iff.1 hv).1
        obtain rfl | rfl | rfl : j = 0 ∨ j = 1 ∨ j = 2 := by simp at hj; omega
        all_goals exact hv
      · have := hR' H' e'
        unfold sampM at this
        rw [if_neg (by simp)] at this
        exact this
    · refine ⟨#[.int .i64 (hw half W : Nat), .int .i64 (hw half Ht : Nat), .slice p1 n1 c1], rfl, rowIn_block (hs.block 0 rfl) fun j v hv => ?_, c25 (i1.ext hs.ext) (plen 1) (pdim W hW).1 (pdim Ht hH).1 parea (by omega) (by omega) fun H' e' => ?_⟩
      · have hj := (Array.getElem?_eq_some_iff.1 hv).1
        obtain rfl | rfl | rfl : j = 0 ∨ j = 1 ∨ j = 2 := by simp at hj; omega
        all_goals exact hv
      · rw [samp_part hW hH rgb half (by decide)]; exact hR' H' e'
    · refine ⟨#[.int .i64 (hw half W : Nat), .int .i64 (hw half Ht : Nat), .slice p2 n2 c2], rfl, rowIn_block (hs.block 0 rfl) fun j v hv => ?_, c25 (i2.ext hs.ext) (plen 2) (pdim W hW).1 (pdim Ht hH).1 parea (by omega) (by omega) fun H' e' => ?_⟩
      · have hj := (Array.getElem?_eq_some_iff.1 hv).1
        obtain rfl | rfl | rfl : j = 0 ∨ j = 1 ∨ j = 2 := by simp at hj; omega
        all_goals exact hv
      · rw [samp_part hW hH rgb half (by decide)]; exact hR' H' e'
  intro X hX
  have go : ∀ t, t ≤ O.length → ∀ H11 qb mb, St H7 H11 [.sl qb t mb 40 64 (ints (B.take t).flatten), .sl qo O.length mo 65 3 (ints (flat3 O)), .cell b26 #[.int .i64 (W : Nat), .int .i64 (Ht : Nat), .slice p0 (W * Ht) c0, .int .i64 (hw half W : Nat), .int .i64 (hw half Ht : Nat), .slice p1 n1 c1, .int .i64 (hw half W : Nat), .int .i64 (hw half Ht : Nat), .slice p2 n2 c2] 60] → X [.slice qb t mb, .int .i64 (t : Nat)] H11 := upto fun t ht ih H11 qb mb hs11 => by
    refine hX _ _ _ _ H11 (br_dec (fun hlt => ?_) (fun hge => ?_))
    · have hlt : t < O.length := by omega
      obtain ⟨u, hu⟩ : ∃ u, O[t]? = some u := ⟨_, List.getElem?_eq_getElem hlt⟩
      have hur := hor u (List.mem_of_getElem? hu)
      have hbt := hget t u hu
      obtain ⟨blk, hqo, hrow⟩ := rowPlaces (hs11.rs 1 rfl) hu hlt
      refine ⟨_, hqo, by omega, by omega, _, rfl, by rw [add_none, Nat.zero_add, Int.toNat_natCast]; exact hrow, ?_⟩
      rw [w1 (i := t) (by omega)]
      refine hs11.alc fun b38 H12 hs12 => ⟨rfl, hs12.putAll 0 rfl rfl (by simp [Value.oneCell']) fun H13 hs13 => hs13.alc fun b41 H14 hs14 => ?_⟩
      simp only [zeroA, List.set_cons_zero] at hs14
      clear hs11 hs12 hs13 hrow
      intro Y hY
      have hsm := smpL_len W Ht rgb half u
      -- behind the samples
      have rest : ∀ H15, St H7 H15 [.cell b41 (ints (smpL W Ht rgb half u)).toArray 40, .cell b38 #[.int .i64 (u.1 : Nat), .int .i64 (u.2.1 : Nat), .int .i64 (u.2.2 : Nat)] 65, .sl qb t mb 40 64 (ints (B.take t).flatten), .sl qo O.length mo 65 3 (ints (flat3 O)), .cell b26 #[.int .i64 (W : Nat), .int .i64 (Ht : Nat), .slice p0 (W * Ht) c0, .int .i64 (hw half W : Nat), .int .i64 (hw half Ht : Nat), .slice p1 n1 c1, .int .i64 (hw half W : Nat), .int .i64 (hw half Ht : Nat), .slice p2 n2 c2] 60] → Y [.int .i64 ((64 : Nat) : Int)] H15 := fun H15 hs15 => by
        have hfl := fwdM_len (smpL W Ht rgb half u)
        refine hY _ H15 (br_n (by decide) ⟨_, by rw [intsA_size]; exact hsm, rowIn_whole (hs15.block 0 rfl), c26 (smpL_small W Ht rgb half u) fun H16 e16 => ⟨_, rfl, ?_⟩⟩)
        refine (hs15.step e16).alc fun b58 H17 hs17 => ⟨by rw [intsA_size]; exact hfl, hs17.putAllA 0 rfl (by rw [hfl]; simp) fun H18 hs18 => ?_⟩
        simp only [List.set_cons_zero] at hs18
        clear hs17
        intro Z hZ
        have hvl := blockV_len W Ht rgb q half u
        have hvg : ∀ i, i < 64 → (blockV W Ht rgb q half u).getD i 0 = inStepsM ((fwdM (smpL W Ht rgb half u)).getD i 0) (stepV q (decide (0 < u.1)) i) := fun i hi => tab_getD hi
        have hfr : ∀ i, i < 64 → -5000 ≤ (fwdM (smpL W Ht rgb half u)).getD i 0 ∧ (fwdM (smpL W Ht rgb half u)).getD i 0 ≤ 5000 := fun i hi => fwd_rng (smpL_small W Ht rgb half u) hi
        generalize hF : fwdM (smpL W Ht rgb half u) = F at *
        generalize hV : blockV W Ht rgb q half u = V at *
        have mixl : ∀ i, i ≤ 64 → (V.take i ++ F.drop i).length = 64 := fun i hi => by rw [List.length_append, List.length_take, List.length_drop]; omega
        have go2 : ∀ i, i ≤ 64 → ∀ H19, St H7 H19 [.cell b58 (ints (V.take i ++ F.drop i)).toArray 40, .cell b41 (ints (smpL W Ht rgb half u)).toArray 40, .cell b38 #[.int .i64 (u.1 : Nat), .int .i64 (u.2.1 : Nat), .int .i64 (u.2.2 : Nat)] 65, .sl qb t mb 40 64 (ints (B.take t).flatten), .sl qo O.length mo 65 3 (ints (flat3 O)), .cell b26 #[.int .i64 (W : Nat), .int .i64 (Ht : Nat), .slice p0 (W * Ht) c0, .int .i64 (hw half W : Nat), .int .i64 (hw half Ht : Nat), .slice p1 n1 c1, .int .i64 (hw half W : Nat), .int .i64 (hw half Ht : Nat), .slice p2 n2 c2] 60] → Z [.int .i64 (i : Nat)] H19 := upto fun i hi ihi H19 hs19 => by
          refine hZ _ H19 (br_dec (fun hlti => ?_) (fun hgei => ?_))
          · have hlti : i < 64 := by omega
            have s0 : (stepsM q false)[i]? = some (stepV q false i) := tab_get hlti
            have s1 : (stepsM q true)[i]? = some (stepV q true i) := tab_get hlti
            have c10 : cell H19 (Addr.add ⟨b10, 0, none⟩ (Int.toNat (i : Int) * 1)) = some (.int .i64 (stepV q false i)) := by
              rw [add_none, Nat.zero_add, Int.toNat_natCast, Nat.mul_one]
              exact cell_get (hs19.ext _ _ k10) (by rw [List.getElem?_toArray]; exact ints_get s0)
            have c17 : cell H19 (Addr.add ⟨b17, 0, none⟩ (Int.toNat (i : Int) * 1)) = some (.int .i64 (stepV q true i)) := by
              rw [add_none, Nat.zero_add, Int.toNat_natCast, Nat.mul_one]
              exact cell_get (hs19.ext _ _ k17) (by rw [List.getElem?_toArray]; exact ints_get s1)
            refine ⟨by omega, by omega, _, c10, ?_⟩
            intro J hJ
            have nx : ∀ s, s = stepV q (decide (0 < u.1)) i → J [.int .i64 s] H19 := fun s hs => by
              subst hs
              have hfi : (V.take i ++ F.drop i)[i]? = some (F.getD i 0) := by
                rw [List.getElem?_append_right (by rw [List.length_take]; omega), List.length_take, Nat.min_eq_left (by omega), Nat.sub_self, List.getElem?_drop, Nat.add_zero, getD_some F 0 (by omega)]
              refine hJ _ H19 ⟨by omega, by omega, F.getD i 0, ?_, ?_⟩
              · rw [add_none, Nat.zero_add, Int.toNat_natCast, Nat.mul_one]; exact hs19.rdA 0 rfl hfi
              · refine c27 (hfr i hlti) (stepV_rng _ _ _) ⟨_, rfl, by omega, by omega, ?_⟩
                rw [add_none, Nat.zero_add, Int.toNat_natCast, Nat.mul_one, w1 (i := i) (by omega), ← hvg i hlti]
                refine hs19.putA 0 rfl (by rw [mixl i hi]; exact hlti) fun H20 hs20 => ihi hlti H20 ?_
                have e : (V.take i ++ F.drop i).set i (V.getD i 0) = V.take (i + 1) ++ F.drop (i + 1) := by
                  rw [List.set_append_right _ _ (by rw [List.length_take]; omega), List.length_take, Nat.min_eq_left (by omega), Nat.sub_self, List.drop_eq_getElem_cons (by omega), List.set_cons_zero, List.take_add_one, getD_some V 0 (by omega), List.append_assoc]; rfl
                rw [e] at hs20
                exact hs20
            refine ⟨_, hs19.get 2 (j := 0) rfl rfl, br_dec (fun hpos => ⟨by omega, by omega, _, c17, nx _ ?_⟩) (fun hz => nx _ ?_)⟩
            · rw [decide_eq_true (by omega)]
            · rw [decide_eq_false (by omega)]
          · have : i = 64 := by omega
            subst this
            rw [List.take_of_length_le (by omega), List.drop_of_length_le (by omega), List.append_nil] at hs19
            refine ⟨_, by rw [intsA_size]; exact hvl, rowIn_whole (hs19.block 0 rfl), by rw [intsA_size]; exact hvl, by decide, hs19.alc fun b76 H20 hs20 => ?_⟩
            rw [setL_all (by simp [ints, hvl])] at hs20
            refine hs20.appC 4 0 (el := 40) (k := 64) (n := 1) rfl rfl (by simp [ints, hvl]) (fun v hv => ints_one V v (by simpa using hv)) (by decide) (by simp) (by omega) (by omega) fun qb2 mb2 H21 hs21 => ?_
            refine ih hlt H21 qb2 mb2 ?_
            have hs22 := hs21.drop 4
            rw [flat_take hbt, ints_append]
            simpa using hs22
        exact go2 0 (by omega) H18 (by rw [List.take_zero, List.nil_append, List.drop_zero]; exact hs18)
      have hsg : ∀ i, i < 64 → (smpL W Ht rgb half u).getD i 0 = sampM W Ht rgb half u.1 (u.2.1 + i % 8) (u.2.2 + i / 8) - 128 := fun i hi => tab_getD hi
      have go1 : ∀ i, i ≤ 64 → ∀ H15, St H7 H15 [.cell b41 (ints (fillA (smpL W Ht rgb half u) i)).toArray 40, .cell b38 #[.int .i64 (u.1 : Nat), .int .i64 (u.2.1 : Nat), .int .i64 (u.2.2 : Nat)] 65, .sl qb t mb 40 64 (ints (B.take t).flatten), .sl qo O.length mo 65 3 (ints (flat3 O)), .cell b26 #[.int .i64 (W : Nat), .int .i64 (Ht : Nat), .slice p0 (W * Ht) c0, .int .i64 (hw half W : Nat), .int .i64 (hw half Ht : Nat), .slice p1 n1 c1, .int .i64 (hw half W : Nat), .int .i64 (hw half Ht : Nat), .slice p2 n2 c2] 60] → Y [.int .i64 (i : Nat)] H15 := upto fun i hi ihi H15 hs15 => by
        by_cases hlti : i < 64
        · refine hY _ H15 (br_y (by omega) ⟨_, hs15.get 1 (j := 0) rfl rfl, by omega, by omega, ?_⟩)
          obtain ⟨v47, hv1, hv2, hv3⟩ := part (H11 := H15) (R := fun r50 H_51 => ∃ r52 : Int, r50 = Value.int .i64 r52 ∧ 0 ≤ (i : Int) ∧ (i : Int) < ((64 : Nat) : Int) ∧ stAt H_51 (Addr.add ⟨b41, 0, none⟩ (Int.toNat (i : Int) * 1)) [Value.int .i64 (IntKind.wrap .i64 (r52 - (128 : Int)))] fun H_53 => Y [Value.int .i64 (IntKind.wrap .i64 ((i : Int) + (1 : Int)))] H_53) u.1 (u.2.1 + i % 8) (u.2.2 + i / 8) hur.1 (by omega) (by omega) (hs15.drop 4) (fun H16 e16 => by
            have hsr := sampM_rng W Ht rgb half u.1 (u.2.1 + i % 8) (u.2.2 + i / 8)
            refine ⟨_, rfl, by omega, by omega, ?_⟩
            rw [add_none, Nat.zero_add, Int.toNat_natCast, Nat.mul_one, w1 (i := i) (by omega), wrap_id (by omega) (by omega), ← hsg i hlti]
            refine (hs15.step e16).putA 0 rfl (by rw [fillA_len (by omega)]; omega) fun H17 hs17 => ihi hlti H17 ?_
            rw [fillA_set (by omega)] at hs17
            exact hs17)
          refine ⟨v47, hv1, by rw [add_none, Nat.zero_add, Int.toNat_natCast]; exact hv2, _, hs15.get 1 (j := 1) rfl rfl, by decide, _, hs15.get 1 (j := 2) rfl rfl, by decide, ?_⟩
          rw [ix3, ix4 (by omega), ← Int.natCast_add, wN (k := u.2.1 + i % 8) (by omega), ← Int.natCast_add, wN (k := u.2.2 + i / 8) (by omega)]
          exact hv3
        · have : i = 64 := by omega
          subst this
          have e := fillA_all (smpL W Ht rgb half u)
          rw [hsm] at e
          rw [e] at hs15
          exact rest H15 hs15
      exact go1 0 (by omega) H14 (by rw [fillA_zero, hsm]; exact hs14)
    · have : t = O.length := by omega
      subst this
      rw [List.take_of_length_le (by omega)] at hs11
      exact hR H11 qb mb (St.rebase e67 (hs11.take 1))
  exact go 0 (by omega) H10 none 0 (hs10.nilSl _ 64)
end Go.Proofs
namespace Go.Proofs
open Go.Sh
variable {H0 H : Heap} {σ : List Rs} {R : Value → Heap → Prop}
def w16 (n : Nat) : Nat := (n + 15) / 16 * 16
theorem w16_le (n : Nat) : n ≤ w16 n ∧ w16 n ≤ n + 15 := by unfold w16; omega
def putN (w x y : Nat) (v : List Int) (L : List Int) : Nat → List Int
 | 0 => L
 | i + 1 => (putN w x y v L i).set ((y + i / 8) * w + x + i % 8) (cutM (v.getD i 0 + 128))
theorem putN_len (w x y : Nat) (v L : List Int) : ∀ i, (putN w x y v L i).length = L.length
 | 0 => rfl
 | i + 1 => by rw [putN, List.length_set, putN_len]
def mulL (b st : List Int) : List Int := (List.range 64).map fun i => b.getD i 0 * st.getD i 0
def blkV (b st : List Int) : List Int := bakM (mulL b st)
def laidV (w n : Nat) (O : List (Nat × Nat × Nat)) (bl st : List (List Int)) : Nat → Nat → List Int
 | 0, _ => List.replicate n 0
 | t + 1, k => if k = (O.getD t (0, 0, 0)).1 then putN w (O.getD t (0, 0, 0)).2.1 (O.getD t (0, 0, 0)).2.2 (blkV (bl.getD t []) (st.getD (O.getD t (0, 0, 0)).1 [])) (laidV w n O bl st t k) 64 else laidV w n O bl st t k
theorem laidV_len (w n : Nat) (O : List (Nat × Nat × Nat)) (bl st : List (List Int)) : ∀ t k, (laidV w n O bl st t k).length = n
 | 0, _ => by simp [laidV]
 | t + 1, k => by rw [laidV]; split; rw [putN_len, laidV_len]; exact laidV_len w n O bl st t k
theorem byt_set {L : List Int} (h : Byt L) (j : Nat) {v : Int} (hv : 0 ≤ v ∧ v ≤ 255) : Byt (L.set j v) := fun i => by
 rcases Nat.lt_or_ge j L.length with hj | hj
 ·rw [getD_set_ite _ _ _ _ _ hj]; split
  ·exact hv
  ·exact h i
 ·rw [List.set_eq_of_length_le hj]; exact h i
theorem putN_byt {w x y : Nat} {v L : List Int} (h : Byt L) : ∀ i, Byt (putN w x y v L i)
 | 0 => h
 | i + 1 => by rw [putN]; exact byt_set (putN_byt h i) _ (cutM_rng _)
theorem laidV_byt (w n : Nat) (O : List (Nat × Nat × Nat)) (bl st : List (List Int)) : ∀ t k, Byt (laidV w n O bl st t k)
 | 0, _ => fun i => by
  rw [laidV]
  have : (List.replicate n (0 : Int)).getD i 0 = 0 := by rw [List.getD_eq_getElem?_getD, List.getElem?_replicate]; split <;> rfl
  omega
 | t + 1, k => by
  rw [laidV]; split
  ·exact putN_byt (laidV_byt w n O bl st t k) 64
  ·exact laidV_byt w n O bl st t k
def pxL (W : Nat) (half : Bool) (P : Nat → List Int) (i : Nat) : List Int :=
 colourL ((P 0).getD (i / W * w16 W + i % W) 0) ((P 1).getD ((if half then i / W / 2 else i / W) * w16 W + (if half then i % W / 2 else i % W)) 0) ((P 2).getD ((if half then i / W / 2 else i / W) * w16 W + (if half then i % W / 2 else i % W)) 0)
def rgbN (W : Nat) (half : Bool) (P : Nat → List Int) (n : Nat) : List Int := (List.range n).flatMap (pxL W half P)
theorem rgbN_succ (W : Nat) (half : Bool) (P : Nat → List Int) (n : Nat) : rgbN W half P (n + 1) = rgbN W half P n ++ pxL W half P n := by
 unfold rgbN; rw [List.range_succ, List.flatMap_append]; simp
theorem rgbN_len (W : Nat) (half : Bool) (P : Nat → List Int) : ∀ n, (rgbN W half P n).length = 3 * n
 | 0 => rfl
 | n + 1 => by rw [rgbN_succ, List.length_append, rgbN_len W half P n]; show 3 * n + 3 = _; omega
def laidP (W Ht : Nat) (half : Bool) (bl st : List (List Int)) : Nat → List Int := laidV (w16 W) (w16 W * w16 Ht) (orderM W Ht half) bl st (orderM W Ht half).length
def paintM (W Ht : Nat) (half : Bool) (bl st : List (List Int)) : List Int := rgbN W half (laidP W Ht half bl st) (W * Ht)
theorem paintM_len (W Ht : Nat) (half : Bool) (bl st : List (List Int)) : (paintM W Ht half bl st).length = 3 * (W * Ht) := rgbN_len _ _ _ _
structure PaintOk (W Ht : Nat) (half : Bool) (bl st : List (List Int)) : Prop where
 W1 : 1 ≤ W
 H1 : 1 ≤ Ht
 area : W * Ht ≤ 4194304
 W2 : W ≤ 32768
 H2 : Ht ≤ 32768
 bln : bl.length = (orderM W Ht half).length
 bl64 : ∀ b ∈ bl, b.length = 64
 blr : ∀ b ∈ bl, ∀ i, -32768 ≤ b.getD i 0 ∧ b.getD i 0 ≤ 32768
 stn : st.length = 3
 st64 : ∀ b ∈ st, b.length = 64
 str : ∀ b ∈ st, ∀ i, i < 64 → 1 ≤ b.getD i 0 ∧ b.getD i 0 ≤ 255
theorem mulL_mid {b s : List Int} (hb : ∀ i, -32768 ≤ b.getD i 0 ∧ b.getD i 0 ≤ 32768) (hs : ∀ i, i < 64 → 1 ≤ s.getD i 0 ∧ s.getD i 0 ≤ 255) : Mid (mulL b s) := by
 refine ⟨tab_len _ _, fun i => ?_⟩
 rcases Nat.lt_or_ge i 64 with hi | hi
 ·rw [show (mulL b s).getD i 0 = b.getD i 0 * s.getD i 0 from tab_getD hi]
  have := mul_bd (hb i) (show -255 ≤ s.getD i 0 ∧ s.getD i 0 ≤ 255 by have := hs i hi; omega)
  omega
 ·rw [gD_none _ _ (by rw [mulL, tab_len]; exact hi)]; omega
theorem order_in {W Ht : Nat} {half : Bool} : ∀ t ∈ orderM W Ht half, t.1 < 3 ∧ t.2.1 + 8 ≤ w16 W ∧ t.2.2 + 8 ≤ w16 Ht := fun t ht => by
 obtain ⟨j, hj, ht⟩ := List.mem_flatMap.1 ht
 obtain ⟨i, hi, ht⟩ := List.mem_flatMap.1 ht
 have hj := List.mem_range.1 hj
 have hi := List.mem_range.1 hi
 unfold unitsN sideM at hi hj
 unfold w16
 cases half with
 | true =>
  simp only [if_true] at hi hj
  simp [unitM] at ht
  rcases ht with rfl | rfl | rfl | rfl | rfl | rfl <;> simp <;> omega
 | false =>
  simp at hi hj
  simp [unitM] at ht
  rcases ht with rfl | rfl | rfl <;> simp <;> omega
theorem place_lt {w h x y i : Nat} (hx : x + 8 ≤ w) (hy : y + 8 ≤ h) (hi : i < 64) : (y + i / 8) * w + x + i % 8 < w * h := by
 have h1 : (y + i / 8) * w + w ≤ h * w := by
  rw [← Nat.succ_mul]; exact Nat.mul_le_mul_right w (by omega)
 rw [Nat.mul_comm w h]; omega
theorem w16_area {W Ht : Nat} (hW : 1 ≤ W) (hH : 1 ≤ Ht) (hn : W * Ht ≤ 4194304) : w16 W * w16 Ht ≤ 70000000 := by
 obtain ⟨b1, b2⟩ := le_of_area hW hH hn
 have h1 := (w16_le W).2
 have h2 := (w16_le Ht).2
 have h3 : w16 W * w16 Ht ≤ (W + 15) * (Ht + 15) := Nat.mul_le_mul h1 h2
 have h4 : (W + 15) * (Ht + 15) = W * Ht + 15 * W + 15 * Ht + 225 := by
  rw [Nat.add_mul, Nat.mul_add, Nat.mul_add]; omega
 have h5 : W + Ht ≤ W * Ht + 1 := by
  obtain ⟨a, rfl⟩ : ∃ a, W = a + 1 := ⟨W - 1, by omega⟩
  obtain ⟨b, rfl⟩ : ∃ b, Ht = b + 1 := ⟨Ht - 1, by omega⟩
  rw [Nat.add_mul, Nat.mul_add]; omega
 omega
def three (q : Nat → Nat) (n : Nat) (P : Nat → List Int) : List Rs := [.sl (some ⟨q 0, 0, none⟩) n n 3 1 (ints (P 0)), .sl (some ⟨q 1, 0, none⟩) n n 3 1 (ints (P 1)), .sl (some ⟨q 2, 0, none⟩) n n 3 1 (ints (P 2))]
def updP (P : Nat → List Int) (k : Nat) (L : List Int) : Nat → List Int := fun j => if j = k then L else P j
theorem three_get {q : Nat → Nat} {n k : Nat} {P : Nat → List Int} {ρ : List Rs} (hk : k < 3) : (three q n P ++ ρ)[k]? = some (.sl (some ⟨q k, 0, none⟩) n n 3 1 (ints (P k))) := by
 obtain rfl | rfl | rfl : k = 0 ∨ k = 1 ∨ k = 2 := by omega
 all_goals rfl
theorem three_set {q : Nat → Nat} {n k : Nat} {P : Nat → List Int} {ρ : List Rs} (hk : k < 3) (L : List Int) : (three q n P ++ ρ).set k (.sl (some ⟨q k, 0, none⟩) n n 3 1 (ints L)) = three q n (updP P k L) ++ ρ := by
 obtain rfl | rfl | rfl : k = 0 ∨ k = 1 ∨ k = 2 := by omega
 all_goals rfl
theorem updP_at (P : Nat → List Int) (k : Nat) (L : List Int) : updP P k L k = L := if_pos rfl
theorem updP_upd (P : Nat → List Int) (k : Nat) (L L' : List Int) : updP (updP P k L) k L' = updP P k L' := by
 funext j; unfold updP; split <;> simp_all
theorem planeAt2 {W Ht l c : Nat} {p : Option Addr} {L : List Int} (h : IS H p l (ints L)) (hL : L.length = W * Ht) (hn : W * Ht ≤ 100000000) (hW : W ≤ 100000) (hH : Ht ≤ 100000) {x y : Nat} (hx : x < W) (hy : y < Ht)
    (hR : ∀ H', Ext H H' → R (.int .i64 (L.getD (y * W + x) 0)) H') : CallsH Try.prog 25 #[.agg #[.int .i64 (W : Nat), .int .i64 (Ht : Nat), .slice p l c], .int .i64 (x : Nat), .int .i64 (y : Nat)] H R := by
  have hll : L.length = l := by have := h.len; rwa [ints_len] at this
  refine Try.s25 ?_
  unfold Try.S25
  refine (St.nil H).alc fun b4 H1 hs1 => ⟨_, _, _, hs1.get 0 (j := 2) rfl rfl, _, hs1.get 0 (j := 1) rfl rfl, _, hs1.get 0 (j := 0) rfl rfl, _, hs1.get 0 (j := 0) rfl rfl, ?_⟩
  have e1 : min (y : Int) (IntKind.wrap .i64 ((Ht : Int) - 1)) = (y : Nat) := by rw [wrap_id (by omega) (by omega)]; omega
  have e2 : min (x : Int) (IntKind.wrap .i64 ((W : Int) - 1)) = (x : Nat) := by rw [wrap_id (by omega) (by omega)]; omega
  have hlt := ix_lt (X := x) (Y := y) (W := W) (Ht := Ht) (by omega) (by omega) (by omega) (by omega)
  rw [e1, e2, ← Int.natCast_mul, wN (by omega), ← Int.natCast_add, wN (by omega)]
  exact (h.ext hs1.ext).rd (k := .i64) (by omega) (by omega) (by rw [Int.toNat_natCast]; exact getD_some L 0 (by omega)) (hR H1 hs1.ext)
end Go.Proofs
namespace Go.Proofs
open Go.Sh
def InvS (s : Jst) : Prop := s.seen = true → SizedM s.W s.Ht
structure ScanF (s : Jst) (t : List (Nat × Nat)) : Prop where
 rng : ∀ k, k < 3 → (t.getD k (0, 0)).1 < 4 ∧ (t.getD k (0, 0)).2 < 8
 st : ∀ k, k < 3 → (s.st.getD (s.wh.getD k 0) none).isSome
 c0 : ∀ k, k < 3 → (s.cd.getD (t.getD k (0, 0)).1 none).isSome
 c1 : ∀ k, k < 3 → (s.cd.getD (t.getD k (0, 0)).2 none).isSome
theorem sizesM_some {d : List Int} {s s' : Jst} (h : sizesM d s = some s') : s'.seen = true ∧ SizedM s'.W s'.Ht := by
 unfold sizesM at h
 split at h
 ·rename_i hc; cases h; exact ⟨rfl, hc.2.2.2.2.2⟩
 ·cases h
theorem scanM_some {d : List Int} {s : Jst} {t : List (Nat × Nat)} (hd : ∀ x ∈ d, 0 ≤ x ∧ x < 256) (h : scanM d s = some t) : s.seen = true ∧ ScanF s t := by
 unfold scanM at h
 split at h
 ·rename_i hc
  obtain ⟨h1, h2, _, _, _, _, hk⟩ := hc
  cases h
  have hg : ∀ k, k < 3 → ((List.range 3).map fun k => ((d.getD (2 + 2 * k) 0 / 16).toNat, (4 + d.getD (2 + 2 * k) 0 % 16).toNat)).getD k (0, 0) = ((d.getD (2 + 2 * k) 0 / 16).toNat, (4 + d.getD (2 + 2 * k) 0 % 16).toNat) := fun k hk => scanL_get hk
  refine ⟨h1, fun k hk3 => ?_, fun k hk3 => ?_, fun k hk3 => ?_, fun k hk3 => ?_⟩
  ·rw [hg k hk3]
   obtain ⟨_, a1, a2, _⟩ := hk k hk3
   have := getD_byte hd (2 + 2 * k)
   exact ⟨by show (d.getD (2 + 2 * k) 0 / 16).toNat < 4; omega, by show (4 + d.getD (2 + 2 * k) 0 % 16).toNat < 8; omega⟩
  ·exact (hk k hk3).2.2.2.1
  ·rw [hg k hk3]; exact (hk k hk3).2.2.2.2.1
  ·rw [hg k hk3]; exact (hk k hk3).2.2.2.2.2
 ·cases h
theorem segM_rng {b d r : List Int} (h : segM b = some (d, r)) (hb : ∀ x ∈ b, 0 ≤ x ∧ x < 256) : (∀ x ∈ d, 0 ≤ x ∧ x < 256) ∧ ∀ x ∈ r, 0 ≤ x ∧ x < 256 := by
 unfold segM at h
 split at h
 ·cases h
 ·split at h
  ·cases h
  ·cases h
   exact ⟨fun x hx => hb x (List.mem_of_mem_take (List.mem_of_mem_drop hx)), fun x hx => hb x (List.mem_of_mem_drop hx)⟩
theorem headM_ok : ∀ (m : Nat) {b : List Int} {s s' : Jst} {t : List (Nat × Nat)} {r : List Int}, b.length ≤ m → (∀ x ∈ b, 0 ≤ x ∧ x < 256) → InvS s → headM b s = some (s', t, r) → s'.seen = true ∧ SizedM s'.W s'.Ht ∧ ScanF s' t := by
 intro m
 induction m with
 | zero =>
  intro b s s' t r hm hb hi h
  rw [headM_no (.inl (by omega))] at h; cases h
 | succ m ih =>
  intro b s s' t r hm hb hi h
  by_cases hok : b.length < 2 ∨ b.getD 0 0 ≠ 255
  ·rw [headM_no hok] at h; cases h
  cases hseg : segM (b.drop 2) with
  | none => rw [headM_noseg hseg] at h; cases h
  | some dr =>
   obtain ⟨d, rest⟩ := dr
   rw [headM_seg hok hseg] at h
   have hl := segM_len hseg
   rw [List.length_drop] at hl
   obtain ⟨hd, hr⟩ := segM_rng hseg fun x hx => hb x (List.mem_of_mem_drop hx)
   have hm' : rest.length ≤ m := by omega
   unfold markM at h
   split at h
   ·exact ih hm' hr hi h
   split at h
   ·split at h
    ·cases h
    ·rename_i S hS; exact ih (s := { s with st := S }) hm' hr hi h
   split at h
   ·split at h
    ·cases h
    ·rename_i s2 hs2
     exact ih hm' hr (fun _ => (sizesM_some hs2).2) h
   split at h
   ·split at h
    ·cases h
    ·rename_i C hC; exact ih (s := { s with cd := C }) hm' hr hi h
   split at h
   ·split at h
    ·cases h
    ·rename_i t2 ht2
     cases h
     obtain ⟨h1, h2⟩ := scanM_some hd ht2
     exact ⟨h1, hi h1, h2⟩
   ·cases h
theorem valB_rng : ∀ (L : List Int), (∀ x ∈ L, x = 0 ∨ x = 1) → 0 ≤ valB L ∧ valB L < 2 ^ L.length := by
 intro L
 induction h : L.length generalizing L with
 | zero => intro _; rw [List.length_eq_zero_iff.1 h]; simp [valB]
 | succ n ih =>
  intro hL
  obtain ⟨M, x, rfl⟩ : ∃ M x, L = M ++ [x] := ⟨L.dropLast, L.getLast (by intro h'; rw [h'] at h; cases h), (List.dropLast_concat_getLast _).symm⟩
  have hM : M.length = n := by simp at h; exact h
  have := ih M hM fun y hy => hL y (List.mem_append_left _ hy)
  have hx := hL x (by simp)
  rw [valB_snoc]
  simp only [Int.pow_succ]
  omega
theorem bitsH_01 (B : List Int) : ∀ x ∈ bitsH B, x = 0 ∨ x = 1 := fun x hx => by
 obtain ⟨c, _, hx⟩ := List.mem_flatMap.1 hx
 obtain ⟨k, _, rfl⟩ := List.mem_map.1 hx
 omega
def Bits01 (L : List Int) : Prop := ∀ x ∈ L, x = 0 ∨ x = 1
theorem numJ_rng {n : Nat} {L L' : List Int} {v : Int} (hL : Bits01 L) (hn : n ≤ 15) (h : numJ n L = some (v, L')) : -32768 ≤ v ∧ v ≤ 32768 ∧ Bits01 L' := by
 unfold numJ at h
 split at h
 ·cases h
 ·cases h
  have h1 := valB_rng (L.take n) fun x hx => hL x (List.mem_of_mem_take hx)
  rw [List.length_take, Nat.min_eq_left (by omega)] at h1
  have h2 := signM_rng h1
  have hp : (2 : Int) ^ n ≤ 2 ^ 15 := pow_le hn
  have e15 : (2 : Int) ^ 15 = 32768 := by decide
  exact ⟨by omega, by omega, fun x hx => hL x (List.mem_of_mem_drop hx)⟩
theorem symB_01 {ls : List Int} : ∀ {g n : Nat} {v : Int} {L L' : List Int} {s : Nat}, Bits01 L → symB ls g n v L = some (s, L') → Bits01 L'
 | 0, _, _, L, _, _, _, h => by cases L <;> simp [symB] at h
 | g + 1, _, _, [], _, _, _, h => by simp [symB] at h
 | g + 1, n, v, b :: L, L', s, hL, h => by
  rw [symB] at h
  have hL' : Bits01 L := fun x hx => hL x (List.mem_cons_of_mem _ hx)
  split at h
  ·cases h; exact hL'
  ·split at h
   ·exact symB_01 hL' h
   ·cases h
def Blk (X : List Int) : Prop := X.length = 64 ∧ ∀ i, -32768 ≤ X.getD i 0 ∧ X.getD i 0 ≤ 32768
theorem Blk.set {X : List Int} (h : Blk X) {i : Nat} (hi : i < 64) {v : Int} (hv : -32768 ≤ v ∧ v ≤ 32768) : Blk (X.set i v) := by
 refine ⟨by rw [List.length_set]; exact h.1, fun j => ?_⟩
 rw [getD_set_ite _ _ _ _ _ (by rw [h.1]; exact hi)]
 split
 ·exact hv
 ·exact h.2 j
theorem Blk.zeros : Blk zeros64 := ⟨zeros64_len, fun i => by
 have : zeros64.getD i 0 = 0 := by unfold zeros64; rw [List.getD_eq_getElem?_getD, List.getElem?_replicate]; split <;> rfl
 omega⟩
theorem acJ_rng {t : TabJ} : ∀ (m k : Nat) {out L X L' : List Int}, 64 - k ≤ m → Blk out → Bits01 L → acJ t k out L = some (X, L') → Blk X ∧ Bits01 L' := by
 intro m
 induction m with
 | zero =>
  intro k out L X L' hm ho hL h
  rw [acJ, if_neg (by omega)] at h
  cases h; exact ⟨ho, hL⟩
 | succ m ih =>
  intro k out L X L' hm ho hL h
  rw [acJ] at h
  split at h
  ·split at h
   ·cases h
   ·rename_i s L1 hs
    have h1 : Bits01 L1 := symB_01 hL hs
    split at h
    ·cases h; exact ⟨ho, h1⟩
    split at h
    ·cases h
    split at h
    ·exact ih _ (by omega) ho h1 h
    split at h
    ·cases h
    ·rename_i v L2 hv
     have h2 := numJ_rng h1 (by omega) hv
     exact ih _ (by omega) (ho.set (zig_lt (by omega)) ⟨h2.1, h2.2.1⟩) h2.2.2 h
  ·cases h; exact ⟨ho, hL⟩
theorem blockJ_rng {T : TabJ × TabJ} {la : Int} {L X L' : List Int} (hL : Bits01 L) (h : blockJ T la L = some (X, L')) : Blk X ∧ Bits01 L' := by
 unfold blockJ at h
 split at h
 ·cases h
 ·rename_i s L1 hs
  have h1 : Bits01 L1 := symB_01 hL hs
  split at h
  ·cases h
  split at h
  ·cases h
  ·rename_i v L2 hv
   have h2 := numJ_rng h1 (by omega) hv
   have hc := cut16M_rng (la + v)
   exact acJ_rng 64 1 (by omega) (Blk.zeros.set (by omega) (by omega)) h2.2.2 h
end Go.Proofs
namespace Go.Proofs
open Go.Sh
def sizeM (v : Int) : Nat := if v = 0 then 0 else Nat.log2 v.natAbs + 1
def bitsM (v : Int) : Int := if v < 0 then v + 2 ^ sizeM v - 1 else v
theorem size_pow {v : Int} (h : v ≠ 0) : 0 < sizeM v ∧ (2 : Int) ^ (sizeM v - 1) ≤ v.natAbs ∧ (v.natAbs : Int) < 2 ^ sizeM v := by
 unfold sizeM
 rw [if_neg h]
 have h1 := Nat.log2_self_le (n := v.natAbs) (by omega)
 have h2 := Nat.lt_log2_self (n := v.natAbs)
 refine ⟨by omega, ?_, ?_⟩
 ·rw [Nat.add_sub_cancel, ← pow_cast]; omega
 ·rw [← pow_cast]; omega
theorem size_le {v : Int} {k : Nat} (h : (v.natAbs : Int) < 2 ^ k) : sizeM v ≤ k := by
 rcases Nat.lt_or_ge k (sizeM v) with hl | hl
 ·exfalso
  by_cases h0 : v = 0
  ·unfold sizeM at hl; rw [if_pos h0] at hl; omega
  ·obtain ⟨h1, h2, _⟩ := size_pow h0
   have := pow_le (m := k) (n := sizeM v - 1) (by omega)
   omega
 ·exact hl
theorem pow_succ_pred {n : Nat} (h : 0 < n) : (2 : Int) ^ n = 2 * 2 ^ (n - 1) := by
 obtain ⟨k, rfl⟩ : ∃ k, n = k + 1 := ⟨n - 1, by omega⟩
 rw [Nat.add_sub_cancel, Int.pow_succ]; omega
theorem sign_bits (v : Int) : signM (sizeM v) (bitsM v) = v ∧ 0 ≤ bitsM v ∧ bitsM v < 2 ^ sizeM v := by
 by_cases h0 : v = 0
 ·subst h0; exact ⟨rfl, by decide, by decide⟩
 ·obtain ⟨h1, h2, h3⟩ := size_pow h0
  have h4 := pow_succ_pred h1
  unfold signM bitsM
  by_cases hn : v < 0
  ·rw [if_pos hn, if_pos ⟨h1, by omega⟩]; omega
  ·rw [if_neg hn, if_neg (by omega)]; omega
theorem bitsOf_succ (v : Int) (n : Nat) : bitsOf true v (n + 1) = bitsOf true (v / 2) n ++ [v % 2] := by
 unfold bitsOf
 rw [List.range_succ, List.map_append]
 congr 1
 ·refine List.map_congr_left fun k hk => ?_
  have hk := List.mem_range.1 hk
  simp only [if_true]
  rw [show n + 1 - 1 - k = n - 1 - k + 1 by omega, Int.pow_succ, Int.mul_comm, ← Int.ediv_ediv_of_nonneg (by omega)]
 ·simp
theorem valB_bits : ∀ (n : Nat) (v : Int), 0 ≤ v → v < 2 ^ n → valB (bitsOf true v n) = v
  | 0, v, h0, h1 => by simp at h1; have : v = 0 := by omega
                       subst this; rfl
  | n + 1, v, h0, h1 => by
    rw [Int.pow_succ] at h1
    rw [bitsOf_succ, valB_snoc, valB_bits n (v / 2) (by omega) (by omega)]; omega
theorem numJ_bits {n : Nat} {v : Int} (h0 : 0 ≤ v) (h1 : v < 2 ^ n) (rest : List Int) : numJ n (bitsOf true v n ++ rest) = some (signM n v, rest) := by
 unfold numJ
 have hl := bitsOf_len true v n
 rw [if_neg (by rw [List.length_append]; omega), List.take_append_of_le_length (by omega), List.take_of_length_le (by omega), valB_bits n v h0 h1, List.drop_append, List.drop_eq_nil_of_le (by omega), hl, Nat.sub_self]
 rfl
theorem symB_has {ls : List Int} (ok : OkC ls) {s m : Nat} (hs : ls[s]? = some (m : Int)) (rest : List Int) : ∀ (d j f : Nat), j + d = m → 0 < d → d ≤ f → symB ls f j (codeM ls s / 2 ^ (m - j)) ((bitsOf true (codeM ls s) m).drop j ++ rest) = some (s, rest)
 | 0, j, f, hj, h0, hf => by omega
 | d + 1, j, f, hj, h0, hf => by
  obtain ⟨f, rfl⟩ : ∃ g, f = g + 1 := ⟨f - 1, by omega⟩
  have hg : (bitsOf true (codeM ls s) m).getD j 0 = codeM ls s / 2 ^ (m - 1 - j) % 2 := by rw [bitsOf_get (by omega), if_pos rfl]
  have hb : (bitsOf true (codeM ls s) m).drop j = codeM ls s / 2 ^ (m - 1 - j) % 2 :: (bitsOf true (codeM ls s) m).drop (j + 1) := by
   rw [List.drop_eq_getElem_cons (by rw [bitsOf_len]; omega), ← hg]
   congr 1
   exact (gD_get (List.getElem?_eq_getElem _)).symm
  have hv : 2 * (codeM ls s / 2 ^ (m - j)) + codeM ls s / 2 ^ (m - 1 - j) % 2 = codeM ls s / 2 ^ (m - 1 - j) := by
   have := div_bit (codeM ls s) (m - 1 - j)
   rwa [show m - 1 - j + 1 = m - j from by omega] at this
  rw [hb, List.cons_append, symB, hv]
  by_cases hd : d = 0
  ·subst hd
   have e : m - 1 - j = 0 := by omega
   have hm : j + 1 = m := by omega
   rw [e, Int.pow_zero, Int.ediv_one, hm, findM_eq ok (by omega) hs rfl]
   simp only
   rw [List.drop_eq_nil_of_le (by rw [bitsOf_len]; omega), List.nil_append]
  ·have hf' : findM ls (j + 1) (codeM ls s / 2 ^ (m - 1 - j)) = none := by
    cases hf2 : findM ls (j + 1) (codeM ls s / 2 ^ (m - 1 - j)) with
    | none => rfl
    | some t =>
     obtain ⟨h1, h2⟩ := findM_some hf2
     have hts : t ≠ s := fun he => by subst he; rw [hs] at h1; have := Option.some.inj h1; omega
     have := no_prefix ok hts h1 hs (by omega) (by omega)
     rw [show m - (j + 1) = m - 1 - j from by omega] at this
     exact absurd h2.symm this
   have hbg : begM ls (j + 1) (codeM ls s / 2 ^ (m - 1 - j)) = true := begM_mk hs (by omega) (by rw [show m - (j + 1) = m - 1 - j from by omega])
   rw [hf', hbg]
   simp only [if_true]
   have := symB_has ok hs rest d (j + 1) f (by omega) (by omega) (by omega)
   rw [show m - (j + 1) = m - 1 - j from by omega] at this
   exact this
theorem symJ_has {ls : List Int} (ok : OkC ls) {s m : Nat} (hs : ls[s]? = some (m : Int)) (hm : 0 < m) (rest : List Int) : symJ ls (bitsOf true (codeM ls s) m ++ rest) = some (s, rest) := by
 have hr := ok.w.rng _ (List.mem_of_getElem? hs)
 have hc := code_rng ok hs (by omega)
 have := symB_has ok hs rest m 0 17 (by omega) (by omega) (by omega)
 rw [Nat.sub_zero, Int.ediv_eq_zero_of_lt hc.1 hc.2, List.drop_zero] at this
 exact this
structure Itm where
 t : Nat
 s : Int
 v : Int
 n : Nat
def acI (t : Nat) (b : List Int) (k z : Nat) : List Itm :=
 if k < 64 then
  if b.getD (zig k) 0 = 0 then acI t b (k + 1) (z + 1)
  else List.replicate (z / 16) ⟨t + 2, 240, 0, 0⟩ ++ ⟨t + 2, ((16 * (z % 16) + sizeM (b.getD (zig k) 0) : Nat) : Int), bitsM (b.getD (zig k) 0), sizeM (b.getD (zig k) 0)⟩ :: acI t b (k + 1) 0
 else if 0 < z then [⟨t + 2, 0, 0, 0⟩] else []
termination_by 64 - k
def blkI (t : Nat) (last : Int) (b : List Int) : List Itm := ⟨t, (sizeM (b.getD 0 0 - last) : Nat), bitsM (b.getD 0 0 - last), sizeM (b.getD 0 0 - last)⟩ :: acI t b 1 0
def itemsM : List (Nat × Nat × Nat) → List (List Int) → List Int → List Itm
 | u :: O, b :: bl, la => blkI (min u.1 1) (la.getD u.1 0) b ++ itemsM O bl (la.set u.1 (b.getD 0 0))
 | _, _, _ => []
def itBits (E : Nat → Int → List Int) (x : Itm) : List Int := E x.t x.s ++ bitsOf true x.v x.n
def itsBits (E : Nat → Int → List Int) (l : List Itm) : List Int := l.flatMap (itBits E)
theorem itsBits_append (E : Nat → Int → List Int) (a b : List Itm) : itsBits E (a ++ b) = itsBits E a ++ itsBits E b := by simp [itsBits]
theorem itsBits_cons (E : Nat → Int → List Int) (a : Itm) (b : List Itm) : itsBits E (a :: b) = itBits E a ++ itsBits E b := rfl
def Reads (T : TabJ) (e : Int → List Int) (c : Int) : Prop := ∀ rest, ∃ i, symJ T.1 (e c ++ rest) = some (i, rest) ∧ T.2.getD i 0 = c
theorem ac_runs {T : TabJ} {E : Nat → Int → List Int} {t : Nat} {out rest : List Int} (hr : Reads T (E (t + 2)) 240) : ∀ (r q : Nat), q + 16 * r ≤ 64 → acJ T q out (itsBits E (List.replicate r ⟨t + 2, 240, 0, 0⟩) ++ rest) = acJ T (q + 16 * r) out rest
 | 0, q, h => by simp [itsBits]
 | r + 1, q, h => by
  rw [List.replicate_succ, itsBits_cons, List.append_assoc]
  obtain ⟨i, h1, h2⟩ := hr (itsBits E (List.replicate r ⟨t + 2, 240, 0, 0⟩) ++ rest)
  have hb : itBits E ⟨t + 2, 240, 0, 0⟩ = E (t + 2) 240 := by simp [itBits, bitsOf]
  rw [hb, acJ, if_pos (by omega), h1]
  simp only
  rw [h2, if_neg (by decide), if_neg (by
   intro hh
   rcases hh with hh | hh | hh
   ·exact absurd hh (by decide)
   ·exact absurd hh.2 (by decide)
   ·have : ((240 : Int) / 16).toNat = 15 := by decide
    omega), if_pos (by decide), show ((240 : Int) / 16).toNat = 15 from by decide, ac_runs hr r (q + 15 + 1) (by omega)]
  congr 1; omega
theorem acI_read {T : TabJ} {E : Nat → Int → List Int} {t : Nat} {b rest : List Int} (hbl : b.length = 64) (hb : ∀ k, 1 ≤ k → k < 64 → ((b.getD (zig k) 0).natAbs : Int) < 1024) : ∀ (m k z : Nat) (out : List Int), 64 - k ≤ m → k ≤ 64 → z < k → (∀ j, k - z ≤ j → j < k → b.getD (zig j) 0 = 0) →
    out.length = 64 → (∀ j, j < 64 → out.getD (zig j) 0 = if j < k then b.getD (zig j) 0 else 0) → (∀ x ∈ acI t b k z, Reads T (E (t + 2)) x.s) → acJ T (k - z) out (itsBits E (acI t b k z) ++ rest) = some (b, rest) := by
  intro m
  have done : ∀ (k z : Nat) (out : List Int), k = 64 → z < k → out.length = 64 → (∀ j, j < 64 → out.getD (zig j) 0 = if j < k then b.getD (zig j) 0 else 0) → (∀ x ∈ acI t b k z, Reads T (E (t + 2)) x.s) → acJ T (k - z) out (itsBits E (acI t b k z) ++ rest) = some (b, rest) := by
    intro k z out hk hz hol ho hr
    have hout : out = b := list_ext_getD hol hbl fun j hj => by
      have := ho (zag j) (zag_lt hj)
      rw [zig_zag hj, if_pos (by have := zag_lt hj; omega)] at this
      exact this
    subst hk
    rw [acI, if_neg (by omega)] at hr ⊢
    by_cases h0 : 0 < z
    · rw [if_pos h0] at hr ⊢
      obtain ⟨i, h1, h2⟩ := hr _ (List.mem_singleton.2 rfl) rest
      have hbb : itsBits E [⟨t + 2, 0, 0, 0⟩] = E (t + 2) 0 := by simp [itsBits, itBits, bitsOf]
      rw [hbb, acJ, if_pos (by omega), h1]
      simp only
      rw [h2, if_pos rfl, hout]
    · rw [if_neg h0, acJ, if_neg (by omega)]
      simp [itsBits, hout]
  induction m with
  | zero =>
    intro k z out hm hk hz hp hol ho hr
    exact done k z out (by omega) hz hol ho hr
  | succ m ih =>
    intro k z out hm hk hz hp hol ho hr
    by_cases hk64 : k = 64
    · exact done k z out hk64 hz hol ho hr
    have hk' : k < 64 := by omega
    rw [acI, if_pos hk'] at hr ⊢
    by_cases h0 : b.getD (zig k) 0 = 0
    · rw [if_pos h0] at hr ⊢
      have := ih (k + 1) (z + 1) out (by omega) (by omega) (by omega) (fun j h1 h2 => by
        rcases Nat.lt_or_ge j k with h | h
        · exact hp j (by omega) h
        · rw [show j = k by omega]; exact h0) hol (fun j hj => by
        rw [ho j hj]
        by_cases h1 : j < k
        · rw [if_pos h1, if_pos (by omega)]
        · rw [if_neg h1]
          by_cases h2 : j = k
          · subst h2; rw [if_pos (by omega), h0]
          · rw [if_neg (by omega)]) hr
      rwa [show k + 1 - (z + 1) = k - z by omega] at this
    · rw [if_neg h0] at hr ⊢
      generalize hv : b.getD (zig k) 0 = v at *
      have hv1 := hb k (by omega) hk'
      rw [hv] at hv1
      have hn : sizeM v ≤ 10 := size_le (by simpa using hv1)
      obtain ⟨hn0, _, _⟩ := size_pow h0
      obtain ⟨s1, s2, s3⟩ := sign_bits v
      rw [itsBits_append, List.append_assoc, itsBits_cons, List.append_assoc]
      have run : acJ T (k - z) out (itsBits E (List.replicate (z / 16) ⟨t + 2, 240, 0, 0⟩) ++ (itBits E ⟨t + 2, ((16 * (z % 16) + sizeM v : Nat) : Int), bitsM v, sizeM v⟩ ++ (itsBits E (acI t b (k + 1) 0) ++ rest))) = acJ T (k - z + 16 * (z / 16)) out (itBits E ⟨t + 2, ((16 * (z % 16) + sizeM v : Nat) : Int), bitsM v, sizeM v⟩ ++ (itsBits E (acI t b (k + 1) 0) ++ rest)) := by
        by_cases hz0 : z / 16 = 0
        · rw [hz0]; simp [itsBits]
        · exact ac_runs (hr ⟨t + 2, 240, 0, 0⟩ (List.mem_append_left _ (by rw [List.mem_replicate]; exact ⟨hz0, rfl⟩))) _ _ (by omega)
      rw [run]
      obtain ⟨i, h1, h2⟩ := hr _ (List.mem_append_right _ (List.mem_cons_self ..)) (bitsOf true (bitsM v) (sizeM v) ++ (itsBits E (acI t b (k + 1) 0) ++ rest))
      unfold itBits
      simp only at h1 h2 ⊢
      rw [List.append_assoc, acJ, if_pos (by omega), h1]
      simp only
      rw [h2]
      have c1 : ((16 * (z % 16) + sizeM v : Nat) : Int) % 16 = (sizeM v : Nat) := by omega
      have c2 : ((16 * (z % 16) + sizeM v : Nat) : Int) / 16 = ((z % 16 : Nat) : Int) := by omega
      rw [c1, c2, Int.toNat_natCast, Int.toNat_natCast, if_neg (by omega), if_neg (by omega), if_neg (by omega), numJ_bits s2 s3, s1]
      simp only
      rw [show k - z + 16 * (z / 16) + z % 16 = k by omega]
      have := ih (k + 1) 0 (out.set (zig k) v) (by omega) (by omega) (by omega) (fun j h1 h2 => by omega) (by rw [List.length_set]; exact hol) (fun j hj => by
        rw [getD_set_ite _ _ _ _ _ (by rw [hol]; exact zig_lt hk')]
        by_cases h1 : zig k = zig j
        · have : k = j := by rw [← zag_zig hk', h1, zag_zig hj]
          subst this
          rw [if_pos rfl, if_pos (by omega), hv]
        · have hne : j ≠ k := fun h => h1 (by rw [h])
          rw [if_neg h1, ho j hj]
          by_cases h2 : j < k
          · rw [if_pos h2, if_pos (by omega)]
          · rw [if_neg h2, if_neg (by omega)]) (fun x hx => hr x (List.mem_append_right _ (List.mem_cons_of_mem _ hx)))
      rw [Nat.sub_zero] at this
      exact this
theorem blkI_read {T0 T1 : TabJ} {E : Nat → Int → List Int} {t : Nat} {last : Int} {b rest : List Int} (hbl : b.length = 64) (hb : ∀ k, 1 ≤ k → k < 64 → ((b.getD (zig k) 0).natAbs : Int) < 1024) (hb0 : -32768 ≤ b.getD 0 0 ∧ b.getD 0 0 ≤ 32767) (hd : ((b.getD 0 0 - last).natAbs : Int) < 2048)
    (hr0 : Reads T0 (E t) (sizeM (b.getD 0 0 - last) : Nat)) (hr : ∀ x ∈ acI t b 1 0, Reads T1 (E (t + 2)) x.s) : blockJ (T0, T1) last (itsBits E (blkI t last b) ++ rest) = some (b, rest) := by
  unfold blkI
  rw [itsBits_cons, List.append_assoc]
  generalize hdv : b.getD 0 0 - last = d at *
  have hn : sizeM d ≤ 11 := size_le (by simpa using hd)
  obtain ⟨s1, s2, s3⟩ := sign_bits d
  unfold itBits blockJ
  simp only
  rw [List.append_assoc]
  obtain ⟨i, h1, h2⟩ := hr0 (bitsOf true (bitsM d) (sizeM d) ++ (itsBits E (acI t b 1 0) ++ rest))
  rw [h1]
  simp only
  rw [h2, if_neg (by omega), Int.toNat_natCast, numJ_bits s2 s3, s1]
  simp only
  rw [show last + d = b.getD 0 0 by omega, cut16M_id (by omega)]
  have := acI_read (T := T1) (E := E) (t := t) (rest := rest) hbl hb 64 1 0 (zeros64.set 0 (b.getD 0 0)) (by omega) (by omega) (by omega) (fun j h1 h2 => by omega) (by rw [List.length_set, zeros64_len]) (fun j hj => by
    rw [getD_set_ite _ _ _ _ _ (by rw [zeros64_len]; omega)]
    have z0 : zig 0 = 0 := rfl
    by_cases h1 : 0 = zig j
    · have : j = 0 := by rw [← zag_zig hj, ← h1]; rfl
      subst this
      rw [if_pos h1, if_pos (by omega), z0]
    · have hne : j ≠ 0 := fun h => h1 (by rw [h]; rfl)
      rw [if_neg h1, if_neg (by omega)]
      unfold zeros64
      rw [List.getD_eq_getElem?_getD, List.getElem?_replicate]
      split <;> rfl) hr
  rw [Nat.sub_zero] at this
  exact this
structure WBlk (b : List Int) : Prop where
 len : b.length = 64
 ac : ∀ k, 1 ≤ k → k < 64 → ((b.getD (zig k) 0).natAbs : Int) < 1024
 dc : -1024 ≤ b.getD 0 0 ∧ b.getD 0 0 < 1024
theorem items_read {T : Nat → TabJ × TabJ} {TT : Nat → TabJ} {E : Nat → Int → List Int} {rest : List Int} : ∀ (O : List (Nat × Nat × Nat)) (bl : List (List Int)) (la : List Int), O.length = bl.length → (∀ b ∈ bl, WBlk b) → (∀ u ∈ O, u.1 < 3 ∧ T u.1 = (TT (min u.1 1), TT (min u.1 1 + 2))) → la.length = 3 → (∀ j, j < 3 → -1024 ≤ la.getD j 0 ∧ la.getD j 0 < 1024) →
    (∀ x ∈ itemsM O bl la, Reads (TT x.t) (E x.t) x.s) → blocksJ T O la (itsBits E (itemsM O bl la) ++ rest) = some (bl, rest)
  | [], [], la, _, _, _, _, _, _ => by simp [blocksJ, itemsM, itsBits]
  | [], b :: bl, _, h, _, _, _, _, _ => by simp at h
  | u :: O, [], _, h, _, _, _, _, _ => by simp at h
  | u :: O, b :: bl, la, hl, hb, hT, hla, hlr, hr => by
    obtain ⟨hu3, hTu⟩ := hT u (List.mem_cons_self ..)
    have hw := hb b (List.mem_cons_self ..)
    have hlu := hlr u.1 hu3
    rw [itemsM] at hr ⊢
    rw [itsBits_append, List.append_assoc, blocksJ, hTu]
    have hac : ∀ x ∈ acI (min u.1 1) b 1 0, x.t = min u.1 1 + 2 := by
      have : ∀ (m k z : Nat), 64 - k ≤ m → ∀ x ∈ acI (min u.1 1) b k z, x.t = min u.1 1 + 2 := by
        intro m
        induction m with
        | zero =>
          intro k z hm x hx
          rw [acI, if_neg (by omega)] at hx
          split at hx
          · rw [List.mem_singleton.1 hx]
          · cases hx
        | succ m ih =>
          intro k z hm x hx
          rw [acI] at hx
          split at hx
          · split at hx
            · exact ih _ _ (by omega) x hx
            · rcases List.mem_append.1 hx with h | h
              · rw [(List.mem_replicate.1 h).2]
              · rcases List.mem_cons.1 h with h | h
                · rw [h]
                · exact ih _ _ (by omega) x h
          · split at hx
            · rw [List.mem_singleton.1 hx]
            · cases hx
      exact this 64 1 0 (by omega)
    rw [blkI_read (T0 := TT (min u.1 1)) (T1 := TT (min u.1 1 + 2)) hw.len hw.ac (by have := hw.dc; omega) (by have := hw.dc; omega) (hr _ (List.mem_append_left _ (List.mem_cons_self ..))) (fun x hx => by
      have := hr x (List.mem_append_left _ (List.mem_cons_of_mem _ hx))
      rwa [hac x hx] at this)]
    simp only
    rw [items_read O bl (la.set u.1 (b.getD 0 0)) (by simpa using hl) (fun x hx => hb x (List.mem_cons_of_mem _ hx)) (fun x hx => hT x (List.mem_cons_of_mem _ hx)) (by rw [List.length_set]; exact hla) (fun j hj => by
      rw [getD_set_ite _ _ _ _ _ (by omega)]; split
      · exact hw.dc
      · exact hlr j hj) (fun x hx => hr x (List.mem_append_right _ hx))]
end Go.Proofs
namespace Go.Proofs
open Go.Sh
variable {H0 H : Heap} {σ : List Rs} {R : Value → Heap → Prop}
theorem flat_st {st : List (List Int)} (h : ∀ b ∈ st, b.length = 64) {k j : Nat} (hk : k < st.length) (hj : j < 64) : st.flatten[k * 64 + j]? = some ((st.getD k []).getD j 0) := by
 have hg := get_gD st [] hk
 rw [flat64_get h hg hj]
 exact get_gD _ 0 (by rw [h _ (List.mem_of_getElem? hg)]; exact hj)
theorem mulL_len (b s : List Int) : (mulL b s).length = 64 := tab_len _ _
set_option maxHeartbeats 4000000 in
theorem c33 {r bc W Ht : Nat} {bp : Option Addr} {half : Bool} {bl st : List (List Int)} {f : Nat → Value} (ok : PaintOk W Ht half bl st)
    (hs : St H0 H (.cell r (tabV 22 f) 75 :: .sl bp bl.length bc 40 64 (ints bl.flatten) :: σ)) (f1 : f 1 = .int .i64 (W : Nat)) (f2 : f 2 = .int .i64 (Ht : Nat)) (f3 : f 3 = .slice none 0 0) (f4 : f 4 = .bool half) (f5 : f 5 = .slice bp bl.length bc) (fo : ∀ i, (f i).oneCell' = true)
    (hR : ∀ q m H', St H0 H' (.sl q (paintM W Ht half bl st).length m 5 1 (kints .u8 (paintM W Ht half bl st)) :: .cell r (tabV 22 (updV f 3 (.slice q (paintM W Ht half bl st).length m))) 75 :: .sl bp bl.length bc 40 64 (ints bl.flatten) :: σ) → R (.tuple #[]) H') :
    CallsH Try.prog 33 #[.pointer (some ⟨r, 1, none⟩), .agg (ints st.flatten).toArray] H R := by
  obtain ⟨W1, H1', hn, bW, bH, hbln, bl64, blr, stn, st64, str⟩ := ok
  have hA := w16_area W1 H1' hn
  have hwW := w16_le W
  have hwH := w16_le Ht
  have hSl : st.flatten.length = 192 := by rw [flat64_len st64, stn]
  refine Try.s33 ?_
  unfold Try.S33
  refine hs.alc fun b3 Ha hsa => hsa.alc fun b5 Hb hsb => ?_
  intro X hX
  have rd1 : ∀ {H' : Heap} {ρ : List Rs} (i : Nat) {g : Nat → Value}, St H0 H' ρ → ρ[i]? = some (.cell r (tabV 22 g) 75) → g 1 = f 1 → cell H' ⟨r, 1, none⟩ = some (.int .i64 (W : Nat)) := fun i g hs' hi hg => by rw [getV hs' i hi (by omega), hg, f1]
  have rd2 : ∀ {H' : Heap} {ρ : List Rs} (i : Nat) {g : Nat → Value}, St H0 H' ρ → ρ[i]? = some (.cell r (tabV 22 g) 75) → g 2 = f 2 → cell H' ⟨r, 2, none⟩ = some (.int .i64 (Ht : Nat)) := fun i g hs' hi hg => by rw [getV hs' i hi (by omega), hg, f2]
  have eW : IntKind.wrap .i64 (IntKind.wrap .i64 (Int.tdiv (IntKind.wrap .i64 ((W : Int) + 15)) 16) * 16) = ((w16 W : Nat) : Int) := by
    rw [wrap_id (n := (W : Int) + 15) (by omega) (by omega), show (W : Int) + 15 = ((W + 15 : Nat) : Int) by omega, show (16 : Int) = ((16 : Nat) : Int) from rfl, tdivN, wN (by omega), wrap_id (by omega) (by omega)]
    unfold w16; omega
  have eH : IntKind.wrap .i64 (IntKind.wrap .i64 (Int.tdiv (IntKind.wrap .i64 ((Ht : Int) + 15)) 16) * 16) = ((w16 Ht : Nat) : Int) := by
    rw [wrap_id (n := (Ht : Int) + 15) (by omega) (by omega), show (Ht : Int) + 15 = ((Ht + 15 : Nat) : Int) by omega, show (16 : Int) = ((16 : Nat) : Int) from rfl, tdivN, wN (by omega), wrap_id (by omega) (by omega)]
    unfold w16; omega
  have eA : IntKind.wrap .i64 (((w16 W : Nat) : Int) * ((w16 Ht : Nat) : Int)) = ((w16 W * w16 Ht : Nat) : Int) := by rw [← Int.natCast_mul, wN (by omega)]
  have w1k : ∀ k : Nat, k < 3 → IntKind.wrap .i64 ((k : Int) + 1) = ((k + 1 : Nat) : Int) := fun k hk => w1 (by omega)
  generalize hw : w16 W = w at *
  generalize hh : w16 Ht = h at *
  have step : ∀ (k : Nat) (H' : Heap) (ρ : List Rs) (cs : Array Value), k < 3 → cs.size = 9 → St H0 H' (.cell b5 cs 60 :: ρ) → (∃ i : Nat, ρ[i]? = some (Rs.cell r (tabV 22 f) 75)) →
      (∀ q H2, St H0 H2 (.cell b5 (setL cs.toList (k * 3) [.int .i64 (w : Nat), .int .i64 (h : Nat), .slice (some ⟨q, 0, none⟩) (w * h) (w * h)]).toArray 60 :: .sl (some ⟨q, 0, none⟩) (w * h) (w * h) 3 1 (ints (List.replicate (w * h) 0)) :: ρ) → X [.int .i64 ((k + 1 : Nat) : Int)] H2) → X [.int .i64 (k : Nat)] H' := fun k H' ρ cs hk hcs hs' ⟨i, hi⟩ hK => by
    refine hX _ H' (br_y (by omega) ⟨_, rfl, _, rd1 (i + 1) hs' hi rfl, by decide, _, rfl, _, rd2 (i + 1) hs' hi rfl, by decide, ?_⟩)
    rw [eW, eH, eA, Int.toNat_natCast, w1k k hk]
    refine ⟨by omega, by omega, by omega, by omega, hs'.alc fun q H2 hs2 => ⟨by omega, by omega, rfl, ?_⟩⟩
    rw [repsA] at hs2
    rw [add_none, Nat.zero_add, Int.toNat_natCast]
    refine hs2.putRow 1 rfl (by rw [hcs]; simp; omega) (by simp [Value.oneCell']) fun H3 hs3 => hK q H3 ?_
    have hs3 := hs3.toSl 0 (k := 1) rfl (by rw [intsA_size, List.length_replicate, Nat.mul_one]) rfl (fun v hv => ints_one _ v hv)
    exact hs3.swap
  refine step 0 Hb _ _ (by omega) rfl hsb ⟨1, rfl⟩ fun q0 Hc hsc => ?_
  refine step 1 Hc _ _ (by omega) rfl hsc ⟨2, rfl⟩ fun q1 Hd hsd => ?_
  refine step 2 Hd _ _ (by omega) rfl hsd ⟨3, rfl⟩ fun q2 He hse => ?_
  clear step hsa hsb hsc hsd
  refine hX _ He (br_n (by decide) ?_)
  clear hX X
  obtain ⟨q, hq⟩ : ∃ q : Nat → Nat, q = fun k => if k = 0 then q0 else if k = 1 then q1 else q2 := ⟨_, rfl⟩
  obtain ⟨B5, hB5⟩ : ∃ B : Array Value, B = #[.int .i64 (w : Nat), .int .i64 (h : Nat), .slice (some ⟨q0, 0, none⟩) (w * h) (w * h), .int .i64 (w : Nat), .int .i64 (h : Nat), .slice (some ⟨q1, 0, none⟩) (w * h) (w * h), .int .i64 (w : Nat), .int .i64 (h : Nat), .slice (some ⟨q2, 0, none⟩) (w * h) (w * h)] := ⟨_, rfl⟩
  have hb5 : ∀ k, k < 3 → B5[k * 3]? = some (.int .i64 (w : Nat)) ∧ B5[k * 3 + 1]? = some (.int .i64 (h : Nat)) ∧ B5[k * 3 + 2]? = some (.slice (some ⟨q k, 0, none⟩) (w * h) (w * h)) := fun k hk => by
    obtain rfl | rfl | rfl : k = 0 ∨ k = 1 ∨ k = 2 := by omega
    all_goals (rw [hB5, hq]; exact ⟨rfl, rfl, rfl⟩)
  have hs1 : St H0 He (three q (w * h) (fun _ => List.replicate (w * h) 0) ++ (.cell b5 B5 60 :: .cell b3 (ints st.flatten).toArray 90 :: .cell r (tabV 22 f) 75 :: .sl bp bl.length bc 40 64 (ints bl.flatten) :: σ)) := by
    rw [hB5, hq]
    refine hse.perm ?_
    exact ((List.reverse_perm [_, _, _, _]).append_right _)
  clear hse
  generalize hn' : w * h = n at *
  refine ⟨_, rfl, _, rd1 5 hs1 rfl rfl, _, rfl, _, rd2 5 hs1 rfl rfl, _, rfl, half, ?_, c24 (Nat.le_trans bW (by decide)) (Nat.le_trans bH (by decide)) fun H1 qo mo hs2 => ⟨_, _, _, rfl, ?_⟩⟩
  · rw [← f4]; exact getV hs1 5 (j := 4) rfl (by omega)
  have hin := order_in (W := W) (Ht := Ht) (half := half)
  rw [hw, hh] at hin
  have hs3 := (hs1.call hs2).perm (List.perm_middle (l₁ := three q n (fun _ => List.replicate n 0))).symm
  clear hs1 hs2
  have hP : paintM W Ht half bl st = rgbN W half (laidV w n (orderM W Ht half) bl st (orderM W Ht half).length) (W * Ht) := by
    unfold paintM laidP; rw [hw, hh, hn']
  have hPl := paintM_len W Ht half bl st
  have hcnt := order_cnt2 W Ht half (Nat.le_trans bW (by decide)) (Nat.le_trans bH (by decide))
  generalize hO : orderM W Ht half = O at *
  intro X hX
  have blocks : ∀ t, t ≤ O.length → ∀ H2, St H0 H2 (three q n (laidV w n O bl st t) ++ (.sl qo O.length mo 65 3 (ints (flat3 O)) :: .cell b5 B5 60 :: .cell b3 (ints st.flatten).toArray 90 :: .cell r (tabV 22 f) 75 :: .sl bp bl.length bc 40 64 (ints bl.flatten) :: σ)) → X [.int .i64 (t : Nat)] H2 := upto fun t ht iht H2 hs2 => by
    refine hX _ H2 (br_dec (fun hlt => ?_) (fun hge => ?_))
    · have hlt : t < O.length := by omega
      have hu := get_gD O (0, 0, 0) hlt
      obtain ⟨hk3, hx8, hy8⟩ := hin _ (List.mem_of_getElem? hu)
      generalize hu' : O.getD t (0, 0, 0) = u at *
      obtain ⟨blk, hqo, hrow⟩ := rowPlaces (hs2.rs 3 rfl) hu hlt
      refine ⟨_, hqo, by omega, by omega, _, rfl, by rw [add_none, Nat.zero_add, Int.toNat_natCast]; exact hrow, ?_⟩
      refine hs2.alc fun b31 H3 hs3 => ⟨rfl, hs3.putAll 0 rfl rfl (by simp [Value.oneCell']) fun H4 hs4 => hs4.alc fun b34 H5 hs5 => ?_⟩
      rw [zeroA] at hs5
      have hbt : bl[t]? = some (bl.getD t []) := get_gD bl [] (by omega)
      have hst := get_gD st [] (i := u.1) (by omega)
      have hbm := List.mem_of_getElem? hbt
      have hsm := List.mem_of_getElem? hst
      obtain ⟨blk2, hbp, hrow2⟩ := St.row64 hs5 9 rfl bl64 hbt (by omega)
      refine ⟨_, rfl, _, _, _, by rw [← f5]; exact getV hs5 8 (j := 5) rfl (by omega), _, hbp, by omega, by omega, (ints (bl.getD t [])).toArray, by rw [intsA_size]; exact bl64 _ hbm, by rw [add_none, Nat.zero_add, Int.toNat_natCast]; exact hrow2, ?_⟩
      generalize hb : bl.getD t [] = b at *
      have hbl := bl64 b hbm
      have hbr := blr b hbm
      have hsr := str _ hsm
      intro Y hY
      have mul : ∀ i, i ≤ 64 → ∀ H6, St H0 H6 (.cell b34 (ints (fillA (mulL b (st.getD u.1 [])) i)).toArray 40 :: .cell b31 #[.int .i64 (u.1 : Nat), .int .i64 (u.2.1 : Nat), .int .i64 (u.2.2 : Nat)] 65 :: (three q n (laidV w n O bl st t) ++ (.sl qo O.length mo 65 3 (ints (flat3 O)) :: .cell b5 B5 60 :: .cell b3 (ints st.flatten).toArray 90 :: .cell r (tabV 22 f) 75 :: .sl bp bl.length bc 40 64 (ints bl.flatten) :: σ))) → Y [.int .i64 (i : Nat)] H6 := upto fun i hi ihi H6 hs6 => by
        refine hY _ H6 (br_dec (fun hlti => ?_) (fun hgei => ?_))
        · have hlti : i < 64 := by omega
          have hg1 := get_gD b 0 (i := i) (by omega)
          refine ⟨by omega, by omega, b.getD i 0, by rw [Int.toNat_natCast, Nat.mul_one, List.getElem?_toArray]; exact ints_get hg1, _, hs6.get 1 (j := 0) rfl rfl, by omega, by omega, by omega, by omega, (st.getD u.1 []).getD i 0, ?_, by omega, by omega, ?_⟩
          · rw [add_none, add_none, Nat.zero_add, Int.toNat_natCast, Int.toNat_natCast, Nat.mul_one]; exact hs6.rdA 7 rfl (flat_st st64 (by omega) hlti)
          · have := mul_bd (hbr i) (show -255 ≤ (st.getD u.1 []).getD i 0 ∧ (st.getD u.1 []).getD i 0 ≤ 255 by have := hsr i hlti; omega)
            rw [add_none, Nat.zero_add, Int.toNat_natCast, Nat.mul_one, wrap_id (by omega) (by omega), w1 (by omega)]
            refine hs6.putA 0 rfl (by rw [fillA_len (by rw [mulL_len]; omega), mulL_len]; omega) fun H7 hs7 => ihi hlti H7 ?_
            have e : b.getD i 0 * (st.getD u.1 []).getD i 0 = (mulL b (st.getD u.1 [])).getD i 0 := (tab_getD (f := fun i => b.getD i 0 * (st.getD u.1 []).getD i 0) hlti).symm
            rw [e, fillA_set (by rw [mulL_len]; omega)] at hs7
            exact hs7
        · have : i = 64 := by omega
          subst this
          have e := fillA_all (mulL b (st.getD u.1 []))
          rw [mulL_len] at e
          rw [e] at hs6
          refine ⟨_, by rw [intsA_size]; exact mulL_len _ _, rowIn_whole (hs6.block 0 rfl), c55 (mulL_mid hbr hsr) fun H7 e7 => ⟨_, rfl, ?_⟩⟩
          have hs7 := hs6.step e7
          have hv : bakM (mulL b (st.getD u.1 [])) = blkV b (st.getD u.1 []) := rfl
          rw [hv]
          have hvl : (blkV b (st.getD u.1 [])).length = 64 := bakM_len _
          have hvr : ∀ i, i < 64 → -200000000 ≤ (blkV b (st.getD u.1 [])).getD i 0 ∧ (blkV b (st.getD u.1 [])).getD i 0 ≤ 200000000 := fun i hi => bakM_rng (mulL_mid hbr hsr) hi
          generalize hV : blkV b (st.getD u.1 []) = v at *
          clear hs6 hY
          intro Z hZ
          have lay : ∀ i, i ≤ 64 → ∀ H8, St H0 H8 (.cell b34 (ints (mulL b (st.getD u.1 []))).toArray 40 :: .cell b31 #[.int .i64 (u.1 : Nat), .int .i64 (u.2.1 : Nat), .int .i64 (u.2.2 : Nat)] 65 :: (three q n (updP (laidV w n O bl st t) u.1 (putN w u.2.1 u.2.2 v (laidV w n O bl st t u.1) i)) ++ (.sl qo O.length mo 65 3 (ints (flat3 O)) :: .cell b5 B5 60 :: .cell b3 (ints st.flatten).toArray 90 :: .cell r (tabV 22 f) 75 :: .sl bp bl.length bc 40 64 (ints bl.flatten) :: σ))) → Z [.int .i64 (i : Nat)] H8 := upto fun i hi ihi H8 hs8 => by
            refine hZ _ H8 (br_dec (fun hlti => ?_) (fun hgei => ?_))
            · have hlti : i < 64 := by omega
              have hg1 := get_gD v 0 (i := i) (by omega)
              have hvi := hvr i hlti
              obtain ⟨c1, _, c3⟩ := hb5 u.1 hk3
              have hpl := place_lt hx8 hy8 hlti
              rw [hn'] at hpl
              refine ⟨by omega, by omega, v.getD i 0, by rw [Int.toNat_natCast, Nat.mul_one, List.getElem?_toArray]; exact ints_get hg1, _, hs8.get 1 (j := 0) rfl rfl, by omega, by omega, some ⟨q u.1, 0, none⟩, n, n, ?_, _, hs8.get 1 (j := 2) rfl rfl, by decide, _, hs8.get 1 (j := 0) rfl rfl, by omega, by omega, (w : Nat), ?_, _, hs8.get 1 (j := 1) rfl rfl, by decide, _, rfl, ?_⟩
              · rw [add_none, add_none, Nat.zero_add, Int.toNat_natCast]; exact hs8.get 6 rfl c3
              · rw [add_none, add_none, Nat.zero_add, Int.toNat_natCast, Nat.add_zero]; exact hs8.get 6 rfl c1
              · have hidx : IntKind.wrap .i64 (IntKind.wrap .i64 (IntKind.wrap .i64 (IntKind.wrap .i64 ((u.2.2 : Int) + IntKind.wrap .i64 (Int.tdiv (i : Int) 8)) * (w : Int)) + (u.2.1 : Nat)) + Int.tmod (i : Int) 8) = (((u.2.2 + i / 8) * w + u.2.1 + i % 8 : Nat) : Int) := by
                  rw [ix4 (by omega), ix3, wrap_id (n := (u.2.2 : Int) + ((i / 8 : Nat) : Int)) (by omega) (by omega), show (u.2.2 : Int) + ((i / 8 : Nat) : Int) = ((u.2.2 + i / 8 : Nat) : Int) by omega, ← Int.natCast_mul, wN (by omega), wrap_id (n := (((u.2.2 + i / 8) * w : Nat) : Int) + (u.2.1 : Nat)) (by omega) (by omega), wrap_id (by omega) (by omega)]
                  omega
                rw [hidx]
                refine ⟨by omega, by omega, ?_⟩
                rw [add_none, Nat.zero_add, Int.toNat_natCast, Nat.mul_one, wrap_id (n := v.getD i 0 + 128) (by omega) (by omega), w1 (by omega)]
                refine hs8.slPut (u.1 + 2) (three_get hk3) (by rw [ints_len, updP_at, putN_len, laidV_len]; exact hpl) rfl fun H9 hs9 => ihi hlti H9 ?_
                simp only [List.set_cons_succ] at hs9
                rw [ints_set, three_set hk3, updP_at, updP_upd] at hs9
                exact hs9
            · have : i = 64 := by omega
              subst this
              rw [w1 (by omega)]
              refine iht hlt H8 ?_
              have e : updP (laidV w n O bl st t) u.1 (putN w u.2.1 u.2.2 v (laidV w n O bl st t u.1) 64) = laidV w n O bl st (t + 1) := by
                funext k
                rw [laidV, hu', hb, hV]
                unfold updP
                split
                · rename_i hk; subst hk; rfl
                · rfl
              rw [e] at hs8
              exact hs8.tail.tail
          refine lay 0 (by omega) H7 ?_
          have e : updP (laidV w n O bl st t) u.1 (putN w u.2.1 u.2.2 v (laidV w n O bl st t u.1) 0) = laidV w n O bl st t := by
            funext k; unfold updP; split
            · rename_i hk; subst hk; rfl
            · rfl
          rw [e]; exact hs7
      exact mul 0 (by omega) H5 (by rw [fillA_zero, mulL_len]; exact hs5)
    · have : t = O.length := by omega
      subst this
      refine ⟨_, rfl, _, rd1 6 hs2 rfl rfl, _, rfl, _, rd2 6 hs2 rfl rfl, ?_⟩
      rw [← Int.natCast_mul, wN (by omega)]
      have hby := laidV_byt w n O bl st O.length
      have hpl := laidV_len w n O bl st O.length
      generalize hPP : laidV w n O bl st O.length = P at *
      have hf0 : updV f 3 (.slice none 0 0) = f := by
        funext k; unfold updV; split
        · rename_i hk; subst hk; exact f3.symm
        · rfl
      intro Y hY
      have px : ∀ i, i ≤ W * Ht → ∀ rp rc H3, St H0 H3 (.sl rp (rgbN W half P i).length rc 5 1 (kints .u8 (rgbN W half P i)) :: (three q n P ++ (.sl qo O.length mo 65 3 (ints (flat3 O)) :: .cell b5 B5 60 :: .cell b3 (ints st.flatten).toArray 90 :: .cell r (tabV 22 (updV f 3 (.slice rp (rgbN W half P i).length rc))) 75 :: .sl bp bl.length bc 40 64 (ints bl.flatten) :: σ))) → Y [.int .i64 (i : Nat)] H3 := upto fun i hi ihi rp rc H3 hs3 => by
        refine hY _ H3 (br_dec (fun hlt => ?_) (fun hge => ?_))
        · have hlt : i < W * Ht := by omega
          have hW : ∀ {H' : Heap} {ρ : List Rs} {v : Value}, St H0 H' ρ → ρ[7]? = some (Rs.cell r (tabV 22 (updV f 3 v)) 75) → cell H' ⟨r, 1, none⟩ = some (.int .i64 (W : Nat)) := fun hs' hi => rd1 7 hs' hi (updV_ne (by omega))
          refine ⟨_, rfl, _, hW hs3 rfl, by omega, _, rfl, _, hW hs3 rfl, by omega, ?_⟩
          have hx : i % W < W := Nat.mod_lt _ (by omega)
          have hy : i / W < Ht := by rw [Nat.div_lt_iff_lt_mul (by omega), Nat.mul_comm]; exact hlt
          have hyb : i / W ≤ 32768 := by omega
          rw [tmodN, tdivN, wN (by omega)]
          have hlen := rgbN_len W half P i
          intro J hJ
          have go : ∀ hx2 hy2 : Nat, hx2 = (if half then i % W / 2 else i % W) → hy2 = (if half then i / W / 2 else i / W) → J [.int .i64 (hx2 : Nat), .int .i64 (hy2 : Nat)] H3 := fun hx2 hy2 hex hey => by
            have hx3 : hx2 < w := by rw [hex]; split <;> omega
            have hy3 : hy2 < h := by rw [hey]; split <;> omega
            refine hJ _ _ H3 ?_
            have rowp : ∀ {H' : Heap} (k : Nat), k < 3 → St H0 H' (.sl rp (rgbN W half P i).length rc 5 1 (kints .u8 (rgbN W half P i)) :: (three q n P ++ (.sl qo O.length mo 65 3 (ints (flat3 O)) :: .cell b5 B5 60 :: .cell b3 (ints st.flatten).toArray 90 :: .cell r (tabV 22 (updV f 3 (.slice rp (rgbN W half P i).length rc))) 75 :: .sl bp bl.length bc 40 64 (ints bl.flatten) :: σ))) → rowIn H' ⟨b5, k * 3, none⟩ #[.int .i64 (w : Nat), .int .i64 (h : Nat), .slice (some ⟨q k, 0, none⟩) n n] := fun k hk hs' => by
              obtain ⟨c1, c2, c3⟩ := hb5 k hk
              refine rowIn_block (hs'.block 5 rfl) fun j v hv => ?_
              have hj := (Array.getElem?_eq_some_iff.1 hv).1
              obtain rfl | rfl | rfl : j = 0 ∨ j = 1 ∨ j = 2 := by simp at hj; omega
              · cases hv; exact c1
              · cases hv; exact c2
              · cases hv; exact c3
            have ats : ∀ {H' : Heap} {R' : Value → Heap → Prop} (k x y : Nat), k < 3 → x < w → y < h → St H0 H' (.sl rp (rgbN W half P i).length rc 5 1 (kints .u8 (rgbN W half P i)) :: (three q n P ++ (.sl qo O.length mo 65 3 (ints (flat3 O)) :: .cell b5 B5 60 :: .cell b3 (ints st.flatten).toArray 90 :: .cell r (tabV 22 (updV f 3 (.slice rp (rgbN W half P i).length rc))) 75 :: .sl bp bl.length bc 40 64 (ints bl.flatten) :: σ))) → (∀ H2, Ext H' H2 → R' (.int .i64 ((P k).getD (y * w + x) 0)) H2) → CallsH Try.prog 25 #[.agg #[.int .i64 (w : Nat), .int .i64 (h : Nat), .slice (some ⟨q k, 0, none⟩) n n], .int .i64 (x : Nat), .int .i64 (y : Nat)] H' R' := fun {H'} {R'} k x y hk hx hy hs' hR' =>
              planeAt2 (hs'.is (k + 1) (three_get hk)) (by rw [hpl, ← hn']) (by omega) (by omega) (by omega) hx hy hR'
            refine ⟨by decide, by decide, _, rfl, rowp 0 (by omega) hs3, by decide, by decide, _, rfl, rowp 1 (by omega) hs3, by decide, by decide, _, rfl, rowp 2 (by omega) hs3, ?_⟩
            refine ats 0 _ _ (by omega) (by omega) (by omega) hs3 fun H4 e4 => ⟨_, rfl, .inl e4, ?_⟩
            refine ats 1 _ _ (by omega) hx3 hy3 (hs3.step e4) fun H5 e5 => ⟨_, rfl, .inl e5, ?_⟩
            refine ats 2 _ _ (by omega) hx3 hy3 ((hs3.step e4).step e5) fun H6 e6 => ⟨_, rfl, ?_⟩
            have hc0 := hby 0 (i / W * w + i % W)
            have hc1 := hby 1 (hy2 * w + hx2)
            have hc2 := hby 2 (hy2 * w + hx2)
            refine c56 (by omega) (by omega) (by omega) fun H7 e7 => ⟨_, rfl, ?_⟩
            have hs7 := (((hs3.step e4).step e5).step e6).step e7
            have hpx : colourL ((P 0).getD (i / W * w + i % W) 0) ((P 1).getD (hy2 * w + hx2) 0) ((P 2).getD (hy2 * w + hx2) 0) = pxL W half P i := by
              unfold pxL; rw [hw, ← hex, ← hey]
            rw [hpx]
            have hcl : (pxL W half P i).length = 3 := rfl
            have hcr : ∀ j, j < 3 → 0 ≤ (pxL W half P i).getD j 0 ∧ (pxL W half P i).getD j 0 < 256 := fun j hj => by
              unfold pxL colourL colourM
              obtain rfl | rfl | rfl : j = 0 ∨ j = 1 ∨ j = 2 := by omega
              all_goals (simp only [List.getD_cons_zero, List.getD_cons_succ]; exact ⟨(cutM_rng _).1, Int.lt_of_le_of_lt (cutM_rng _).2 (by decide)⟩)
            have hsucc := rgbN_succ W half P i
            generalize hacc : rgbN W half P i = acc at *
            generalize hC : pxL W half P i = C at *
            intro Z hZ
            have app : ∀ t, t ≤ 3 → ∀ rp rc H8, St H0 H8 (.sl rp (acc ++ C.take t).length rc 5 1 (kints .u8 (acc ++ C.take t)) :: (three q n P ++ (.sl qo O.length mo 65 3 (ints (flat3 O)) :: .cell b5 B5 60 :: .cell b3 (ints st.flatten).toArray 90 :: .cell r (tabV 22 (updV f 3 (.slice rp (acc ++ C.take t).length rc))) 75 :: .sl bp bl.length bc 40 64 (ints bl.flatten) :: σ))) → Z [.int .i64 (t : Nat)] H8 := upto fun t ht iht rp rc H8 hs8 => by
              refine hZ _ H8 (br_dec (fun hltt => ?_) (fun hget => ?_))
              · have hltt : t < 3 := by omega
                have hct := get_gD C 0 (i := t) (by omega)
                have hcrt := hcr t hltt
                have hRG : cell H8 ⟨r, 3, none⟩ = some (.slice rp (acc ++ C.take t).length rc) := by rw [getV hs8 7 rfl (by omega), updV_at]
                refine ⟨by omega, by omega, C.getD t 0, by rw [Int.toNat_natCast, Nat.mul_one, List.getElem?_toArray]; exact ints_get hct, _, rfl, _, _, _, hRG, ?_⟩
                rw [wr8 hcrt]
                have hal : (acc ++ C.take t).length = acc.length + t := by rw [List.length_append, List.length_take]; omega
                have hal' : (acc ++ C.take (t + 1)).length = acc.length + (t + 1) := by rw [List.length_append, List.length_take]; omega
                refine hs8.alc fun b99 H9 hs9 => hs9.appC 1 0 rfl rfl rfl (fun v hv => by rw [List.mem_singleton.1 hv]; rfl) (by decide) rfl (by rw [hal]; omega) (by rw [hal]; omega) fun p' c' H10 hs10 => ⟨_, rfl, ?_⟩
                have hs10 := hs10.tail
                refine putV hs10 7 (j := 3) rfl (by omega) rfl fun H11 hs11 => ?_
                have e : kints .u8 (acc ++ C.take t) ++ [Value.int .u8 (C.getD t 0)] = kints .u8 (acc ++ C.take (t + 1)) := by
                  rw [List.take_add_one, hct, ← List.append_assoc, kints_append .u8 (acc ++ C.take t)]; rfl
                rw [w1 (by omega)]
                have e2 : (acc ++ C.take t).length + 1 = (acc ++ C.take (t + 1)).length := by omega
                have e3 : ∀ v v' : Value, updV (updV f 3 v) 3 v' = updV f 3 v' := fun v v' => by funext k; unfold updV; split <;> rfl
                refine iht hltt p' c' H11 ?_
                rw [← e, ← e2]
                have e4 := e3 (.slice rp (acc ++ C.take t).length rc) (.slice p' ((acc ++ C.take t).length + 1) c')
                rw [e4] at hs11
                exact hs11
              · have : t = 3 := by omega
                subst this
                rw [List.take_of_length_le (by omega), ← hsucc] at hs8
                rw [w1 (by omega)]
                exact ihi hlt rp rc H8 hs8
            exact app 0 (by omega) rp rc H7 (by rw [List.take_zero, List.append_nil]; exact hs7)
          refine ⟨_, rfl, half, ?_, ?_⟩
          · rw [← f4]
            have := getV hs3 7 (j := 4) rfl (by omega)
            rw [updV_ne (by omega)] at this
            exact this
          cases half with
          | true =>
            refine br_t rfl ⟨by decide, by decide, ?_⟩
            rw [show (2 : Int) = ((2 : Nat) : Int) from rfl, tdivN, tdivN, wN (by omega), wN (by omega)]
            exact go _ _ rfl rfl
          | false => exact br_f rfl (go _ _ rfl rfl)
        · have : i = W * Ht := by omega
          subst this
          rw [← hP] at hs3
          have hs4 : St H0 H3 ([_] ++ (three q n P ++ [.sl qo O.length mo 65 3 (ints (flat3 O)), .cell b5 B5 60, .cell b3 (ints st.flatten).toArray 90]) ++ (.cell r (tabV 22 (updV f 3 (.slice rp (paintM W Ht half bl st).length rc))) 75 :: .sl bp bl.length bc 40 64 (ints bl.flatten) :: σ)) := hs3
          refine hR rp rc H3 ?_
          exact ((((((hs3.del 1).del 1).del 1).del 1).del 1).del 1)
      exact px 0 (by omega) none 0 H2 (by
        have : rgbN W half P 0 = [] := rfl
        rw [this, show ([] : List Int).length = 0 from rfl, hf0]
        exact hs2.nilSl _ _)
  exact blocks 0 (by omega) H1 hs3
end Go.Proofs
namespace Go.Proofs
open Go.Sh
variable {H0 H : Heap} {σ : List Rs} {R : Value → Heap → Prop}
def jr0 (v : Value) : Nat → Value := fun i => if i = 0 then v else if i = 3 ∨ i = 5 then .slice none 0 0 else if i = 4 ∨ i = 6 then .bool false else if i < 10 then .int .i64 0 else .pointer none
theorem jr0_arr (v : Value) : #[v, .int .i64 0, .int .i64 0, .slice none 0 0, .bool false, .slice none 0 0, .bool false, .int .i64 0, .int .i64 0, .int .i64 0, .pointer none, .pointer none, .pointer none, .pointer none, .pointer none, .pointer none, .pointer none, .pointer none, .pointer none, .pointer none, .pointer none, .pointer none] = tabV 22 (jr0 v) := rfl
theorem jr0_ok (p : Option Addr) (l c : Nat) : JrP H0 (fun _ => True) (jr0 (.slice p l c)) p l c jst0 where
  b := rfl
  W := rfl
  Ht := rfl
  rgb := rfl
  half := rfl
  bl := rfl
  seen := rfl
  wh k hk := by obtain rfl | rfl | rfl : k = 0 ∨ k = 1 ∨ k = 2 := by omega
                all_goals exact ⟨by decide, rfl⟩
  st k hk := by obtain rfl | rfl | rfl | rfl : k = 0 ∨ k = 1 ∨ k = 2 ∨ k = 3 := by omega
                all_goals exact .inl ⟨rfl, rfl⟩
  cd k hk := by obtain rfl | rfl | rfl | rfl | rfl | rfl | rfl | rfl : k = 0 ∨ k = 1 ∨ k = 2 ∨ k = 3 ∨ k = 4 ∨ k = 5 ∨ k = 6 ∨ k = 7 := by omega
                all_goals exact .inl ⟨rfl, rfl⟩
  stl := rfl
  cdl := rfl
  one i := by unfold jr0; split <;> (try rfl); split <;> (try rfl); split <;> (try rfl); split <;> rfl
theorem St.persTrue (hs : St H0 H σ) : St H0 H (.pers (fun _ => True) :: σ) := St.persOf (τ := []) hs fun _ _ => trivial
def img0 : Array Value := #[.int .i64 0, .int .i64 0, .slice none 0 0, .bool false, .slice none 0 0]
theorem fail5 {K : Array Value → Heap → Prop} {b : Nat} {cs : Array Value} {ty : TypeId} (hs : St H0 H σ) (i : Nat) (hi : σ[i]? = some (.cell b cs ty)) (hcs : cs.size = 5) (hK : ∀ H', Ext H0 H' → K img0 H') :
    img0.size = 5 ∧ stAt H ⟨b, 0, none⟩ (Array.toList img0) fun H' => ∃ re : Array Value, re.size = 5 ∧ rowIn H' ⟨b, 0, none⟩ re ∧ K re H' :=
  ⟨rfl, hs.putAll i hi (by rw [hcs]; rfl) (by simp [img0, Value.oneCell']) fun H' hs' => ⟨img0, rfl, rowIn_whole (hs'.block i (by rw [List.getElem?_set_self (List.getElem?_eq_some_iff.1 hi).1])), hK H' hs'.ext⟩⟩
section
variable {u a : Nat} {B : List Int}
structure BlkJ (H0 : Heap) (σ : List Rs) (u a : Nat) (B : List Int) (T : TabJ × TabJ) (la : Int) (X : List Int) (okb : Bool) (a2 : Nat) (H : Heap) : Prop where
 len : X.length = 64
 st : St H0 H (unR u B a2 okb :: σ)
 no : okb = false → blockJ T la ((bitsH B).drop a) = none
 yes : okb = true → blockJ T la ((bitsH B).drop a) = some (X, (bitsH B).drop a2)
theorem block_join (hs : St H0 H (unR u B a true :: σ)) {j t0 t1 : Nat} {Q : Heap → Prop} {T0 T1 : TabJ} (hj : σ[j]? = some (.pers Q)) (hT0 : TabP H0 Q t0 T0) (hT1 : TabP H0 Q t1 T1) {la : Int} (hla : -100000 ≤ la ∧ la ≤ 100000) :
    CallsH Try.prog 31 #[.pointer (some ⟨u, 0, none⟩), .agg #[.pointer (some ⟨t0, 0, none⟩), .pointer (some ⟨t1, 0, none⟩)], .int .i64 la] H fun v H' => ∃ X okb a2, v = .agg (ints X).toArray ∧ BlkJ H0 σ u a B (T0, T1) la X okb a2 H' :=
  c31 hs hj hT0 hT1 hla (fun hno X H' a' hX hs' => ⟨X, false, a', rfl, hX, hs', fun _ => hno, nofun⟩) (fun X a' hyes hX H' hs' => ⟨X, true, a', rfl, hX, hs', nofun, fun _ => hyes⟩)
end
theorem setL3 {Z A B C : List Value} (hZ : Z.length = 192) (hA : A.length = 64) (hB : B.length = 64) (hC : C.length = 64) : setL (setL (setL Z 0 A) 64 B) 128 C = A ++ B ++ C := by
 unfold setL
 have h1 : (A ++ Z.drop 64).length = 192 := by simp [hA, hZ]
 simp only [List.take_zero, List.nil_append, Nat.zero_add, hA]
 have h2 : (A ++ Z.drop 64).take 64 = A := by rw [List.take_append_of_le_length (by omega), List.take_of_length_le (by omega)]
 have h3 : (A ++ Z.drop 64).drop (64 + B.length) = Z.drop 128 := by rw [List.drop_append, List.drop_eq_nil_of_le (by omega), List.nil_append, List.drop_drop, hA, hB]
 rw [h2, h3]
 have h4 : (A ++ B ++ Z.drop 128).take 128 = A ++ B := by rw [List.take_append_of_le_length (by simp; omega), List.take_of_length_le (by simp; omega)]
 have h5 : (A ++ B ++ Z.drop 128).drop (128 + C.length) = [] := List.drop_eq_nil_of_le (by simp; omega)
 rw [h4, h5, List.append_nil]
set_option maxHeartbeats 4000000 in
theorem c9 {p : Option Addr} {l c : Nat} {b : List Int} (hb : SlB H p l c b) (hl : l ≤ 900000000)
    (hbad : decJ b = none → ∀ H', Ext H H' → R (.tuple #[.agg img0, .int .i64 51]) H')
    (hR : ∀ m, decJ b = some m → ∀ W Ht : Nat, m.W = W → m.Ht = Ht → PaintOk W Ht m.half m.bl m.st → ∀ H' q k bq bk, St H H' [.sl q (paintM W Ht m.half m.bl m.st).length k 5 1 (kints .u8 (paintM W Ht m.half m.bl m.st)), .sl bq m.bl.length bk 40 64 (ints m.bl.flatten)] →
      R (.tuple #[.agg #[.int .i64 (W : Nat), .int .i64 (Ht : Nat), .slice q (paintM W Ht m.half m.bl m.st).length k, .bool m.half, .slice bq m.bl.length bk], .int .i64 0]) H') :
    CallsH Try.prog 9 #[.slice p l c] H R := by
  have hbl := hb.len
  have hle := hb.le
  refine Try.s9 ?_
  unfold Try.S9
  refine (St.nil H).alc fun b2 H1 hs1 => ?_
  have hs1 : St H H1 [.cell b2 img0 31] := hs1
  have f0 : decJ b = none → ∀ {σ : List Rs} {H' : Heap} (i : Nat), St H H' σ → σ[i]? = some (Rs.cell b2 img0 31) → img0.size = 5 ∧ stAt H' ⟨b2, 0, none⟩ (Array.toList img0) fun H2 => ∃ re : Array Value, re.size = 5 ∧ rowIn H2 ⟨b2, 0, none⟩ re ∧ R (.tuple #[.agg re, .int .i64 51]) H2 := fun hn σ H' i hs hi =>
    fail5 (K := fun re H2 => R (.tuple #[.agg re, .int .i64 51]) H2) hs i hi rfl fun H2 e => hbad hn H2 e
  intro J hJ
  have start : b.length < 2 ∨ b.getD 0 0 ≠ 255 ∨ b.getD 1 0 ≠ 216 → decJ b = none := fun h => by unfold decJ; rw [if_pos h]
  refine br_dec (fun h2 => f0 (start (.inl (by omega))) 0 hs1 rfl) (fun h2 => hb.rd hs1.ext (by omega) (by omega) ?_)
  refine br_ne (fun hff => f0 (start (.inr (.inl hff))) 0 hs1 rfl) (fun hff => hb.rd hs1.ext (by omega) (by omega) ?_)
  refine br_ne (fun hd8 => f0 (start (.inr (.inr hd8))) 0 hs1 rfl) (fun hd8 => hJ H1 ⟨by omega, by omega, ?_⟩)
  clear hJ J
  have hdec : decJ b = match headM (b.drop 2) jst0 with
    | none => none
    | some (s, t, r) => match bodyM r with
      | none => none
      | some p => bodyJ s t p := by
    unfold decJ
    rw [if_neg (fun h => by
      rcases h with h | h | h
      · omega
      · exact h hff
      · exact h hd8)]
    rfl
  refine hs1.alc fun r H2 hs2 => ?_
  rw [jr0_arr] at hs2
  have hb2 := hb.from_ (m := 2) (by omega)
  have hs3 := jrR_mk (jr0_ok _ _ _) (St.persTrue hs2).swap
  refine c28 hs3 hb2 (by omega) (fun hno cs H3 hcs ho hs3 => ⟨_, _, rfl, ?_⟩) (fun s t rest hhead f Q p' l' c' hJr hrest hl' H3 hs3 => ⟨_, _, rfl, ?_⟩)
  · rw [hno] at hdec
    refine hs3.alc fun b12 H4 hs4 => ⟨hcs, hs4.putAll 0 rfl (by rw [Array.length_toList, hcs]; rfl) ho fun H5 hs5 => br_t rfl (f0 hdec 1 hs5 rfl)⟩
  rw [hhead] at hdec
  simp only at hdec
  obtain ⟨hseen, hsized, hscan⟩ := headM_ok _ (Nat.le_refl _) (fun x hx => hb.rng x (List.mem_of_mem_drop hx)) (fun h => by cases h) hhead
  have hrl := hrest.len
  have hsl : ∀ i, (scanV f t i).oneCell' = true := fun i => hJr.one _
  refine hs3.alc fun b12 H4 hs4 => ⟨tabV_size _ _, hs4.putAll 0 rfl (by rw [Array.length_toList, tabV_size]; rfl) (tabV_one hsl) fun H5 hs5 => br_f rfl ?_⟩
  have hs5 : St H H5 (.cell r (tabV 22 f) 75 :: .cell b12 (tabV 6 (scanV f t)) 77 :: .pers Q :: .cell b2 img0 31 :: []) := hs5.swap
  clear hs1 hs2 hs3 hs4
  refine c29 hJr.b hs5 hrest hl' (fun hno q n m H6 hs6 => ⟨_, _, _, _, rfl, br_t rfl ?_⟩) (fun B hB hBr hBl q m H6 hs6 => ⟨_, _, _, _, rfl, br_f rfl ?_⟩)
  · rw [hno] at hdec
    exact f0 hdec 3 hs6 rfl
  rw [hB] at hdec
  simp only at hdec
  have hrl6 : l' ≤ 1000000000 := hl'
  obtain ⟨hW1, hH1, hW2, hH2, hA⟩ := hsized
  obtain ⟨W, hW⟩ := Int.eq_ofNat_of_zero_le (show 0 ≤ s.W by omega)
  obtain ⟨Ht, hHt⟩ := Int.eq_ofNat_of_zero_le (show 0 ≤ s.Ht by omega)
  rw [hW] at hW1 hA hW2
  rw [hHt] at hH1 hA hH2
  have hn : W * Ht ≤ 4194304 := by rw [← Int.natCast_mul] at hA; omega
  have bW : W ≤ 32768 := by omega
  have bH : Ht ≤ 32768 := by omega
  unfold bodyJ at hdec
  rw [hW, hHt, Int.toNat_natCast, Int.toNat_natCast] at hdec
  refine ⟨_, rfl, (W : Nat), ?_, _, rfl, (Ht : Nat), ?_, _, rfl, s.half, ?_, ?_⟩
  · rw [← hW, ← hJr.W]; exact getV hs6 1 (j := 1) rfl (by omega)
  · rw [← hHt, ← hJr.Ht]; exact getV hs6 1 (j := 2) rfl (by omega)
  · rw [← hJr.half]; exact getV hs6 1 (j := 4) rfl (by omega)
  refine c24 (Nat.le_trans bW (by decide)) (Nat.le_trans bH (by decide)) fun H7 qo mo hs7 => ⟨_, _, _, rfl, ?_⟩
  have hs7 := hs6.call hs7
  have hB9 : B.length ≤ 1000000000 := by omega
  have hcnt := order_cnt2 W Ht s.half (Nat.le_trans bW (by decide)) (Nat.le_trans bH (by decide))
  have hin := order_in (W := W) (Ht := Ht) (half := s.half)
  generalize hO : orderM W Ht s.half = O at *
  rw [wrap_id (n := (8 : Int) * (B.length : Nat)) (by omega) (by omega)]
  refine br_dec (fun hgt => ?_) (fun hgt => ?_)
  · rw [if_pos (by omega)] at hdec
    exact f0 hdec 5 hs7 rfl
  rw [if_neg (by omega)] at hdec
  refine c30 (hs7.is 1 rfl) hB9 hBr fun rb H8 hs8 => ⟨_, rfl, ?_⟩
  have hs8 := hs7.call hs8
  refine hs8.alc fun b37 H9 hs9 => ?_
  have hs9 := unR_mk hs9.swap
  refine hs9.alc fun b39 H10 hs10 => ?_
  have hs10 := hs10.nilSl 40 64
  have hs11 : St H H10 (unR b37 B 0 true :: .sl none 0 0 40 64 [] :: .cell b39 (ints [0, 0, 0]).toArray 69 :: .sl qo O.length mo 65 3 (ints (flat3 O)) :: .cell r (tabV 22 f) 75 :: .cell b12 (tabV 6 (scanV f t)) 77 :: .pers Q :: .cell b2 img0 31 :: []) := (hs10.front 2 rfl).del 4
  clear hs5 hs6 hs7 hs8 hs9 hs10
  obtain ⟨bres, hbres⟩ : ∃ x, blocksJ (tabsJ s t) O [0, 0, 0] (bitsH B) = x := ⟨_, rfl⟩
  rw [hbres] at hdec
  have hno : bres = none → decJ b = none := fun h => by rw [hdec, h]
  have tabs : ∀ k, k < 3 → ∃ ta tb, scanV f t (k * 2) = .pointer (some ⟨ta, 0, none⟩) ∧ scanV f t (k * 2 + 1) = .pointer (some ⟨tb, 0, none⟩) ∧ TabP H Q ta (tabsJ s t k).1 ∧ TabP H Q tb (tabsJ s t k).2 := fun k hk => by
    obtain ⟨h1, h2⟩ := hscan.rng k hk
    have i0 := hscan.c0 k hk
    have i1 := hscan.c1 k hk
    rcases hJr.cd _ (show (t.getD k (0, 0)).1 < 8 by omega) with ⟨hn, _⟩ | ⟨T0, ta, hT0, hf0, hP0⟩
    · rw [hn] at i0; cases i0
    rcases hJr.cd _ h2 with ⟨hn, _⟩ | ⟨T1, tb, hT1, hf1, hP1⟩
    · rw [hn] at i1; cases i1
    refine ⟨ta, tb, ?_, ?_, ?_, ?_⟩
    · unfold scanV; rw [if_pos (by omega), show k * 2 / 2 = k by omega]; exact hf0
    · unfold scanV; rw [if_neg (by omega), show (k * 2 + 1) / 2 = k by omega]; exact hf1
    · unfold tabsJ; simp only; rw [hT0]; exact hP0
    · unfold tabsJ; simp only; rw [hT1]; exact hP1
  intro X hX
  have fin : ∀ (bs : List (List Int)) (a : Nat) (bq : Option Addr) (bk : Nat) (la : List Int) (H11 : Heap), bs.length = O.length → (∀ x ∈ bs, Blk x) → bres = some (bs, (bitsH B).drop a) →
      St H H11 (unR b37 B a true :: .sl bq bs.length bk 40 64 (ints bs.flatten) :: .cell b39 (ints la).toArray 69 :: .sl qo O.length mo 65 3 (ints (flat3 O)) :: .cell r (tabV 22 (updV f 5 (.slice bq bs.length bk))) 75 :: .cell b12 (tabV 6 (scanV f t)) 77 :: .pers Q :: .cell b2 img0 31 :: []) → X [.int .i64 (O.length : Nat)] H11 := fun bs a bq bk la H11 hbsl hbs hbr hs12 => by
    rw [hbr] at hdec
    simp only at hdec
    have ha := unR_a hs12
    obtain ⟨rb2, hs12'⟩ := unR_op hs12
    refine hX _ H11 (br_n (by omega) ⟨_, rfl, _, hs12'.get 1 (j := 0) rfl rfl, c32 hs12' (i := 0) rfl ⟨_, rfl, br_dec (fun h8 => ?_) (fun h8 => ?_)⟩⟩)
    · rw [if_pos (by rw [List.length_drop, bitsH_len]; omega)] at hdec
      exact f0 hdec 7 hs12 rfl
    rw [if_neg (by rw [List.length_drop, bitsH_len]; omega)] at hdec
    -- the steps of the parts
    have steps : ∀ k, k < 3 → ∃ L bst, (stepsJ s).getD k [] = L ∧ L.length = 64 ∧ (∀ i, i < 64 → 1 ≤ L.getD i 0 ∧ L.getD i 0 ≤ 255) ∧ updV f 5 (.slice bq bs.length bk) (7 + k) = .int .i64 (s.wh.getD k 0 : Nat) ∧ s.wh.getD k 0 < 4 ∧ updV f 5 (.slice bq bs.length bk) (10 + s.wh.getD k 0) = .pointer (some ⟨bst, 0, none⟩) ∧ H11[bst]? = some (.cells (ints L).toArray 40) := fun k hk => by
      obtain ⟨w4, wk⟩ := hJr.wh k hk
      have is := hscan.st k hk
      rcases hJr.st _ w4 with ⟨hn, _⟩ | ⟨L, bst, hL, hl64, hlr, hf, hq⟩
      · rw [hn] at is; cases is
      refine ⟨L, bst, ?_, hl64, hlr, ?_, w4, ?_, hq _ (hs12.persGet 6 rfl)⟩
      · unfold stepsJ
        rw [List.getD_eq_getElem?_getD, List.getElem?_map, List.getElem?_range hk]
        show (s.st.getD (s.wh.getD k 0) none).getD [] = L
        rw [hL]; rfl
      · rw [updV_ne (by omega)]; exact wk
      · rw [updV_ne (by omega)]; exact hf
    obtain ⟨L0, s0, d0, l0, r0, x0, y0, z0, m0⟩ := steps 0 (by omega)
    obtain ⟨L1, s1, d1, l1, r1, x1, y1, z1, m1⟩ := steps 1 (by omega)
    obtain ⟨L2, s2, d2, l2, r2, x2, y2, z2, m2⟩ := steps 2 (by omega)
    have est : stepsJ s = [L0, L1, L2] := by
      have hl3 : (stepsJ s).length = 3 := by simp [stepsJ]
      match h : stepsJ s, hl3 with
      | [A, B, C], _ => rw [h] at d0 d1 d2; simp at d0 d1 d2; rw [d0, d1, d2]
    rw [est] at hdec
    have hok : PaintOk W Ht s.half bs [L0, L1, L2] := ⟨by omega, by omega, hn, bW, bH, by rw [hO]; exact hbsl, fun x hx => (hbs x hx).1, fun x hx => (hbs x hx).2, rfl,
      fun x hx => by simp at hx; rcases hx with rfl | rfl | rfl <;> assumption, fun x hx => by simp at hx; rcases hx with rfl | rfl | rfl <;> assumption⟩
    have cw : ∀ (k : Nat), k < 3 → cell H11 (.add (.add ⟨r, 0, none⟩ 7) (Int.toNat ((k : Nat) : Int) * 1)) = some (updV f 5 (.slice bq bs.length bk) (7 + k)) := fun k hk => by
      rw [add_none, add_none, Nat.zero_add, Int.toNat_natCast, Nat.mul_one]; exact getV hs12 4 rfl (by omega)
    have cs : ∀ (k : Nat), k < 4 → cell H11 (.add (.add ⟨r, 0, none⟩ 10) (Int.toNat ((k : Nat) : Int) * 1)) = some (updV f 5 (.slice bq bs.length bk) (10 + k)) := fun k hk => by
      rw [add_none, add_none, Nat.zero_add, Int.toNat_natCast, Nat.mul_one]; exact getV hs12 4 rfl (by omega)
    refine ⟨_, rfl, _, rfl, by decide, by decide, (s.wh.getD 0 0 : Nat), (cw 0 (by omega)).trans (by rw [x0]), _, rfl, by omega, by omega, some ⟨s0, 0, none⟩, (cs _ y0).trans (by rw [z0]), _, rfl, (ints L0).toArray, by rw [intsA_size]; exact l0, rowIn_whole m0, ?_⟩
    refine ⟨_, rfl, by decide, by decide, (s.wh.getD 1 0 : Nat), (cw 1 (by omega)).trans (by rw [x1]), _, rfl, by omega, by omega, some ⟨s1, 0, none⟩, (cs _ y1).trans (by rw [z1]), _, rfl, (ints L1).toArray, by rw [intsA_size]; exact l1, rowIn_whole m1, ?_⟩
    refine ⟨_, rfl, by decide, by decide, (s.wh.getD 2 0 : Nat), (cw 2 (by omega)).trans (by rw [x2]), _, rfl, by omega, by omega, some ⟨s2, 0, none⟩, (cs _ y2).trans (by rw [z2]), _, rfl, (ints L2).toArray, by rw [intsA_size]; exact l2, rowIn_whole m2, by rw [intsA_size]; exact l0, by decide, by rw [intsA_size]; exact l1, by decide, by rw [intsA_size]; exact l2, by decide, ?_⟩
    have eS : (List.toArray (setL (setL (setL (Array.toList (Array.replicate 192 (Value.int .i64 0))) 0 (ints L0).toArray.toList) 64 (ints L1).toArray.toList) 128 (ints L2).toArray.toList)) = (ints [L0, L1, L2].flatten).toArray := by
      rw [setL3 (by rw [Array.toList_replicate, List.length_replicate]) (by simpa [ints_len] using l0) (by simpa [ints_len] using l1) (by simpa [ints_len] using l2)]
      simp [ints]
    rw [eS]
    have hs13 : St H H11 (.cell r (tabV 22 (updV f 5 (.slice bq bs.length bk))) 75 :: .sl bq bs.length bk 40 64 (ints bs.flatten) :: .cell b2 img0 31 :: []) := by
      have h1 := hs12.front 4 rfl
      exact ((((h1.del 1).del 2).del 2).del 2).del 2
    refine c33 hok hs13 (by rw [updV_ne (by omega), hJr.W, hW]) (by rw [updV_ne (by omega), hJr.Ht, hHt]) (by rw [updV_ne (by omega), hJr.rgb]) (by rw [updV_ne (by omega), hJr.half]) (updV_at _ _ _) (updV_one hJr.one rfl) fun q m H14 hs14 => ⟨rfl, _, rfl, ?_⟩
    have hpl := paintM_len W Ht s.half bs [L0, L1, L2]
    generalize hPM : paintM W Ht s.half bs [L0, L1, L2] = PM at *
    refine ⟨#[.int .i64 (W : Nat), .int .i64 (Ht : Nat), .slice q PM.length m, .bool s.half, .slice bq bs.length bk], rfl, ?_, rfl, hs14.putAll 3 rfl rfl (by simp [Value.oneCell']) fun H15 hs15 => ⟨#[.int .i64 (W : Nat), .int .i64 (Ht : Nat), .slice q PM.length m, .bool s.half, .slice bq bs.length bk], rfl, rowIn_whole (hs15.block 3 rfl), ?_⟩⟩
    · rw [add_none, Nat.zero_add]
      refine rowIn_block (hs14.block 1 rfl) fun j v hv => ?_
      have hj := (Array.getElem?_eq_some_iff.1 hv).1
      have hj5 : j < 5 := hj
      rw [tabV_get (by omega)]
      obtain rfl | rfl | rfl | rfl | rfl : j = 0 ∨ j = 1 ∨ j = 2 ∨ j = 3 ∨ j = 4 := by omega
      · cases hv; rw [updV_ne (by omega), updV_ne (by omega), hJr.W, hW]; rfl
      · cases hv; rw [updV_ne (by omega), updV_ne (by omega), hJr.Ht, hHt]; rfl
      · cases hv; rw [updV_at]; rfl
      · cases hv; rw [updV_ne (by omega), updV_ne (by omega), hJr.half]; rfl
      · cases hv; rw [updV_ne (by omega), updV_at]; rfl
    · have := hR _ hdec W Ht rfl rfl hok H15 q m bq bk
      simp only [hPM] at this
      refine this ?_
      exact ((hs15.del 3).del 1)
  have loop : ∀ (m i : Nat) (bs : List (List Int)) (la : List Int) (a : Nat) (bq : Option Addr) (bk : Nat) (H11 : Heap), O.length - i ≤ m → i ≤ O.length → bs.length = i → (∀ x ∈ bs, Blk x) → la.length = 3 → (∀ j, -100000 ≤ la.getD j 0 ∧ la.getD j 0 ≤ 100000) →
      (blocksJ (tabsJ s t) (O.drop i) la ((bitsH B).drop a)).map (fun y => (bs ++ y.1, y.2)) = bres →
      St H H11 (unR b37 B a true :: .sl bq bs.length bk 40 64 (ints bs.flatten) :: .cell b39 (ints la).toArray 69 :: .sl qo O.length mo 65 3 (ints (flat3 O)) :: .cell r (tabV 22 (updV f 5 (.slice bq bs.length bk))) 75 :: .cell b12 (tabV 6 (scanV f t)) 77 :: .pers Q :: .cell b2 img0 31 :: []) → X [.int .i64 (i : Nat)] H11 := by
    intro m
    induction m with
    | zero =>
      intro i bs la a bq bk H11 hm hi hbl hbs hla hlr he hs12
      have : i = O.length := by omega
      subst this
      refine fin bs a bq bk la H11 hbl hbs ?_ hs12
      rw [← he, List.drop_eq_nil_of_le (by omega), blocksJ]; simp
    | succ m ih =>
      intro i bs la a bq bk H11 hm hi hbl hbs hla hlr he hs12
      by_cases hlt : i < O.length
      · refine hX _ H11 (br_y (by omega) ?_)
        have hu := get_gD O (0, 0, 0) hlt
        have hdrop : O.drop i = O.getD i (0, 0, 0) :: O.drop (i + 1) := by
          rw [List.drop_eq_getElem_cons hlt]
          congr 1
          exact (gD_get (List.getElem?_eq_getElem hlt)).symm
        obtain ⟨hk3, _, _⟩ := hin _ (List.mem_of_getElem? hu)
        generalize O.getD i (0, 0, 0) = v at *
        rw [hdrop, blocksJ] at he
        obtain ⟨blk, hqo, hrow⟩ := rowPlaces (hs12.rs 3 rfl) hu hlt
        obtain ⟨ta, tb, ht0, ht1, hP0, hP1⟩ := tabs v.1 hk3
        refine ⟨_, hqo, by omega, by omega, _, rfl, by rw [add_none, Nat.zero_add, Int.toNat_natCast]; exact hrow, ?_⟩
        refine hs12.alc fun b46 H12 hs13 => ⟨rfl, hs13.putAll 0 rfl rfl (by simp [Value.oneCell']) fun H13 hs14 => ?_⟩
        have hs14 : St H H13 (.cell b46 #[.int .i64 (v.1 : Nat), .int .i64 (v.2.1 : Nat), .int .i64 (v.2.2 : Nat)] 65 :: unR b37 B a true :: .sl bq bs.length bk 40 64 (ints bs.flatten) :: .cell b39 (ints la).toArray 69 :: .sl qo O.length mo 65 3 (ints (flat3 O)) :: .cell r (tabV 22 (updV f 5 (.slice bq bs.length bk))) 75 :: .cell b12 (tabV 6 (scanV f t)) 77 :: .pers Q :: .cell b2 img0 31 :: []) := hs14
        clear hs13
        intro J hJ
        have join : ∀ (bx : Nat) (Y : List Int) (okb : Bool) (a2 : Nat) (H14 : Heap), Y.length = 64 → St H H14 (.cell bx (ints Y).toArray 40 :: unR b37 B a2 okb :: .cell b46 #[.int .i64 (v.1 : Nat), .int .i64 (v.2.1 : Nat), .int .i64 (v.2.2 : Nat)] 65 :: .sl bq bs.length bk 40 64 (ints bs.flatten) :: .cell b39 (ints la).toArray 69 :: .sl qo O.length mo 65 3 (ints (flat3 O)) :: .cell r (tabV 22 (updV f 5 (.slice bq bs.length bk))) 75 :: .cell b12 (tabV 6 (scanV f t)) 77 :: .pers Q :: .cell b2 img0 31 :: []) →
            (okb = false → blockJ (tabsJ s t v.1) (la.getD v.1 0) ((bitsH B).drop a) = none) → (okb = true → blockJ (tabsJ s t v.1) (la.getD v.1 0) ((bitsH B).drop a) = some (Y, (bitsH B).drop a2)) → J [.pointer (some ⟨bx, 0, none⟩)] H14 := fun bx Y okb a2 H14 hY hs15 hn' hy' => by
          refine hJ _ H14 ⟨_, rfl, _, unR_ok hs15.swap, ?_⟩
          cases okb with
          | false =>
            rw [hn' rfl] at he
            exact br_t rfl (f0 (hno he.symm) 9 hs15 rfl)
          | true =>
            have hyy := hy' rfl
            rw [hyy] at he
            simp only at he
            have hYr := (blockJ_rng (fun x hx => bitsH_01 B x (List.mem_of_mem_drop hx)) hyy).1
            have hY0 := hYr.2 0
            refine br_f rfl ⟨_, hs15.get 2 (j := 0) rfl rfl, by decide, by decide, Y.getD 0 0, hs15.rdA 0 (j := 0) rfl (get_gD Y 0 (by omega)), by omega, by omega, ?_⟩
            rw [add_none, Nat.zero_add, Int.toNat_natCast, Nat.mul_one]
            refine hs15.putA 4 rfl (by omega) fun H15 hs16 => ⟨_, rfl, bq, bs.length, bk, ?_, (ints Y).toArray, by rw [intsA_size]; exact hY, rowIn_whole (hs16.block 0 rfl), by rw [intsA_size]; exact hY, by decide, ?_⟩
            · exact (getV hs16 6 (j := 5) rfl (by omega)).trans (by rw [updV_at])
            rw [setL_all (by simpa [ints_len] using hY)]
            refine hs16.alcE fun b62 H16 e16 hs17 => ⟨.inl e16, ?_⟩
            refine hs17.appC 4 0 rfl rfl (by simpa [ints_len] using hY) (fun w hw => ints_one Y w (by simpa using hw)) (by decide) (by simp) (by omega) (by omega) fun p' c' H17 hs18 => ⟨_, rfl, ?_⟩
            have hs18 := hs18.tail
            refine putV hs18 6 (j := 5) rfl (by omega) rfl fun H18 hs19 => ?_
            rw [w1 (by omega)]
            have e3 : ∀ v v' : Value, updV (updV f 5 v) 5 v' = updV f 5 v' := fun v v' => by funext k; unfold updV; split <;> rfl
            rw [e3] at hs19
            have e4 : ints bs.flatten ++ (ints Y).toArray.toList.toArray.toList = ints (bs ++ [Y]).flatten := by simp [ints]
            have e5 : bs.length + 1 = (bs ++ [Y]).length := by simp
            refine ih (i + 1) (bs ++ [Y]) (la.set v.1 (Y.getD 0 0)) a2 p' c' H18 (by omega) (by omega) (by simp; omega) (fun x hx => ?_) (by simp [hla]) (fun j => ?_) ?_ ?_
            · rcases List.mem_append.1 hx with h | h
              · exact hbs x h
              · rw [List.mem_singleton.1 h]; exact hYr
            · rw [getD_set_ite _ _ _ _ _ (by omega)]; split
              · omega
              · exact hlr j
            · rw [← he]
              cases blocksJ (tabsJ s t) (O.drop (i + 1)) (la.set v.1 (Y.getD 0 0)) ((bitsH B).drop a2) with
              | none => rfl
              | some y => simp
            · rw [← e4, ← e5]
              have hs20 := hs19.tail
              exact (hs20.del 1)
        have hrowb : ∀ {H' : Heap} {ρ : List Rs} (i : Nat), St H H' ρ → ρ[i]? = some (Rs.cell b12 (tabV 6 (scanV f t)) 77) → rowIn H' ⟨b12, v.1 * 2, none⟩ #[.pointer (some ⟨ta, 0, none⟩), .pointer (some ⟨tb, 0, none⟩)] := fun i hs' hi' =>
          rowIn_block (hs'.block i hi') fun j w hw => by
            have hj : j < 2 := (Array.getElem?_eq_some_iff.1 hw).1
            rw [tabV_get (by omega)]
            obtain rfl | rfl : j = 0 ∨ j = 1 := by omega
            · cases hw; rw [Nat.add_zero, ht0]; rfl
            · cases hw; rw [ht1]; rfl
        refine ⟨_, hs14.get 0 (j := 0) rfl rfl, by omega, by omega, #[.pointer (some ⟨ta, 0, none⟩), .pointer (some ⟨tb, 0, none⟩)], rfl, by rw [add_none, Nat.zero_add, Int.toNat_natCast]; exact hrowb 6 hs14 rfl, _, hs14.get 0 (j := 0) rfl rfl, by omega, by omega, la.getD v.1 0, ?_, ?_, ?_⟩
        · rw [add_none, Nat.zero_add, Int.toNat_natCast, Nat.mul_one]; exact hs14.rdA 3 rfl (get_gD la 0 (by omega))
        · refine (block_join (hs14.front 1 rfl) (j := 6) rfl hP0 hP1 (hlr _)).mono fun w H14 ⟨Y, okb, a2, hw, hB'⟩ => ⟨_, hw, hB'.st.alc fun b76 H15 hs15 => ⟨by rw [intsA_size]; exact hB'.len, hs15.putAllA 0 rfl (by rw [hB'.len]; simp) fun H16 hs16 => ?_⟩⟩
          exact join b76 Y okb a2 H16 hB'.len hs16 hB'.no hB'.yes
        · refine hs14.alcE fun b79 H14 e14 hs15 => ⟨.inl e14, ?_⟩
          refine (block_join (hs15.front 2 rfl) (j := 7) rfl hP0 hP1 (hlr _)).mono fun w H15 ⟨Y, okb, a2, hw, hB'⟩ => ⟨_, hw, by rw [intsA_size]; exact hB'.len, hB'.st.putAllA 1 rfl (by rw [hB'.len]; simp) fun H16 hs16 => ?_⟩
          exact join b79 Y okb a2 H16 hB'.len hs16.swap hB'.no hB'.yes
      · have : i = O.length := by omega
        subst this
        refine fin bs a bq bk la H11 hbl hbs ?_ hs12
        rw [← he, List.drop_eq_nil_of_le (by omega), blocksJ]; simp
  have hf0 : updV f 5 (.slice none 0 0) = f := by
    funext k; unfold updV; split
    · rename_i hk; subst hk; exact hJr.bl.symm
    · rfl
  refine loop O.length 0 [] [0, 0, 0] 0 none 0 H10 (by omega) (by omega) rfl (by simp) rfl (fun j => ?_) ?_ ?_
  · rcases Nat.lt_or_ge j 3 with h | h
    · obtain rfl | rfl | rfl : j = 0 ∨ j = 1 ∨ j = 2 := by omega
      all_goals exact ⟨by decide, by decide⟩
    · rw [gD_none _ _ (by simpa using h)]; omega
  · rw [List.drop_zero, List.drop_zero, hbres]; cases bres <;> simp
  · rw [show ([] : List (List Int)).length = 0 from rfl, hf0]; exact hs11
end Go.Proofs
namespace Go.Proofs
open Go.Sh
variable {H0 H : Heap} {σ : List Rs} {R : Value → Heap → Prop}
theorem size_uniq {v : Int} {n : Nat} (hn : 0 < n) (h1 : (2 : Int) ^ (n - 1) ≤ v.natAbs) (h2 : (v.natAbs : Int) < 2 ^ n) : sizeM v = n := by
 have hle := size_le h2
 have h0 : v ≠ 0 := fun h => by subst h; have := two_pow_pos (n - 1); simp at h1; omega
 obtain ⟨_, _, h5⟩ := size_pow h0
 rcases Nat.lt_or_ge (sizeM v) n with h | h
 ·have := pow_le (m := sizeM v) (n := n - 1) (by omega); omega
 ·omega
theorem size_256 {x : Nat} (h : 256 ≤ x) : sizeM (x : Nat) = sizeM ((x / 256 : Nat) : Int) + 8 := by
 have h0 : ((x / 256 : Nat) : Int) ≠ 0 := by omega
 obtain ⟨h1, h2, h3⟩ := size_pow h0
 have e8 : (2 : Int) ^ 8 = 256 := by decide
 refine size_uniq (by omega) ?_ ?_
 ·rw [show sizeM ((x / 256 : Nat) : Int) + 8 - 1 = sizeM ((x / 256 : Nat) : Int) - 1 + 8 by omega, Int.pow_add, e8]; omega
 ·rw [Int.pow_add, e8]; omega
theorem wr64u {x : Int} (h : 0 ≤ x ∧ x < 18446744073709551616) : IntKind.wrap .u64 x = x := by simp [IntKind.wrap, IntKind.bits, IntKind.signed]; omega
theorem lenRd {T : ByteArray} {x : Nat} {n : Int} {K : Value → Heap → Prop} (hT : ∀ i : Fin 256, T[i.val]? = some (UInt8.ofNat (sizeM (i.val : Int)))) (hx : x < 256) (hn : 0 ≤ n ∧ n ≤ 100) (hK : K (.int .i64 (n + (sizeM (x : Nat) : Nat))) H) :
    ∃ b : UInt8, 0 ≤ IntKind.wrap .u8 (x : Int) ∧ T[Int.toNat (IntKind.wrap .u8 (x : Int))]? = some b ∧ K (.int .i64 (IntKind.wrap .i64 (n + IntKind.wrap .i64 ((UInt8.toNat b : Nat) : Int)))) H := by
  rw [wr8 (by omega), Int.toNat_natCast]
  have hs : sizeM (x : Nat) ≤ 8 := size_le (by rw [show (2 : Int) ^ 8 = 256 by decide]; omega)
  refine ⟨_, by omega, hT ⟨x, hx⟩, ?_⟩
  have e : (UInt8.ofNat (sizeM ((x : Nat) : Int))).toNat = sizeM ((x : Nat) : Int) := by
    rw [UInt8.toNat_ofNat', Nat.mod_eq_of_lt (by omega)]
  rw [e, wrap_id (n := ((sizeM ((x : Nat) : Int) : Nat) : Int)) (by omega) (by omega), wrap_id (by omega) (by omega)]
  exact hK
theorem shr64_8 (x : Nat) : shrI .u64 (x : Int) (8 : Int) = ((x / 256 : Nat) : Int) := by
 unfold shrI
 rw [show min (8 : Int).toNat (IntKind.bits .u64) = 8 from rfl, Int.fdiv_eq_ediv_of_nonneg _ (by decide), show (2 : Int) ^ 8 = 256 by decide]
 omega
theorem c73 {x : Nat} (hx : x < 65536) (hR : R (.int .i64 (sizeM (x : Nat) : Nat)) H) : CallsH Try.prog 73 #[.int .u64 (x : Nat)] H R := by
 refine Try.s73 ?_
 unfold Try.S73
 intro J hJ
 refine br_n (by omega) (hJ _ _ H ?_)
 clear hJ J
 intro J hJ
 refine br_n (by omega) (hJ _ _ H ?_)
 clear hJ J
 intro J hJ
 refine br_dec (fun h => ⟨by decide, ?_⟩) (fun h => ?_)
 ·refine hJ _ _ H ?_
  rw [shr64_8, show IntKind.wrap .i64 ((0 : Int) + 8) = 8 by decide]
  refine lenRd (K := R) ?_ (by omega) (by omega) ?_
  ·decide +kernel
  ·rw [size_256 (by omega)] at hR
   rw [show (8 : Int) + (sizeM ((x / 256 : Nat) : Int) : Nat) = ((sizeM ((x / 256 : Nat) : Int) + 8 : Nat) : Int) by omega]
   exact hR
 ·refine hJ _ _ H ?_
  refine lenRd (K := R) ?_ (by omega) (by omega) ?_
  ·decide +kernel
  ·rw [Int.zero_add]; exact hR
theorem c37 {v : Int} (hv : -65535 ≤ v ∧ v ≤ 65535) (hR : R (.tuple #[.int .i64 (sizeM v : Nat), .int .i64 (bitsM v)]) H) : CallsH Try.prog 37 #[.int .i64 v] H R := by
 have hs : sizeM v ≤ 16 := size_le (by rw [show (2 : Int) ^ 16 = 65536 by decide]; omega)
 have hp : (2 : Int) ^ sizeM v ≤ 2 ^ 16 := pow_le hs
 have e16 : (2 : Int) ^ 16 = 65536 := by decide
 have hp0 := two_pow_pos (sizeM v)
 have ea : sizeM (v.natAbs : Nat) = sizeM v := by
  by_cases h0 : v = 0
  ·subst h0; rfl
  ·obtain ⟨h1, h2, h3⟩ := size_pow h0
   exact size_uniq h1 (by simpa using h2) (by simpa using h3)
 refine Try.s37 ?_
 unfold Try.S37
 rw [wrap_id (n := 0 - v) (by omega) (by omega), show max v (0 - v) = ((v.natAbs : Nat) : Int) by omega, wr64u (by omega)]
 refine Try.s59 (c73 (by omega) ⟨_, rfl, ⟨_, rfl, ?_⟩⟩)
 rw [ea]
 unfold bitsM at hR
 refine br_dec (fun hn => ⟨by omega, ?_⟩) (fun hn => ?_)
 ·rw [if_pos hn] at hR
  rw [shl_of (k := sizeM v) (by omega) (by omega) (by omega), Int.one_mul, wrap_id (n := v + 2 ^ sizeM v) (by omega) (by omega), wrap_id (by omega) (by omega)]
  exact hR
 ·rw [if_neg hn] at hR; exact hR
end Go.Proofs
namespace Go.Proofs
open Go.Sh
variable {H0 H : Heap} {σ : List Rs} {R : Value → Heap → Prop}
theorem c39 {p : Option Addr} {l c : Nat} {xs : List Int} (h : IS H p l (kints .i64 xs)) (hl : l ≤ 1000000000)
    (hR : ∀ q m H', St H H' [.sl q l m 3 1 (kints .i64 xs)] → R (.slice q l m) H') : CallsH Try.prog 39 #[.slice p l c] H R :=
  Try.s39 (clone_of h (by omega) (by omega) rfl hR)
structure PB (H : Heap) (p : Option Addr) (l : Nat) (ps : List (List Int)) : Prop where
 len : ps.length = l
 get : ∀ (i : Nat) x, ps[i]? = some x → ∃ a q n c, p = some a ∧ Go.Sh.cell H (a.add i) = some (.slice q n c) ∧ IS H q n (kints .u8 x)
theorem PB.ext {H H' : Heap} {p : Option Addr} {l : Nat} {ps : List (List Int)} (h : PB H p l ps) (e : Ext H H') : PB H' p l ps := ⟨h.len, fun i x hx => by
 obtain ⟨a, q, n, c, h1, h2, h3⟩ := h.get i x hx
 exact ⟨a, q, n, c, h1, e.cell h2, h3.ext e⟩⟩
def AllIS (H : Heap) : List (Option Addr × Nat × Nat) → List (List Int) → Prop
 | [], [] => True
 | v :: vs, x :: ps => IS H v.1 v.2.1 (kints .u8 x) ∧ AllIS H vs ps
 | _, _ => False
theorem AllIS.get : ∀ {vs : List (Option Addr × Nat × Nat)} {ps : List (List Int)}, AllIS H vs ps → vs.length = ps.length ∧ ∀ (i : Nat) x, ps[i]? = some x → ∃ v, vs[i]? = some v ∧ IS H v.1 v.2.1 (kints .u8 x)
 | [], [], _ => ⟨rfl, fun i x hx => by simp at hx⟩
 | v :: vs, x :: ps, h => by
  obtain ⟨h1, h2⟩ := AllIS.get h.2
  refine ⟨by simp [h1], fun i y hy => ?_⟩
  cases i with
  | zero => simp at hy; subst hy; exact ⟨v, rfl, h.1⟩
  | succ i => exact h2 i y (by simpa using hy)
theorem pb_blk {b : Nat} {ty : TypeId} {vs : List (Option Addr × Nat × Nat)} {ps : List (List Int)} (hb : H[b]? = some (.cells (vs.map fun v => Value.slice v.1 v.2.1 v.2.2).toArray ty)) (hv : AllIS H vs ps) : PB H (some ⟨b, 0, none⟩) vs.length ps := by
 obtain ⟨hl, hg⟩ := hv.get
 refine ⟨hl.symm, fun i x hx => ?_⟩
 obtain ⟨v, h1, h2⟩ := hg i x hx
 refine ⟨_, v.1, v.2.1, v.2.2, rfl, ?_, h2⟩
 rw [add_none, Nat.zero_add]
 exact cell_get hb (by simp [h1])
theorem c58 {n : Nat} (hn : n ≤ 1000000000) (hR : ∀ H' p' c', St H H' [.sl p' 0 c' 5 1 []] → R (.slice p' 0 c') H') :
    CallsH Try.prog 58 #[.slice none 0 0, .int .i64 n] H R := by
  refine Try.s58 ?_
  unfold Try.S58
  intro J hJ
  refine br_n (by omega) (hJ H ?_)
  have w1 : IntKind.wrap .i64 (((0 : Nat) : Int) - ((0 : Nat) : Int)) = 0 := by decide
  have w2 : IntKind.wrap .i64 ((n : Int) - 0) = (n : Int) := by rw [wrap_id (by omega) (by omega)]; omega
  rw [w1, w2]
  refine br_dec (fun hp => ⟨by omega, by omega, by omega, by omega, ?_, by omega, fun h0 => by omega, fun _ => ⟨#[], rfl, fun c' hc' => ⟨by omega, by omega, ?_⟩⟩⟩) (fun h0 => hR H none 0 ((St.nil H).nilSl 5 1))
  · simp; omega
  · have hc0 : c' ≠ 0 := by simp at hc'; omega
    simp only [hc0, if_false, Option.map_some, Nat.sub_zero, Int.toNat_natCast, Nat.zero_mul, add_none, Nat.zero_add]
    refine hR _ _ c' ((St.nil H).newSl (Ext.push _ _) ⟨rfl, Nat.zero_le _, by simp, .inr ⟨H.size, _, rfl, Nat.le_refl _, get_push_self _ _, ?_, fun i v hv => by simp at hv⟩⟩)
    rw [zeroCells_eq _ _ (by simp)]
    simp [reps_length] at hc' ⊢
    omega
theorem flatB_take {ps : List (List Int)} {k : Nat} {x : List Int} (h : ps[k]? = some x) : (ps.take (k + 1)).flatten = (ps.take k).flatten ++ x := by
 rw [List.take_add_one, h, Option.toList_some, List.flatten_append]; simp
theorem flat_le (ps : List (List Int)) (k : Nat) : (ps.take k).flatten.length ≤ ps.flatten.length := by
 conv => rhs; rw [← List.take_append_drop k ps, List.flatten_append, List.length_append]
 omega
theorem c36 {p : Option Addr} {l c : Nat} {ps : List (List Int)} (h : PB H p l ps) (hl : l ≤ 1000000000) (hn : ps.flatten.length ≤ 1000000000)
    (hR : ∀ q c' H', St H H' [.sl q ps.flatten.length c' 5 1 (kints .u8 ps.flatten)] → R (.slice q ps.flatten.length c') H') : CallsH Try.prog 36 #[.slice p l c] H R := by
  have hpl := h.len
  refine Try.s36 ?_
  unfold Try.S36
  intro X2 hX2
  have go : ∀ k, k ≤ l → X2 [.int .i64 ((ps.take k).flatten.length : Nat), .int .i64 (k : Nat)] H := upto fun k hk ih => by
    have hf := flat_le ps k
    refine hX2 _ _ H (br_dec (fun hlt => ?_) (fun hge => ?_))
    · have hlt : k < l := by omega
      obtain ⟨x, hx⟩ : ∃ x, ps[k]? = some x := ⟨_, List.getElem?_eq_getElem (by omega)⟩
      obtain ⟨a, q, n, c2, h1, h2, h3⟩ := h.get k x hx
      have h3l := h3.length
      have hf2 := flat_le ps (k + 1)
      have ih := ih hlt
      rw [flatB_take hx, List.length_append, h3l] at ih hf2
      refine ⟨a, h1, by omega, by omega, q, n, c2, by rw [Int.toNat_natCast, Nat.mul_one]; exact h2, ?_⟩
      rw [wrap_id (n := _ + (n : Int)) (by omega) (by omega), wrap_id (n := (k : Int) + 1) (by omega) (by omega)]
      exact br_n (by omega) ih
    · have : k = l := by omega
      subst this
      rw [List.take_of_length_le (by omega)]
      refine c58 hn fun H9 q0 c0 hs9 => ⟨_, _, _, rfl, ?_⟩
      intro X11 hX
      have add : ∀ j, j ≤ k → ∀ q c' H1, St H H1 [.sl q (ps.take j).flatten.length c' 5 1 (kints .u8 (ps.take j).flatten)] → X11 [.slice q (ps.take j).flatten.length c', .int .i64 (j : Nat)] H1 := upto fun j hj ih q c' H1 hs1 => by
        have hf := flat_le ps j
        refine hX _ _ _ _ H1 (br_dec (fun hlt => ?_) (fun hge => ?_))
        · have hlt : j < k := by omega
          obtain ⟨x, hx⟩ : ∃ x, ps[j]? = some x := ⟨_, List.getElem?_eq_getElem (by omega)⟩
          obtain ⟨a, q2, n, c2, h1, h2, h3⟩ := (h.ext hs1.ext).get j x hx
          have h3l := h3.length
          have hf2 := flat_le ps (j + 1)
          have ih := ih hlt
          rw [flatB_take hx, List.length_append, h3l] at ih hf2
          refine ⟨a, h1, by omega, by omega, q2, n, c2, by rw [Int.toNat_natCast, Nat.mul_one]; exact h2, ?_⟩
          refine hs1.appI 0 rfl h3 (kints_one _ _) rfl (by omega) (by omega) fun p' c3 H2 hs2 => ?_
          rw [wrap_id (by omega) (by omega)]
          refine ih p' c3 H2 ?_
          rw [kints_append]
          exact hs2
        · have : j = k := by omega
          subst this
          rw [List.take_of_length_le (by omega)] at hs1 ⊢
          exact hR q c' H1 hs1
      exact add 0 (by omega) q0 c0 H9 hs9
  exact go 0 (by omega)
end Go.Proofs
