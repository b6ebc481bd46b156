/-
  OWN WORK. The package bits over heaps: its writer.
-/
import Derived.Test.YtdigjlhobhpfpaaGFun
import Derived.Test.YtdigjlhobhpfpaaFlA
set_option linter.unusedVariables false
set_option linter.unusedSimpArgs false
namespace Go.Proofs
open Go.Sh

theorem wdiv8 (n : Nat) (h : n ≤ 1000000000000) : IntKind.wrap .i64 (Int.tdiv (n : Int) (8 : Int)) = ((n / 8 : Nat) : Int) := by
  rw [Int.tdiv_eq_ediv_of_nonneg (by omega), wrap_id (by omega) (by omega)]; omega
theorem tmod8 (n : Nat) : Int.tmod (n : Int) (8 : Int) = ((n % 8 : Nat) : Int) := by rw [Int.tmod_eq_emod_of_nonneg (by omega)]; omega

theorem c34 {H : Heap} {n : Nat} {hi : Bool} {R : Value → Heap → Prop} (hR : R (.int .i64 (bpos hi n)) H) : CallsH Try.prog 34 #[.int .i64 n, .bool hi] H R := by
  refine Try.s34 ?_
  unfold Try.S34
  rw [tmod8]
  unfold bpos at hR
  refine br_i (fun h => ⟨by decide, ?_⟩) (fun h => ⟨by decide, ?_⟩)
  · subst h
    rw [if_pos rfl] at hR
    rw [wrap_id (by omega) (by omega), show ((7 : Int) - ((n % 8 : Nat) : Int)) = ((7 - n % 8 : Nat) : Int) from by omega]
    exact hR
  · subst h
    rw [if_neg (by decide)] at hR
    exact hR

/-- A writer. -/
def wrR (b : Nat) (hi : Bool) (ws : List Int) : Rs :=
  .ex fun (x : Option Addr × Nat × Nat × List Int) => .pu (WOk hi ws x.2.2.2 ∧ ws.length ≤ 1000000000) (.star (.cell b #[.slice x.1 x.2.1 x.2.2.1, .int .i64 ws.length, .bool hi] 47) (.sl x.1 x.2.1 x.2.2.1 5 1 (kints .u8 x.2.2.2)))

variable {H0 H : Heap} {σ : List Rs} {R : Value → Heap → Prop}

theorem wrR_mk {b : Nat} {hi : Bool} {ws : List Int} {p : Option Addr} {l c : Nat} {B : List Int} (ok : WOk hi ws B) (hl : ws.length ≤ 1000000000) (hs : St H0 H (.cell b #[.slice p l c, .int .i64 ws.length, .bool hi] 47 :: .sl p l c 5 1 (kints .u8 B) :: σ)) : St H0 H (wrR b hi ws :: σ) :=
  St.inex (f := fun (x : Option Addr × Nat × Nat × List Int) => .pu (WOk hi ws x.2.2.2 ∧ ws.length ≤ 1000000000) (.star (.cell b #[.slice x.1 x.2.1 x.2.2.1, .int .i64 ws.length, .bool hi] 47) (.sl x.1 x.2.1 x.2.2.1 5 1 (kints .u8 x.2.2.2)))) (p, l, c, B) (St.with ⟨ok, hl⟩ hs.cat)
theorem wrR_op {b : Nat} {hi : Bool} {ws : List Int} (hs : St H0 H (wrR b hi ws :: σ)) : ∃ p l c B, WOk hi ws B ∧ ws.length ≤ 1000000000 ∧ l = B.length ∧ St H0 H (.cell b #[.slice p l c, .int .i64 ws.length, .bool hi] 47 :: .sl p l c 5 1 (kints .u8 B) :: σ) := by
  obtain ⟨⟨p, l, c, B⟩, hs⟩ := hs.unex
  obtain ⟨⟨ok, hl⟩, hs⟩ := hs.fact
  have := (hs.cut.is 1 rfl).length
  exact ⟨p, l, c, B, ok, hl, this.symm, hs.cut⟩

theorem c6 (hs : St H0 H σ) {hi : Bool} (hR : ∀ b H', St H0 H' (wrR b hi [] :: σ) → R (.pointer (some ⟨b, 0, none⟩)) H') : CallsH Try.prog 6 #[.bool hi] H R := by
  refine Try.s6 ?_
  unfold Try.S6
  exact hs.alc fun b H' hs => hR b H' (wrR_mk (WOk.nil hi) (by simp) ((hs.nilSl 5 1).swap))

theorem c18 (hs : St H0 H σ) {i b : Nat} {hi : Bool} {ws : List Int} (hi' : σ[i]? = some (wrR b hi ws)) (hl : ws.length < 1000000000) {v : Int}
    (hR : ∀ H', St H0 H' (σ.set i (wrR b hi (ws ++ [v % 2]))) → R (.tuple #[]) H') : CallsH Try.prog 18 #[.pointer (some ⟨b, 0, none⟩), .int .i64 v] H R := by
  obtain ⟨p, l, c, B, ok, _, hlB, hs⟩ := wrR_op (hs.front i hi')
  refine Try.s18 ?_
  unfold Try.S18
  intro J hJ
  have hB := ok.len
  have fin : ∀ H' p l c C, C = (if ws.length % 8 = 0 then B ++ [0] else B) → St H0 H' (.cell b #[.slice p l c, .int .i64 ws.length, .bool hi] 47 :: .sl p l c 5 1 (kints .u8 C) :: σ.eraseIdx i) → J [] H' := by
    intro H' p l c C hC hs
    obtain ⟨x, hx, x0, x1, ok'⟩ := ok.put (b := v % 2) (by omega) hC
    have hCl := (List.getElem?_eq_some_iff.1 hx).1
    have hlC := (hs.is 1 rfl).length
    obtain ⟨blk, hp⟩ := hs.slSome 1 rfl (j := ws.length / 8) (by rw [kints_len]; exact hCl)
    subst hp
    refine hJ H' ⟨_, rfl, _, l, c, hs.get 0 rfl rfl, _, rfl, ws.length, hs.get 0 (j := 1) rfl rfl, by decide, ?_⟩
    rw [wdiv8 _ (by omega), Int.toNat_natCast]
    have hg := (hs.is 1 rfl).rd (i := ((ws.length / 8 : Nat) : Int)) (by omega) (by omega) (by rw [Int.toNat_natCast]; exact hx) (K := fun y => y = x) rfl
    rw [Int.toNat_natCast] at hg
    obtain ⟨a, ha, g0, g1, y, g2, rfl⟩ := hg
    cases ha
    refine ⟨_, rfl, by omega, by omega, y, g2, _, rfl, ws.length, hs.get 0 (j := 1) rfl rfl, _, rfl, hi, hs.get 0 (j := 2) rfl rfl, c34 ⟨_, rfl, .inl (Ext.refl _), by omega, _, rfl, by omega, by omega, ?_⟩⟩
    rw [andI_1, add_none, Nat.zero_add, Nat.mul_one]
    refine hs.slPut 1 rfl (by rw [kints_len]; exact hCl) rfl fun H2 hs => ⟨_, rfl, ws.length, hs.get 0 (j := 1) rfl rfl, _, rfl, ?_⟩
    rw [add_none, Nat.zero_add, wrap_id (by omega) (by omega)]
    refine hs.put 0 rfl (by simp) rfl fun H3 hs => hR H3 (St.back hi' (wrR_mk (p := some ⟨blk, 0, none⟩) (l := l) (c := c) ok' (by simp; omega) ?_))
    rw [wrap_u8 (by omega) (by omega), List.set_cons_succ, List.set_cons_zero, kints_set] at hs
    have e : (#[Value.slice (some ⟨blk, 0, none⟩) l c, .int .i64 (ws.length : Int), .bool hi] : Array Value).setIfInBounds 1 (.int .i64 ((ws.length : Int) + 1)) = #[Value.slice (some ⟨blk, 0, none⟩) l c, .int .i64 (((ws ++ [v % 2]).length : Nat) : Int), .bool hi] := by simp
    rw [List.set_cons_zero, e] at hs
    exact hs
  refine ⟨_, rfl, ws.length, hs.get 0 (j := 1) rfl rfl, by decide, ?_⟩
  rw [tmod8]
  refine br_eq (fun h8 => ?_) (fun h8 => fin H p l c B (by rw [if_neg (by omega)]) hs)
  refine ⟨_, rfl, p, l, c, hs.get 0 rfl rfl, hs.alc fun b2 H2 hs => ?_⟩
  refine hs.appC 2 0 (el := 5) (k := 1) rfl rfl rfl (one1 rfl) (by decide) rfl (by omega) (by omega) fun p' c' H3 hs => ⟨_, rfl, ?_⟩
  refine hs.put 1 rfl (by simp) rfl fun H4 hs => ?_
  exact fin H4 p' (l + 1) c' (B ++ [0]) (by rw [if_pos (by omega)]) (by rw [kints_append]; exact hs.tail)

theorem setset (σ : List Rs) (i : Nat) (r s : Rs) : (σ.set i r).set i s = σ.set i s := List.set_set _
theorem setget {σ : List Rs} {i : Nat} {r : Rs} (h : σ[i]? = some r) (s : Rs) : (σ.set i s)[i]? = some s := List.getElem?_set_self (List.getElem?_eq_some_iff.1 h).1

theorem wrR_len (hs : St H0 H σ) {i b : Nat} {hi : Bool} {ws : List Int} (hi' : σ[i]? = some (wrR b hi ws)) : ws.length ≤ 1000000000 := by
  obtain ⟨_, _, _, _, _, h, _⟩ := wrR_op (hs.front i hi'); exact h

theorem c9 (hs : St H0 H σ) {i b : Nat} {hi : Bool} {ws : List Int} (hi' : σ[i]? = some (wrR b hi ws)) {v n : Int} (hl : ws.length + n.toNat ≤ 1000000000)
    (hbad : ¬ (0 ≤ n ∧ n ≤ 24 ∧ 0 ≤ v ∧ v < 2 ^ n.toNat) → R (.bool false) H)
    (hR : (0 ≤ n ∧ n ≤ 24 ∧ 0 ≤ v ∧ v < 2 ^ n.toNat) → ∀ H', St H0 H' (σ.set i (wrR b hi (ws ++ bitsOf hi v n.toNat))) → R (.bool true) H') : CallsH Try.prog 9 #[.pointer (some ⟨b, 0, none⟩), .int .i64 v, .int .i64 n] H R := by
  refine Try.s9 ?_
  unfold Try.S9
  intro J hJ
  refine br_dec (fun h => hbad (by omega)) (fun n0 => br_dec (fun h => hbad (by omega)) (fun n1 => br_dec (fun h => hbad (by omega)) (fun v0 => ⟨by omega, ?_⟩)))
  obtain ⟨m, rfl⟩ := Int.eq_ofNat_of_zero_le (show 0 ≤ n by omega)
  rw [Int.toNat_natCast] at *
  have hp : (2 : Int) ^ m ≤ 2 ^ 24 := pow_le (by omega)
  have e24 : (2 : Int) ^ 24 = 16777216 := by decide
  rw [shl_of (by omega) (by omega) (by omega), Int.one_mul]
  refine br_dec (fun h => hbad (by omega)) (fun v1 => hJ H ?_)
  have hR := hR ⟨by omega, by omega, by omega, by omega⟩
  intro X hX
  have go : ∀ k, k ≤ m → ∀ H', St H0 H' (σ.set i (wrR b hi (ws ++ (bitsOf hi v m).take k))) → X [.int .i64 k] H' := upto fun k hk ih H' hs => by
    refine hX _ H' (br_dec (fun hlt => ?_) (fun hge => ?_))
    · have hlt : k < m := by omega
      intro J2 hJ2
      have hwl := wrR_len hs (setget hi' _)
      rw [List.length_append, List.length_take, bitsOf_len] at hwl
      have nx : ∀ j : Nat, j = (if hi then m - 1 - k else k) → J2 [.int .i64 j] H' := fun j hj => by
        refine hJ2 _ H' ⟨by omega, ?_⟩
        have hj62 : j ≤ 62 := by rw [hj]; split <;> omega
        rw [shr_of _ hj62]
        refine c18 hs (setget hi' _) (by rw [List.length_append, List.length_take, bitsOf_len]; omega) fun H2 hs => ⟨rfl, ?_⟩
        rw [wrap_id (by omega) (by omega)]
        refine ih hlt H2 ?_
        rw [setset] at hs
        have : (bitsOf hi v m).take (k + 1) = (bitsOf hi v m).take k ++ [v / 2 ^ j % 2] := by
          rw [List.take_add_one]
          congr 1
          simp [bitsOf, hlt, hj]
        rw [this, ← List.append_assoc]; exact hs
      obtain ⟨p, l, c, B, _, _, _, hs2⟩ := wrR_op (hs.front i (setget hi' _))
      refine ⟨_, rfl, hi, hs2.get 0 (j := 2) rfl rfl, br_i (fun hh => ?_) (fun hh => ?_)⟩
      · rw [wrap_id (n := (m : Int) - 1) (by omega) (by omega), wrap_id (n := (m : Int) - 1 - k) (by omega) (by omega)]
        have := nx (m - 1 - k) (by rw [if_pos hh])
        rw [show ((m - 1 - k : Nat) : Int) = (m : Int) - 1 - k from by omega] at this
        exact this
      · exact nx k (by rw [if_neg (by rw [hh]; decide)])
    · have : k = m := by omega
      subst this
      refine hR H' ?_
      rw [List.take_of_length_le (by rw [bitsOf_len]; omega)] at hs
      exact hs
  refine go 0 (by omega) H ?_
  rw [List.take_zero, List.append_nil]
  obtain ⟨h1, h2⟩ := List.getElem?_eq_some_iff.1 hi'
  rw [← h2, List.set_getElem_self]; exact hs

end Go.Proofs
