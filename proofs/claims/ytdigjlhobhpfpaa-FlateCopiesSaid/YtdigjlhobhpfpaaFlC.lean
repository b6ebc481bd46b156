/-
  OWN WORK. The package bits over heaps: copies of slices, its reader.
-/
import Derived.Test.YtdigjlhobhpfpaaFlB
set_option linter.unusedVariables false
set_option linter.unusedSimpArgs false
namespace Go.Proofs
open Go.Sh
variable {H0 H : Heap} {σ : List Rs} {R : Value → Heap → Prop}

theorem clone_of {ty : TypeId} {bytes : Nat} {zero : Array Value} {p : Option Addr} {l : Nat} {k : IntKind} {xs : List Int} (h : IS H p l (kints k xs)) (hl : l * bytes ≤ 70368744177664) (hm : l ≤ 1000000000000) (hz : zero.size = 1)
    (hR : ∀ q m H', St H H' [.sl q l m ty 1 (kints k xs)] → R (.slice q l m) H') :
    br (Option.isNone p) (R (.slice none 0 0) H) (alc H (.cells #[] ty) fun b H1 => appQ 1 bytes zero H1 (some ⟨b, 0, none⟩) 0 0 p l ty fun ap al ac H2 => R (.slice ap al ac) H2) := by
  have hs := St.nil H
  refine br_none (fun hp => ?_) (fun a hp => ?_)
  · subst hp
    have hx : xs = [] := List.eq_nil_iff_forall_not_mem.2 fun v hv => by
      obtain ⟨i, hi⟩ := List.getElem?_of_mem hv
      obtain ⟨a, h1, _⟩ := h.get i _ (kints_get hi)
      cases h1
    have hl0 : l = 0 := by have := h.length; rw [hx] at this; exact this.symm
    subst hx hl0
    exact hR none 0 H (hs.nilSl ty 1)
  · refine hs.alc fun b H1 hs => ?_
    have hs : St H H1 [.sl (some ⟨b, 0, none⟩) 0 0 ty 1 []] := hs.toSl 0 rfl rfl rfl (by simp)
    refine hs.appI 0 rfl (h.ext hs.ext) (kints_one k xs) hz (by rw [Nat.zero_add]; exact hl) (by omega) fun p' c' H2 hs => ?_
    rw [Nat.zero_add] at hs ⊢
    exact hR p' c' H2 hs
theorem c30 {p : Option Addr} {l c : Nat} {xs : List Int} (h : IS H p l (kints .u8 xs)) (hl : l ≤ 1000000000000)
    (hR : ∀ q m H', St H H' [.sl q l m 5 1 (kints .u8 xs)] → R (.slice q l m) H') : CallsH Try.prog 30 #[.slice p l c] H R :=
  Try.s30 (clone_of h (by omega) (by omega) rfl hR)

/-- The byte's rest, filled. -/
def fillM (ws : List Int) (v : Int) : List Int := ws ++ List.replicate ((8 - ws.length % 8) % 8) (v % 2)
theorem c15 (hs : St H0 H σ) {i b : Nat} {hi : Bool} {ws : List Int} (hi' : σ[i]? = some (wrR b hi ws)) (hl : ws.length < 999999990) {v : Int}
    (hR : ∀ H', St H0 H' (σ.set i (wrR b hi (fillM ws v))) → R (.tuple #[]) H') : CallsH Try.prog 15 #[.pointer (some ⟨b, 0, none⟩), .int .i64 v] H R := by
  refine Try.s15 ?_
  unfold Try.S15
  intro X hX
  have go : ∀ k, k ≤ (8 - ws.length % 8) % 8 → ∀ H', St H0 H' (σ.set i (wrR b hi (ws ++ List.replicate k (v % 2)))) → X [] H' := upto fun k hk ih H' hs => by
    obtain ⟨p, l, c, B, _, _, _, hs2⟩ := wrR_op (hs.front i (setget hi' _))
    refine hX H' ⟨_, rfl, _, hs2.get 0 (j := 1) rfl rfl, by decide, ?_⟩
    rw [tmod8, List.length_append, List.length_replicate]
    refine br_ne (fun hne => ?_) (fun he => ?_)
    · refine c18 hs (setget hi' _) (by rw [List.length_append, List.length_replicate]; omega) fun H2 hs => ⟨rfl, ih (by omega) H2 ?_⟩
      rw [setset] at hs
      rw [List.replicate_succ', ← List.append_assoc]; exact hs
    · have : k = (8 - ws.length % 8) % 8 := by omega
      subst this
      exact hR H' hs
  refine go 0 (by omega) H ?_
  rw [List.replicate_zero, List.append_nil]
  obtain ⟨h1, h2⟩ := List.getElem?_eq_some_iff.1 hi'
  rw [← h2, List.set_getElem_self]; exact hs

theorem c13 (hs : St H0 H σ) {i b : Nat} {hi : Bool} {ws : List Int} (hi' : σ[i]? = some (wrR b hi ws))
    (hR : ∀ q l m B H', WOk hi ws B → l = B.length → St H0 H' (.sl q l m 5 1 (kints .u8 B) :: σ) → R (.slice q l m) H') : CallsH Try.prog 13 #[.pointer (some ⟨b, 0, none⟩)] H R := by
  obtain ⟨p, l, c, B, ok, hw, hl, hs2⟩ := wrR_op (hs.front i hi')
  have := ok.len
  refine Try.s13 ⟨_, rfl, _, _, _, hs2.get 0 rfl rfl, c30 (hs2.is 1 rfl) (by omega) fun q m H' hs' => ⟨_, _, _, rfl, hR q l m B H' ok hl (hs.call hs')⟩⟩

/-- A reader. -/
def rdR (b : Nat) (B : List Int) (at_ : Nat) (hi : Bool) : Rs :=
  .ex fun (x : Option Addr × Nat) => .pu (at_ ≤ 8 * B.length ∧ B.length ≤ 1000000000 ∧ ∀ x ∈ B, 0 ≤ x ∧ x < 256) (.star (.cell b #[.slice x.1 B.length x.2, .int .i64 at_, .bool hi] 74) (.sl x.1 B.length x.2 5 1 (kints .u8 B)))
theorem rdR_mk {b at_ c : Nat} {B : List Int} {hi : Bool} {p : Option Addr} (h1 : at_ ≤ 8 * B.length) (h2 : B.length ≤ 1000000000) (h3 : ∀ x ∈ B, 0 ≤ x ∧ x < 256)
    (hs : St H0 H (.cell b #[.slice p B.length c, .int .i64 at_, .bool hi] 74 :: .sl p B.length c 5 1 (kints .u8 B) :: σ)) : St H0 H (rdR b B at_ hi :: σ) :=
  St.inex (f := fun (x : Option Addr × Nat) => .pu (at_ ≤ 8 * B.length ∧ B.length ≤ 1000000000 ∧ ∀ x ∈ B, 0 ≤ x ∧ x < 256) (.star (.cell b #[.slice x.1 B.length x.2, .int .i64 at_, .bool hi] 74) (.sl x.1 B.length x.2 5 1 (kints .u8 B)))) (p, c) (St.with ⟨h1, h2, h3⟩ hs.cat)
theorem rdR_op {b at_ : Nat} {B : List Int} {hi : Bool} (hs : St H0 H (rdR b B at_ hi :: σ)) : ∃ p c, at_ ≤ 8 * B.length ∧ B.length ≤ 1000000000 ∧ (∀ x ∈ B, 0 ≤ x ∧ x < 256) ∧
    St H0 H (.cell b #[.slice p B.length c, .int .i64 at_, .bool hi] 74 :: .sl p B.length c 5 1 (kints .u8 B) :: σ) := by
  obtain ⟨⟨p, c⟩, hs⟩ := hs.unex
  obtain ⟨⟨h1, h2, h3⟩, hs⟩ := hs.fact
  exact ⟨p, c, h1, h2, h3, hs.cut⟩

theorem c21 {p : Option Addr} {l c : Nat} {B : List Int} {hi : Bool} (h : IS H p l (kints .u8 B)) (hl : l ≤ 1000000000) (hB : ∀ x ∈ B, 0 ≤ x ∧ x < 256)
    (hR : ∀ b H', St H H' [rdR b B 0 hi] → R (.pointer (some ⟨b, 0, none⟩)) H') : CallsH Try.prog 21 #[.slice p l c, .bool hi] H R := by
  have hBl := h.length
  subst hBl
  exact Try.s21 (c30 h (by omega) fun q m H' hs => ⟨_, _, _, rfl, hs.alc fun b H2 hs => hR b H2 (rdR_mk (Nat.zero_le _) hl hB hs)⟩)

theorem c43 (hs : St H0 H σ) {i b at_ : Nat} {B : List Int} {hi : Bool} (hi' : σ[i]? = some (rdR b B at_ hi)) (hR : R (.int .i64 ((8 * B.length - at_ : Nat) : Int)) H) :
    CallsH Try.prog 43 #[.pointer (some ⟨b, 0, none⟩)] H R := by
  obtain ⟨p, c, h1, h2, h3, hs2⟩ := rdR_op (hs.front i hi')
  refine Try.s43 ⟨_, rfl, _, _, _, hs2.get 0 rfl rfl, _, rfl, _, hs2.get 0 (j := 1) rfl rfl, ?_⟩
  rw [wrap_id (n := (8 : Int) * (B.length : Int)) (by omega) (by omega), wrap_id (by omega) (by omega), show (8 : Int) * (B.length : Int) - at_ = ((8 * B.length - at_ : Nat) : Int) from by omega]
  exact hR
theorem c29 (hs : St H0 H σ) {i b at_ : Nat} {B : List Int} {hi : Bool} (hi' : σ[i]? = some (rdR b B at_ hi)) (hR : R (.int .i64 at_) H) :
    CallsH Try.prog 29 #[.pointer (some ⟨b, 0, none⟩)] H R := by
  obtain ⟨p, c, h1, h2, h3, hs2⟩ := rdR_op (hs.front i hi')
  exact Try.s29 ⟨_, rfl, _, hs2.get 0 (j := 1) rfl rfl, hR⟩
theorem c36 (hs : St H0 H σ) {i b at_ : Nat} {B : List Int} {hi : Bool} (hi' : σ[i]? = some (rdR b B at_ hi))
    (hR : ∀ H', St H0 H' (σ.set i (rdR b B ((at_ + 7) / 8 * 8) hi)) → R (.tuple #[]) H') : CallsH Try.prog 36 #[.pointer (some ⟨b, 0, none⟩)] H R := by
  obtain ⟨p, c, h1, h2, h3, hs2⟩ := rdR_op (hs.front i hi')
  refine Try.s36 ⟨_, rfl, _, hs2.get 0 (j := 1) rfl rfl, by decide, _, rfl, ?_⟩
  rw [wrap_id (n := (at_ : Int) + 7) (by omega) (by omega), show (at_ : Int) + 7 = ((at_ + 7 : Nat) : Int) from rfl, wdiv8 _ (by omega), wrap_id (by omega) (by omega)]
  refine hs2.put 0 rfl (by simp) rfl fun H2 hs => hR H2 (St.back hi' (rdR_mk (p := p) (c := c) (by omega) h2 h3 ?_))
  have e : (((at_ + 7) / 8 : Nat) : Int) * 8 = (((at_ + 7) / 8 * 8 : Nat) : Int) := by omega
  rw [e] at hs
  exact hs

theorem numB_snoc {hi : Bool} {B : List Int} {a k : Nat} (hk : k < 24) : (if hi then orI .i64 (shlI .i64 (numB hi B a k) (1 : Int)) (bitB hi B (a + k)) else orI .i64 (numB hi B a k) (shlI .i64 (bitB hi B (a + k)) (k : Int))) = numB hi B a (k + 1) := by
  have h := numB_rng hi B a k
  have hp : (2 : Int) ^ k ≤ 2 ^ 24 := pow_le (by omega)
  have e24 : (2 : Int) ^ 24 = 16777216 := by decide
  rw [numB]
  have hb : 0 ≤ bitB hi B (a + k) ∧ bitB hi B (a + k) < 2 := by rcases bitB_rng hi B (a + k) with h | h <;> omega
  split
  · have h1 : shlI .i64 (numB hi B a k) (1 : Int) = numB hi B a k * 2 ^ 1 := shl_of (k := 1) h.1 (by omega) (by omega)
    rw [h1, or_sum' (k := 1) hb.1 (by omega) h.1 (by omega)]
    omega
  · have h2 : bitB hi B (a + k) * 2 ^ k ≤ 1 * 2 ^ k := Int.mul_le_mul_of_nonneg_right (by omega) (by have := two_pow_pos k; omega)
    rw [shl_of hb.1 (by omega) (by omega), or_sum h.1 h.2 hb.1 (by omega)]

theorem c35 (hs : St H0 H σ) {i b at_ : Nat} {B : List Int} {hi : Bool} (hi' : σ[i]? = some (rdR b B at_ hi)) {n : Int}
    (hbad : ¬ (0 ≤ n ∧ n ≤ 24 ∧ at_ + n ≤ 8 * B.length) → R (.tuple #[.int .i64 0, .bool false]) H)
    (hR : (0 ≤ n ∧ n ≤ 24 ∧ at_ + n ≤ 8 * B.length) → ∀ H', St H0 H' (σ.set i (rdR b B (at_ + n.toNat) hi)) → R (.tuple #[.int .i64 (numB hi B at_ n.toNat), .bool true]) H') :
    CallsH Try.prog 35 #[.pointer (some ⟨b, 0, none⟩), .int .i64 n] H R := by
  obtain ⟨_, _, h1, h2, h3, _⟩ := rdR_op (hs.front i hi')
  refine Try.s35 ?_
  unfold Try.S35
  intro J hJ
  refine br_dec (fun h => hbad (by omega)) (fun n0 => br_dec (fun h => hbad (by omega)) (fun n1 => c43 hs hi' ⟨_, rfl, br_dec (fun h => hbad (by omega)) (fun n2 => hJ H ?_)⟩))
  obtain ⟨m, rfl⟩ := Int.eq_ofNat_of_zero_le (show 0 ≤ n by omega)
  have hR := hR ⟨by omega, by omega, by omega⟩
  rw [Int.toNat_natCast] at hR
  intro X hX
  have go : ∀ k, k ≤ m → ∀ H', St H0 H' (σ.set i (rdR b B (at_ + k) hi)) → X [.int .i64 (numB hi B at_ k), .int .i64 k] H' := upto fun k hk ih H' hs => by
    refine hX _ _ H' (br_dec (fun hlt => ?_) (fun hge => ?_))
    · have hlt : k < m := by omega
      obtain ⟨p, c, g1, g2, g3, hs2⟩ := rdR_op (hs.front i (setget hi' _))
      refine ⟨_, rfl, _, _, _, hs2.get 0 rfl rfl, _, rfl, _, hs2.get 0 (j := 1) rfl rfl, by decide, ?_⟩
      rw [wdiv8 _ (by omega)]
      have hg := (hs2.is 1 rfl).rd (i := (((at_ + k) / 8 : Nat) : Int)) (by omega) (by omega) (by rw [Int.toNat_natCast]; exact get_gD _ 0 (by omega)) (K := fun y => y = B.getD ((at_ + k) / 8) 0) rfl
      obtain ⟨a, ha, q0, q1, y, q2, rfl⟩ := hg
      have hyr := getD_rng g3 ((at_ + k) / 8)
      refine ⟨a, ha, q0, q1, _, q2, _, rfl, _, hs2.get 0 (j := 1) rfl rfl, _, rfl, _, hs2.get 0 (j := 2) rfl rfl, c34 ⟨_, rfl, .inl (Ext.refl _), by omega, ?_⟩⟩
      have hbit : andI .i64 (IntKind.wrap .i64 (shrI .u8 (B.getD ((at_ + k) / 8) 0) ((bpos hi (at_ + k) : Nat) : Int))) (1 : Int) = bitB hi B (at_ + k) := by
        have := bpos_lt hi (at_ + k)
        have hd0 := Int.ediv_nonneg hyr.1 (Int.le_of_lt (two_pow_pos (bpos hi (at_ + k))))
        have hd1 := Int.ediv_le_self (2 ^ bpos hi (at_ + k)) hyr.1
        rw [shr8_of _ (by omega), wrap_id (by omega) (by omega), andI_1]
        rfl
      rw [hbit]
      intro J2 hJ2
      have nx : J2 [.int .i64 (numB hi B at_ (k + 1))] H' := by
        refine hJ2 _ H' ⟨_, rfl, _, hs2.get 0 (j := 1) rfl rfl, _, rfl, ?_⟩
        rw [wrap_id (by omega) (by omega), wrap_id (by omega) (by omega)]
        refine hs2.put 0 rfl (by simp) rfl fun H2 hs3 => ih hlt H2 ?_
        have := St.back (setget hi' _) (rdR_mk (p := p) (c := c) (at_ := at_ + (k + 1)) (hi := hi) (by omega) g2 g3 hs3)
        rw [setset] at this; exact this
      have hn := numB_snoc (hi := hi) (B := B) (a := at_) (k := k) (by omega)
      refine ⟨_, rfl, _, hs2.get 0 (j := 2) rfl rfl, br_i (fun hh => ⟨by decide, ?_⟩) (fun hh => ⟨by omega, ?_⟩)⟩
      · rw [if_pos hh] at hn; rw [hn]; exact nx
      · rw [if_neg (by rw [hh]; decide)] at hn; rw [hn]; exact nx
    · have : k = m := by omega
      subst this
      exact hR H' hs
  refine go 0 (by omega) H ?_
  obtain ⟨h1, h2⟩ := List.getElem?_eq_some_iff.1 hi'
  rw [Nat.add_zero, ← h2, List.set_getElem_self]; exact hs

end Go.Proofs
