/-
  OWN WORK. Bits in bytes, plain.
-/
import Derived.Test.YtdigjlhobhpfpaaShT
set_option linter.unusedVariables false
set_option linter.unusedSimpArgs false
namespace Go.Proofs
open Go.Sh

theorem gD_left {α : Type} (a b : List α) (d : α) (i : Nat) (h : i < a.length) : (a ++ b).getD i d = a.getD i d := by simp [List.getD_eq_getElem?_getD, List.getElem?_append_left h]
theorem gD_right {α : Type} (a b : List α) (d : α) (i : Nat) (h : a.length ≤ i) : (a ++ b).getD i d = b.getD (i - a.length) d := by simp [List.getD_eq_getElem?_getD, List.getElem?_append_right h]
theorem gD_none {α : Type} (a : List α) (d : α) {i : Nat} (h : a.length ≤ i) : a.getD i d = d := by simp [List.getD_eq_getElem?_getD, List.getElem?_eq_none h]
theorem gD_get {α : Type} {a : List α} {d : α} {i : Nat} {x : α} (h : a[i]? = some x) : a.getD i d = x := by simp [List.getD_eq_getElem?_getD, h]
theorem get_gD {α : Type} (a : List α) (d : α) {i : Nat} (h : i < a.length) : a[i]? = some (a.getD i d) := by rw [List.getD_eq_getElem?_getD, List.getElem?_eq_getElem h]; rfl

/-- A bit's place in its byte; a bit of bytes; a number of bits. -/
def bpos (hi : Bool) (i : Nat) : Nat := if hi then 7 - i % 8 else i % 8
def bitB (hi : Bool) (B : List Int) (i : Nat) : Int := B.getD (i / 8) 0 / 2 ^ bpos hi i % 2
def numB (hi : Bool) (B : List Int) (at_ : Nat) : Nat → Int
  | 0 => 0
  | n + 1 => if hi then 2 * numB hi B at_ n + bitB hi B (at_ + n) else numB hi B at_ n + bitB hi B (at_ + n) * 2 ^ n

theorem bpos_lt (hi : Bool) (i : Nat) : bpos hi i < 8 := by unfold bpos; split <;> omega
theorem bpos_ne {hi : Bool} {i j : Nat} (h : i / 8 = j / 8) (hne : i ≠ j) : bpos hi i ≠ bpos hi j := by unfold bpos; split <;> omega
theorem bitB_rng (hi : Bool) (B : List Int) (i : Nat) : bitB hi B i = 0 ∨ bitB hi B i = 1 := by unfold bitB; omega

theorem pow_cast (n : Nat) : ((2 ^ n : Nat) : Int) = (2 : Int) ^ n := by simp
theorem two_pow_pos (n : Nat) : (0 : Int) < 2 ^ n := Int.pow_pos (by omega)
theorem pow_le {m n : Nat} (h : m ≤ n) : (2 : Int) ^ m ≤ 2 ^ n := by
  rw [← pow_cast, ← pow_cast]; exact Int.ofNat_le.2 (Nat.pow_le_pow_right (by omega) h)

theorem numB_rng (hi : Bool) (B : List Int) (at_ : Nat) : ∀ n, 0 ≤ numB hi B at_ n ∧ numB hi B at_ n < 2 ^ n
  | 0 => by simp [numB]
  | n + 1 => by
    have h := numB_rng hi B at_ n
    have hp := two_pow_pos n
    rw [numB, Int.pow_succ]
    rcases bitB_rng hi B (at_ + n) with hb | hb <;> rw [hb] <;> split <;> omega

theorem ofInt_nat {n : Nat} {x : Int} (h0 : 0 ≤ x) (h1 : x < 2 ^ n) : (BitVec.ofInt n x).toNat = x.toNat := by
  rw [BitVec.toNat_ofInt]
  congr 1
  rw [pow_cast]; exact Int.emod_eq_of_lt h0 h1

/-- 'or' of what shares no bit is the sum. -/
theorem or_sum {a b : Int} {k : Nat} (a0 : 0 ≤ a) (ak : a < 2 ^ k) (b0 : 0 ≤ b) (hs : a + b * 2 ^ k < 9223372036854775808) : orI .i64 a (b * 2 ^ k) = a + b * 2 ^ k := by
  have hp := two_pow_pos k
  have hb : 0 ≤ b * 2 ^ k := Int.mul_nonneg b0 (Int.le_of_lt hp)
  have e64 : (2 : Int) ^ 64 = 18446744073709551616 := by decide
  unfold orI
  rw [show IntKind.bits .i64 = 64 from rfl, BitVec.toNat_or, ofInt_nat a0 (by omega), ofInt_nat hb (by omega)]
  have h1 : (b * 2 ^ k).toNat = 2 ^ k * b.toNat := by
    obtain ⟨n, rfl⟩ := Int.eq_ofNat_of_zero_le b0
    rw [← pow_cast, ← Int.natCast_mul, Int.toNat_natCast, Int.toNat_natCast, Nat.mul_comm]
  have h2 : a.toNat < 2 ^ k := by
    have := pow_cast k; omega
  rw [h1, Nat.or_comm, ← Nat.two_pow_add_eq_or_of_lt h2, ← h1]
  rw [wrap_id (by omega) (by omega)]
  omega
theorem or_sum' {a b : Int} {k : Nat} (a0 : 0 ≤ a) (ak : a < 2 ^ k) (b0 : 0 ≤ b) (hs : a + b * 2 ^ k < 9223372036854775808) : orI .i64 (b * 2 ^ k) a = a + b * 2 ^ k := by
  rw [← or_sum a0 ak b0 hs]
  unfold orI
  rw [BitVec.or_comm]

theorem shl_of {x : Int} {k : Nat} (h0 : 0 ≤ x) (hk : k ≤ 62) (hs : x * 2 ^ k < 9223372036854775808) : shlI .i64 x k = x * 2 ^ k := by
  unfold shlI
  rw [show min (k : Int).toNat (IntKind.bits .i64) = k from by rw [Int.toNat_natCast]; exact Nat.min_eq_left (by show k ≤ 64; omega)]
  have := Int.mul_nonneg h0 (Int.le_of_lt (two_pow_pos k))
  exact wrap_id (by omega) (by omega)
theorem shr_of (x : Int) {k : Nat} (hk : k ≤ 62) : shrI .i64 x k = x / 2 ^ k := by
  unfold shrI
  rw [show min (k : Int).toNat (IntKind.bits .i64) = k from by rw [Int.toNat_natCast]; exact Nat.min_eq_left (by show k ≤ 64; omega)]
  exact Int.fdiv_eq_ediv_of_nonneg _ (Int.le_of_lt (two_pow_pos k))
theorem shr8_of (x : Int) {k : Nat} (hk : k ≤ 8) : shrI .u8 x k = x / 2 ^ k := by
  unfold shrI
  rw [show min (k : Int).toNat (IntKind.bits .u8) = k from by rw [Int.toNat_natCast]; exact Nat.min_eq_left hk]
  exact Int.fdiv_eq_ediv_of_nonneg _ (Int.le_of_lt (two_pow_pos k))

theorem andI_1 (a : Int) : andI .i64 a (1 : Int) = a % 2 := by
  unfold andI
  rw [show IntKind.bits .i64 = 64 from rfl, BitVec.toNat_and, BitVec.toNat_ofInt, BitVec.toNat_ofInt]
  rw [show ((1 : Int) % ((2 ^ 64 : Nat) : Int)).toNat = 1 from by decide, Nat.and_one_is_mod]
  have h2 : (((a % ((2 ^ 64 : Nat) : Int)).toNat % 2 : Nat) : Int) = a % 2 := by
    rw [show ((2 ^ 64 : Nat) : Int) = 18446744073709551616 from by decide]; omega
  rw [h2]
  exact wrap_id (by omega) (by omega)
theorem one1 {v : Value} (h : v.oneCell' = true) : ∀ u ∈ [v], u.oneCell' = true := fun u hu => by rw [List.mem_singleton.1 hu]; exact h

/-- A bit is set in a byte. -/
theorem or_byte : ∀ (x : Fin 256) (j : Fin 8) (b : Fin 2), x.val / 2 ^ j.val % 2 = 0 → orI .u8 (x.val : Int) (shlI .u8 (b.val : Int) (j.val : Int)) = ((x.val + b.val * 2 ^ j.val : Nat) : Int) ∧ x.val + b.val * 2 ^ j.val < 256 := by decide +kernel
theorem bit_set : ∀ (x : Fin 256) (j : Fin 8) (b : Fin 2) (i : Fin 8), x.val / 2 ^ j.val % 2 = 0 → (x.val + b.val * 2 ^ j.val) / 2 ^ i.val % 2 = if i = j then b.val else x.val / 2 ^ i.val % 2 := by decide +kernel

/-- Bits written: how they lie in bytes. -/
structure WOk (hi : Bool) (ws B : List Int) : Prop where
  len : B.length = (ws.length + 7) / 8
  rng : ∀ x ∈ B, 0 ≤ x ∧ x < 256
  bit : ∀ i : Nat, bitB hi B i = ws.getD i 0
theorem WOk.nil (hi : Bool) : WOk hi [] [] := ⟨rfl, by simp, fun i => by simp [bitB]⟩
theorem getD_rng {B : List Int} (h : ∀ x ∈ B, 0 ≤ x ∧ x < 256) (i : Nat) : 0 ≤ B.getD i 0 ∧ B.getD i 0 < 256 := by
  rw [List.getD_eq_getElem?_getD]
  cases hb : B[i]? with
  | none => simp
  | some x => exact h x (List.mem_of_getElem? hb)

/-- One more bit; behind it the byte is there. -/
theorem WOk.put {hi : Bool} {ws B : List Int} {b : Int} (h : WOk hi ws B) (hb : b = 0 ∨ b = 1) {C : List Int} (hC : C = if ws.length % 8 = 0 then B ++ [0] else B) :
    ∃ x, C[ws.length / 8]? = some x ∧ 0 ≤ x ∧ x < 256 ∧ WOk hi (ws ++ [b]) (C.set (ws.length / 8) (orI .u8 x (shlI .u8 b (bpos hi ws.length)))) := by
  have hl := h.len
  have hlen : C.length = ws.length / 8 + 1 := by
    rw [hC]; split
    · simp; omega
    · omega
  have hr : ∀ x ∈ C, 0 ≤ x ∧ x < 256 := by
    rw [hC]; split
    · intro x hx
      rcases List.mem_append.1 hx with hx | hx
      · exact h.rng x hx
      · simp at hx; subst hx; omega
    · exact h.rng
  have hbit : ∀ i : Nat, bitB hi C i = ws.getD i 0 := fun i => by
    rw [← h.bit i, hC]
    split
    · unfold bitB
      by_cases hi' : i / 8 < B.length
      · rw [gD_left _ _ _ _ hi']
      · rw [gD_none B _ (by omega)]
        by_cases he : i / 8 = B.length
        · rw [gD_right _ _ _ _ (by omega), he, Nat.sub_self]; rfl
        · rw [gD_none _ _ (by simp; omega)]
    · rfl
  have hx : C[ws.length / 8]? = some (C.getD (ws.length / 8) 0) := by
    rw [List.getD_eq_getElem?_getD, List.getElem?_eq_getElem (by omega)]; rfl
  generalize hxe : C.getD (ws.length / 8) 0 = x at hx
  have hxr := hr x (List.mem_of_getElem? hx)
  refine ⟨x, hx, hxr.1, hxr.2, ?_⟩
  obtain ⟨n, rfl⟩ := Int.eq_ofNat_of_zero_le hxr.1
  have hn : n < 256 := by omega
  obtain ⟨c, hc, rfl⟩ : ∃ c : Nat, c < 2 ∧ b = (c : Int) := by
    rcases hb with rfl | rfl
    · exact ⟨0, by omega, rfl⟩
    · exact ⟨1, by omega, rfl⟩
  have hz : n / 2 ^ bpos hi ws.length % 2 = 0 := by
    have h1 := hbit ws.length
    unfold bitB at h1
    rw [hxe, gD_none _ _ (Nat.le_refl _), ← pow_cast] at h1
    omega
  obtain ⟨ho, ho2⟩ := or_byte ⟨n, hn⟩ ⟨bpos hi ws.length, bpos_lt hi _⟩ ⟨c, hc⟩ hz
  simp only at ho ho2
  rw [ho]
  refine ⟨by rw [List.length_set, hlen, List.length_append, List.length_singleton]; omega, fun y hy => ?_, fun i => ?_⟩
  · rcases List.mem_or_eq_of_mem_set hy with hy | rfl
    · exact hr y hy
    · exact ⟨Int.natCast_nonneg _, Int.ofNat_lt.2 ho2⟩
  · by_cases he : i / 8 = ws.length / 8
    · have hs := bit_set ⟨n, hn⟩ ⟨bpos hi ws.length, bpos_lt hi _⟩ ⟨c, hc⟩ ⟨bpos hi i, bpos_lt hi _⟩ hz
      simp only [Fin.mk.injEq] at hs
      have hg : (C.set (ws.length / 8) ((n + c * 2 ^ bpos hi ws.length : Nat) : Int)).getD (i / 8) 0 = ((n + c * 2 ^ bpos hi ws.length : Nat) : Int) := by
        rw [he, List.getD_eq_getElem?_getD, List.getElem?_set_self (by omega)]; rfl
      unfold bitB
      rw [hg, ← pow_cast]
      by_cases hil : i = ws.length
      · subst hil
        rw [if_pos rfl] at hs
        rw [gD_right _ _ _ _ (Nat.le_refl _), Nat.sub_self]
        show _ = (c : Int)
        omega
      · rw [if_neg (bpos_ne he hil)] at hs
        have h1 := hbit i
        unfold bitB at h1
        rw [he, hxe, ← pow_cast] at h1
        have h2 : (ws ++ [(c : Int)]).getD i 0 = ws.getD i 0 := by
          by_cases hlt : i < ws.length
          · rw [gD_left _ _ _ _ hlt]
          · rw [gD_none _ _ (by simp; omega), gD_none _ _ (by omega)]
        rw [h2, ← h1]
        omega
    · have hg : (C.set (ws.length / 8) ((n + c * 2 ^ bpos hi ws.length : Nat) : Int)).getD (i / 8) 0 = C.getD (i / 8) 0 := by
        rw [List.getD_eq_getElem?_getD, List.getElem?_set_ne (Ne.symm he), ← List.getD_eq_getElem?_getD]
      have h2 : (ws ++ [(c : Int)]).getD i 0 = ws.getD i 0 := by
        by_cases hlt : i < ws.length
        · rw [gD_left _ _ _ _ hlt]
        · rw [gD_none _ _ (by simp; omega), gD_none _ _ (by omega)]
      rw [h2, ← hbit i]
      unfold bitB
      rw [hg]

/-- The bits of a number, as they are written. -/
def bitsOf (hi : Bool) (v : Int) (n : Nat) : List Int := (List.range n).map fun k => v / 2 ^ (if hi then n - 1 - k else k) % 2
theorem bitsOf_len (hi : Bool) (v : Int) (n : Nat) : (bitsOf hi v n).length = n := by simp [bitsOf]

end Go.Proofs
