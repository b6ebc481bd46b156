/-
  OWN WORK. Package flate over heaps: the anchor of its laws.
-/
import Derived.Test.YtdigjlhobhpfpaaFlK
set_option linter.unusedVariables false
set_option linter.unusedSimpArgs false
namespace Go.Proofs
open Go.Sh

/-- Adler's sum. -/
def adlF : List Int → Int → Int → Int × Int
  | [], lo, hi => (lo, hi)
  | x :: r, lo, hi => adlF r ((lo + x) % 65521) ((hi + (lo + x) % 65521) % 65521)
theorem adlF_snoc : ∀ (l : List Int) (x lo hi : Int), adlF (l ++ [x]) lo hi = (((adlF l lo hi).1 + x) % 65521, ((adlF l lo hi).2 + ((adlF l lo hi).1 + x) % 65521) % 65521)
  | [], x, lo, hi => rfl
  | y :: l, x, lo, hi => by rw [List.cons_append, adlF, adlF, adlF_snoc l]
theorem adlF_rng : ∀ (l : List Int) (lo hi : Int), (∀ x ∈ l, 0 ≤ x ∧ x < 256) → 0 ≤ lo ∧ lo < 65536 → 0 ≤ hi ∧ hi < 65536 → (0 ≤ (adlF l lo hi).1 ∧ (adlF l lo hi).1 < 65536) ∧ 0 ≤ (adlF l lo hi).2 ∧ (adlF l lo hi).2 < 65536
  | [], lo, hi, _, h1, h2 => ⟨h1, h2⟩
  | x :: l, lo, hi, hl, h1, h2 => by
    rw [adlF]
    exact adlF_rng l _ _ (fun y hy => hl y (List.mem_cons_of_mem _ hy)) (by omega) (by omega)

theorem c42 {H : Heap} {R : Value → Heap → Prop} {p : Option Addr} {l c : Nat} {xs : List Int} (h : IS H p l (kints .u8 xs)) (hx : ∀ x ∈ xs, 0 ≤ x ∧ x < 256) (hl : l ≤ 1000000000000) {sum lo hi : Int} (hlo : andI .i64 sum (65535 : Int) = lo) (hhi : shrI .i64 sum (16 : Int) = hi)
    (l0 : 0 ≤ lo ∧ lo < 65536) (h0 : 0 ≤ hi ∧ hi < 65536) (hR : R (.int .i64 (orI .i64 (shlI .i64 (adlF xs lo hi).2 (16 : Int)) (adlF xs lo hi).1)) H) : CallsH Try.prog 42 #[.int .i64 sum, .slice p l c] H R := by
  have e1 := h.length
  refine Try.s42 ⟨by decide, ?_⟩
  intro X hX
  rw [hlo, hhi]
  have go : ∀ k, k ≤ l → X [.int .i64 (adlF (xs.take k) lo hi).1, .int .i64 (adlF (xs.take k) lo hi).2, .int .i64 (k : Nat)] H := upto fun k hk ih => by
    refine hX _ _ _ H (br_dec (fun hlt => ?_) (fun hge => ?_))
    · have hlt : k < l := by omega
      obtain ⟨x, hg⟩ := h.get' hlt
      have hxr := hx x (List.mem_of_getElem? hg)
      obtain ⟨⟨a0, a1⟩, b0, b1⟩ := adlF_rng (xs.take k) lo hi (fun y hy => hx y (List.mem_of_mem_take hy)) l0 h0
      refine h.rd (by omega) (by omega) (by rw [Int.toNat_natCast]; exact hg) ⟨by decide, by decide, ?_⟩
      rw [wrap_id (n := x) (by omega) (by omega), wrap_id (n := (adlF (xs.take k) lo hi).1 + x) (by omega) (by omega), Int.tmod_eq_emod_of_nonneg (by omega), wrap_id (n := (adlF (xs.take k) lo hi).2 + _) (by omega) (by omega), Int.tmod_eq_emod_of_nonneg (by omega), wrap_id (by omega) (by omega)]
      have := ih hlt
      rw [List.take_add_one, hg, Option.toList_some, adlF_snoc] at this
      exact this
    · have : k = l := by omega
      subst this
      rw [List.take_of_length_le (by omega)]
      exact ⟨by decide, hR⟩
  exact go 0 (by omega)

def adlM (xs : List Int) : Int := orI .i64 (shlI .i64 (adlF xs 1 0).2 (16 : Int)) (adlF xs 1 0).1
/-- Of one part. -/
theorem c31 {H : Heap} {R : Value → Heap → Prop} {b : Nat} {ty : TypeId} {p : Option Addr} {l c : Nat} {xs : List Int} (hb : H[b]? = some (.cells #[.slice p l c] ty)) (h : IS H p l (kints .u8 xs)) (hx : ∀ x ∈ xs, 0 ≤ x ∧ x < 256) (hl : l ≤ 1000000000000) (hR : R (.int .i64 (adlM xs)) H) :
    CallsH Try.prog 31 #[.slice (some ⟨b, 0, none⟩) 1 1] H R := by
  refine Try.s31 ?_
  intro X hX
  refine hX _ _ H (br_y (by decide) ⟨_, rfl, by decide, by decide, p, l, c, cell_get hb rfl, c42 h hx hl (lo := 1) (hi := 0) (by decide) (by decide) (by decide) (by decide) ⟨_, rfl, ?_⟩⟩)
  rw [show IntKind.wrap .i64 ((0 : Int) + 1) = 1 from by decide]
  exact hX _ _ H (br_n (by decide) hR)

/-- Symbols of the fixed codes and nothing else. -/
theorem infl_lits {T : TabT} {B : List Int} {l : List Nat} (h : Has B 0 (bitsOf false 3 3 ++ l.flatMap (symBits fixL) ++ symBits fixL 256)) (hl : ∀ s ∈ l, s < 256) {most : Nat} (hm : l.length ≤ most) :
    inflM T B most = .ok (l.map Int.ofNat, (3 + (l.flatMap (symBits fixL)).length + 14) / 8) := by
  have h0 := h.1
  rw [show bitsOf false 3 3 = bitsOf false 1 1 ++ bitsOf false 1 2 from by decide +kernel, List.append_assoc, List.append_assoc] at h
  obtain ⟨h1, h⟩ := h.app
  obtain ⟨h2, h⟩ := h.app
  obtain ⟨h3, h4⟩ := h.app
  simp only [bitsOf_len, symBits_len, Nat.zero_add] at h1 h2 h3 h4
  simp only [List.length_append, bitsOf_len, symBits_len] at h0
  have hll := lits_len hl
  have hp2 := fixL_pos (s := 256) (by omega)
  have h7 : (fixL.getD 256 0).toNat = 7 := by decide +kernel
  have e1 : (2 : Int) ^ 1 = 2 := by decide
  have e2 : (2 : Int) ^ 2 = 4 := by decide
  have hsym : symbolsM B most fixL fixD 3 [] = .ok (3 + (l.flatMap (symBits fixL)).length + 7, l.map Int.ofNat) := by
    unfold symbolsM
    rw [syms_lits l _ 3 [] hl h3 (by simp; omega) (by omega)]
    obtain ⟨f, hf⟩ : ∃ f, 8 * B.length + 1 - l.length = f + 1 := ⟨8 * B.length + 1 - l.length - 1, by omega⟩
    rw [hf, symsM, symM_has fixL_ok hp2 h4, h7]
    simp
  unfold inflM
  rw [show max ((most : Nat) : Int) 0 = (most : Nat) from by omega, blocksM, getM_has h1 (by omega) (by omega)]
  simp only
  rw [getM_has h2 (by omega) (by omega)]
  simp only
  rw [if_neg (by decide), if_pos (by decide), show 0 + 1 + 2 = 3 from rfl, hsym]
  simp

theorem anc_bits : bitsOf false 3 3 ++ [97].flatMap (symBits fixL) ++ symBits fixL 256 = [1, 1, 0, 1, 0, 0, 1, 0, 0, 0, 1, 0, 0, 0, 0, 0, 0, 0] := by decide +kernel
theorem anc1 {T : TabT} : inflM T [75, 4, 0, 9] 10 = .ok ([97], 3) := by
  have := infl_lits (T := T) (B := [75, 4, 0, 9]) (l := [97]) (most := 10) (by
    rw [anc_bits]
    refine ⟨by decide, fun i hi => ?_⟩
    have : ∀ i : Fin 18, bitB false [75, 4, 0, 9] (0 + i.val) = ([1, 1, 0, 1, 0, 0, 1, 0, 0, 0, 1, 0, 0, 0, 0, 0, 0, 0] : List Int).getD i.val 0 := by decide +kernel
    exact this ⟨i, hi⟩) (by simp) (by simp)
  rw [show (3 + ([97].flatMap (symBits fixL)).length + 14) / 8 = 3 from by decide +kernel] at this
  exact this
theorem anc2 {T : TabT} : inflM T [75, 4, 0, 0, 98, 0, 98] 1 = .ok ([97], 3) := by
  have := infl_lits (T := T) (B := [75, 4, 0, 0, 98, 0, 98]) (l := [97]) (most := 1) (by
    rw [anc_bits]
    refine ⟨by decide, fun i hi => ?_⟩
    have : ∀ i : Fin 18, bitB false [75, 4, 0, 0, 98, 0, 98] (0 + i.val) = ([1, 1, 0, 1, 0, 0, 1, 0, 0, 0, 1, 0, 0, 0, 0, 0, 0, 0] : List Int).getD i.val 0 := by decide +kernel
    exact this ⟨i, hi⟩) (by simp) (by simp)
  rw [show (3 + ([97].flatMap (symBits fixL)).length + 14) / 8 = 3 from by decide +kernel] at this
  exact this

theorem IS.of_block {H : Heap} {b l : Nat} {ty : TypeId} {fs : List Value} (h : H[b]? = some (.cells fs.toArray ty)) (hl : fs.length = l) : IS H (some ⟨b, 0, none⟩) l fs :=
  ⟨hl, fun i v hv => ⟨_, rfl, by rw [add_none, Nat.zero_add]; exact cell_get h (by simpa using hv)⟩⟩
theorem is_bsOf {H : Heap} {p : Option Addr} {l : Nat} {xs : List Int} (h : IS H p l (kints .u8 xs)) : Go.Sh.bsOf H p l xs := by
  have := h.rowOf
  cases p with
  | none =>
    have h0 : (kints .u8 xs).toArray = #[] := this
    have : xs = [] := by
      cases xs with
      | nil => rfl
      | cons x r => simp [kints] at h0
    exact this
  | some a => exact ⟨h.length, this.2⟩

theorem c5 {H : Heap} {R : Value → Heap → Prop} (hR : ∀ H', Ext H H' → R (.bool true) H') : CallsH Try.prog 5 #[] H R := by
  refine Try.s5 (_u := ()) ?_
  unfold Try.S5
  refine (St.nil H).alc fun b H1 hs1 => ?_
  have i1 : IS H1 (some ⟨b, 0, none⟩) 4 (kints .u8 [75, 4, 0, 9]) := IS.of_block (hs1.block 0 rfl) rfl
  refine inflate_of (T := noT) i1 (by omega) (by decide) (by decide) (.inr ⟨rfl, by rw [anc1]; exact fun h => by cases h⟩) (fun k _ h => by rw [anc1] at h; cases h) (fun out n h H2 q m hy hs2 => ⟨_, _, _, _, _, rfl, ?_⟩)
  rw [anc1] at h
  cases h
  have hs2 := hs1.call hs2
  refine hs2.alc fun b2 H3 hs3 => ?_
  refine Try.s16 ?_
  unfold Try.S16
  have hb := hs3.block 0 rfl
  have i2 : IS H3 (some ⟨b2, 2, none⟩) 7 (kints .u8 [75, 4, 0, 0, 98, 0, 98]) := ⟨rfl, fun i v hv => ⟨_, rfl, by rw [add_none]; exact cell_get hb (by
    rw [List.getElem?_toArray]
    rw [Nat.add_comm]
    exact hv)⟩⟩
  refine br_n (by decide) ?_
  intro J hJ
  have fin : J [] H3 := by
    refine hJ H3 ⟨by decide, by decide, ?_⟩
    refine inflate_of (T := noT) i2 (by omega) (by decide) (by decide) (.inr ⟨rfl, by rw [anc2]; exact fun h => by cases h⟩) (fun k _ h => by rw [anc2] at h; cases h) (fun out n h H4 q2 m2 hy2 hs4 => ⟨_, _, _, _, _, rfl, ?_⟩)
    rw [anc2] at h
    cases h
    refine br_f rfl ⟨by decide, by decide, br_n (by decide) ⟨by decide, by decide, ?_⟩⟩
    have hb4 := hs4.ext _ _ hb
    intro X hX
    have rd : ∀ (i : Nat) (v : Int), (#[Value.int .u8 (120 : Int), Value.int .u8 (156 : Int), Value.int .u8 (75 : Int), Value.int .u8 (4 : Int), Value.int .u8 (0 : Int), Value.int .u8 (0 : Int), Value.int .u8 (98 : Int), Value.int .u8 (0 : Int), Value.int .u8 (98 : Int)] : Array Value)[i]? = some (.int .u8 v) → cell H4 ⟨b2, i, none⟩ = some (.int .u8 v) := fun i v hv => cell_get hb4 hv
    refine hX _ _ H4 (br_y (by decide) ⟨⟨b2, 5, none⟩, rfl, by decide, by decide, 0, rd 5 0 rfl, by decide, ?_⟩)
    refine hX _ _ H4 (br_y (by decide) ⟨⟨b2, 5, none⟩, rfl, by decide, by decide, 98, rd 6 98 rfl, by decide, ?_⟩)
    refine hX _ _ H4 (br_y (by decide) ⟨⟨b2, 5, none⟩, rfl, by decide, by decide, 0, rd 7 0 rfl, by decide, ?_⟩)
    refine hX _ _ H4 (br_y (by decide) ⟨⟨b2, 5, none⟩, rfl, by decide, by decide, 98, rd 8 98 rfl, by decide, ?_⟩)
    refine hX _ _ H4 (br_n (by decide) ?_)
    have hs4 := hs3.call hs4
    refine hs4.alc fun b3 H5 hs5 => ?_
    refine c31 (hs5.block 0 rfl) (hs5.is 1 rfl) hy2 (by decide) ⟨_, rfl, ?_⟩
    refine br_ne (fun hne => absurd (by decide) hne) (fun _ => br_n (by decide) ⟨_, _, _, _, rfl, ?_⟩)
    refine br_t rfl ⟨[97], is_bsOf (hs5.is 3 rfl), br_t (by decide) (br_t rfl (br_t rfl ⟨[97], is_bsOf (hs5.is 1 rfl), ?_⟩))⟩
    exact hR H5 hs5.ext
  have rd : ∀ (i : Nat) (v : Int), (#[Value.int .u8 (120 : Int), Value.int .u8 (156 : Int), Value.int .u8 (75 : Int), Value.int .u8 (4 : Int), Value.int .u8 (0 : Int), Value.int .u8 (0 : Int), Value.int .u8 (98 : Int), Value.int .u8 (0 : Int), Value.int .u8 (98 : Int)] : Array Value)[i]? = some (.int .u8 v) → cell H3 ⟨b2, i, none⟩ = some (.int .u8 v) := fun i v hv => cell_get hb hv
  refine ⟨_, rfl, by decide, by decide, 120, rd 0 120 rfl, by decide, _, rfl, by decide, by decide, 156, rd 1 156 rfl, by decide, br_ne (fun hne => absurd (by decide) hne) (fun _ => ⟨_, rfl, by decide, by decide, 120, rd 0 120 rfl, br_ne (fun hne => absurd (by decide) hne) (fun _ => ⟨_, rfl, by decide, by decide, 120, rd 0 120 rfl, by decide, br_n (by decide) ⟨_, rfl, by decide, by decide, 156, rd 1 156 rfl, br_ne (fun hne => absurd (by decide) hne) (fun _ => fin)⟩⟩)⟩)⟩

end Go.Proofs
