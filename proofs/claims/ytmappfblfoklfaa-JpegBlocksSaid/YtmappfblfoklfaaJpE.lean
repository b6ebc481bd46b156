/-
  OWN WORK. A picture's samples over heaps.
-/
import Derived.Test.YtmappfblfoklfaaJpD
set_option linter.unusedVariables false
set_option linter.unusedSimpArgs false
namespace Go.Proofs
open Go.Sh
variable {H0 H : Heap} {σ : List Rs} {R : Value → Heap → Prop}

/-- A sample; beyond the sides the last one. -/
def atM (W Ht : Nat) (L : List Int) (x y : Nat) : Int := L.getD (min y (Ht - 1) * W + min x (W - 1)) 0
def planeL (n : Nat) (rgb : List Int) (k : Nat) : List Int := (List.range n).map fun i => brightM (rgb.getD (3 * i) 0) (rgb.getD (3 * i + 1) 0) (rgb.getD (3 * i + 2) 0) k
def halfV2 (W Ht : Nat) (L : List Int) (x y : Nat) : Int := (atM W Ht L (2 * x) (2 * y) + atM W Ht L (2 * x + 1) (2 * y) + atM W Ht L (2 * x) (2 * y + 1) + atM W Ht L (2 * x + 1) (2 * y + 1) + 2) / 4
def halfL (W Ht : Nat) (L : List Int) : List Int := (List.range ((W + 1) / 2 * ((Ht + 1) / 2))).map fun i => halfV2 W Ht L (i % ((W + 1) / 2)) (i / ((W + 1) / 2))
def Byt (L : List Int) : Prop := ∀ i, 0 ≤ L.getD i 0 ∧ L.getD i 0 ≤ 255

theorem ix_lt {W Ht X Y : Nat} (hW : 1 ≤ W) (hH : 1 ≤ Ht) (hX : X ≤ W - 1) (hY : Y ≤ Ht - 1) : Y * W + X < W * Ht := by
  have h1 := Nat.mul_le_mul_right W hY
  have h2 : (Ht - 1) * W + W = W * Ht := by rw [Nat.mul_comm W Ht, ← Nat.succ_mul]; congr 1; omega
  omega
theorem le_of_area {W Ht n : Nat} (hW : 1 ≤ W) (hH : 1 ≤ Ht) (h : W * Ht ≤ n) : W ≤ n ∧ Ht ≤ n := by
  have h1 := Nat.mul_le_mul_left W hH
  have h2 := Nat.mul_le_mul_right Ht hW
  omega
theorem atM_rng {W Ht : Nat} {L : List Int} (h : Byt L) (x y : Nat) : 0 ≤ atM W Ht L x y ∧ atM W Ht L x y ≤ 255 := h _
theorem planeL_len (n : Nat) (rgb : List Int) (k : Nat) : (planeL n rgb k).length = n := tab_len _ _
theorem planeL_byt (n : Nat) (rgb : List Int) (k : Nat) : Byt (planeL n rgb k) := fun i => by
  by_cases h : i < n
  · rw [show (planeL n rgb k).getD i 0 = _ from tab_getD h]; exact brightM_rng _ _ _ _
  · rw [List.getD_eq_getElem?_getD, List.getElem?_eq_none (by rw [planeL_len]; omega)]; decide
theorem halfV2_rng {W Ht : Nat} {L : List Int} (h : Byt L) (x y : Nat) : 0 ≤ halfV2 W Ht L x y ∧ halfV2 W Ht L x y ≤ 255 := by
  unfold halfV2
  have h1 := atM_rng (W := W) (Ht := Ht) h (2 * x) (2 * y)
  have h2 := atM_rng (W := W) (Ht := Ht) h (2 * x + 1) (2 * y)
  have h3 := atM_rng (W := W) (Ht := Ht) h (2 * x) (2 * y + 1)
  have h4 := atM_rng (W := W) (Ht := Ht) h (2 * x + 1) (2 * y + 1)
  omega
theorem halfL_len (W Ht : Nat) (L : List Int) : (halfL W Ht L).length = (W + 1) / 2 * ((Ht + 1) / 2) := tab_len _ _
theorem halfL_byt {W Ht : Nat} {L : List Int} (h : Byt L) : Byt (halfL W Ht L) := fun i => by
  by_cases hi : i < (W + 1) / 2 * ((Ht + 1) / 2)
  · rw [show (halfL W Ht L).getD i 0 = _ from tab_getD hi]; exact halfV2_rng h _ _
  · rw [List.getD_eq_getElem?_getD, List.getElem?_eq_none (by rw [halfL_len]; omega)]; decide
/-- A halved part's sample is what the four are. -/
theorem at_half {W Ht : Nat} (hW : 1 ≤ W) (hH : 1 ≤ Ht) (L : List Int) (x y : Nat) : atM ((W + 1) / 2) ((Ht + 1) / 2) (halfL W Ht L) x y = halfV2 W Ht L (min x ((W - 1) / 2)) (min y ((Ht - 1) / 2)) := by
  have e1 : (W + 1) / 2 - 1 = (W - 1) / 2 := by omega
  have e2 : (Ht + 1) / 2 - 1 = (Ht - 1) / 2 := by omega
  unfold atM
  rw [e1, e2]
  generalize hX : min x ((W - 1) / 2) = X
  generalize hY : min y ((Ht - 1) / 2) = Y
  have hlt := ix_lt (W := (W + 1) / 2) (Ht := (Ht + 1) / 2) (X := X) (Y := Y) (by omega) (by omega) (by omega) (by omega)
  rw [show (halfL W Ht L).getD (Y * ((W + 1) / 2) + X) 0 = _ from tab_getD hlt]
  have m1 : (Y * ((W + 1) / 2) + X) % ((W + 1) / 2) = X := by rw [Nat.mul_comm, Nat.mul_add_mod]; exact Nat.mod_eq_of_lt (by omega)
  have m2 : (Y * ((W + 1) / 2) + X) / ((W + 1) / 2) = Y := by rw [Nat.mul_comm, Nat.mul_add_div (by omega), Nat.div_eq_of_lt (by omega)]; rfl
  rw [m1, m2]

theorem c16 {W Ht l c : Nat} {p : Option Addr} {L : List Int} (h : IS H p l (ints L)) (hL : L.length = W * Ht) (hW : 1 ≤ W) (hH : 1 ≤ Ht) (hn : W * Ht ≤ 1000) {x y : Nat} (hx : x ≤ 100000) (hy : y ≤ 100000)
    (hR : ∀ H', Ext H H' → R (.int .i64 (atM W Ht L x y)) H') : CallsH Try.prog 16 #[.agg #[.int .i64 (W : Nat), .int .i64 (Ht : Nat), .slice p l c], .int .i64 (x : Nat), .int .i64 (y : Nat)] H R := by
  obtain ⟨b1, b2⟩ := le_of_area hW hH hn
  have hll : L.length = l := by have := h.len; rwa [ints_len] at this
  refine Try.s16 ?_
  unfold Try.S16
  refine (St.nil H).alc fun b4 H1 hs1 => ⟨_, _, _, hs1.get 0 (j := 2) rfl rfl, _, hs1.get 0 (j := 1) rfl rfl, _, hs1.get 0 (j := 0) rfl rfl, _, hs1.get 0 (j := 0) rfl rfl, ?_⟩
  have e1 : min (y : Int) (IntKind.wrap .i64 ((Ht : Int) - 1)) = ((min y (Ht - 1) : Nat) : Int) := by rw [wrap_id (by omega) (by omega)]; omega
  have e2 : min (x : Int) (IntKind.wrap .i64 ((W : Int) - 1)) = ((min x (W - 1) : Nat) : Int) := by rw [wrap_id (by omega) (by omega)]; omega
  have hlt := ix_lt (X := min x (W - 1)) (Y := min y (Ht - 1)) hW hH (by omega) (by omega)
  rw [e1, e2, ← Int.natCast_mul, wN (by omega), ← Int.natCast_add, wN (by omega)]
  exact (h.ext hs1.ext).rd (k := .i64) (by omega) (by omega) (by rw [Int.toNat_natCast]; exact getD_some L 0 (by omega)) (hR H1 hs1.ext)

theorem c31 {W Ht l c : Nat} {p : Option Addr} {L : List Int} (h : IS H p l (ints L)) (hL : L.length = W * Ht) (hB : Byt L) (hW : 1 ≤ W) (hH : 1 ≤ Ht) (hn : W * Ht ≤ 1000)
    (hR : ∀ H' q n m, St H H' [.sl q n m 3 1 (ints (halfL W Ht L))] → R (.agg #[.int .i64 ((W + 1) / 2 : Nat), .int .i64 ((Ht + 1) / 2 : Nat), .slice q n m]) H') :
    CallsH Try.prog 31 #[.agg #[.int .i64 (W : Nat), .int .i64 (Ht : Nat), .slice p l c]] H R := by
  obtain ⟨b1, b2⟩ := le_of_area hW hH hn
  refine Try.s31 ?_
  unfold Try.S31
  refine (St.nil H).alc fun pb H1 hs1 => hs1.alc fun rb H2 hs2 => ⟨_, hs2.get 1 (j := 0) rfl rfl, by decide, _, hs2.get 1 (j := 1) rfl rfl, by decide, hs2.alc fun ob H3 hs3 => ⟨rfl, ?_⟩⟩
  have ew : IntKind.wrap .i64 (Int.tdiv (IntKind.wrap .i64 ((W : Int) + 1)) 2) = (((W + 1) / 2 : Nat) : Int) := by
    rw [wrap_id (n := (W : Int) + 1) (by omega) (by omega), show (W : Int) + 1 = ((W + 1 : Nat) : Int) from rfl, show (2 : Int) = ((2 : Nat) : Int) from rfl, tdivN, wN (by omega)]
  have eh : IntKind.wrap .i64 (Int.tdiv (IntKind.wrap .i64 ((Ht : Int) + 1)) 2) = (((Ht + 1) / 2 : Nat) : Int) := by
    rw [wrap_id (n := (Ht : Int) + 1) (by omega) (by omega), show (Ht : Int) + 1 = ((Ht + 1 : Nat) : Int) from rfl, show (2 : Int) = ((2 : Nat) : Int) from rfl, tdivN, wN (by omega)]
  rw [ew, eh]
  refine hs3.putAll 0 rfl rfl (by simp [Value.oneCell']) fun H4 hs4 => ⟨_, hs4.get 0 (j := 0) rfl rfl, _, hs4.get 0 (j := 1) rfl rfl, ?_⟩
  have hll := halfL_len W Ht L
  have hw1 : 1 ≤ (W + 1) / 2 := by omega
  have hh1 : 1 ≤ (Ht + 1) / 2 := by omega
  have hw2 : (W + 1) / 2 ≤ 1000 := by omega
  have hh2 : (Ht + 1) / 2 ≤ 1000 := by omega
  have hN : (W + 1) / 2 * ((Ht + 1) / 2) ≤ 1000 * 1000 := Nat.mul_le_mul (by omega) (by omega)
  have hdiv : ∀ i, i < (W + 1) / 2 * ((Ht + 1) / 2) → i / ((W + 1) / 2) < (Ht + 1) / 2 := fun i hi => Nat.div_lt_of_lt_mul hi
  have hmod : ∀ i, i % ((W + 1) / 2) < (W + 1) / 2 := fun i => Nat.mod_lt _ (by omega)
  have hget : ∀ i, i < (W + 1) / 2 * ((Ht + 1) / 2) → (halfL W Ht L).getD i 0 = halfV2 W Ht L (i % ((W + 1) / 2)) (i / ((W + 1) / 2)) := fun i hi => tab_getD hi
  generalize (W + 1) / 2 = w at *
  generalize (Ht + 1) / 2 = g at *
  intro X hX
  have go : ∀ i, i ≤ w * g → ∀ H5 q m, St H H5 [.sl q i m 3 1 (ints ((halfL W Ht L).take i)), .cell ob #[.int .i64 (w : Nat), .int .i64 (g : Nat), .slice q i m] 48, .cell rb #[.int .i64 0, .int .i64 0, .slice none 0 0] 48, .cell pb #[.int .i64 (W : Nat), .int .i64 (Ht : Nat), .slice p l c] 48] → X [.int .i64 (i : Nat)] H5 := upto fun i hi ih H5 q m hs5 => by
    refine hX _ H5 ?_
    rw [← Int.natCast_mul, wN (by omega)]
    refine br_dec (fun hlt => ?_) (fun hge => ?_)
    · have hlt : i < w * g := by omega
      have hd := hdiv i hlt
      have hm := hmod i
      refine ⟨_, hs5.get 1 (j := 0) rfl rfl, by omega, _, hs5.get 1 (j := 0) rfl rfl, by omega, _, _, _, hs5.get 1 (j := 2) rfl rfl, _, rfl, rowIn_whole (hs5.block 3 rfl), _, rfl, rowIn_whole (hs5.block 3 rfl), _, rfl, rowIn_whole (hs5.block 3 rfl), _, rfl, rowIn_whole (hs5.block 3 rfl), ?_⟩
      have hg := hget i hlt
      rw [tmodN, tdivN, wN (k := i / w) (by omega)]
      generalize i % w = x at *
      generalize i / w = y at *
      have ex : IntKind.wrap .i64 ((2 : Int) * (x : Nat)) = ((2 * x : Nat) : Int) := by rw [wrap_id (by omega) (by omega)]; omega
      have ey : IntKind.wrap .i64 ((2 : Int) * (y : Nat)) = ((2 * y : Nat) : Int) := by rw [wrap_id (by omega) (by omega)]; omega
      rw [ex, ey, w1 (i := 2 * x) (by omega), w1 (i := 2 * y) (by omega), w1 (i := i) (by omega)]
      refine c16 (h.ext hs5.ext) hL hW hH hn (by omega) (by omega) fun H6 e6 => ⟨_, rfl, .inl e6, ?_⟩
      refine c16 (h.ext (hs5.step e6).ext) hL hW hH hn (by omega) (by omega) fun H7 e7 => ⟨_, rfl, .inl e7, ?_⟩
      refine c16 (h.ext ((hs5.step e6).step e7).ext) hL hW hH hn (by omega) (by omega) fun H8 e8 => ⟨_, rfl, .inl e8, ?_⟩
      refine c16 (h.ext (((hs5.step e6).step e7).step e8).ext) hL hW hH hn (by omega) (by omega) fun H9 e9 => ⟨_, rfl, .inl e9, by decide, ?_⟩
      have hs9 := (((hs5.step e6).step e7).step e8).step e9
      have r1 := atM_rng (W := W) (Ht := Ht) hB (2 * x) (2 * y)
      have r2 := atM_rng (W := W) (Ht := Ht) hB (2 * x + 1) (2 * y)
      have r3 := atM_rng (W := W) (Ht := Ht) hB (2 * x) (2 * y + 1)
      have r4 := atM_rng (W := W) (Ht := Ht) hB (2 * x + 1) (2 * y + 1)
      have ev : IntKind.wrap .i64 (Int.tdiv (IntKind.wrap .i64 (IntKind.wrap .i64 (IntKind.wrap .i64 (IntKind.wrap .i64 (atM W Ht L (2 * x) (2 * y) + atM W Ht L (2 * x + 1) (2 * y)) + atM W Ht L (2 * x) (2 * y + 1)) + atM W Ht L (2 * x + 1) (2 * y + 1)) + 2)) 4) = halfV2 W Ht L x y := by
        unfold halfV2
        generalize atM W Ht L (2 * x) (2 * y) = a at *
        generalize atM W Ht L (2 * x + 1) (2 * y) = b at *
        generalize atM W Ht L (2 * x) (2 * y + 1) = cc at *
        generalize atM W Ht L (2 * x + 1) (2 * y + 1) = d at *
        rw [wrap_id (n := a + b) (by omega) (by omega), wrap_id (n := a + b + cc) (by omega) (by omega), wrap_id (n := a + b + cc + d) (by omega) (by omega), wrap_id (n := a + b + cc + d + 2) (by omega) (by omega), Int.tdiv_eq_ediv_of_nonneg (by omega), wrap_id (by omega) (by omega)]
      rw [ev]
      refine hs9.alcE fun b35 H10 e10 hs10 => ⟨.inl e10, ?_⟩
      refine hs10.appC 1 0 (el := 3) (k := 1) rfl rfl rfl (oneV rfl) (by decide) rfl (by omega) (by omega) fun q' m' H11 hs11 => ?_
      refine hs11.put 2 (j := 2) rfl (by simp) rfl fun H12 hs12 => ih hlt H12 q' m' ?_
      have e : (halfL W Ht L).take (i + 1) = (halfL W Ht L).take i ++ [halfV2 W Ht L x y] := by rw [List.take_add_one, getD_some _ 0 (by omega), hg]; rfl
      rw [e, ints_append]
      exact hs12.tail
    · have : i = w * g := by omega
      subst this
      rw [List.take_of_length_le (by omega)] at hs5
      refine ⟨_, rfl, rowIn_whole (hs5.block 1 rfl), rfl, ?_⟩
      refine hs5.putAll 2 rfl rfl (by simp [Value.oneCell']) fun H6 hs6 => ?_
      exact ⟨_, rfl, rowIn_whole (hs6.block 2 rfl), hR H6 q (w * g) m (hs6.take 1)⟩
  exact go 0 (by omega) H4 none 0 (hs4.nilSl 3 1)

def hw (half : Bool) (n : Nat) : Nat := if half then (n + 1) / 2 else n
def partL (W Ht : Nat) (rgb : List Int) (half : Bool) (k : Nat) : List Int := if half then halfL W Ht (planeL (W * Ht) rgb k) else planeL (W * Ht) rgb k

set_option maxHeartbeats 2000000 in
theorem c14 {W Ht l c : Nat} {p : Option Addr} {rgb : List Int} {half : Bool} (h : IS H p l (kints .u8 rgb)) (hr : ∀ x ∈ rgb, 0 ≤ x ∧ x < 256) (hl : l = 3 * (W * Ht)) (hW : 1 ≤ W) (hH : 1 ≤ Ht) (hn : W * Ht ≤ 1000)
    (hR : ∀ H' p0 c0 p1 n1 c1 p2 n2 c2, Ext H H' → IS H' p0 (W * Ht) (ints (planeL (W * Ht) rgb 0)) → IS H' p1 n1 (ints (partL W Ht rgb half 1)) → IS H' p2 n2 (ints (partL W Ht rgb half 2)) →
      R (.agg #[.int .i64 (W : Nat), .int .i64 (Ht : Nat), .slice p0 (W * Ht) c0, .int .i64 (hw half W : Nat), .int .i64 (hw half Ht : Nat), .slice p1 n1 c1, .int .i64 (hw half W : Nat), .int .i64 (hw half Ht : Nat), .slice p2 n2 c2]) H') :
    CallsH Try.prog 14 #[.int .i64 (W : Nat), .int .i64 (Ht : Nat), .slice p l c, .bool half] H R := by
  obtain ⟨b1, b2⟩ := le_of_area hW hH hn
  have hrl := h.length
  refine Try.s14 ?_
  unfold Try.S14
  refine (St.nil H).alc fun b5 H1 hs1 => hs1.alc fun b7 H2 hs2 => ?_
  intro X hX
  rw [← Int.natCast_mul, wN (k := W * Ht) (by omega), Int.toNat_natCast] at hX
  have hlen := fun k => planeL_len (W * Ht) rgb k
  have hget : ∀ k i, i < W * Ht → (planeL (W * Ht) rgb k).getD i 0 = brightM (rgb.getD (3 * i) 0) (rgb.getD (3 * i + 1) 0) (rgb.getD (3 * i + 2) 0) k := fun k i hi => tab_getD hi
  have hpb := fun k => planeL_byt (W * Ht) rgb k
  generalize hN : W * Ht = n at *
  refine hX _ H2 (br_y (by decide) ⟨by omega, by omega, by omega, by omega, hs2.alc fun q0 H3 hs3 => ⟨by decide, by decide, rfl, hs3.putRow 1 rfl (Nat.le_of_ble_eq_true rfl) (by simp [Value.oneCell']) fun H4 hs4 => ?_⟩⟩)
  rw [show IntKind.wrap .i64 ((0 : Int) + 1) = 1 from by decide]
  refine hX _ H4 (br_y (by decide) ⟨by omega, by omega, by omega, by omega, hs4.alc fun q1 H5 hs5 => ⟨by decide, by decide, rfl, hs5.putRow 2 rfl (Nat.le_of_ble_eq_true rfl) (by simp [Value.oneCell']) fun H6 hs6 => ?_⟩⟩)
  rw [show IntKind.wrap .i64 ((1 : Int) + 1) = 2 from by decide]
  refine hX _ H6 (br_y (by decide) ⟨by omega, by omega, by omega, by omega, hs6.alc fun q2 H7 hs7 => ⟨by decide, by decide, rfl, hs7.putRow 3 rfl (Nat.le_of_ble_eq_true rfl) (by simp [Value.oneCell']) fun H8 hs8 => ?_⟩⟩)
  rw [show IntKind.wrap .i64 ((2 : Int) + 1) = 3 from by decide]
  refine hX _ H8 (br_n (by decide) ?_)
  have hs8 : St H H8 [.cell q2 (ints (List.replicate n 0)).toArray 3, .cell q1 (ints (List.replicate n 0)).toArray 3, .cell q0 (ints (List.replicate n 0)).toArray 3, .cell b7 #[.int .i64 (W : Nat), .int .i64 (Ht : Nat), .slice (some ⟨q0, 0, none⟩) n n, .int .i64 (W : Nat), .int .i64 (Ht : Nat), .slice (some ⟨q1, 0, none⟩) n n, .int .i64 (W : Nat), .int .i64 (Ht : Nat), .slice (some ⟨q2, 0, none⟩) n n] 49, .cell b5 #[.int .i64 0, .int .i64 0, .slice none 0 0, .int .i64 0, .int .i64 0, .slice none 0 0, .int .i64 0, .int .i64 0, .slice none 0 0] 49] := by
    rw [← repsA]; exact hs8
  clear hs1 hs2 hs3 hs4 hs5 hs6 hs7
  intro Y hY
  have go : ∀ i, i ≤ n → ∀ H9, St H H9 [.cell q2 (ints (fillA (planeL n rgb 2) i)).toArray 3, .cell q1 (ints (fillA (planeL n rgb 1) i)).toArray 3, .cell q0 (ints (fillA (planeL n rgb 0) i)).toArray 3, .cell b7 #[.int .i64 (W : Nat), .int .i64 (Ht : Nat), .slice (some ⟨q0, 0, none⟩) n n, .int .i64 (W : Nat), .int .i64 (Ht : Nat), .slice (some ⟨q1, 0, none⟩) n n, .int .i64 (W : Nat), .int .i64 (Ht : Nat), .slice (some ⟨q2, 0, none⟩) n n] 49, .cell b5 #[.int .i64 0, .int .i64 0, .slice none 0 0, .int .i64 0, .int .i64 0, .slice none 0 0, .int .i64 0, .int .i64 0, .slice none 0 0] 49] → Y [.int .i64 (i : Nat)] H9 := upto fun i hi ih H9 hs9 => by
    refine hY _ H9 (br_dec (fun hlt => ?_) (fun hge => ?_))
    · have hlt : i < n := by omega
      have f0 := fillA_len (L := planeL n rgb 0) (s := i) (by rw [hlen]; omega)
      have f1 := fillA_len (L := planeL n rgb 1) (s := i) (by rw [hlen]; omega)
      have f2 := fillA_len (L := planeL n rgb 2) (s := i) (by rw [hlen]; omega)
      rw [hlen] at f0 f1 f2
      have g0 := getD_some rgb 0 (i := 3 * i) (by omega)
      have g1 := getD_some rgb 0 (i := 3 * i + 1) (by omega)
      have g2 := getD_some rgb 0 (i := 3 * i + 2) (by omega)
      have r0 := hr _ (List.mem_of_getElem? g0)
      have r1 := hr _ (List.mem_of_getElem? g1)
      have r2 := hr _ (List.mem_of_getElem? g2)
      have e0 : IntKind.wrap .i64 ((3 : Int) * (i : Nat)) = ((3 * i : Nat) : Int) := by rw [wrap_id (by omega) (by omega)]; omega
      have e1 : IntKind.wrap .i64 (((3 * i : Nat) : Int) + 1) = ((3 * i + 1 : Nat) : Int) := w1 (by omega)
      have e2 : IntKind.wrap .i64 (((3 * i : Nat) : Int) + 2) = ((3 * i + 2 : Nat) : Int) := by rw [wrap_id (by omega) (by omega)]; omega
      have k0 := hget 0 i hlt
      have k1 := hget 1 i hlt
      have k2 := hget 2 i hlt
      rw [e0, e1, e2, w1 (i := i) (by omega)]
      generalize rgb.getD (3 * i) 0 = vr at *
      generalize rgb.getD (3 * i + 1) 0 = vg at *
      generalize rgb.getD (3 * i + 2) 0 = vb at *
      have his := h.ext hs9.ext
      intro J hJ
      have nx : ∀ cb H10, St H H10 (.cell cb (ints (brightL vr vg vb)).toArray 60 :: [.cell q2 (ints (fillA (planeL n rgb 2) i)).toArray 3, .cell q1 (ints (fillA (planeL n rgb 1) i)).toArray 3, .cell q0 (ints (fillA (planeL n rgb 0) i)).toArray 3, .cell b7 #[.int .i64 (W : Nat), .int .i64 (Ht : Nat), .slice (some ⟨q0, 0, none⟩) n n, .int .i64 (W : Nat), .int .i64 (Ht : Nat), .slice (some ⟨q1, 0, none⟩) n n, .int .i64 (W : Nat), .int .i64 (Ht : Nat), .slice (some ⟨q2, 0, none⟩) n n] 49, .cell b5 #[.int .i64 0, .int .i64 0, .slice none 0 0, .int .i64 0, .int .i64 0, .slice none 0 0, .int .i64 0, .int .i64 0, .slice none 0 0] 49]) → J [.pointer (some ⟨cb, 0, none⟩)] H10 := fun cb H10 hs10 => by
        refine hJ _ H10 ?_
        intro Z hZ
        refine hZ _ H10 (br_y (by decide) ⟨by decide, by decide, _, _, _, hs10.get 4 (j := 2) rfl rfl, by decide, by decide, brightM vr vg vb 0, hs10.rdA 0 (j := 0) rfl rfl, _, rfl, by omega, by omega, ?_⟩)
        rw [add_none, Nat.zero_add, Int.toNat_natCast, Nat.mul_one, show IntKind.wrap .i64 ((0 : Int) + 1) = 1 from by decide]
        refine hs10.putA 3 rfl (by omega) fun H11 hs11 => ?_
        refine hZ _ H11 (br_y (by decide) ⟨by decide, by decide, _, _, _, hs11.get 4 (j := 5) rfl rfl, by decide, by decide, brightM vr vg vb 1, hs11.rdA 0 (j := 1) rfl rfl, _, rfl, by omega, by omega, ?_⟩)
        rw [add_none, Nat.zero_add, Int.toNat_natCast, Nat.mul_one, show IntKind.wrap .i64 ((1 : Int) + 1) = 2 from by decide]
        refine hs11.putA 2 rfl (by omega) fun H12 hs12 => ?_
        refine hZ _ H12 (br_y (by decide) ⟨by decide, by decide, _, _, _, hs12.get 4 (j := 8) rfl rfl, by decide, by decide, brightM vr vg vb 2, hs12.rdA 0 (j := 2) rfl rfl, _, rfl, by omega, by omega, ?_⟩)
        rw [add_none, Nat.zero_add, Int.toNat_natCast, Nat.mul_one, show IntKind.wrap .i64 ((2 : Int) + 1) = 3 from by decide]
        refine hs12.putA 1 rfl (by omega) fun H13 hs13 => ?_
        refine hZ _ H13 (br_n (by decide) (ih hlt H13 ?_))
        rw [← fillA_set (L := planeL n rgb 0) (s := i) (by rw [hlen]; omega), ← fillA_set (L := planeL n rgb 1) (s := i) (by rw [hlen]; omega), ← fillA_set (L := planeL n rgb 2) (s := i) (by rw [hlen]; omega), k0, k1, k2]
        exact hs13.tail
      obtain ⟨a0, p0, q0a, q0b, x0, c0, rfl⟩ := his.rd (i := ((3 * i : Nat) : Int)) (by omega) (by omega) (by rw [Int.toNat_natCast]; exact g0) (K := fun y => y = vr) rfl
      obtain ⟨a1, p1, q1a, q1b, x1, c1, rfl⟩ := his.rd (i := ((3 * i + 1 : Nat) : Int)) (by omega) (by omega) (by rw [Int.toNat_natCast]; exact g1) (K := fun y => y = vg) rfl
      obtain ⟨a2, p2, q2a, q2b, x2, c2, rfl⟩ := his.rd (i := ((3 * i + 2 : Nat) : Int)) (by omega) (by omega) (by rw [Int.toNat_natCast]; exact g2) (K := fun y => y = vb) rfl
      refine ⟨a0, p0, q0a, q0b, x0, c0, a1, p1, q1a, q1b, x1, c1, a2, p2, q2a, q2b, x2, c2, ?_⟩
      rw [wrap_id (n := x0) (by omega) (by omega), wrap_id (n := x1) (by omega) (by omega), wrap_id (n := x2) (by omega) (by omega)]
      refine ⟨c30 r0 r1 r2 fun H10 e10 => ⟨_, rfl, ?_⟩, hs9.alcE fun cb H10 e10 hs10 => ⟨.inl e10, c30 r0 r1 r2 fun H11 e11 => ⟨_, rfl, rfl, ?_⟩⟩⟩
      · refine (hs9.step e10).alc fun cb H11 hs11 => ⟨rfl, hs11.putAllA 0 (l := brightL x0 x1 x2) rfl rfl fun H12 hs12 => nx cb H12 hs12⟩
      · exact (hs10.step e11).putAllA 0 (l := brightL x0 x1 x2) rfl rfl fun H12 hs12 => nx cb H12 hs12
    · have : i = n := by omega
      subst this
      have a0 := fillA_all (planeL i rgb 0)
      have a1 := fillA_all (planeL i rgb 1)
      have a2 := fillA_all (planeL i rgb 2)
      rw [hlen] at a0 a1 a2
      rw [a0, a1, a2] at hs9
      cases half with
      | true =>
        refine br_t rfl ⟨by decide, by decide, #[.int .i64 (W : Nat), .int .i64 (Ht : Nat), .slice (some ⟨q1, 0, none⟩) i i], rfl, ?_, by decide, by decide, #[.int .i64 (W : Nat), .int .i64 (Ht : Nat), .slice (some ⟨q2, 0, none⟩) i i], rfl, ?_, ?_⟩
        · exact rowIn_block (hs9.block 3 rfl) fun j v hv => by
            have hj := (Array.getElem?_eq_some_iff.1 hv).1
            obtain rfl | rfl | rfl : j = 0 ∨ j = 1 ∨ j = 2 := by simp at hj; omega
            all_goals exact hv
        · exact rowIn_block (hs9.block 3 rfl) fun j v hv => by
            have hj := (Array.getElem?_eq_some_iff.1 hv).1
            obtain rfl | rfl | rfl : j = 0 ∨ j = 1 ∨ j = 2 := by simp at hj; omega
            all_goals exact hv
        refine c31 (hs9.isA 1 rfl (hlen 1)) (by rw [hlen, hN]) (hpb 1) hW hH (by omega) fun H10 r1 m1 k1 hs10 => ⟨_, rfl, .inl hs10.ext, by decide, by decide, ?_⟩
        have hs10 := hs9.call hs10
        refine c31 (hs10.isA 1 rfl (hlen 2)) (by rw [hlen, hN]) (hpb 2) hW hH (by omega) fun H11 r2 m2 k2 hs11 => ⟨_, rfl, rfl, ?_⟩
        have hs11 := hs10.call hs11
        refine hs11.putRow 5 (j := 3) rfl (Nat.le_of_ble_eq_true rfl) (by simp [Value.oneCell']) fun H12 hs12 => ⟨by decide, by decide, rfl, ?_⟩
        refine hs12.putRow 5 (j := 6) rfl (Nat.le_of_ble_eq_true rfl) (by simp [Value.oneCell']) fun H13 hs13 => ⟨_, rfl, rowIn_whole (hs13.block 5 rfl), rfl, ?_⟩
        refine hs13.putAll 6 rfl rfl (by simp [setL, Value.oneCell']) fun H14 hs14 => ⟨_, rfl, rowIn_whole (hs14.block 6 rfl), ?_⟩
        have z1 := hs14.is 1 rfl
        have z2 := hs14.is 0 rfl
        exact hR H14 _ i r1 m1 k1 r2 m2 k2 hs14.ext (hs14.isA 4 rfl (hlen 0)) (by unfold partL; rw [if_pos rfl, hN]; exact z1) (by unfold partL; rw [if_pos rfl, hN]; exact z2)
      | false =>
        refine br_f rfl ⟨_, rfl, rowIn_whole (hs9.block 3 rfl), rfl, ?_⟩
        refine hs9.putAll 4 rfl rfl (by simp [Value.oneCell']) fun H10 hs10 => ⟨_, rfl, rowIn_whole (hs10.block 4 rfl), ?_⟩
        exact hR H10 _ i _ i i _ i i hs10.ext (hs10.isA 2 rfl (hlen 0)) (by unfold partL; rw [if_neg (by decide), hN]; exact hs10.isA 1 rfl (hlen 1)) (by unfold partL; rw [if_neg (by decide), hN]; exact hs10.isA 0 rfl (hlen 2))
  exact go 0 (by omega) H8 (by rw [fillA_zero, fillA_zero, fillA_zero, hlen, hlen, hlen]; exact hs8)

end Go.Proofs
