/-
  OWN WORK. The document's samples, and the blocks' order, over heaps.
-/
import Derived.Test.YtmappfblfoklfaaJpE
set_option linter.unusedVariables false
set_option linter.unusedSimpArgs false
namespace Go.Proofs
open Go.Sh
variable {H0 H : Heap} {σ : List Rs} {R : Value → Heap → Prop}

theorem atM_plane {W Ht : Nat} (hW : 1 ≤ W) (hH : 1 ≤ Ht) (rgb : List Int) (k x y : Nat) :
    atM W Ht (planeL (W * Ht) rgb k) x y = brightM (rgb.getD (3 * (min y (Ht - 1) * W + min x (W - 1))) 0) (rgb.getD (3 * (min y (Ht - 1) * W + min x (W - 1)) + 1) 0) (rgb.getD (3 * (min y (Ht - 1) * W + min x (W - 1)) + 2) 0) k :=
  tab_getD (ix_lt hW hH (by omega) (by omega))

theorem c34 {W Ht l c : Nat} {p : Option Addr} {rgb : List Int} (h : IS H p l (kints .u8 rgb)) (hr : ∀ x ∈ rgb, 0 ≤ x ∧ x < 256) (hl : l = 3 * (W * Ht)) (hW : 1 ≤ W) (hH : 1 ≤ Ht) (hn : W * Ht ≤ 1000) {k x y : Nat} (hk : k < 3) (hx : x ≤ 100000) (hy : y ≤ 100000)
    (hR : ∀ H', Ext H H' → R (.int .i64 (atM W Ht (planeL (W * Ht) rgb k) x y)) H') : CallsH Try.prog 34 #[.agg #[.int .i64 (W : Nat), .int .i64 (Ht : Nat), .slice p l c], .int .i64 (k : Nat), .int .i64 (x : Nat), .int .i64 (y : Nat)] H R := by
  obtain ⟨b1, b2⟩ := le_of_area hW hH hn
  have hrl := h.length
  refine Try.s34 ?_
  unfold Try.S34
  refine (St.nil H).alc fun pb H1 hs1 => ?_
  rw [atM_plane hW hH] at hR
  have hlt := ix_lt (X := min x (W - 1)) (Y := min y (Ht - 1)) hW hH (by omega) (by omega)
  have ex : ∀ X : Nat, X = min x (W - 1) → ∀ Y : Nat, Y = min y (Ht - 1) → IntKind.wrap .i64 ((3 : Int) * IntKind.wrap .i64 (IntKind.wrap .i64 ((Y : Int) * (W : Nat)) + (X : Nat))) = ((3 * (Y * W + X) : Nat) : Int) := fun X hX Y hY => by
    subst hX hY
    rw [← Int.natCast_mul, wN (by omega), ← Int.natCast_add, wN (by omega), wrap_id (by omega) (by omega)]; omega
  intro J hJ
  have goX : ∀ X : Nat, X = min x (W - 1) → J [.int .i64 (X : Nat)] H1 := fun X hX => by
    refine hJ _ H1 ?_
    intro K hK
    have goY : ∀ Y : Nat, Y = min y (Ht - 1) → K [.int .i64 (Y : Nat)] H1 := fun Y hY => by
      refine hK _ H1 ⟨_, hs1.get 0 (j := 0) rfl rfl, ?_⟩
      rw [ex X hX Y hY]
      subst hX hY
      generalize min y (Ht - 1) * W + min x (W - 1) = i at *
      have e1 : IntKind.wrap .i64 (((3 * i : Nat) : Int) + 1) = ((3 * i + 1 : Nat) : Int) := w1 (by omega)
      have e2 : IntKind.wrap .i64 (((3 * i : Nat) : Int) + 2) = ((3 * i + 2 : Nat) : Int) := by rw [wrap_id (by omega) (by omega)]; omega
      rw [e1, e2]
      have g0 := getD_some rgb 0 (i := 3 * i) (by omega)
      have g1 := getD_some rgb 0 (i := 3 * i + 1) (by omega)
      have g2 := getD_some rgb 0 (i := 3 * i + 2) (by omega)
      have r0 := hr _ (List.mem_of_getElem? g0)
      have r1 := hr _ (List.mem_of_getElem? g1)
      have r2 := hr _ (List.mem_of_getElem? g2)
      have his := h.ext hs1.ext
      obtain ⟨a0, p0, q0a, q0b, x0, c0, h0⟩ := his.rd (i := ((3 * i : Nat) : Int)) (by omega) (by omega) (by rw [Int.toNat_natCast]; exact g0) (K := fun y => y = rgb.getD (3 * i) 0) rfl
      obtain ⟨a1, p1, q1a, q1b, x1, c1, h1⟩ := his.rd (i := ((3 * i + 1 : Nat) : Int)) (by omega) (by omega) (by rw [Int.toNat_natCast]; exact g1) (K := fun y => y = rgb.getD (3 * i + 1) 0) rfl
      obtain ⟨a2, p2, q2a, q2b, x2, c2, h2⟩ := his.rd (i := ((3 * i + 2 : Nat) : Int)) (by omega) (by omega) (by rw [Int.toNat_natCast]; exact g2) (K := fun y => y = rgb.getD (3 * i + 2) 0) rfl
      rw [← h0, ← h1, ← h2] at hR
      rw [← h0] at r0
      rw [← h1] at r1
      rw [← h2] at r2
      refine ⟨_, _, _, hs1.get 0 (j := 2) rfl rfl, a0, p0, q0a, q0b, x0, c0, _, _, _, hs1.get 0 (j := 2) rfl rfl, a1, p1, q1a, q1b, x1, c1, _, _, _, hs1.get 0 (j := 2) rfl rfl, a2, p2, q2a, q2b, x2, c2, ?_⟩
      rw [wrap_id (n := x0) (by omega) (by omega), wrap_id (n := x1) (by omega) (by omega), wrap_id (n := x2) (by omega) (by omega)]
      refine c52 r0 r1 r2 fun H2 e2 => ⟨_, rfl, by omega, by omega, brightM x0 x1 x2 k, ?_, hR H2 (hs1.ext.trans e2)⟩
      rw [Int.toNat_natCast, Nat.mul_one, List.getElem?_toArray]
      exact ints_get (brightL_get hk)
    refine ⟨_, hs1.get 0 (j := 1) rfl rfl, br_dec (fun hge => ⟨_, hs1.get 0 (j := 1) rfl rfl, ?_⟩) (fun hlt => goY y (by omega))⟩
    have := goY (Ht - 1) (by omega)
    rw [wrap_id (by omega) (by omega)]
    rw [show ((Ht - 1 : Nat) : Int) = (Ht : Int) - 1 from by omega] at this
    exact this
  refine ⟨_, hs1.get 0 (j := 0) rfl rfl, br_dec (fun hge => ⟨_, hs1.get 0 (j := 0) rfl rfl, ?_⟩) (fun hlt => goX x (by omega))⟩
  have := goX (W - 1) (by omega)
  rw [wrap_id (by omega) (by omega)]
  rw [show ((W - 1 : Nat) : Int) = (W : Int) - 1 from by omega] at this
  exact this

def sampM (W Ht : Nat) (rgb : List Int) (half : Bool) (k x y : Nat) : Int :=
  if half = true ∧ k ≠ 0 then halfV2 W Ht (planeL (W * Ht) rgb k) (min x ((W - 1) / 2)) (min y ((Ht - 1) / 2)) else atM W Ht (planeL (W * Ht) rgb k) x y
theorem sampM_rng (W Ht : Nat) (rgb : List Int) (half : Bool) (k x y : Nat) : 0 ≤ sampM W Ht rgb half k x y ∧ sampM W Ht rgb half k x y ≤ 255 := by
  unfold sampM
  split
  · exact halfV2_rng (planeL_byt _ _ _) _ _
  · exact atM_rng (planeL_byt _ _ _) _ _
/-- The program's samples are these. -/
theorem samp_part {W Ht : Nat} (hW : 1 ≤ W) (hH : 1 ≤ Ht) (rgb : List Int) (half : Bool) {k : Nat} (hk : k ≠ 0) (x y : Nat) : atM (hw half W) (hw half Ht) (partL W Ht rgb half k) x y = sampM W Ht rgb half k x y := by
  unfold sampM partL hw
  cases half with
  | true => simp only [if_true]; rw [if_pos ⟨trivial, hk⟩]; exact at_half hW hH _ _ _
  | false => simp

theorem c20 {W Ht l c : Nat} {p : Option Addr} {rgb : List Int} (h : IS H p l (kints .u8 rgb)) (hr : ∀ x ∈ rgb, 0 ≤ x ∧ x < 256) (hl : l = 3 * (W * Ht)) (hW : 1 ≤ W) (hH : 1 ≤ Ht) (hn : W * Ht ≤ 1000) {k x y : Nat} (hk : k < 3) (hx : x ≤ 10000) (hy : y ≤ 10000) {half : Bool}
    (hR : ∀ H', Ext H H' → R (.int .i64 (sampM W Ht rgb half k x y)) H') : CallsH Try.prog 20 #[.agg #[.int .i64 (W : Nat), .int .i64 (Ht : Nat), .slice p l c], .int .i64 (k : Nat), .int .i64 (x : Nat), .int .i64 (y : Nat), .bool half] H R := by
  obtain ⟨b1, b2⟩ := le_of_area hW hH hn
  refine Try.s20 ?_
  unfold Try.S20
  refine (St.nil H).alc fun pb H1 hs1 => ?_
  have row : ∀ {H2 : Heap}, Ext H1 H2 → rowIn H2 ⟨pb, 0, none⟩ #[.int .i64 (W : Nat), .int .i64 (Ht : Nat), .slice p l c] := fun e => rowIn_whole (e _ _ (hs1.block 0 rfl))
  unfold sampM at hR
  intro J hJ
  have plain : ¬ (half = true ∧ k ≠ 0) → ∃ v42 : Array Value, v42.size = 3 ∧ rowIn H1 ⟨pb, 0, none⟩ v42 ∧ CallsH Try.prog 34 #[Value.agg v42, Value.int .i64 (k : Nat), Value.int .i64 (x : Nat), Value.int .i64 (y : Nat)] H1 fun r43 H_44 => ∃ r45 : Int, r43 = Value.int .i64 r45 ∧ R (Value.int .i64 r45) H_44 := fun hn' => by
    rw [if_neg hn'] at hR
    exact ⟨_, rfl, row (Ext.refl _), c34 (h.ext hs1.ext) hr hl hW hH hn hk (by omega) (by omega) fun H2 e2 => ⟨_, rfl, hR H2 (hs1.ext.trans e2)⟩⟩
  refine br_not (fun hf => plain (by rw [hf]; simp)) (fun ht => br_eq (fun hk0 => plain (by omega)) (fun hk0 => hJ H1 ?_))
  rw [if_pos ⟨ht, by omega⟩] at hR
  intro K hK
  have hpb := planeL_byt (W * Ht) rgb k
  have goX : ∀ X : Nat, X = min x ((W - 1) / 2) → K [.int .i64 (X : Nat)] H1 := fun X hX => by
    refine hK _ H1 ?_
    intro M hM
    have goY : ∀ Y : Nat, Y = min y ((Ht - 1) / 2) → M [.int .i64 (Y : Nat)] H1 := fun Y hY => by
      rw [← hX, ← hY] at hR
      have eX : IntKind.wrap .i64 ((2 : Int) * (X : Nat)) = ((2 * X : Nat) : Int) := by rw [wrap_id (by omega) (by omega)]; omega
      have eY : IntKind.wrap .i64 ((2 : Int) * (Y : Nat)) = ((2 * Y : Nat) : Int) := by rw [wrap_id (by omega) (by omega)]; omega
      refine hM _ H1 ⟨_, rfl, row (Ext.refl _), _, rfl, row (Ext.refl _), _, rfl, row (Ext.refl _), _, rfl, row (Ext.refl _), ?_⟩
      rw [eX, eY, w1 (i := 2 * X) (by omega), w1 (i := 2 * Y) (by omega)]
      refine c34 (h.ext hs1.ext) hr hl hW hH hn hk (by omega) (by omega) fun H6 e6 => ⟨_, rfl, .inl e6, ?_⟩
      have i6 := (h.ext hs1.ext).ext e6
      refine c34 i6 hr hl hW hH hn hk (by omega) (by omega) fun H7 e7 => ⟨_, rfl, .inl e7, ?_⟩
      refine c34 (i6.ext e7) hr hl hW hH hn hk (by omega) (by omega) fun H8 e8 => ⟨_, rfl, .inl e8, ?_⟩
      refine c34 ((i6.ext e7).ext e8) hr hl hW hH hn hk (by omega) (by omega) fun H9 e9 => ⟨_, rfl, by decide, ?_⟩
      have hR := hR H9 (hs1.ext.trans (e6.trans (e7.trans (e8.trans e9))))
      unfold halfV2 at hR
      have r1 := atM_rng (W := W) (Ht := Ht) hpb (2 * X) (2 * Y)
      have r2 := atM_rng (W := W) (Ht := Ht) hpb (2 * X + 1) (2 * Y)
      have r3 := atM_rng (W := W) (Ht := Ht) hpb (2 * X) (2 * Y + 1)
      have r4 := atM_rng (W := W) (Ht := Ht) hpb (2 * X + 1) (2 * Y + 1)
      generalize atM W Ht (planeL (W * Ht) rgb k) (2 * X) (2 * Y) = a at *
      generalize atM W Ht (planeL (W * Ht) rgb k) (2 * X + 1) (2 * Y) = b at *
      generalize atM W Ht (planeL (W * Ht) rgb k) (2 * X) (2 * Y + 1) = cc at *
      generalize atM W Ht (planeL (W * Ht) rgb k) (2 * X + 1) (2 * Y + 1) = d at *
      rw [wrap_id (n := a + b) (by omega) (by omega), wrap_id (n := a + b + cc) (by omega) (by omega), wrap_id (n := a + b + cc + d) (by omega) (by omega), wrap_id (n := a + b + cc + d + 2) (by omega) (by omega), Int.tdiv_eq_ediv_of_nonneg (by omega), wrap_id (by omega) (by omega)]
      exact hR
    have eh : IntKind.wrap .i64 (Int.tdiv (IntKind.wrap .i64 ((Ht : Int) - 1)) 2) = (((Ht - 1) / 2 : Nat) : Int) := by
      rw [wrap_id (n := (Ht : Int) - 1) (by omega) (by omega), show (Ht : Int) - 1 = ((Ht - 1 : Nat) : Int) from by omega, show (2 : Int) = ((2 : Nat) : Int) from rfl, tdivN, wN (by omega)]
    refine ⟨_, hs1.get 0 (j := 1) rfl rfl, by decide, ?_⟩
    rw [eh]
    refine br_dec (fun hgt => ⟨_, hs1.get 0 (j := 1) rfl rfl, by decide, ?_⟩) (fun hle => goY y (by omega))
    rw [eh]
    exact goY _ (by omega)
  have ew : IntKind.wrap .i64 (Int.tdiv (IntKind.wrap .i64 ((W : Int) - 1)) 2) = (((W - 1) / 2 : Nat) : Int) := by
    rw [wrap_id (n := (W : Int) - 1) (by omega) (by omega), show (W : Int) - 1 = ((W - 1 : Nat) : Int) from by omega, show (2 : Int) = ((2 : Nat) : Int) from rfl, tdivN, wN (by omega)]
  refine ⟨_, hs1.get 0 (j := 0) rfl rfl, by decide, ?_⟩
  rw [ew]
  refine br_dec (fun hgt => ⟨_, hs1.get 0 (j := 0) rfl rfl, by decide, ?_⟩) (fun hle => goX x (by omega))
  rw [ew]
  exact goX _ (by omega)

/-! ### the blocks' order -/

def sideM (half : Bool) : Nat := if half then 16 else 8
def unitM (half : Bool) (i j : Nat) : List (Nat × Nat × Nat) :=
  (if half then [(0, 16 * i, 16 * j), (0, 16 * i + 8, 16 * j), (0, 16 * i, 16 * j + 8), (0, 16 * i + 8, 16 * j + 8)] else [(0, 8 * i, 8 * j)]) ++ [(1, 8 * i, 8 * j), (2, 8 * i, 8 * j)]
def rowU (half : Bool) (j n : Nat) : List (Nat × Nat × Nat) := (List.range n).flatMap fun i => unitM half i j
def unitsN (half : Bool) (n : Nat) : Nat := (n + sideM half - 1) / sideM half
def orderM (W Ht : Nat) (half : Bool) : List (Nat × Nat × Nat) := (List.range (unitsN half Ht)).flatMap fun j => rowU half j (unitsN half W)
def flat3 (l : List (Nat × Nat × Nat)) : List Int := l.flatMap fun t => [(t.1 : Int), (t.2.1 : Int), (t.2.2 : Int)]
theorem flat3_append (a b : List (Nat × Nat × Nat)) : flat3 (a ++ b) = flat3 a ++ flat3 b := by simp [flat3]
theorem flatMap_succ {α β : Type} (f : Nat → List β) (n : Nat) : (List.range (n + 1)).flatMap f = (List.range n).flatMap f ++ f n := by simp [List.range_succ]
theorem flat3_get : ∀ {l : List (Nat × Nat × Nat)} {i : Nat} {t : Nat × Nat × Nat}, l[i]? = some t → (flat3 l)[i * 3]? = some (t.1 : Int) ∧ (flat3 l)[i * 3 + 1]? = some (t.2.1 : Int) ∧ (flat3 l)[i * 3 + 2]? = some (t.2.2 : Int)
  | u :: l, 0, t, h => by
    simp at h; subst h
    exact ⟨rfl, rfl, rfl⟩
  | u :: l, i + 1, t, h => by
    have h := flat3_get (l := l) (i := i) (by simpa using h)
    rw [show (i + 1) * 3 = i * 3 + 1 + 1 + 1 from by omega]
    exact h
theorem unitM_len (half : Bool) (i j : Nat) : (unitM half i j).length = (if half then 6 else 3) := by cases half <;> rfl
theorem rowU_len (half : Bool) (j n : Nat) : (rowU half j n).length ≤ 6 * n := by
  induction n with
  | zero => simp [rowU]
  | succ n ih =>
    have := unitM_len half n j
    unfold rowU at *
    rw [flatMap_succ (β := Nat × Nat × Nat) (α := Nat), List.length_append, this]
    split <;> omega
theorem rows_len (half : Bool) (n : Nat) : ∀ m, ((List.range m).flatMap fun j => rowU half j n).length ≤ m * (6 * n)
  | 0 => by simp
  | m + 1 => by
    rw [flatMap_succ (β := Nat × Nat × Nat) (α := Nat), List.length_append, Nat.succ_mul]
    have := rows_len half n m
    have := rowU_len half m n
    omega
theorem order_rng (W Ht : Nat) (half : Bool) (hW : W ≤ 1000) (hH : Ht ≤ 1000) : ∀ t ∈ orderM W Ht half, t.1 < 3 ∧ t.2.1 ≤ 2000 ∧ t.2.2 ≤ 2000 := fun t ht => by
  obtain ⟨j, hj, ht⟩ := List.mem_flatMap.1 ht
  obtain ⟨i, hi, ht⟩ := List.mem_flatMap.1 ht
  have hj := List.mem_range.1 hj
  have hi := List.mem_range.1 hi
  unfold unitsN sideM at hi hj
  cases half with
  | true =>
    simp only [if_true] at hi hj
    simp [unitM] at ht
    rcases ht with rfl | rfl | rfl | rfl | rfl | rfl <;> simp <;> omega
  | false =>
    simp at hi hj
    simp [unitM] at ht
    rcases ht with rfl | rfl | rfl <;> simp <;> omega

theorem units_lt {half : Bool} {n j : Nat} : sideM half * j < n ↔ j < unitsN half n := by
  unfold unitsN sideM
  cases half <;> simp <;> omega

set_option maxHeartbeats 1000000 in
theorem c15 {W Ht : Nat} {half : Bool} (hW : W ≤ 1000) (hH : Ht ≤ 1000) (hR : ∀ H' q m, St H H' [.sl q (orderM W Ht half).length m 54 3 (ints (flat3 (orderM W Ht half)))] → R (.slice q (orderM W Ht half).length m) H') :
    CallsH Try.prog 15 #[.int .i64 (W : Nat), .int .i64 (Ht : Nat), .bool half] H R := by
  refine Try.s15 ?_
  unfold Try.S15
  intro J hJ
  have hny : unitsN half Ht ≤ 126 := by unfold unitsN sideM; cases half <;> simp <;> omega
  have hnx : unitsN half W ≤ 126 := by unfold unitsN sideM; cases half <;> simp <;> omega
  have hs8 : 8 ≤ sideM half ∧ sideM half ≤ 16 := by unfold sideM; cases half <;> simp
  have main : J [.int .i64 (sideM half : Nat)] H := by
    refine hJ _ H ?_
    intro X hX
    have outer : ∀ j, j ≤ unitsN half Ht → ∀ H1 q m l, l = (List.range j).flatMap (fun j => rowU half j (unitsN half W)) → St H H1 [.sl q l.length m 54 3 (ints (flat3 l))] → X [.slice q l.length m, .int .i64 (sideM half * j : Nat)] H1 := upto fun j hj ihj H1 q m l hl hs1 => by
      refine hX _ _ _ _ H1 (br_dec (fun hlt => ?_) (fun hge => ?_))
      · have hltj : j < unitsN half Ht := units_lt.1 (by omega)
        have hsj := units_lt.2 hltj
        have hrl := rows_len half (unitsN half W) j
        rw [← hl] at hrl
        have hb2 : j * (6 * unitsN half W) ≤ 126 * (6 * 126) := Nat.mul_le_mul (by omega) (by omega)
        intro Y hY
        have inner : ∀ i, i ≤ unitsN half W → ∀ H2 q m l2, l2 = l ++ rowU half j i → St H H2 [.sl q l2.length m 54 3 (ints (flat3 l2))] → Y [.slice q l2.length m, .int .i64 (sideM half * i : Nat)] H2 := upto fun i hi ihi H2 q m l2 hl2 hs2 => by
          refine hY _ _ _ _ H2 (br_dec (fun hlt => ⟨rfl, by decide, ?_⟩) (fun hge => ?_))
          · have hlti : i < unitsN half W := units_lt.1 (by omega)
            have hsi := units_lt.2 hlti
            have hru := rowU_len half j i
            have hl2n : l2.length ≤ 126 * (6 * 126) + 6 * 126 := by rw [hl2, List.length_append]; omega
            refine hs2.alc fun b15 H3 hs3 => ?_
            refine hs3.appC 1 0 (el := 54) (k := 3) (cs := #[.int .i64 0, .int .i64 (sideM half * i : Nat), .int .i64 (sideM half * j : Nat)]) rfl rfl rfl (by simp [Value.oneCell']) (by decide) rfl (by omega) (by omega) fun q3 m3 H4 hs4 => ?_
            have hs4 := hs4.tail
            intro K hK
            have e8i : IntKind.wrap .i64 (((sideM half * i : Nat) : Int) * 8) = ((sideM half * (8 * i) : Nat) : Int) := by
              rw [wrap_id (by omega) (by omega), Int.natCast_mul, Int.natCast_mul, Int.natCast_mul, Int.mul_assoc, Int.mul_comm (i : Int) 8]; rfl
            have e8j : IntKind.wrap .i64 (((sideM half * j : Nat) : Int) * 8) = ((sideM half * (8 * j) : Nat) : Int) := by
              rw [wrap_id (by omega) (by omega), Int.natCast_mul, Int.natCast_mul, Int.natCast_mul, Int.mul_assoc, Int.mul_comm (j : Int) 8]; rfl
            have d8i : sideM half * (8 * i) / sideM half = 8 * i := Nat.mul_div_cancel_left _ (by omega)
            have d8j : sideM half * (8 * j) / sideM half = 8 * j := Nat.mul_div_cancel_left _ (by omega)
            have i125 : i ≤ 126 := by omega
            have j125 : j ≤ 126 := by omega
            have last : ∀ q4 m4 H5 l3, l3 ++ [(1, 8 * i, 8 * j), (2, 8 * i, 8 * j)] = l2 ++ unitM half i j → l3.length ≤ 126 * (6 * 126) + 6 * 126 + 6 → St H H5 [.sl q4 l3.length m4 54 3 (ints (flat3 l3))] → K [.slice q4 l3.length m4] H5 := fun q4 m4 H5 l3 hl3 hn3 hs5 => by
              refine hK _ _ _ H5 ?_
              rw [e8i, e8j, tdivN, tdivN, d8i, d8j, wN (k := 8 * i) (by omega), wN (k := 8 * j) (by omega), ← Int.natCast_add, wN (k := sideM half * i + sideM half) (by omega)]
              refine ⟨by omega, by omega, by omega, by omega, rfl, by decide, rfl, by decide, hs5.alc fun b22 H6 hs6 => ?_⟩
              refine hs6.appC 1 0 (el := 54) (k := 3) (n := 2) (cs := #[.int .i64 1, .int .i64 (8 * i : Nat), .int .i64 (8 * j : Nat), .int .i64 2, .int .i64 (8 * i : Nat), .int .i64 (8 * j : Nat)]) rfl rfl rfl (by simp [Value.oneCell']) (by decide) rfl (by omega) (by omega) fun q5 m5 H7 hs7 => ?_
              have hs7 := hs7.tail
              have e1 : sideM half * i + sideM half = sideM half * (i + 1) := by rw [Nat.mul_succ]
              rw [e1]
              have e2 : l3 ++ [(1, 8 * i, 8 * j), (2, 8 * i, 8 * j)] = l ++ rowU half j (i + 1) := by
                rw [hl3, hl2, List.append_assoc]; congr 1
                unfold rowU; rw [flatMap_succ (β := Nat × Nat × Nat) (α := Nat)]
              have := ihi hlti H7 q5 m5 _ e2 (by
                rw [List.length_append, flat3_append, ints_append]
                exact hs7)
              rw [List.length_append] at this
              exact this
            refine br_i (fun ht => ?_) (fun hf => ?_)
            · subst ht
              rw [show sideM true = 16 from rfl] at *
              have e1 : IntKind.wrap .i64 (((16 * i : Nat) : Int) + 8) = ((16 * i + 8 : Nat) : Int) := by rw [wrap_id (by omega) (by omega)]; omega
              have e2 : IntKind.wrap .i64 (((16 * j : Nat) : Int) + 8) = ((16 * j + 8 : Nat) : Int) := by rw [wrap_id (by omega) (by omega)]; omega
              rw [e1, e2]
              refine ⟨rfl, by decide, rfl, by decide, rfl, by decide, hs4.alc fun b26 H6 hs6 => ?_⟩
              refine hs6.appC 1 0 (el := 54) (k := 3) (n := 3) (cs := #[.int .i64 0, .int .i64 (16 * i + 8 : Nat), .int .i64 (16 * j : Nat), .int .i64 0, .int .i64 (16 * i : Nat), .int .i64 (16 * j + 8 : Nat), .int .i64 0, .int .i64 (16 * i + 8 : Nat), .int .i64 (16 * j + 8 : Nat)]) rfl rfl rfl (by simp [Value.oneCell']) (by decide) rfl (by omega) (by omega) fun q5 m5 H7 hs7 => ?_
              have hs7 := hs7.tail
              have := last q5 m5 H7 (l2 ++ [(0, 16 * i, 16 * j), (0, 16 * i + 8, 16 * j), (0, 16 * i, 16 * j + 8), (0, 16 * i + 8, 16 * j + 8)]) (by simp [unitM]) (by simp; omega) (by
                rw [List.length_append, flat3_append, ints_append]
                rw [List.append_assoc] at hs7
                exact hs7)
              rw [List.length_append] at this
              exact this
            · subst hf
              have := last q3 m3 H4 (l2 ++ [(0, 8 * i, 8 * j)]) (by simp [unitM]) (by simp; omega) (by
                rw [List.length_append, flat3_append, ints_append]
                exact hs4)
              rw [List.length_append] at this
              exact this
          · have hni : ¬ i < unitsN half W := fun h => hge (by have := units_lt.2 h; omega)
            have : i = unitsN half W := by omega
            rw [← Int.natCast_add, wN (k := sideM half * j + sideM half) (by omega)]
            have e1 : sideM half * j + sideM half = sideM half * (j + 1) := by rw [Nat.mul_succ]
            rw [e1]
            subst this
            exact ihj hltj H2 q m l2 (by rw [hl2, hl, flatMap_succ (β := Nat × Nat × Nat) (α := Nat)]) hs2
        exact inner 0 (by omega) H1 q m l (by simp [rowU]) hs1
      · have hni : ¬ j < unitsN half Ht := fun h => hge (by have := units_lt.2 h; omega)
        have : j = unitsN half Ht := by omega
        subst this
        have e : l = orderM W Ht half := hl
        rw [e] at hs1 ⊢
        exact hR H1 q m hs1
    exact outer 0 (by omega) H none 0 [] rfl ((St.nil H).nilSl _ 3)
  refine br_i (fun ht => ?_) (fun hf => ?_)
  · subst ht; exact main
  · subst hf; exact main

end Go.Proofs
