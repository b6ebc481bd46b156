/-
  OWN WORK. Sizes, steps, and the document's order over heaps; blocks, plain.
-/
import Derived.Test.YtmappfblfoklfaaJpF
set_option linter.unusedVariables false
set_option linter.unusedSimpArgs false
namespace Go.Proofs
open Go.Sh
variable {H0 H : Heap} {σ : List Rs} {R : Value → Heap → Prop}

def SizedM (w h : Int) : Prop := 1 ≤ w ∧ 1 ≤ h ∧ w ≤ 32768 ∧ h ≤ 32768 ∧ w * h ≤ 4194304
instance (w h : Int) : Decidable (SizedM w h) := inferInstanceAs (Decidable (_ ∧ _))
theorem mul_bd2 {w h : Int} (h1 : 1 ≤ w ∧ w ≤ 32768) (h2 : 1 ≤ h ∧ h ≤ 32768) : 1 ≤ w * h ∧ w * h ≤ 1073741824 := by
  have := mul_bd (x := w) (y := h) (A := 32768) (B := 32768) (by omega) (by omega)
  have h3 : 0 < w * h := Int.mul_pos (by omega) (by omega)
  omega
theorem c13 {w h : Int} (hR : R (.bool (decide (SizedM w h))) H) : CallsH Try.prog 13 #[.int .i64 w, .int .i64 h] H R := by
  have no : ¬ SizedM w h → R (.bool false) H := fun hn => by rw [decide_eq_false hn] at hR; exact hR
  refine Try.s13 (br_dec (fun h1 => br_dec (fun h2 => br_dec (fun h3 => br_dec (fun h4 => ?_) (fun h4 => no fun hs => by unfold SizedM at hs; omega)) (fun h3 => no fun hs => by unfold SizedM at hs; omega)) (fun h2 => no fun hs => by unfold SizedM at hs; omega)) (fun h1 => no fun hs => by unfold SizedM at hs; omega))
  have := mul_bd2 (w := w) (h := h) (by omega) (by omega)
  rw [wrap_id (by omega) (by omega)]
  have e : decide (w * h ≤ 4194304) = decide (SizedM w h) := by unfold SizedM; congr 1; apply propext; constructor <;> intro hh <;> omega
  rw [e]; exact hR
theorem c19 {w h : Int} (hR : R (.bool (decide (SizedM w h))) H) : CallsH Try.prog 19 #[.int .i64 w, .int .i64 h] H R := by
  have no : ¬ SizedM w h → R (.bool false) H := fun hn => by rw [decide_eq_false hn] at hR; exact hR
  refine Try.s19 (br_dec (fun h1 => br_dec (fun h2 => br_dec (fun h3 => br_dec (fun h4 => ?_) (fun h4 => no fun hs => by unfold SizedM at hs; omega)) (fun h3 => no fun hs => by unfold SizedM at hs; omega)) (fun h2 => no fun hs => by unfold SizedM at hs; omega)) (fun h1 => no fun hs => by unfold SizedM at hs; omega))
  have := mul_bd2 (w := w) (h := h) (by omega) (by omega)
  rw [wrap_id (by omega) (by omega)]
  have e : decide (w * h ≤ 4194304) = decide (SizedM w h) := by unfold SizedM; congr 1; apply propext; constructor <;> intro hh <;> omega
  rw [e]; exact hR

/-- A quality's steps, or noughts. -/
def stL (q : Int) (d : Bool) : List Int := if 1 ≤ q ∧ q ≤ 100 then stepsM q d else List.replicate 64 0
theorem stL_len (q : Int) (d : Bool) : (stL q d).length = 64 := by unfold stL; split <;> simp [stepsM_len]
theorem stepsC {q : Int} {d : Bool} (hR : ∀ H', Ext H H' → R (.tuple #[.agg (ints (stL q d)).toArray, .bool (decide (1 ≤ q ∧ q ≤ 100))]) H') : CallsH Try.prog 12 #[.int .i64 q, .bool d] H R := by
  refine c12 (fun hn H' e => ?_) (fun hq H' e => ?_)
  · have := hR H' e; unfold stL at this; rw [if_neg hn, decide_eq_false hn] at this; exact this
  · have := hR H' e; unfold stL at this; rw [if_pos hq, decide_eq_true hq] at this; exact this
theorem stepsC2 {q : Int} {d : Bool} (hR : ∀ H', Ext H H' → R (.tuple #[.agg (ints (stL q d)).toArray, .bool (decide (1 ≤ q ∧ q ≤ 100))]) H') : CallsH Try.prog 9 #[.int .i64 q, .bool d] H R := by
  refine c9 (fun hn H' e => ?_) (fun hq H' e => ?_)
  · have := hR H' e; unfold stL at this; rw [if_neg hn, decide_eq_false hn] at this; exact this
  · have := hR H' e; unfold stL at this; rw [if_pos hq, decide_eq_true hq] at this; exact this

/-! ### the document's order -/

def preU (half : Bool) (i j k : Nat) : List (Nat × Nat × Nat) := (List.range k).map fun k => (0, sideM half * i + 8 * (k % 2), sideM half * j + 8 * (k / 2))
def kN (half : Bool) : Nat := if half then 4 else 1
theorem preU_all (half : Bool) (i j : Nat) : preU half i j (kN half) ++ [(1, 8 * i, 8 * j), (2, 8 * i, 8 * j)] = unitM half i j := by cases half <;> rfl
theorem preU_succ (half : Bool) (i j k : Nat) : preU half i j (k + 1) = preU half i j k ++ [(0, sideM half * i + 8 * (k % 2), sideM half * j + 8 * (k / 2))] := by simp [preU, List.range_succ]
theorem preU_len (half : Bool) (i j k : Nat) : (preU half i j k).length = k := by simp [preU]

set_option maxHeartbeats 1000000 in
theorem c10 {W Ht : Nat} {half : Bool} (hW : W ≤ 1000) (hH : Ht ≤ 1000) (hR : ∀ H' q m, St H H' [.sl q (orderM W Ht half).length m 40 3 (ints (flat3 (orderM W Ht half)))] → R (.slice q (orderM W Ht half).length m) H') :
    CallsH Try.prog 10 #[.int .i64 (W : Nat), .int .i64 (Ht : Nat), .bool half] H R := by
  refine Try.s10 ?_
  unfold Try.S10
  intro J hJ
  have hny : unitsN half Ht ≤ 126 := by unfold unitsN sideM; cases half <;> simp <;> omega
  have hnx : unitsN half W ≤ 126 := by unfold unitsN sideM; cases half <;> simp <;> omega
  have hs8 : 8 ≤ sideM half ∧ sideM half ≤ 16 := by unfold sideM; cases half <;> simp
  have hk4 : kN half ≤ 4 := by unfold kN; cases half <;> simp
  have ek : IntKind.wrap .i64 (Int.tdiv (IntKind.wrap .i64 (((sideM half : Nat) : Int) * ((sideM half : Nat) : Int))) 64) = ((kN half : Nat) : Int) := by cases half <;> decide
  have main : J [.int .i64 (sideM half : Nat)] H := by
    refine hJ _ H ?_
    intro X hX
    have outer : ∀ j, j ≤ unitsN half Ht → ∀ H1 q m l, l = (List.range j).flatMap (fun j => rowU half j (unitsN half W)) → St H H1 [.sl q l.length m 40 3 (ints (flat3 l))] → X [.slice q l.length m, .int .i64 (sideM half * j : Nat)] H1 := upto fun j hj ihj H1 q m l hl hs1 => by
      refine hX _ _ _ _ H1 (br_dec (fun hlt => ?_) (fun hge => ?_))
      · have hltj : j < unitsN half Ht := units_lt.1 (by omega)
        have hsj := units_lt.2 hltj
        have hrl := rows_len half (unitsN half W) j
        rw [← hl] at hrl
        have hb2 : j * (6 * unitsN half W) ≤ 126 * (6 * 126) := Nat.mul_le_mul (by omega) (by omega)
        intro Y hY
        have inner : ∀ i, i ≤ unitsN half W → ∀ H2 q m l2, l2 = l ++ rowU half j i → St H H2 [.sl q l2.length m 40 3 (ints (flat3 l2))] → Y [.slice q l2.length m, .int .i64 (sideM half * i : Nat)] H2 := upto fun i hi ihi H2 q m l2 hl2 hs2 => by
          refine hY _ _ _ _ H2 (br_dec (fun hlt => ?_) (fun hge => ?_))
          · have hlti : i < unitsN half W := units_lt.1 (by omega)
            have hsi := units_lt.2 hlti
            have hru := rowU_len half j i
            have hl2n : l2.length ≤ 126 * (6 * 126) + 6 * 126 := by rw [hl2, List.length_append]; omega
            have d8i : sideM half * i / sideM half = i := Nat.mul_div_cancel_left _ (by omega)
            have d8j : sideM half * j / sideM half = j := Nat.mul_div_cancel_left _ (by omega)
            have i125 : i ≤ 126 := by omega
            have j125 : j ≤ 126 := by omega
            intro Z hZ
            have inn : ∀ k, k ≤ kN half → ∀ H3 q m l3, l3 = l2 ++ preU half i j k → St H H3 [.sl q l3.length m 40 3 (ints (flat3 l3))] → Z [.slice q l3.length m, .int .i64 (k : Nat)] H3 := upto fun k hk ihk H3 q m l3 hl3 hs3 => by
              have hp := preU_len half i j k
              have hl3n : l3.length ≤ 126 * (6 * 126) + 6 * 126 + 4 := by rw [hl3, List.length_append]; omega
              refine hZ _ _ _ _ H3 ⟨by decide, ?_⟩
              rw [ek]
              refine br_dec (fun hlt => ?_) (fun hge => ?_)
              · have hltk : k < kN half := by omega
                have e1 : IntKind.wrap .i64 (((sideM half * i : Nat) : Int) + IntKind.wrap .i64 (8 * Int.tmod (k : Int) 2)) = ((sideM half * i + 8 * (k % 2) : Nat) : Int) := by
                  rw [show (2 : Int) = ((2 : Nat) : Int) from rfl, tmodN, wrap_id (n := 8 * ((k % 2 : Nat) : Int)) (by omega) (by omega), wrap_id (by omega) (by omega)]; omega
                have e2 : IntKind.wrap .i64 (((sideM half * j : Nat) : Int) + IntKind.wrap .i64 (8 * IntKind.wrap .i64 (Int.tdiv (k : Int) 2))) = ((sideM half * j + 8 * (k / 2) : Nat) : Int) := by
                  rw [show (2 : Int) = ((2 : Nat) : Int) from rfl, tdivN, wN (by omega), wrap_id (n := 8 * ((k / 2 : Nat) : Int)) (by omega) (by omega), wrap_id (by omega) (by omega)]; omega
                rw [e1, e2, w1 (i := k) (by omega)]
                refine ⟨by decide, by decide, rfl, by decide, hs3.alc fun b19 H4 hs4 => ?_⟩
                refine hs4.appC 1 0 (el := 40) (k := 3) (n := 1) (cs := #[.int .i64 0, .int .i64 (sideM half * i + 8 * (k % 2) : Nat), .int .i64 (sideM half * j + 8 * (k / 2) : Nat)]) rfl rfl rfl (by simp [Value.oneCell']) (by decide) rfl (by omega) (by omega) fun q5 m5 H5 hs5 => ?_
                have := ihk hltk H5 q5 m5 (l3 ++ [(0, sideM half * i + 8 * (k % 2), sideM half * j + 8 * (k / 2))]) (by rw [hl3, preU_succ, List.append_assoc]) (by
                  rw [List.length_append, flat3_append, ints_append]
                  exact hs5.tail)
                rw [List.length_append] at this
                exact this
              · have : k = kN half := by omega
                subst this
                have m1 : IntKind.wrap .i64 (((i : Nat) : Int) * 8) = ((8 * i : Nat) : Int) := by rw [wrap_id (by omega) (by omega)]; omega
                have m2 : IntKind.wrap .i64 (((j : Nat) : Int) * 8) = ((8 * j : Nat) : Int) := by rw [wrap_id (by omega) (by omega)]; omega
                rw [tdivN, tdivN, d8i, d8j, wN (k := i) (by omega), wN (k := j) (by omega), m1, m2, ← Int.natCast_add, wN (k := sideM half * i + sideM half) (by omega)]
                refine ⟨by omega, by omega, by omega, by omega, rfl, by decide, rfl, by decide, hs3.alc fun b22 H6 hs6 => ?_⟩
                refine hs6.appC 1 0 (el := 40) (k := 3) (n := 2) (cs := #[.int .i64 1, .int .i64 (8 * i : Nat), .int .i64 (8 * j : Nat), .int .i64 2, .int .i64 (8 * i : Nat), .int .i64 (8 * j : Nat)]) rfl rfl rfl (by simp [Value.oneCell']) (by decide) rfl (by omega) (by omega) fun q5 m5 H7 hs7 => ?_
                have e1 : sideM half * i + sideM half = sideM half * (i + 1) := by rw [Nat.mul_succ]
                rw [e1]
                have e2 : l3 ++ [(1, 8 * i, 8 * j), (2, 8 * i, 8 * j)] = l ++ rowU half j (i + 1) := by
                  rw [hl3, List.append_assoc, preU_all, hl2, List.append_assoc]; congr 1
                  unfold rowU; rw [flatMap_succ (β := Nat × Nat × Nat) (α := Nat)]
                have := ihi hlti H7 q5 m5 _ e2 (by
                  rw [List.length_append, flat3_append, ints_append]
                  exact hs7.tail)
                rw [List.length_append] at this
                exact this
            exact inn 0 (by omega) H2 q m l2 (by simp [preU]) hs2
          · have hni : ¬ i < unitsN half W := fun h => hge (by have := units_lt.2 h; omega)
            have : i = unitsN half W := by omega
            rw [← Int.natCast_add, wN (k := sideM half * j + sideM half) (by omega)]
            have e1 : sideM half * j + sideM half = sideM half * (j + 1) := by rw [Nat.mul_succ]
            rw [e1]
            subst this
            exact ihj hltj H2 q m l2 (by rw [hl2, hl, flatMap_succ (β := Nat × Nat × Nat) (α := Nat)]) hs2
        exact inner 0 (by omega) H1 q m l (by simp [rowU]) hs1
      · have hni : ¬ j < unitsN half Ht := fun h => hge (by have := units_lt.2 h; omega)
        have : j = unitsN half Ht := by omega
        subst this
        have e : l = orderM W Ht half := hl
        rw [e] at hs1 ⊢
        exact hR H1 q m hs1
    exact outer 0 (by omega) H none 0 [] rfl ((St.nil H).nilSl _ 3)
  refine br_i (fun ht => ?_) (fun hf => ?_)
  · subst ht; exact main
  · subst hf; exact main

/-! ### blocks, plain -/

def smpL (W Ht : Nat) (rgb : List Int) (half : Bool) (t : Nat × Nat × Nat) : List Int := (List.range 64).map fun i => sampM W Ht rgb half t.1 (t.2.1 + i % 8) (t.2.2 + i / 8) - 128
def blockV (W Ht : Nat) (rgb : List Int) (q : Int) (half : Bool) (t : Nat × Nat × Nat) : List Int := (List.range 64).map fun i => inStepsM ((fwdM (smpL W Ht rgb half t)).getD i 0) (stepV q (decide (0 < t.1)) i)
def blocksL (W Ht : Nat) (rgb : List Int) (q : Int) (half : Bool) : List (List Int) := (orderM W Ht half).map (blockV W Ht rgb q half)
theorem smpL_len (W Ht : Nat) (rgb : List Int) (half : Bool) (t : Nat × Nat × Nat) : (smpL W Ht rgb half t).length = 64 := tab_len _ _
theorem smpL_small (W Ht : Nat) (rgb : List Int) (half : Bool) (t : Nat × Nat × Nat) : Small (smpL W Ht rgb half t) := by
  refine ⟨smpL_len _ _ _ _ _, fun i => ?_⟩
  by_cases h : i < 64
  · rw [show (smpL W Ht rgb half t).getD i 0 = _ from tab_getD h]
    have := sampM_rng W Ht rgb half t.1 (t.2.1 + i % 8) (t.2.2 + i / 8)
    omega
  · rw [List.getD_eq_getElem?_getD, List.getElem?_eq_none (by rw [smpL_len]; omega)]; decide
theorem fwd_rng {s : List Int} (h : Small s) {i : Nat} (hi : i < 64) : -5000 ≤ (fwdM s).getD i 0 ∧ (fwdM s).getD i 0 ≤ 5000 := by
  rw [show (fwdM s).getD i 0 = _ from tab_getD hi]; exact near_bd h _ _
theorem blockV_len (W Ht : Nat) (rgb : List Int) (q : Int) (half : Bool) (t : Nat × Nat × Nat) : (blockV W Ht rgb q half t).length = 64 := tab_len _ _
theorem blocksL_len (W Ht : Nat) (rgb : List Int) (q : Int) (half : Bool) : (blocksL W Ht rgb q half).length = (orderM W Ht half).length := by simp [blocksL]
theorem blocksL_64 (W Ht : Nat) (rgb : List Int) (q : Int) (half : Bool) : ∀ b ∈ blocksL W Ht rgb q half, b.length = 64 := fun b hb => by
  obtain ⟨t, _, rfl⟩ := List.mem_map.1 hb; exact blockV_len _ _ _ _ _ _
theorem flat64_len : ∀ {l : List (List Int)}, (∀ b ∈ l, b.length = 64) → l.flatten.length = 64 * l.length
  | [], _ => rfl
  | b :: l, h => by rw [List.flatten_cons, List.length_append, h b (List.mem_cons_self ..), flat64_len fun c hc => h c (List.mem_cons_of_mem _ hc), List.length_cons]; omega
theorem flat64_get : ∀ {l : List (List Int)}, (∀ b ∈ l, b.length = 64) → ∀ {i j : Nat} {b : List Int}, l[i]? = some b → j < 64 → l.flatten[i * 64 + j]? = b[j]?
  | c :: l, h, 0, j, b, hb, hj => by
    simp at hb; subst hb
    have := h c (List.mem_cons_self ..)
    rw [List.flatten_cons, Nat.zero_mul, Nat.zero_add, List.getElem?_append_left (by omega)]
  | c :: l, h, i + 1, j, b, hb, hj => by
    have h1 := h c (List.mem_cons_self ..)
    rw [List.flatten_cons, List.getElem?_append_right (by rw [h1]; omega), h1, show (i + 1) * 64 + j - 64 = i * 64 + j from by omega]
    exact flat64_get (fun c hc => h c (List.mem_cons_of_mem _ hc)) (by simpa using hb) hj
theorem setL_all {c l : List Value} (h : l.length = c.length) : setL c 0 l = l := by unfold setL; simp [h]

/-- A row of numbers is read of a slice of rows. -/
theorem St.row64 (hs : St H0 H σ) (i : Nat) {p : Option Addr} {n c : Nat} {el : TypeId} {l : List (List Int)} (hi : σ[i]? = some (.sl p n c el 64 (ints l.flatten))) (h64 : ∀ b ∈ l, b.length = 64) {t : Nat} {b : List Int} (hb : l[t]? = some b) (ht : t < n) :
    ∃ blk, p = some ⟨blk, 0, none⟩ ∧ rowIn H ⟨blk, t * 64, none⟩ (ints b).toArray :=
  (hs.rs i hi).row ht (by decide) fun j v hv => by
    rw [List.getElem?_toArray] at hv
    have hj := (List.getElem?_eq_some_iff.1 hv).1
    rw [ints_len, h64 b (List.mem_of_getElem? hb)] at hj
    simp only [ints, List.getElem?_map] at hv ⊢
    rw [flat64_get h64 hb hj]; exact hv

end Go.Proofs
