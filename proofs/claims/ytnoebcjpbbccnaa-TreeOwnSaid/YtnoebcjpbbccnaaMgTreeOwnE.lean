/-
  OWN WORK. Several texts in one: TrO, TrP, TrQ, TrR, TrS, TrT, TrU, TrV, TtA, TtB, TrW, TrX, TrY, TrZ.
-/
import Derived.Test.YtnoebcjpbbccnaaMgTreeOwnD

/-
  OWN WORK. Shapes: which pixels are within; a mask.
-/
set_option linter.unusedVariables false
set_option linter.unusedSimpArgs false
set_option maxRecDepth 10000
namespace Go.Proofs
open Go.Sh
variable {H0 H : Heap} {σ : List Rs} {R : Value → Heap → Prop}

abbrev Pt := Int × Int
def ptB (p : Pt) : Bool := decide (-1048576 ≤ p.1 ∧ p.1 ≤ 1048576 ∧ -1048576 ≤ p.2 ∧ p.2 ≤ 1048576)
def shapeB (l : List Pt) : Bool := decide (3 ≤ l.length ∧ l.length ≤ 256) && l.all ptB
def nMet (a b : Pt) (x y : Int) : Int := (2 * b.1 - 2 * a.1) * (2 * y + 1 - 2 * a.2) + (2 * a.1 - (2 * x + 1)) * (2 * b.2 - 2 * a.2)
def metB (a b : Pt) (x y : Int) : Bool :=
  if decide (2 * a.2 > 2 * y + 1) = decide (2 * b.2 > 2 * y + 1) then false else if 2 * b.2 - 2 * a.2 < 0 then decide (nMet a b x y < 0) else decide (nMet a b x y > 0)
def xorN : Nat → (Nat → Bool) → Bool
  | 0, _ => false
  | n + 1, f => xorN n f ^^ f n
theorem xorN_front (f : Nat → Bool) : ∀ n, xorN (n + 1) f = (f 0 ^^ xorN n fun i => f (i + 1))
  | 0 => by simp [xorN]
  | n + 1 => by rw [xorN, xorN_front f n, xorN, Bool.xor_assoc]
theorem xorN_congr {f g : Nat → Bool} : ∀ {n : Nat}, (∀ i, i < n → f i = g i) → xorN n f = xorN n g
  | 0, _ => rfl
  | n + 1, h => by rw [xorN, xorN, xorN_congr fun i hi => h i (by omega), h n (by omega)]
def nthP (l : List Pt) (i : Nat) : Pt := l.getD i (0, 0)
def withinB (l : List Pt) (x y : Int) : Bool := xorN l.length fun i => metB (nthP l i) (nthP l (if i + 1 = l.length then 0 else i + 1)) x y
/-- As the program goes: each point with the one ahead. -/
theorem within_prev (l : List Pt) (x y : Int) : withinB l x y = xorN l.length fun k => metB (nthP l (if k = 0 then l.length - 1 else k - 1)) (nthP l k) x y := by
  unfold withinB
  cases hl : l.length with
  | zero => rfl
  | succ m =>
    rw [xorN, xorN_front, Bool.xor_comm]
    congr 1
    · simp
    · refine xorN_congr fun i hi => ?_
      rw [if_neg (by omega), if_neg (by omega), show i + 1 - 1 = i from by omega]

def ptV (p : Pt) : Array Value := #[.int .i64 p.1, .int .i64 p.2]
theorem IS2.row {H : Heap} {p : Option Addr} {l : Nat} {pts : List Pt} (h : IS2 H p l pts) {i : Nat} (hi : i < pts.length) : ∃ a, p = some a ∧ rowIn H (a.add (i * 2)) (ptV (nthP pts i)) := by
  have hx := List.getElem?_eq_getElem hi
  have hn : nthP pts i = pts[i] := by unfold nthP; rw [List.getD_eq_getElem?_getD, hx]; rfl
  rw [hn]
  exact h.get i _ _ hx

theorem CZ.sub {a b c d : Nat} {x y u v : Int} (ha : FZ a x) (hb : FZ b y) (hc : FZ c u) (hd : FZ d v) (h1 : -1000000000000 ≤ x - u ∧ x - u ≤ 1000000000000) (h2 : -1000000000000 ≤ y - v ∧ y - v ≤ 1000000000000) :
    ∃ re im, cSumBits .sub .f64 a b c d = some (re, im) ∧ FZ re (x - u) ∧ FZ im (y - v) := by
  obtain ⟨re, e1, f1⟩ := ha.sub hc (by omega) (by omega)
  obtain ⟨im, e2, f2⟩ := hb.sub hd (by omega) (by omega)
  exact ⟨re, im, by unfold cSumBits; rw [e1, e2]; rfl, f1, f2⟩
theorem CZ.mul {a b c d : Nat} {x y u v : Int} (ha : FZ a x) (hb : FZ b y) (hc : FZ c u) (hd : FZ d v) (h1 : -1000000000000000 ≤ x * u ∧ x * u ≤ 1000000000000000) (h2 : -1000000000000000 ≤ y * v ∧ y * v ≤ 1000000000000000)
    (h3 : -1000000000000000 ≤ x * v ∧ x * v ≤ 1000000000000000) (h4 : -1000000000000000 ≤ y * u ∧ y * u ≤ 1000000000000000) : ∃ re im, cMulBits a b c d = some (re, im) ∧ FZ re (x * u - y * v) ∧ FZ im (x * v + y * u) := by
  obtain ⟨p, e1, f1⟩ := ha.mul hc (by omega) (by omega)
  obtain ⟨q, e2, f2⟩ := hb.mul hd (by omega) (by omega)
  obtain ⟨r, e3, f3⟩ := ha.mul hd (by omega) (by omega)
  obtain ⟨s, e4, f4⟩ := hb.mul hc (by omega) (by omega)
  obtain ⟨re, e5, f5⟩ := f1.sub f2 (by omega) (by omega)
  obtain ⟨im, e6, f6⟩ := f3.add f4 (by omega) (by omega)
  exact ⟨re, im, by unfold cMulBits; simp only [e1, e2, e3, e4, e5, e6, Option.bind_some], f5, f6⟩

theorem c113 {p : Pt} (hR : ∀ H', Ext H H' → R (.complex .f64 (floatOfInt .f64 p.1) (floatOfInt .f64 p.2)) H') : CallsH Try.prog 113 #[.agg (ptV p)] H R := by
  refine Try.s113 ?_
  unfold Try.S113
  exact (St.nil H).alcE fun b2 H3 he hs3 => ⟨_, hs3.get 0 rfl (j := 0) rfl, _, hs3.get 0 rfl (j := 1) rfl, rfl, hR H3 he⟩
theorem c114 {a b c d : Nat} {x y u v : Int} (ha : FZ a x) (hb : FZ b y) (hc : FZ c u) (hd : FZ d v) (hx : -10000000 ≤ x ∧ x ≤ 10000000) (hy : -10000000 ≤ y ∧ y ≤ 10000000) (hu : -10000000 ≤ u ∧ u ≤ 10000000) (hv : -10000000 ≤ v ∧ v ≤ 10000000)
    (hR : ∀ r, FZ r (x * v + -y * u) → R (.float .f64 r) H) : CallsH Try.prog 114 #[.complex .f64 a b, .complex .f64 c d] H R := by
  refine Try.s114 ?_
  unfold Try.S114
  have b1 := mul_bd hx hu
  have b2 := mul_bd (x := -y) (y := v) (A := 10000000) (B := 10000000) (by omega) hv
  have b3 := mul_bd hx hv
  have b4 := mul_bd (x := -y) (y := u) (A := 10000000) (B := 10000000) (by omega) hu
  obtain ⟨re, im, e1, _, f2⟩ := CZ.mul ha hb.neg hc hd (by omega) (by omega) (by omega) (by omega)
  exact ⟨rfl, rfl, rfl, re, im, e1, hR im f2⟩
theorem mul2 {c d : Nat} {u v : Int} (hc : FZ c u) (hd : FZ d v) (hu : -10000000 ≤ u ∧ u ≤ 10000000) (hv : -10000000 ≤ v ∧ v ≤ 10000000) : ∃ re im, cMulBits (4611686018427387904 : Nat) (0 : Nat) c d = some (re, im) ∧ FZ re (2 * u) ∧ FZ im (2 * v) := by
  obtain ⟨re, im, e1, f1, f2⟩ := CZ.mul FZ.two FZ.zero hc hd (by omega) (by omega) (by omega) (by omega)
  rw [Int.zero_mul, Int.sub_zero] at f1
  rw [Int.zero_mul, Int.add_zero] at f2
  exact ⟨re, im, e1, f1, f2⟩

/-- The test, as the program makes it. -/
theorem met_prog (a b : Pt) (x y : Int) : metB a b x y = if decide (2 * a.2 > 2 * y + 1) = decide (2 * b.2 > 2 * y + 1) then false else
    if 2 * b.2 > 2 * y + 1 then decide ((2 * b.1 - 2 * a.1) * (2 * y + 1 - 2 * a.2) + -(2 * b.2 - 2 * a.2) * (2 * x + 1 - 2 * a.1) > 0) else decide ((2 * a.1 - 2 * b.1) * (2 * y + 1 - 2 * b.2) + -(2 * a.2 - 2 * b.2) * (2 * x + 1 - 2 * b.1) > 0) := by
  unfold metB nMet
  split
  · rfl
  · rename_i hne
    have hne' : ¬ ((2 * a.2 > 2 * y + 1) ↔ (2 * b.2 > 2 * y + 1)) := fun h => hne (decide_eq_decide.2 h)
    obtain ⟨ax, ay⟩ := a
    obtain ⟨bx, by_⟩ := b
    simp only at hne' ⊢
    by_cases hb : 2 * by_ > 2 * y + 1
    · rw [if_pos hb, if_neg (by omega)]
      refine decide_eq_decide.2 ?_
      have e : (2 * bx - 2 * ax) * (2 * y + 1 - 2 * ay) + (2 * ax - (2 * x + 1)) * (2 * by_ - 2 * ay) = (2 * bx - 2 * ax) * (2 * y + 1 - 2 * ay) + -(2 * by_ - 2 * ay) * (2 * x + 1 - 2 * ax) := by
        congr 1
        rw [show (2 * ax - (2 * x + 1)) = -(2 * x + 1 - 2 * ax) from by omega, Int.neg_mul, Int.neg_mul, Int.mul_comm]
      rw [e]
    · rw [if_neg hb, if_pos (by omega)]
      refine decide_eq_decide.2 ?_
      have e : (2 * bx - 2 * ax) * (2 * y + 1 - 2 * ay) + (2 * ax - (2 * x + 1)) * (2 * by_ - 2 * ay) = -((2 * ax - 2 * bx) * (2 * y + 1 - 2 * by_) + -(2 * ay - 2 * by_) * (2 * x + 1 - 2 * bx)) := by
        generalize hm : 2 * x + 1 = m
        generalize hn : 2 * y + 1 = n
        generalize 2 * ax = p
        generalize 2 * bx = q
        generalize 2 * ay = r
        generalize 2 * by_ = t
        rw [Int.neg_mul]
        simp only [Int.sub_mul, Int.mul_sub]
        rw [Int.mul_comm m t, Int.mul_comm m r, Int.mul_comm p t, Int.mul_comm p r, Int.mul_comm q r, Int.mul_comm q t]
        omega
      rw [e]; omega

theorem pt_bd {l : List Pt} (h : l.all ptB = true) (i : Nat) : (-1048576 ≤ (nthP l i).1 ∧ (nthP l i).1 ≤ 1048576) ∧ (-1048576 ≤ (nthP l i).2 ∧ (nthP l i).2 ≤ 1048576) := by
  by_cases hi : i < l.length
  · have hn : nthP l i = l[i] := by unfold nthP; rw [List.getD_eq_getElem?_getD, List.getElem?_eq_getElem hi]; rfl
    have := of_decide_eq_true (List.all_eq_true.1 h _ (List.getElem_mem hi))
    rw [hn]
    exact ⟨⟨this.1, this.2.1⟩, this.2.2⟩
  · have hn : nthP l i = (0, 0) := by unfold nthP; rw [List.getD_eq_getElem?_getD, List.getElem?_eq_none (by omega)]; rfl
    rw [hn]; decide

theorem c100 {p : Option Addr} {n c : Nat} {l : List Pt} (h : IS2 H p n l) (hn : 1 ≤ n) (hn2 : n ≤ 1000000) (hb : l.all ptB = true) {x y : Int} (hx : 0 ≤ x ∧ x ≤ 100000) (hy : 0 ≤ y ∧ y ≤ 100000) (hR : ∀ H', Ext H H' → R (.bool (withinB l x y)) H') :
    CallsH Try.prog 100 #[.slice p n c, .int .i64 x, .int .i64 y] H R := by
  refine Try.s100 ?_
  unfold Try.S100
  have hlen := h.len
  rw [wrap_id (n := (n : Int) - 1) (by omega) (by omega), show Int.toNat ((n : Int) - 1) = n - 1 from by omega]
  have m1 : IntKind.wrap .i64 (IntKind.wrap .i64 ((2 : Int) * x) + (1 : Int)) = 2 * x + 1 := by rw [wrap_id (n := 2 * x) (by omega) (by omega), wrap_id (by omega) (by omega)]
  have m2 : IntKind.wrap .i64 (IntKind.wrap .i64 ((2 : Int) * y) + (1 : Int)) = 2 * y + 1 := by rw [wrap_id (n := 2 * y) (by omega) (by omega), wrap_id (by omega) (by omega)]
  rw [m1, m2]
  have fmx : FZ (floatOfInt .f64 (2 * x + 1)) (2 * x + 1) := FZ.ofInt (by omega) (by omega)
  have fmy : FZ (floatOfInt .f64 (2 * y + 1)) (2 * y + 1) := FZ.ofInt (by omega) (by omega)
  obtain ⟨a0, hp, hrow⟩ := h.row (i := n - 1) (by omega)
  refine ⟨rfl, a0, hp, by omega, by omega, _, rfl, hrow, ?_⟩
  refine (St.nil H).alc fun b6 H7 hs7 => ⟨rfl, hs7.putAll 0 rfl rfl (by simp [ptV, Value.oneCell']) fun H8 hs8 => ?_⟩
  intro X hX
  have go : ∀ k, k ≤ n → ∀ H1, St H H1 [.cell b6 (ptV (nthP l (if k = 0 then l.length - 1 else k - 1))) 79] → X [.bool (xorN k fun k => metB (nthP l (if k = 0 then l.length - 1 else k - 1)) (nthP l k) x y), .int .i64 (k : Nat)] H1 := by
    refine upto fun k hk ih H1 hs1 => hX _ _ _ (br_dec (fun hlt => ?_) fun hge => ?_)
    · have hk' : k < n := by omega
      obtain ⟨a1, hp1, hrow1⟩ := (h.ext hs1.ext).row (i := k) (by omega)
      generalize hA : nthP l (if k = 0 then l.length - 1 else k - 1) = A at hs1
      have hAb := pt_bd hb (if k = 0 then l.length - 1 else k - 1)
      rw [hA] at hAb
      have hBb := pt_bd hb k
      have hxs : xorN (k + 1) (fun k => metB (nthP l (if k = 0 then l.length - 1 else k - 1)) (nthP l k) x y) = ((xorN k fun k => metB (nthP l (if k = 0 then l.length - 1 else k - 1)) (nthP l k) x y) ^^ metB A (nthP l k) x y) := by rw [xorN, hA]
      generalize hB : nthP l k = B at hrow1 hBb hxs
      generalize hO : (xorN k fun k => metB (nthP l (if k = 0 then l.length - 1 else k - 1)) (nthP l k) x y) = O at hxs
      refine ⟨a1, hp1, by omega, hlt, _, rfl, hrow1, hs1.alc fun b15 H16 hs16 => ⟨rfl, hs16.putAll 0 rfl rfl (by simp [ptV, Value.oneCell']) fun H17 hs17 => ?_⟩⟩
      refine ⟨_, rfl, rowIn_whole (hs17.block 1 rfl), _, rfl, rowIn_whole (hs17.block 0 rfl), ?_⟩
      refine c113 (p := A) fun H21 he21 => ⟨_, _, rfl, .inl he21, rfl, rfl, ?_⟩
      obtain ⟨ar, ai, ea, far, fai⟩ := mul2 (FZ.ofInt (n := A.1) (by omega) (by omega)) (FZ.ofInt (n := A.2) (by omega) (by omega)) (by omega) (by omega)
      refine ⟨ar, ai, ea, ?_⟩
      refine c113 (p := B) fun H26 he26 => ⟨_, _, rfl, rfl, rfl, ?_⟩
      obtain ⟨br', bi, eb, fbr, fbi⟩ := mul2 (FZ.ofInt (n := B.1) (by omega) (by omega)) (FZ.ofInt (n := B.2) (by omega) (by omega)) (by omega) (by omega)
      refine ⟨br', bi, eb, rfl, rfl, ?_⟩
      have hs26 := (hs17.step he21).step he26
      -- what is left of a round
      have next : ∀ (t : Bool), metB A B x y = t → ∀ H2, St H H2 (.cell b15 (ptV B) 79 :: .cell b6 (ptV A) 79 :: []) →
          ∃ v41 : Array Value, v41.size = 2 ∧ rowIn H2 ⟨b15, 0, none⟩ v41 ∧ v41.size = 2 ∧ stAt H2 ⟨b6, 0, none⟩ (Array.toList v41) fun H_42 => X [Value.bool (O ^^ t), Value.int .i64 (IntKind.wrap .i64 ((k : Int) + (1 : Int)))] H_42 := fun t ht H2 hs2 => by
        refine ⟨_, ?_, rowIn_whole (hs2.block 0 rfl), ?_, ?_⟩
        · rfl
        · rfl
        refine hs2.putAll 1 rfl rfl (by simp [ptV, Value.oneCell']) fun H3 hs3 => ?_
        rw [wrap_id (by omega) (by omega)]
        have := ih hk' H3 (by
          rw [if_neg (by omega), show k + 1 - 1 = k from by omega, hB]
          exact hs3.tail)
        rw [hxs, ht] at this
        exact this
      rw [fai.gt fmy, fbi.gt fmy]
      -- the cross product of a and b, a the lower
      have cross : ∀ (cr ci dr di : Nat) (C D : Pt), FZ cr (2 * C.1) → FZ ci (2 * C.2) → FZ dr (2 * D.1) → FZ di (2 * D.2) → (-1048576 ≤ C.1 ∧ C.1 ≤ 1048576) → (-1048576 ≤ C.2 ∧ C.2 ≤ 1048576) → (-1048576 ≤ D.1 ∧ D.1 ≤ 1048576) → (-1048576 ≤ D.2 ∧ D.2 ≤ 1048576) →
          metB A B x y = decide ((2 * C.1 - 2 * D.1) * (2 * y + 1 - 2 * D.2) + -(2 * C.2 - 2 * D.2) * (2 * x + 1 - 2 * D.1) > 0) →
          (FloatKind.f64 = FloatKind.f64 ∧ ∃ re34 im35 : Nat, cSumBits .sub .f64 cr ci dr di = some (re34, im35) ∧ (FloatKind.f64 = FloatKind.f64 ∧ ∃ re36 im37 : Nat, cSumBits .sub .f64 (floatOfInt .f64 (2 * x + 1)) (floatOfInt .f64 (2 * y + 1)) dr di = some (re36, im37) ∧ CallsH Try.prog 114 #[Value.complex .f64 re34 im35, Value.complex .f64 re36 im37] H26 fun r38 H_39 => ∃ r40 : Nat, r38 = Value.float .f64 r40 ∧ (FloatKind.f64 = FloatKind.f64 ∧ br (Ieee.Format.order (FloatKind.format .f64) r40 (0 : Nat) == some Ordering.gt)
            (∃ v41 : Array Value, v41.size = 2 ∧ rowIn H_39 ⟨b15, 0, none⟩ v41 ∧ v41.size = 2 ∧ stAt H_39 ⟨b6, 0, none⟩ (Array.toList v41) fun H_42 => X [Value.bool (!O), Value.int .i64 (IntKind.wrap .i64 ((k : Int) + (1 : Int)))] H_42)
            (∃ v43 : Array Value, v43.size = 2 ∧ rowIn H_39 ⟨b15, 0, none⟩ v43 ∧ v43.size = 2 ∧ stAt H_39 ⟨b6, 0, none⟩ (Array.toList v43) fun H_44 => X [Value.bool O, Value.int .i64 (IntKind.wrap .i64 ((k : Int) + (1 : Int)))] H_44)))) := by
        intro cr ci dr di C D fcr fci fdr fdi hc1 hc2 hd1 hd2 hm
        obtain ⟨r1, i1, e1, f1, f2⟩ := CZ.sub fcr fci fdr fdi (by omega) (by omega)
        obtain ⟨r2, i2, e2, f3, f4⟩ := CZ.sub fmx fmy fdr fdi (by omega) (by omega)
        refine ⟨rfl, r1, i1, e1, rfl, r2, i2, e2, ?_⟩
        refine c114 f1 f2 f3 f4 (by omega) (by omega) (by omega) (by omega) fun r fr => ⟨r, rfl, rfl, ?_⟩
        rw [fr.gt FZ.zero, ← hm]
        refine br_i (fun ht => ?_) fun ht => ?_
        · have := next true ht H26 hs26
          rw [Bool.xor_true] at this
          exact this
        · have := next false ht H26 hs26
          rw [Bool.xor_false] at this
          exact this
      have hmp := met_prog A B x y
      by_cases hab : decide (2 * A.2 > 2 * y + 1) = decide (2 * B.2 > 2 * y + 1)
      · rw [if_pos hab] at hmp
        refine br_f (by rw [hab]; simp) ?_
        have := next false hmp H26 hs26
        rw [Bool.xor_false] at this
        exact this
      · rw [if_neg hab] at hmp
        refine br_t (by simpa using hab) ?_
        intro J hJ
        refine br_dec (fun hB2 => ?_) fun hB2 => ?_
        · rw [if_pos hB2] at hmp
          exact hJ _ _ _ _ _ (cross _ _ _ _ B A fbr fbi far fai hBb.1 hBb.2 hAb.1 hAb.2 hmp)
        · rw [if_neg hB2] at hmp
          exact hJ _ _ _ _ _ (cross _ _ _ _ A B far fai fbr fbi hAb.1 hAb.2 hBb.1 hBb.2 hmp)
    · have : k = n := by omega
      subst this
      have := hR H1 hs1.ext
      rw [within_prev, hlen] at this
      rw [hlen]
      exact this
  exact go 0 (Nat.zero_le _) H8 (by rw [if_pos rfl, hlen]; exact hs8)

end Go.Proofs

/-
  OWN WORK. Shapes are checked; masks; a layer is masked.
-/
set_option linter.unusedVariables false
set_option linter.unusedSimpArgs false
set_option maxRecDepth 10000
namespace Go.Proofs
open Go.Sh
variable {H0 H : Heap} {σ : List Rs} {R : Value → Heap → Prop}

theorem c112 {p : Pt} (hR : ∀ H', Ext H H' → R (.bool (ptB p)) H') : CallsH Try.prog 112 #[.agg (ptV p)] H R := by
  refine Try.s112 ?_
  unfold Try.S112
  refine (St.nil H).alcE fun b2 H3 he hs3 => ?_
  have bad : ¬ (-1048576 ≤ p.1 ∧ p.1 ≤ 1048576 ∧ -1048576 ≤ p.2 ∧ p.2 ≤ 1048576) → R (.bool false) H3 := fun h => by
    have := hR H3 he
    rw [show ptB p = false from decide_eq_false h] at this; exact this
  refine ⟨_, hs3.get 0 rfl (j := 0) rfl, br_dec (fun h1 => ⟨_, hs3.get 0 rfl (j := 0) rfl, br_dec (fun h2 => ⟨_, hs3.get 0 rfl (j := 1) rfl, br_dec (fun h3 => ⟨_, hs3.get 0 rfl (j := 1) rfl, ?_⟩) fun h => bad (by omega)⟩) fun h => bad (by omega)⟩) fun h => bad (by omega)⟩
  have := hR H3 he
  rw [show ptB p = decide (p.2 ≤ 1048576) from decide_eq_decide.2 ⟨fun h => h.2.2.2, fun h => ⟨h1, h2, h3, h⟩⟩] at this
  exact this

theorem IS2.nil (H : Heap) : IS2 H none 0 [] := ⟨rfl, fun i x y h => by simp at h⟩
theorem nthP_eq {l : List Pt} {i : Nat} (h : i < l.length) : nthP l i = l[i] := by unfold nthP; rw [List.getD_eq_getElem?_getD, List.getElem?_eq_getElem h]; rfl

theorem c99 {p : Option Addr} {n c : Nat} {l : List Pt} (h : IS2 H p n l) (hn : n ≤ 1000000000) (hR : ∀ H', Ext H H' → R (.int .i64 (if shapeB l = true then 0 else 31)) H') :
    CallsH Try.prog 99 #[.slice p n c, .slice none 0 0] H R := by
  refine Try.s99 ?_
  unfold Try.S99
  have hlen := h.len
  have bad : ¬ (shapeB l = true) → ∀ {H'}, Ext H H' → R (.int .i64 31) H' := fun hb {H'} he => by
    have := hR H' he
    rw [if_neg hb] at this; exact this
  intro J hJ
  refine br_dec (fun h3 => bad (fun hh => ?_) (Ext.refl H)) fun h3 => br_dec (fun h4 => bad (fun hh => ?_) (Ext.refl H)) fun h4 => hJ _ ?_
  · unfold shapeB at hh; rw [Bool.and_eq_true] at hh; have := of_decide_eq_true hh.1; omega
  · unfold shapeB at hh; rw [Bool.and_eq_true] at hh; have := of_decide_eq_true hh.1; omega
  refine (St.nil H).alcE fun b5 H6 he6 hs6 => ?_
  intro X hX
  have two : ∀ H1, l.all ptB = true → St H H1 [.cell b5 #[Value.slice p n c, Value.slice none 0 0] 39] → X [.int .i64 2] H1 := fun H1 hall hs1 => by
    refine hX _ _ (br_f (by decide) ?_)
    have := hR H1 hs1.ext
    rw [if_pos (by unfold shapeB; rw [Bool.and_eq_true]; exact ⟨decide_eq_true (by omega), hall⟩)] at this
    exact this
  have one : ∀ H1, l.all ptB = true → St H H1 [.cell b5 #[Value.slice p n c, Value.slice none 0 0] 39] → X [.int .i64 1] H1 := fun H1 hall hs1 => by
    refine hX _ _ (br_t (by decide) ⟨_, rfl, by decide, by decide, _, _, _, hs1.get 0 rfl (j := 1) rfl, ?_⟩)
    intro X2 hX2
    exact hX2 _ _ (br_f (by decide) (two H1 hall hs1))
  refine hX _ _ (br_t (by decide) ⟨_, rfl, by decide, by decide, _, _, _, hs6.get 0 rfl (j := 0) rfl, ?_⟩)
  intro X2 hX2
  have go : ∀ k, k ≤ n → ∀ H1, (l.take k).all ptB = true → St H H1 [.cell b5 #[Value.slice p n c, Value.slice none 0 0] 39] → X2 [.int .i64 (k : Nat)] H1 := by
    refine upto fun k hk ih H1 hall hs1 => hX2 _ _ (br_dec (fun hlt => ?_) fun hge => ?_)
    · have hk' : k < n := by omega
      obtain ⟨a1, hp1, hrow1⟩ := (h.ext hs1.ext).row (i := k) (by omega)
      refine ⟨a1, hp1, by omega, hlt, _, rfl, hrow1, hs1.alc fun b17 H18 hs18 => ⟨rfl, hs18.putAll 0 rfl rfl (by simp [ptV, Value.oneCell']) fun H19 hs19 => ?_⟩⟩
      refine ⟨_, rfl, rowIn_whole (hs19.block 0 rfl), ?_⟩
      refine c112 (p := nthP l k) fun H22 he22 => ⟨_, rfl, br_not (fun hb => ?_) fun hb => ?_⟩
      · refine bad (fun hh => ?_) (hs19.ext.trans he22)
        unfold shapeB at hh; rw [Bool.and_eq_true] at hh
        have := List.all_eq_true.1 hh.2 _ (List.getElem_mem (n := k) (show k < l.length by omega))
        rw [nthP_eq (by omega), this] at hb; cases hb
      · rw [wrap_id (by omega) (by omega)]
        refine ih hk' H22 ?_ ((hs19.tail).step he22)
        rw [take_succ (List.getElem?_eq_getElem (show k < l.length by omega)), List.all_append, hall, Bool.true_and]
        rw [nthP_eq (by omega)] at hb
        simp [hb]
    · have : k = n := by omega
      subst this
      rw [List.take_of_length_le (by omega)] at hall
      exact one H1 hall hs1
  exact go 0 (Nat.zero_le _) H6 rfl hs6

/-- A mask by a test. -/
def maskL (w h : Int) (f : Int → Int → Bool) : List Int := (List.range (w * h).toNat).map fun (i : Nat) => if f ((i : Int) % w) ((i : Int) / w) = true then 255 else 0
theorem reps_u8 (n : Nat) : (reps n (Array.toList #[Value.int .u8 0])).toArray.toList = kints .u8 (List.replicate n 0) := by
  show reps n [Value.int .u8 0] = _
  rw [reps_rep]; simp [kints]

theorem c79 {p : Option Addr} {n c : Nat} {l : List Pt} {w h : Int} (hl : IS2 H p n l) (hn : n ≤ 1000000000) (hsz : sizedB w h = true)
    (h0 : shapeB l = false → ∀ H', Ext H H' → R (.tuple #[.slice none 0 0, .int .i64 31]) H')
    (h1 : shapeB l = true → ∀ (m : Sl3) H', St H H' [.sl m.p m.l m.c 5 1 (kints .u8 (maskL w h (withinB l)))] → R (.tuple #[.slice m.p m.l m.c, .int .i64 0]) H') :
    CallsH Try.prog 79 #[.slice p n c, .int .i64 w, .int .i64 h] H R := by
  obtain ⟨q1, q2, q3, q4, q5⟩ := of_decide_eq_true hsz
  have hwh : IntKind.wrap .i64 (w * h) = w * h := wrap_area q1 q2 q3 q4
  have hpos : 0 ≤ w * h := Int.mul_nonneg (by omega) (by omega)
  refine Try.s79 ?_
  unfold Try.S79
  rw [hwh]
  refine c99 hl hn fun H5 he5 => ⟨_, rfl, ?_⟩
  cases hsh : shapeB l with
  | false => exact br_ne (fun _ => h0 hsh H5 he5) fun h => absurd h (by decide)
  | true =>
    refine br_ne (fun h => absurd rfl h) fun _ => ?_
    intro J hJ
    refine br_n (by omega) (br_n (by omega) (br_n (by omega) (br_n (by omega) (br_n (by omega) (hJ _ ?_)))))
    refine ⟨hpos, Int.le_refl _, by omega, by omega, ?_⟩
    refine (St.of_ext he5).alc fun b9 H10 hs10 => ?_
    intro X hX
    have hs10 := hs10.toSl 0 (l := (w * h).toNat) (k := 1) (fs := kints .u8 (List.replicate (w * h).toNat 0)) rfl (by simp [reps_length]) (reps_u8 _) (kints_one _ _)
    have hsb := hsh
    unfold shapeB at hsb
    rw [Bool.and_eq_true] at hsb
    have hlen := hl.len
    have hlb := of_decide_eq_true hsb.1
    have hML : (maskL w h (withinB l)).length = (w * h).toNat := by simp [maskL]
    have go : ∀ k, k ≤ (w * h).toNat → ∀ H1, St H H1 [.sl (some ⟨b9, 0, none⟩) (w * h).toNat (w * h).toNat 5 1 (kints .u8 (fillA (maskL w h (withinB l)) k))] → X [.int .i64 (k : Nat)] H1 := by
      refine upto fun k hk ih H1 hs1 => hX _ _ (br_dec (fun hlt => ?_) fun hge => ?_)
      · have hk' : k < (w * h).toNat := by omega
        have m0 := Int.emod_nonneg (k : Int) (show w ≠ 0 by omega)
        have m1 := Int.emod_lt_of_pos (k : Int) (show 0 < w by omega)
        have m2 : 0 ≤ (k : Int) / w := Int.ediv_nonneg (by omega) (by omega)
        have m3 : (k : Int) / w < h := Int.ediv_lt_of_lt_mul (by omega) (by rw [Int.mul_comm]; omega)
        rw [Int.tmod_eq_emod_of_nonneg (by omega), Int.tdiv_eq_ediv_of_nonneg (by omega), wrap_id (n := (k : Int) / w) (by omega) (by omega)]
        have hget : (maskL w h (withinB l)).getD k 0 = if withinB l ((k : Int) % w) ((k : Int) / w) = true then 255 else 0 := by unfold maskL; rw [tab_getD hk']
        refine ⟨by omega, by omega, ?_⟩
        refine c100 (hl.ext hs1.ext) (by omega) (by omega) hsb.2 (by omega) (by omega) fun H15 he15 => ⟨_, rfl, br_i (fun ht => ?_) fun ht => ?_⟩
        · refine ⟨_, rfl, by omega, by omega, ?_⟩
          rw [show Int.toNat (k : Int) * 1 = k from Nat.mul_one k, add_none, Nat.zero_add]
          refine (hs1.step he15).slPut 0 rfl (by rw [kints_len, fillA_len (by omega)]; omega) rfl fun H18 hs18 => ?_
          rw [wrap_id (by omega) (by omega)]
          refine ih hk' H18 ?_
          rw [kints_set] at hs18
          rw [← fillA_set (by omega), hget, if_pos ht]
          exact hs18
        · rw [wrap_id (by omega) (by omega)]
          refine ih hk' H15 ?_
          rw [← fillA_set (by omega), hget, if_neg (by rw [ht]; exact Bool.false_ne_true), fillA_set0 (by omega)]
          exact hs1.step he15
      · have : k = (w * h).toNat := by omega
        subst this
        have hfa := fillA_all (maskL w h (withinB l))
        rw [hML] at hfa
        rw [hfa] at hs1
        exact h1 hsh ⟨some ⟨b9, 0, none⟩, (w * h).toNat, (w * h).toNat⟩ H1 hs1
    refine go 0 (Nat.zero_le _) H10 ?_
    rw [fillA_zero, hML]
    exact hs10

def maskF (w h : Int) (e : Ed) (f : LayF) : Int × LayF :=
  if e.n < 0 ∨ e.n > 2 then (32, f) else if e.n = 2 then (0, { f with mask := [] }) else if shapeB e.shape = false then (31, f) else
  (0, { f with mask := maskL w h fun x y => withinB e.shape x y != (e.n == 1) })

theorem c47 {b d : Nat} {e : Ed} {s : EdS} {K K0 : Sl3} {ks : List T} {w h next : Int} (hs : St H0 H (resRoot b K ks ++ (.cell d (docA w h next K0) 26 :: σ))) (hc : cntKs (layKs ks) ≤ 1000000000) (hed : rdEd H0 e s) (hsl : s.S.l ≤ 1000000000) (hsz : sizedB w h = true) (hR : Chg (maskF w h e) H0 (.cell d (docA w h next K0) 26 :: σ) R b ks e.id) :
    CallsH Try.prog 47 #[.agg (workL b d e s).toArray] H R := by
  refine Try.s47 ?_
  unfold Try.S47
  refine hs.alc fun b2 H3 hs3 => ⟨_, rfl, rowIn_whole (hs3.block 0 rfl), ?_⟩
  refine tgt hs3 (by omega) (fun hl H6 hs6 => ⟨_, _, rfl, ?_⟩) fun fr u K' ks' a H6 hl ha hs6 => ⟨_, _, rfl, ?_⟩
  · intro J hJ
    exact br_ne (fun _ => hR.none hl hs6.tail.app.2) fun h => absurd h (by decide)
  intro J hJ
  have bad : ∀ {v : Int} {H' : Heap}, maskF w h e fr.f = (v, fr.f) → v ≠ 0 → St H0 H' (.cell b2 (workL b d e s).toArray 86 :: (openR fr (u ++ [rootFr b]) K' ks' ++ (.cell d (docA w h next K0) 26 :: σ))) → R (.int .i64 v) H' := fun hg hv hs => hR.err hl hg hv hs.tail.app.2
  refine br_ne (fun h => absurd rfl h) fun _ => ?_
  refine ⟨_, hs6.get 0 rfl (j := 6) rfl, br_dec (fun c => bad (v := 32) (by unfold maskF; rw [if_pos (.inl c)]) (by decide) hs6) fun c1 => ?_⟩
  refine ⟨_, hs6.get 0 rfl (j := 6) rfl, br_dec (fun c => bad (v := 32) (by unfold maskF; rw [if_pos (.inr c)]) (by decide) hs6) fun c2 => ?_⟩
  have c1 : ¬ e.n < 0 := c1
  have c2 : ¬ e.n > 2 := c2
  refine ⟨_, hs6.get 0 rfl (j := 6) rfl, br_eq (fun hn2 => ⟨a, rfl, ?_⟩) fun hn2 => hJ _ ?_⟩
  · have hF : maskF w h e fr.f = (0, { fr.f with mask := [] }) := by unfold maskF; rw [if_neg (by omega), if_pos hn2]
    refine hs6.elPut 1 rfl (cellsKs_len fr.pre) (j := 8) (Nat.le_of_ble_eq_true rfl) rfl ha fun H14 hs14 => ?_
    refine hR.done hl (P := fr.P) (M := .nil) (A := fr.A) (K' := K') (ks' := ks') hF ?_
    refine (((hs14.nilSl 5 1).perm (τ := .cell b2 (workL b d e s).toArray 86 :: .sl fr.M.p fr.M.l fr.M.c 5 1 (kints .u8 fr.f.mask) :: (openR ⟨fr.hdr, fr.pre, { fr.f with mask := [] }, fr.P, .nil, fr.A, fr.post⟩ (u ++ [rootFr b]) K' ks' ++ (.cell d (docA w h next K0) 26 :: σ))) (permC fun _ x => ?_)).drop 2)
    show List.count x (.sl none 0 0 5 1 [] :: .cell b2 (workL b d e s).toArray 86 :: ((.sl fr.hdr.p fr.hdr.l fr.hdr.c 58 19 (cellsKs fr.pre ++ cellsL { fr.f with mask := [] } fr.P.v Sl3.nil.v fr.A.v K'.v ++ cellsKs fr.post) :: .sl fr.P.p fr.P.l fr.P.c 3 1 (ints fr.f.p) :: .sl fr.M.p fr.M.l fr.M.c 5 1 (kints .u8 fr.f.mask) :: .sl fr.A.p fr.A.l fr.A.c 3 1 (ints fr.f.params) ::
      .sl K'.p K'.l K'.c 58 19 (cellsKs ks') :: (resKs ks' ++ (resKs fr.pre ++ (resKs fr.post ++ resUp (u ++ [rootFr b]) fr.hdr)))) ++ (.cell d (docA w h next K0) 26 :: σ))) =
      List.count x (.cell b2 (workL b d e s).toArray 86 :: .sl fr.M.p fr.M.l fr.M.c 5 1 (kints .u8 fr.f.mask) :: ((.sl fr.hdr.p fr.hdr.l fr.hdr.c 58 19 (cellsKs fr.pre ++ cellsL { fr.f with mask := [] } fr.P.v Sl3.nil.v fr.A.v K'.v ++ cellsKs fr.post) :: .sl fr.P.p fr.P.l fr.P.c 3 1 (ints fr.f.p) :: .sl none 0 0 5 1 [] :: .sl fr.A.p fr.A.l fr.A.c 3 1 (ints fr.f.params) ::
      .sl K'.p K'.l K'.c 58 19 (cellsKs ks') :: (resKs ks' ++ (resKs fr.pre ++ (resKs fr.post ++ resUp (u ++ [rootFr b]) fr.hdr)))) ++ (.cell d (docA w h next K0) 26 :: σ)))
    simp only [List.count_append, List.count_cons]
    ac_rfl
  · have hn2 : e.n ≠ 2 := hn2
    have hF1 : ∀ x, maskF w h e fr.f = x ↔ (if shapeB e.shape = false then (31, fr.f) else (0, { fr.f with mask := maskL w h fun x y => withinB e.shape x y != (e.n == 1) })) = x := fun x => by
      unfold maskF; rw [if_neg (by omega), if_neg hn2]
    have hsd : ∀ {H' : Heap} {τ : List Rs}, St H0 H' (.cell b2 (workL b d e s).toArray 86 :: (τ ++ (.cell d (docA w h next K0) 26 :: σ))) → St H0 H' (.cell d (docA w h next K0) 26 :: .cell b2 (workL b d e s).toArray 86 :: (τ ++ σ)) := fun hs =>
      hs.perm (permC fun _ x => by simp only [List.count_append, List.count_cons]; ac_rfl)
    have hd6 := hsd hs6
    refine ⟨_, _, _, hs6.get 0 rfl (j := 13) rfl, _, hs6.get 0 rfl (j := 1) rfl, _, rfl, _, hd6.get 0 rfl (j := 0) rfl, _, hs6.get 0 rfl (j := 1) rfl, _, rfl, _, hd6.get 0 rfl (j := 1) rfl, ?_⟩
    refine c79 (hed.shape.ext hs6.ext) hsl hsz (fun hsh H19 he19 => ⟨_, _, _, _, rfl, br_ne (fun _ => ?_) fun h => absurd h (by decide)⟩) fun hsh m H19 hm19 => ⟨_, _, _, _, rfl, br_ne (fun h => absurd rfl h) fun _ => ?_⟩
    · exact bad (v := 31) ((hF1 _).2 (if_pos hsh)) (by decide) (hs6.step he19)
    · have hs19 := hs6.call hm19
      intro J2 hJ2
      have fin : ∀ H2, St H0 H2 ([.sl m.p m.l m.c 5 1 (kints .u8 (maskL w h fun x y => withinB e.shape x y != (e.n == 1)))] ++ (.cell b2 (workL b d e s).toArray 86 :: (openR fr (u ++ [rootFr b]) K' ks' ++ (.cell d (docA w h next K0) 26 :: σ)))) → J2 [] H2 := fun H2 hs2 => by
        refine hJ2 _ ⟨a, rfl, ?_⟩
        refine hs2.elPut 2 rfl (cellsKs_len fr.pre) (j := 8) (Nat.le_of_ble_eq_true rfl) rfl ha fun H14 hs14 => ?_
        refine hR.done hl (P := fr.P) (M := m) (A := fr.A) (K' := K') (ks' := ks') ((hF1 _).2 (if_neg (by rw [hsh]; simp))) ?_
        generalize hmk : (maskL w h fun x y => withinB e.shape x y != (e.n == 1)) = mk at hs14 ⊢
        refine ((hs14.perm (τ := .cell b2 (workL b d e s).toArray 86 :: .sl fr.M.p fr.M.l fr.M.c 5 1 (kints .u8 fr.f.mask) :: (openR ⟨fr.hdr, fr.pre, { fr.f with mask := mk }, fr.P, m, fr.A, fr.post⟩ (u ++ [rootFr b]) K' ks' ++ (.cell d (docA w h next K0) 26 :: σ))) (permC fun _ x => ?_)).drop 2)
        show List.count x (.sl m.p m.l m.c 5 1 (kints .u8 mk) :: .cell b2 (workL b d e s).toArray 86 :: ((.sl fr.hdr.p fr.hdr.l fr.hdr.c 58 19 (cellsKs fr.pre ++ cellsL { fr.f with mask := mk } fr.P.v m.v fr.A.v K'.v ++ cellsKs fr.post) :: .sl fr.P.p fr.P.l fr.P.c 3 1 (ints fr.f.p) :: .sl fr.M.p fr.M.l fr.M.c 5 1 (kints .u8 fr.f.mask) :: .sl fr.A.p fr.A.l fr.A.c 3 1 (ints fr.f.params) ::
          .sl K'.p K'.l K'.c 58 19 (cellsKs ks') :: (resKs ks' ++ (resKs fr.pre ++ (resKs fr.post ++ resUp (u ++ [rootFr b]) fr.hdr)))) ++ (.cell d (docA w h next K0) 26 :: σ))) =
          List.count x (.cell b2 (workL b d e s).toArray 86 :: .sl fr.M.p fr.M.l fr.M.c 5 1 (kints .u8 fr.f.mask) :: ((.sl fr.hdr.p fr.hdr.l fr.hdr.c 58 19 (cellsKs fr.pre ++ cellsL { fr.f with mask := mk } fr.P.v m.v fr.A.v K'.v ++ cellsKs fr.post) :: .sl fr.P.p fr.P.l fr.P.c 3 1 (ints fr.f.p) :: .sl m.p m.l m.c 5 1 (kints .u8 mk) :: .sl fr.A.p fr.A.l fr.A.c 3 1 (ints fr.f.params) ::
          .sl K'.p K'.l K'.c 58 19 (cellsKs ks') :: (resKs ks' ++ (resKs fr.pre ++ (resKs fr.post ++ resUp (u ++ [rootFr b]) fr.hdr)))) ++ (.cell d (docA w h next K0) 26 :: σ)))
        simp only [List.count_append, List.count_cons]
        ac_rfl
      refine ⟨_, hs19.get 1 rfl (j := 6) rfl, br_eq (fun hn1 => ?_) fun hn1 => ?_⟩
      · have hn1 : e.n = 1 := hn1
        intro X hX
        have hML : (maskL w h (withinB e.shape)).length = (w * h).toNat := by simp [maskL]
        have hml : m.l = (w * h).toNat := by have := (hs19.fs 0 rfl).len; rw [kints_len, hML] at this; omega
        obtain ⟨q1, q2, q3, q4, q5⟩ := of_decide_eq_true hsz
        have hpos : 0 ≤ w * h := Int.mul_nonneg (by omega) (by omega)
        -- turned up to k
        have go : ∀ k, k ≤ (w * h).toNat → ∀ H2 (L : List Int), L.length = (w * h).toNat → (∀ i, i < (w * h).toNat → L.getD i 0 = if i < k then 255 - (maskL w h (withinB e.shape)).getD i 0 else (maskL w h (withinB e.shape)).getD i 0) →
            St H0 H2 ([.sl m.p m.l m.c 5 1 (kints .u8 L)] ++ (.cell b2 (workL b d e s).toArray 86 :: (openR fr (u ++ [rootFr b]) K' ks' ++ (.cell d (docA w h next K0) 26 :: σ)))) → X [.int .i64 (k : Nat)] H2 := by
          refine upto fun k hk ih H2 L hL hLv hs2 => hX _ _ (br_dec (fun hlt => ?_) fun hge => ?_)
          · have hk' : k < (w * h).toNat := by omega
            obtain ⟨blk, hblk⟩ := hs2.slSome 0 rfl (j := k) (by rw [kints_len]; omega)
            have hget : L[k]? = some (L.getD k 0) := getD_some L 0 (by omega)
            have hv := hLv k hk'
            rw [if_neg (by omega)] at hv
            have hmv : (maskL w h (withinB e.shape)).getD k 0 = 0 ∨ (maskL w h (withinB e.shape)).getD k 0 = 255 := by
              unfold maskL; rw [tab_getD hk']; split <;> simp
            have hb2 : St H0 H2 ((.sl (some ⟨blk, 0, none⟩) m.l m.c 5 1 (kints .u8 L)) :: (.cell b2 (workL b d e s).toArray 86 :: (openR fr (u ++ [rootFr b]) K' ks' ++ (.cell d (docA w h next K0) 26 :: σ)))) := by rw [← hblk]; exact hs2
            refine IS.rd (i := (k : Int)) (hs2.is 0 rfl) (by omega) (by omega) (x := L.getD k 0) hget ⟨⟨blk, 0, none⟩, hblk, by omega, hlt, ?_⟩
            rw [show Int.toNat (k : Int) * 1 = k from Nat.mul_one k, add_none, Nat.zero_add, wrap_u8 (by omega) (by omega)]
            refine hb2.slPut 0 rfl (by rw [kints_len]; omega) rfl fun H3 hs3 => ?_
            rw [wrap_id (by omega) (by omega)]
            rw [kints_set] at hs3
            refine ih hk' H3 (L.set k (255 - L.getD k 0)) (by rw [List.length_set]; exact hL) (fun i hi => ?_) (by rw [hblk]; exact hs3)
            rw [List.getD_eq_getElem?_getD, List.getElem?_set]
            by_cases hik : k = i
            · subst hik
              rw [if_pos rfl, if_pos (by omega), if_pos (by omega), hv]; rfl
            · rw [if_neg hik, ← List.getD_eq_getElem?_getD, hLv i hi]
              by_cases h1 : i < k
              · rw [if_pos h1, if_pos (by omega)]
              · rw [if_neg h1, if_neg (by omega)]
          · have : k = (w * h).toNat := by omega
            subst this
            refine fin H2 ?_
            have : L = maskL w h fun x y => withinB e.shape x y != (e.n == 1) := by
              apply List.ext_getElem?
              intro i
              by_cases hi : i < (w * h).toNat
              · rw [getD_some L 0 (by omega), hLv i hi, if_pos hi]
                unfold maskL
                rw [tab_getD hi, tab_get hi, hn1]
                have : ∀ t : Bool, some (255 - (if t = true then (255 : Int) else 0)) = some (if (t != ((1 : Int) == 1)) = true then 255 else 0) := by intro t; cases t <;> rfl
                exact this _
              · rw [List.getElem?_eq_none (by omega), List.getElem?_eq_none (by simp [maskL]; omega)]
            rw [← this]
            exact hs2
        refine go 0 (Nat.zero_le _) H19 _ hML (fun i hi => by rw [if_neg (Nat.not_lt_zero _)]) hs19
      · have hn1 : e.n ≠ 1 := hn1
        refine fin H19 ?_
        have : maskL w h (withinB e.shape) = maskL w h fun x y => withinB e.shape x y != (e.n == 1) := by
          congr 1
          funext x y
          rw [show (e.n == 1) = false from by simpa using hn1]
          simp
        rw [← this]
        exact hs19

end Go.Proofs

/-
  OWN WORK. (Printed by mkBack.py.) The back map: the program's and the document's.
-/
set_option linter.unusedVariables false
set_option linter.unusedSimpArgs false
set_option maxRecDepth 10000
namespace Go.Proofs
open Go.Sh
variable {H0 H : Heap} {σ : List Rs} {R : Value → Heap → Prop}

def mostM (i : Nat) : Int := if 4 ≤ i then 68719476736 else 16777216
def inM (m : M6) (i : Nat) : Bool := decide (-(mostM i) ≤ m.l.getD i 0 ∧ m.l.getD i 0 ≤ mostM i)
def rightM (m : M6) : Bool := (List.range 6).all (inM m)
theorem rightM_iff (m : M6) : rightM m = true ↔ ((-16777216 ≤ m.a ∧ m.a ≤ 16777216) ∧ (-16777216 ≤ m.b ∧ m.b ≤ 16777216) ∧ (-16777216 ≤ m.c ∧ m.c ≤ 16777216) ∧ (-16777216 ≤ m.d ∧ m.d ≤ 16777216) ∧ (-68719476736 ≤ m.e ∧ m.e ≤ 68719476736) ∧ (-68719476736 ≤ m.f ∧ m.f ≤ 68719476736)) := by
  have : rightM m = (inM m 0 && (inM m 1 && (inM m 2 && (inM m 3 && (inM m 4 && (inM m 5 && true)))))) := rfl
  rw [this]
  simp only [Bool.and_eq_true, inM, decide_eq_true_eq, and_true]
  exact Iff.rfl
def roundM (n m : Int) : Int := if m < 0 then (2 * -n + -m) / (2 * -m) else (2 * n + m) / (2 * m)
def nearM (n : Int) : Int := (n + 32768) / 65536
/-- The back map, plain: the error, and the map. -/
def backR (m : M6) : M6 := ⟨roundM (m.d * 4294967296) (m.a * m.d - m.b * m.c), roundM (-m.b * 4294967296) (m.a * m.d - m.b * m.c), roundM (-m.c * 4294967296) (m.a * m.d - m.b * m.c), roundM (m.a * 4294967296) (m.a * m.d - m.b * m.c), 0, 0⟩
def backS (m : M6) : M6 := { backR m with e := nearM (-((backR m).a * m.e + (backR m).b * m.f)), f := nearM (-((backR m).c * m.e + (backR m).d * m.f)) }
def zeroM : M6 := ⟨0, 0, 0, 0, 0, 0⟩
def backM (m : M6) : Int × M6 :=
  if rightM m = false then (31, zeroM) else if m.a * m.d - m.b * m.c = 0 then (33, zeroM) else if rightM (backR m) = false then (33, zeroM) else if rightM (backS m) = false then (33, zeroM) else (0, backS m)

theorem floor_t {n m : Int} (hm : 0 < m) : n / m = if n.tmod m ≠ 0 ∧ n < 0 then n.tdiv m - 1 else n.tdiv m := by
  rw [Int.tdiv_eq_ediv]
  have h1 : n.tmod m = 0 ↔ m ∣ n := ⟨Int.dvd_of_tmod_eq_zero, Int.tmod_eq_zero_of_dvd⟩
  by_cases h : 0 ≤ n ∨ m ∣ n
  · rw [if_pos h, if_neg (fun hh => by rcases h with h | h; omega; exact hh.1 (h1.2 h))]; omega
  · have h2 : ¬ 0 ≤ n := fun hh => h (.inl hh)
    have h3 : ¬ m ∣ n := fun hh => h (.inr hh)
    rw [if_neg h, if_pos ⟨fun hh => h3 (h1.1 hh), by omega⟩, Int.sign_eq_one_of_pos hm]; omega
theorem tdiv_bd {n m B : Int} (hm : 0 < m) (hn : -B ≤ n ∧ n ≤ B) : -B ≤ n.tdiv m ∧ n.tdiv m ≤ B := by
  have h := Int.natAbs_tdiv n m
  have h2 : n.natAbs / m.natAbs ≤ n.natAbs := Nat.div_le_self _ _
  have h3 : (n.tdiv m).natAbs = n.natAbs / m.natAbs := h
  omega

theorem c115 {n m : Int} (hm : 0 < m) (hn : -4611686018427387904 ≤ n ∧ n ≤ 4611686018427387904) (hR : R (.int .i64 (n / m)) H) : CallsH Try.prog 115 #[.int .i64 n, .int .i64 m] H R := by
  refine Try.s115 ⟨by omega, ?_⟩
  intro J hJ
  have hb := tdiv_bd hm hn
  rw [wrap_id (n := n.tdiv m) (by omega) (by omega), wrap_id (n := n.tdiv m - 1) (by omega) (by omega)]
  rw [floor_t hm] at hR
  refine ⟨by omega, br_ne (fun h0 => ?_) fun h0 => ?_⟩
  · rw [show decide (m < 0) = false from decide_eq_false (by omega)]
    by_cases hn0 : n < 0
    · rw [if_pos ⟨h0, hn0⟩] at hR
      exact br_t (by rw [decide_eq_true hn0]; rfl) (hJ _ _ hR)
    · rw [if_neg fun hh => hn0 hh.2] at hR
      exact br_f (by rw [decide_eq_false hn0]; rfl) (hJ _ _ hR)
  · rw [if_neg fun hh => hh.1 h0] at hR
    exact hJ _ _ hR
theorem c102 {n m : Int} (hm : m ≠ 0) (hm2 : -2251799813685248 ≤ m ∧ m ≤ 2251799813685248) (hn : -144115188075855872 ≤ n ∧ n ≤ 144115188075855872) (hR : R (.int .i64 (roundM n m)) H) : CallsH Try.prog 102 #[.int .i64 n, .int .i64 m] H R := by
  refine Try.s102 ?_
  unfold Try.S102
  intro J hJ
  refine br_dec (fun h => hJ _ _ _ ?_) fun h => hJ _ _ _ ?_
  · rw [wrap_id (n := 0 - n) (by omega) (by omega), wrap_id (n := 0 - m) (by omega) (by omega), wrap_id (n := 2 * (0 - n)) (by omega) (by omega), wrap_id (n := 2 * (0 - n) + (0 - m)) (by omega) (by omega), wrap_id (n := 2 * (0 - m)) (by omega) (by omega)]
    refine c115 (by omega) (by omega) ⟨_, rfl, ?_⟩
    unfold roundM at hR
    rw [if_pos h] at hR
    rw [Int.zero_sub, Int.zero_sub]; exact hR
  · rw [wrap_id (n := 2 * n) (by omega) (by omega), wrap_id (n := 2 * n + m) (by omega) (by omega), wrap_id (n := 2 * m) (by omega) (by omega)]
    refine c115 (by omega) (by omega) ⟨_, rfl, ?_⟩
    unfold roundM at hR
    rw [if_neg h] at hR
    exact hR
theorem c103 {n : Int} (hn : -4611686018427387904 ≤ n ∧ n ≤ 4611686018427387904) (hR : R (.int .i64 (nearM n)) H) : CallsH Try.prog 103 #[.int .i64 n] H R := by
  refine Try.s103 ⟨by decide, ?_⟩
  rw [wrap_id (by omega) (by omega), shr16']
  exact hR
theorem c101 {m : M6} (hR : ∀ H', Ext H H' → R (.bool (rightM m)) H') : CallsH Try.prog 101 #[.agg (ints m.l).toArray] H R := by
  refine Try.s101 ?_
  unfold Try.S101
  refine (St.nil H).alcE fun b2 H3 he3 hs3 => ⟨_, rfl, rowIn_whole (hs3.block 0 rfl), ?_⟩
  intro X hX
  have go : ∀ k, k ≤ 6 → (List.range k).all (inM m) = true → X [.int .i64 (k : Nat)] H3 := by
    refine upto fun k hk ih hall => hX _ _ (br_dec (fun hlt => ?_) fun hge => ?_)
    · have hk' : k < 6 := by omega
      have hget : (ints m.l).toArray[Int.toNat (k : Int) * 1]? = some (.int .i64 (m.l.getD k 0)) := by
        rw [show Int.toNat (k : Int) * 1 = k from Nat.mul_one k, List.getElem?_toArray]
        exact ints_get (getD_some m.l 0 (show k < 6 from hk'))
      refine ⟨by omega, by omega, _, hget, ?_⟩
      intro J hJ
      have main : ∀ most, most = mostM k → J [.int .i64 most] H3 := fun most hmo => by
        have hmr : 0 ≤ most ∧ most ≤ 68719476736 := by rw [hmo]; unfold mostM; split <;> omega
        refine hJ _ _ ?_
        rw [wrap_id (n := 0 - most) (by omega) (by omega), Int.zero_sub]
        have bad : ¬ (inM m k = true) → R (.bool false) H3 := fun hb => by
          have := hR H3 he3
          rw [show rightM m = false from by
            rw [Bool.eq_false_iff]; intro hh
            exact hb (List.all_eq_true.1 hh k (List.mem_range.2 hk'))] at this
          exact this
        refine br_dec (fun h1 => bad fun hh => ?_) fun h1 => br_dec (fun h2 => bad fun hh => ?_) fun h2 => ?_
        · have := of_decide_eq_true hh; rw [← hmo] at this; omega
        · have := of_decide_eq_true hh; rw [← hmo] at this; omega
        · rw [wrap_id (by omega) (by omega)]
          refine ih hk' ?_
          rw [List.range_succ, List.all_append, hall, Bool.true_and, List.all_cons, List.all_nil, Bool.and_true]
          exact decide_eq_true (by rw [← hmo]; omega)
      exact br_dec (fun h => main _ (by unfold mostM; rw [if_pos (by omega)])) fun h => main _ (by unfold mostM; rw [if_neg (by omega)])
    · have : k = 6 := by omega
      subst this
      have := hR H3 he3
      rw [show rightM m = true from hall] at this
      exact this
  exact go 0 (by omega) rfl

theorem c109 {n m : Int} (hm : 0 < m) (hm2 : m ≤ 4503599627370496) (hn : -4611686018427387904 ≤ n ∧ n ≤ 4611686018427387904) (hR : R (.int .i64 (n / m)) H) : CallsH Try.prog 109 #[.int .i64 n, .int .i64 m] H R := by
  refine Try.s109 ⟨by omega, ?_⟩
  intro J hJ
  have e0 := Int.emod_nonneg n (show m ≠ 0 by omega)
  have e1 := Int.emod_lt_of_pos n hm
  have e2 := Int.emod_add_mul_ediv n m
  have main : ∀ r, r = n % m → J [.int .i64 r] H := fun r hr => by
    refine hJ _ _ ⟨by omega, ?_⟩
    rw [wrap_id (n := n - r) (by omega) (by omega)]
    have hd : (n - r).tdiv m = n / m := by
      rw [hr, show n - n % m = m * (n / m) from by omega, Int.mul_tdiv_cancel_left _ (by omega)]
    have hb : -4611686018427387904 ≤ n / m ∧ n / m ≤ 4611686018427387904 := by
      have h1 := floor_t (n := n) hm
      have h2 := tdiv_bd hm hn
      refine ⟨?_, ?_⟩
      · refine (Int.le_ediv_iff_mul_le hm).2 ?_
        have : 4611686018427387904 * 1 ≤ 4611686018427387904 * m := Int.mul_le_mul_of_nonneg_left (by omega) (by omega)
        rw [Int.neg_mul]; omega
      · rw [h1]; split <;> omega
    rw [hd, wrap_id (by omega) (by omega)]
    exact hR
  have ht : n.tmod m = if 0 ≤ n ∨ m ∣ n then n % m else n % m - m := by
    rw [Int.tmod_eq_emod]
    by_cases h : 0 ≤ n ∨ m ∣ n
    · rw [if_pos h, if_pos h]; omega
    · rw [if_neg h, if_neg h, Int.natAbs_of_nonneg (by omega)]
  refine br_dec (fun h => ?_) fun h => ?_
  · rw [wrap_id (by omega) (by omega)]
    refine main _ ?_
    rw [ht] at h ⊢
    split at h
    · omega
    · rename_i hc; rw [if_neg hc]; omega
  · refine main _ ?_
    rw [ht] at h ⊢
    split at h
    · rename_i hc; rw [if_pos hc]
    · omega
theorem c93 {n m : Int} (hm : m ≠ 0) (hm2 : -2251799813685248 ≤ m ∧ m ≤ 2251799813685248) (hn : -144115188075855872 ≤ n ∧ n ≤ 144115188075855872) (hR : R (.int .i64 (roundM n m)) H) : CallsH Try.prog 93 #[.int .i64 n, .int .i64 m] H R := by
  refine Try.s93 (br_dec (fun h => ?_) fun h => ?_)
  · rw [wrap_id (n := -2 * n) (by omega) (by omega), wrap_id (n := -2 * n - m) (by omega) (by omega), wrap_id (n := -2 * m) (by omega) (by omega)]
    refine c109 (by omega) (by omega) (by omega) ⟨_, rfl, ?_⟩
    unfold roundM at hR
    rw [if_pos h] at hR
    rw [show -2 * n - m = 2 * -n + -m from by omega, show -2 * m = 2 * -m from by omega]; exact hR
  · rw [wrap_id (n := 2 * n) (by omega) (by omega), wrap_id (n := 2 * n + m) (by omega) (by omega), wrap_id (n := 2 * m) (by omega) (by omega)]
    refine c109 (by omega) (by omega) (by omega) ⟨_, rfl, ?_⟩
    unfold roundM at hR
    rw [if_neg h] at hR
    exact hR
theorem c94 {n : Int} (hn : -2611686018427387904 ≤ n ∧ n ≤ 2611686018427387904) (hR : R (.int .i64 (nearM n)) H) : CallsH Try.prog 94 #[.int .i64 n] H R := by
  refine Try.s94 ?_
  unfold Try.S94
  rw [wrap_id (by omega) (by omega)]
  exact c109 (by decide) (by decide) (by omega) ⟨_, rfl, hR⟩
theorem c92 {m : M6} (hR : ∀ H', Ext H H' → R (.bool (rightM m)) H') : CallsH Try.prog 92 #[.agg (ints m.l).toArray] H R := by
  refine Try.s92 ?_
  unfold Try.S92
  refine (St.nil H).alcE fun b2 H3 he3 hs3 => ?_
  have bad : ∀ k, k < 6 → ¬ (inM m k = true) → R (.bool false) H3 := fun k hk hb => by
    have := hR H3 he3
    rw [show rightM m = false from by
      rw [Bool.eq_false_iff]; intro hh
      exact hb (List.all_eq_true.1 hh k (List.mem_range.2 hk))] at this
    exact this
  have hget : ∀ k : Nat, k < 6 → Sh.cell H3 (Addr.add ⟨b2, 0, none⟩ (Int.toNat (k : Int) * 1)) = some (.int .i64 (m.l.getD k 0)) := fun k hk => by
    rw [show Int.toNat (k : Int) * 1 = k from Nat.mul_one k, add_none, Nat.zero_add]
    exact hs3.rdA 0 rfl (getD_some m.l 0 (show k < 6 from hk))
  intro X hX
  have more : ∀ k, k < 6 → (List.range k).all (inM m) = true → (-(mostM k) ≤ m.l.getD k 0 ∧ m.l.getD k 0 ≤ mostM k) → (List.range (k + 1)).all (inM m) = true := fun k hk hall hb => by
    rw [List.range_succ, List.all_append, hall, Bool.true_and, List.all_cons, List.all_nil, Bool.and_true]
    exact decide_eq_true hb
  have two : (List.range 4).all (inM m) = true → ∀ (X9 : List Value → Heap → Prop), (∀ i10 : Int, ∀ H_11 : Heap, (br (decide ((i10 : Int) < (6 : Int)))
 (0 ≤ i10 ∧ i10 < ((6 : Nat) : Int) ∧ ∃ v12 : Int, cell H_11 (Addr.add ⟨b2, 0, none⟩ (Int.toNat i10 * 1)) = some (Value.int .i64 v12) ∧ br (decide ((v12 : Int) < (-68719476736 : Int))) (R (Value.bool false) H_11) (0 ≤ i10 ∧ i10 < ((6 : Nat) : Int) ∧ ∃ v13 : Int, cell H_11 (Addr.add ⟨b2, 0, none⟩ (Int.toNat i10 * 1)) = some (Value.int .i64 v13) ∧ br (decide ((v13 : Int) > (68719476736 : Int)))
 (R (Value.bool false) H_11)
 (X9 [Value.int .i64 (IntKind.wrap .i64 (i10 + (1 : Int)))] H_11)))
 (R (Value.bool true) H_11)) → X9 [Value.int .i64 i10] H_11) → X9 [Value.int .i64 (4 : Int)] H3 := by
    intro h4 X9 hX9
    have go9 : ∀ k, k ≤ 6 → 4 ≤ k → (List.range k).all (inM m) = true → X9 [.int .i64 (k : Nat)] H3 := by
      refine upto fun k hk ih h4 hall => hX9 _ _ (br_dec (fun hlt => ?_) fun hge => ?_)
      · have hk' : k < 6 := by omega
        have hmo : mostM k = 68719476736 := by unfold mostM; rw [if_pos h4]
        refine ⟨by omega, by omega, _, hget k hk', br_dec (fun h1 => bad k hk' fun hh => ?_) fun h1 => ⟨by omega, by omega, _, hget k hk', br_dec (fun h2 => bad k hk' fun hh => ?_) fun h2 => ?_⟩⟩
        · have := of_decide_eq_true hh; rw [hmo] at this; omega
        · have := of_decide_eq_true hh; rw [hmo] at this; omega
        · rw [wrap_id (by omega) (by omega)]
          exact ih hk' (by omega) (more k hk' hall (by rw [hmo]; omega))
      · have : k = 6 := by omega
        subst this
        have := hR H3 he3
        rw [show rightM m = true from hall] at this
        exact this
    exact go9 4 (by omega) (Nat.le_refl _) h4
  have go : ∀ k, k ≤ 4 → (List.range k).all (inM m) = true → X [.int .i64 (k : Nat)] H3 := by
    refine upto fun k hk ih hall => hX _ _ (br_dec (fun hlt => ?_) fun hge => ?_)
    · have hk' : k < 4 := by omega
      have hmo : mostM k = 16777216 := by unfold mostM; rw [if_neg (by omega)]
      refine ⟨by omega, by omega, _, hget k (by omega), br_dec (fun h1 => bad k (by omega) fun hh => ?_) fun h1 => ⟨by omega, by omega, _, hget k (by omega), br_dec (fun h2 => bad k (by omega) fun hh => ?_) fun h2 => ?_⟩⟩
      · have := of_decide_eq_true hh; rw [hmo] at this; omega
      · have := of_decide_eq_true hh; rw [hmo] at this; omega
      · rw [wrap_id (by omega) (by omega)]
        exact ih hk' (more k (by omega) hall (by rw [hmo]; omega))
    · have : k = 4 := by omega
      subst this
      intro X9 hX9
      exact two hall X9 hX9
  exact go 0 (by omega) rfl

theorem shl32 {x : Int} (h : -16777216 ≤ x ∧ x ≤ 16777216) : shlI .i64 x (32 : Int) = x * 4294967296 := by
  unfold shlI
  rw [show min (32 : Int).toNat (IntKind.bits .i64) = 32 from rfl, show (2 : Int) ^ 32 = 4294967296 from rfl]
  exact wrap_id (by omega) (by omega)

theorem c80 {m : M6} (hR : ∀ H', Ext H H' → R (.tuple #[.agg (ints (backM m).2.l).toArray, .int .i64 (backM m).1]) H') : CallsH Try.prog 80 #[.agg (ints m.l).toArray] H R := by
  refine Try.s80 ?_
  unfold Try.S80
  refine (St.nil H).alc fun b2 H3 hs3 => hs3.alc fun b4 H5 hs5 => ⟨_, rfl, rowIn_whole (hs5.block 1 rfl), ?_⟩
  refine c101 fun H8 he8 => ⟨_, rfl, ?_⟩
  have hs8 := hs5.step he8
  have zero : ∀ {v : Int} {H1 : Heap}, backM m = (v, zeroM) → ∀ (i : Nat) {τ : List Rs} {cs : Array Value}, τ[i]? = some (.cell b4 cs 41) → cs.size = 6 → St H H1 τ →
      (#[Value.int .i64 0, Value.int .i64 0, Value.int .i64 0, Value.int .i64 0, Value.int .i64 0, Value.int .i64 0].size = 6 ∧ stAt H1 ⟨b4, 0, none⟩ (Array.toList #[Value.int .i64 0, Value.int .i64 0, Value.int .i64 0, Value.int .i64 0, Value.int .i64 0, Value.int .i64 0]) fun H_10 => ∃ res11 : Array Value, res11.size = 6 ∧ rowIn H_10 ⟨b4, 0, none⟩ res11 ∧ R (Value.tuple #[Value.agg res11, Value.int .i64 v]) H_10) := fun {v H1} hb i {τ cs} hi hcs hs =>
    ⟨rfl, hs.putAll i hi (by rw [hcs]; rfl) (by simp [Value.oneCell']) fun H9 hs9 => ⟨(ints zeroM.l).toArray, rfl, rowIn_whole (hs9.block i (by rw [List.getElem?_set_self (List.getElem?_eq_some_iff.1 hi).1]; rfl)), by
      have := hR H9 hs9.ext
      rw [hb] at this; exact this⟩⟩
  refine br_not (fun hr => zero (by unfold backM; rw [if_pos hr]) 0 rfl rfl hs8) fun hr => ?_
  obtain ⟨ba, bb, bc, bd, be, bf⟩ := (rightM_iff m).1 hr
  have hB1 : backM m = (if m.a * m.d - m.b * m.c = 0 then (33, zeroM) else if rightM (backR m) = false then (33, zeroM) else if rightM (backS m) = false then (33, zeroM) else (0, backS m)) := by
    unfold backM; rw [if_neg (by rw [hr]; simp)]
  have p1 := mul_bd ba bd
  have p2 := mul_bd bb bc
  refine ⟨by decide, by decide, m.a, hs8.rdA 1 (j := 0) rfl rfl, by decide, by decide, m.d, hs8.rdA 1 (j := 3) rfl rfl, by decide, by decide, m.b, hs8.rdA 1 (j := 1) rfl rfl, by decide, by decide, m.c, hs8.rdA 1 (j := 2) rfl rfl, ?_⟩
  rw [wrap_id (n := m.a * m.d) (by omega) (by omega), wrap_id (n := m.b * m.c) (by omega) (by omega), wrap_id (n := m.a * m.d - m.b * m.c) (by omega) (by omega)]
  refine br_eq (fun hd => zero (by rw [hB1, if_pos hd]) 0 rfl rfl hs8) fun hd => ?_
  rw [if_neg hd] at hB1
  intro J hJ
  have main : ∀ ob H20 (τ : List Rs), St H H20 (.cell ob (ints (backR m).l).toArray 41 :: .cell b4 (ints zeroM.l).toArray 41 :: .cell b2 (ints m.l).toArray 41 :: []) → J [.pointer (some ⟨ob, 0, none⟩)] H20 := fun ob H20 τ hs20 => by
    refine hJ _ _ ⟨_, rfl, rowIn_whole (hs20.block 0 rfl), ?_⟩
    refine c101 fun H23 he23 => ⟨_, rfl, ?_⟩
    have hs23 := hs20.step he23
    refine br_not (fun hr1 => zero (by rw [hB1, if_pos hr1]) 1 rfl rfl hs23) fun hr1 => ?_
    rw [if_neg (by rw [hr1]; simp)] at hB1
    obtain ⟨ra, rb, rc, rd, _, _⟩ := (rightM_iff (backR m)).1 hr1
    have q1 := mul_bd ra be
    have q2 := mul_bd rb bf
    have q3 := mul_bd rc be
    have q4 := mul_bd rd bf
    refine ⟨by decide, by decide, (backR m).a, hs23.rdA 0 (j := 0) rfl rfl, by decide, by decide, m.e, hs23.rdA 2 (j := 4) rfl rfl, by decide, by decide, (backR m).b, hs23.rdA 0 (j := 1) rfl rfl, by decide, by decide, m.f, hs23.rdA 2 (j := 5) rfl rfl, ?_⟩
    rw [wrap_id (n := (backR m).a * m.e) (by omega) (by omega), wrap_id (n := (backR m).b * m.f) (by omega) (by omega), wrap_id (n := (backR m).a * m.e + (backR m).b * m.f) (by omega) (by omega), wrap_id (n := 0 - ((backR m).a * m.e + (backR m).b * m.f)) (by omega) (by omega), Int.zero_sub]
    refine c103 (by omega) ⟨_, rfl, by decide, by decide, ?_⟩
    refine hs23.putA 0 (j := 4) rfl (Nat.le_of_ble_eq_true rfl) fun H34 hs34 => ⟨by decide, by decide, (backR m).c, hs34.rdA 0 (j := 2) rfl rfl, by decide, by decide, m.e, hs34.rdA 2 (j := 4) rfl rfl, by decide, by decide, (backR m).d, hs34.rdA 0 (j := 3) rfl rfl, by decide, by decide, m.f, hs34.rdA 2 (j := 5) rfl rfl, ?_⟩
    rw [wrap_id (n := (backR m).c * m.e) (by omega) (by omega), wrap_id (n := (backR m).d * m.f) (by omega) (by omega), wrap_id (n := (backR m).c * m.e + (backR m).d * m.f) (by omega) (by omega), wrap_id (n := 0 - ((backR m).c * m.e + (backR m).d * m.f)) (by omega) (by omega), Int.zero_sub]
    refine c103 (by omega) ⟨_, rfl, by decide, by decide, ?_⟩
    refine hs34.putA 0 (j := 5) rfl (Nat.le_of_ble_eq_true rfl) fun H42 hs42 => ?_
    have hs42 : St H H42 (.cell ob (ints (backS m).l).toArray 41 :: .cell b4 (ints zeroM.l).toArray 41 :: .cell b2 (ints m.l).toArray 41 :: []) := hs42
    refine ⟨_, rfl, rowIn_whole (hs42.block 0 rfl), ?_⟩
    refine c101 fun H45 he45 => ⟨_, rfl, ?_⟩
    have hs45 := hs42.step he45
    refine br_not (fun hr2 => zero (by rw [hB1, if_pos hr2]) 1 rfl rfl hs45) fun hr2 => ?_
    rw [if_neg (by rw [hr2]; simp)] at hB1
    refine ⟨_, ?_, rowIn_whole (hs45.block 0 rfl), ?_, ?_⟩
    · rfl
    · rfl
    refine hs45.putAllA 1 (l := (backS m).l) rfl rfl fun H50 hs50 => ⟨_, rfl, rowIn_whole (hs50.block 1 rfl), ?_⟩
    have := hR H50 hs50.ext
    rw [hB1] at this
    exact this
  refine ⟨by decide, by decide, m.d, hs8.rdA 1 (j := 3) rfl rfl, by decide, by decide, by decide, m.b, hs8.rdA 1 (j := 1) rfl rfl, by decide, by decide, by decide, m.c, hs8.rdA 1 (j := 2) rfl rfl, by decide, by decide, by decide, m.a, hs8.rdA 1 (j := 0) rfl rfl, by decide, ?_⟩
  rw [wrap_id (n := 0 - m.b) (by omega) (by omega), wrap_id (n := 0 - m.c) (by omega) (by omega), Int.zero_sub, Int.zero_sub]
  rw [shl32 bd, shl32 (x := -m.b) (by omega), shl32 (x := -m.c) (by omega), shl32 ba]
  have put : ∀ {ob : Nat} {H1 : Heap}, St H H1 (.cell ob (ints zeroM.l).toArray 41 :: .cell b4 (ints zeroM.l).toArray 41 :: .cell b2 (ints m.l).toArray 41 :: []) →
      stAt H1 ⟨ob, 0, none⟩ (Array.toList (ints (backR m).l).toArray) fun H_70 => J [Value.pointer (some ⟨ob, 0, none⟩)] H_70 := fun {ob H1} hs => hs.putAllA 0 (l := (backR m).l) rfl rfl fun H2 hs2 => main ob H2 [] hs2
  have k1 : -144115188075855872 ≤ m.d * 4294967296 ∧ m.d * 4294967296 ≤ 144115188075855872 := by omega
  have k2 : -144115188075855872 ≤ -m.b * 4294967296 ∧ -m.b * 4294967296 ≤ 144115188075855872 := by omega
  have k3 : -144115188075855872 ≤ -m.c * 4294967296 ∧ -m.c * 4294967296 ≤ 144115188075855872 := by omega
  have k4 : -144115188075855872 ≤ m.a * 4294967296 ∧ m.a * 4294967296 ≤ 144115188075855872 := by omega
  have hdb : -2251799813685248 ≤ m.a * m.d - m.b * m.c ∧ m.a * m.d - m.b * m.c ≤ 2251799813685248 := by omega
  have rf : ∀ {H1 : Heap}, Ext H1 H1 := fun {H1} => Ext.refl H1
  refine ⟨c102 hd hdb k1 ⟨_, rfl, .inl rf, ⟨c102 hd hdb k2 ⟨_, rfl, .inl rf, ⟨c102 hd hdb k3 ⟨_, rfl, .inl rf, ⟨c102 hd hdb k4 ⟨_, rfl, hs8.alc fun b68 H69 hs69 => ⟨rfl, put hs69⟩⟩, ?_⟩⟩, ?_⟩⟩, ?_⟩⟩, ?_⟩
  · exact hs8.alcE fun b71 H72 he72 hs72 => ⟨.inl he72, c102 hd hdb k4 ⟨_, rfl, rfl, put hs72⟩⟩
  · exact hs8.alcE fun b71 H72 he72 hs72 => ⟨.inl he72, c102 hd hdb k3 ⟨_, rfl, .inl rf, c102 hd hdb k4 ⟨_, rfl, rfl, put hs72⟩⟩⟩
  · exact hs8.alcE fun b71 H72 he72 hs72 => ⟨.inl he72, c102 hd hdb k2 ⟨_, rfl, .inl rf, c102 hd hdb k3 ⟨_, rfl, .inl rf, c102 hd hdb k4 ⟨_, rfl, rfl, put hs72⟩⟩⟩⟩
  · exact hs8.alcE fun b71 H72 he72 hs72 => ⟨.inl he72, c102 hd hdb k1 ⟨_, rfl, .inl rf, c102 hd hdb k2 ⟨_, rfl, .inl rf, c102 hd hdb k3 ⟨_, rfl, .inl rf, c102 hd hdb k4 ⟨_, rfl, rfl, put hs72⟩⟩⟩⟩⟩

theorem c69 {m : M6} (hR : ∀ H', Ext H H' → R (.tuple #[.agg (ints (backM m).2.l).toArray, .int .i64 (backM m).1]) H') : CallsH Try.prog 69 #[.agg (ints m.l).toArray] H R := by
  refine Try.s69 ?_
  unfold Try.S69
  refine (St.nil H).alc fun b2 H3 hs3 => hs3.alc fun b4 H5 hs5 => ⟨_, rfl, rowIn_whole (hs5.block 1 rfl), ?_⟩
  refine c92 fun H8 he8 => ⟨_, rfl, ?_⟩
  have hs8 := hs5.step he8
  have zero : ∀ {v : Int} {H1 : Heap}, backM m = (v, zeroM) → ∀ (i : Nat) {τ : List Rs} {cs : Array Value}, τ[i]? = some (.cell b4 cs 46) → cs.size = 6 → St H H1 τ →
      (#[Value.int .i64 0, Value.int .i64 0, Value.int .i64 0, Value.int .i64 0, Value.int .i64 0, Value.int .i64 0].size = 6 ∧ stAt H1 ⟨b4, 0, none⟩ (Array.toList #[Value.int .i64 0, Value.int .i64 0, Value.int .i64 0, Value.int .i64 0, Value.int .i64 0, Value.int .i64 0]) fun H_10 => ∃ res11 : Array Value, res11.size = 6 ∧ rowIn H_10 ⟨b4, 0, none⟩ res11 ∧ R (Value.tuple #[Value.agg res11, Value.int .i64 v]) H_10) := fun {v H1} hb i {τ cs} hi hcs hs =>
    ⟨rfl, hs.putAll i hi (by rw [hcs]; rfl) (by simp [Value.oneCell']) fun H9 hs9 => ⟨(ints zeroM.l).toArray, rfl, rowIn_whole (hs9.block i (by rw [List.getElem?_set_self (List.getElem?_eq_some_iff.1 hi).1]; rfl)), by
      have := hR H9 hs9.ext
      rw [hb] at this; exact this⟩⟩
  refine br_not (fun hr => zero (by unfold backM; rw [if_pos hr]) 0 rfl rfl hs8) fun hr => ?_
  obtain ⟨ba, bb, bc, bd, be, bf⟩ := (rightM_iff m).1 hr
  have hB1 : backM m = (if m.a * m.d - m.b * m.c = 0 then (33, zeroM) else if rightM (backR m) = false then (33, zeroM) else if rightM (backS m) = false then (33, zeroM) else (0, backS m)) := by
    unfold backM; rw [if_neg (by rw [hr]; simp)]
  have p1 := mul_bd ba bd
  have p2 := mul_bd bb bc
  refine ⟨by decide, by decide, m.a, hs8.rdA 1 (j := 0) rfl rfl, by decide, by decide, m.d, hs8.rdA 1 (j := 3) rfl rfl, by decide, by decide, m.b, hs8.rdA 1 (j := 1) rfl rfl, by decide, by decide, m.c, hs8.rdA 1 (j := 2) rfl rfl, ?_⟩
  rw [wrap_id (n := m.a * m.d) (by omega) (by omega), wrap_id (n := m.b * m.c) (by omega) (by omega), wrap_id (n := m.a * m.d - m.b * m.c) (by omega) (by omega)]
  refine br_eq (fun hd => zero (by rw [hB1, if_pos hd]) 0 rfl rfl hs8) fun hd => ?_
  rw [if_neg hd] at hB1
  intro J hJ
  have main : ∀ ob H20 (τ : List Rs), St H H20 (.cell ob (ints (backR m).l).toArray 46 :: .cell b4 (ints zeroM.l).toArray 46 :: .cell b2 (ints m.l).toArray 46 :: []) → J [.pointer (some ⟨ob, 0, none⟩)] H20 := fun ob H20 τ hs20 => by
    refine hJ _ _ ⟨_, rfl, rowIn_whole (hs20.block 0 rfl), ?_⟩
    refine c92 fun H23 he23 => ⟨_, rfl, ?_⟩
    have hs23 := hs20.step he23
    refine br_not (fun hr1 => zero (by rw [hB1, if_pos hr1]) 1 rfl rfl hs23) fun hr1 => ?_
    rw [if_neg (by rw [hr1]; simp)] at hB1
    obtain ⟨ra, rb, rc, rd, _, _⟩ := (rightM_iff (backR m)).1 hr1
    have q1 := mul_bd ra be
    have q2 := mul_bd rb bf
    have q3 := mul_bd rc be
    have q4 := mul_bd rd bf
    refine ⟨by decide, by decide, (backR m).a, hs23.rdA 0 (j := 0) rfl rfl, by decide, by decide, m.e, hs23.rdA 2 (j := 4) rfl rfl, by decide, by decide, (backR m).b, hs23.rdA 0 (j := 1) rfl rfl, by decide, by decide, m.f, hs23.rdA 2 (j := 5) rfl rfl, ?_⟩
    rw [wrap_id (n := (backR m).a * m.e) (by omega) (by omega), wrap_id (n := (backR m).b * m.f) (by omega) (by omega), wrap_id (n := (backR m).a * m.e + (backR m).b * m.f) (by omega) (by omega), wrap_id (n := 0 - ((backR m).a * m.e + (backR m).b * m.f)) (by omega) (by omega), Int.zero_sub]
    refine c94 (by omega) ⟨_, rfl, by decide, by decide, ?_⟩
    refine hs23.putA 0 (j := 4) rfl (Nat.le_of_ble_eq_true rfl) fun H34 hs34 => ⟨by decide, by decide, (backR m).c, hs34.rdA 0 (j := 2) rfl rfl, by decide, by decide, m.e, hs34.rdA 2 (j := 4) rfl rfl, by decide, by decide, (backR m).d, hs34.rdA 0 (j := 3) rfl rfl, by decide, by decide, m.f, hs34.rdA 2 (j := 5) rfl rfl, ?_⟩
    rw [wrap_id (n := (backR m).c * m.e) (by omega) (by omega), wrap_id (n := (backR m).d * m.f) (by omega) (by omega), wrap_id (n := (backR m).c * m.e + (backR m).d * m.f) (by omega) (by omega), wrap_id (n := 0 - ((backR m).c * m.e + (backR m).d * m.f)) (by omega) (by omega), Int.zero_sub]
    refine c94 (by omega) ⟨_, rfl, by decide, by decide, ?_⟩
    refine hs34.putA 0 (j := 5) rfl (Nat.le_of_ble_eq_true rfl) fun H42 hs42 => ?_
    have hs42 : St H H42 (.cell ob (ints (backS m).l).toArray 46 :: .cell b4 (ints zeroM.l).toArray 46 :: .cell b2 (ints m.l).toArray 46 :: []) := hs42
    refine ⟨_, rfl, rowIn_whole (hs42.block 0 rfl), ?_⟩
    refine c92 fun H45 he45 => ⟨_, rfl, ?_⟩
    have hs45 := hs42.step he45
    refine br_not (fun hr2 => zero (by rw [hB1, if_pos hr2]) 1 rfl rfl hs45) fun hr2 => ?_
    rw [if_neg (by rw [hr2]; simp)] at hB1
    refine ⟨_, ?_, rowIn_whole (hs45.block 0 rfl), ?_, ?_⟩
    · rfl
    · rfl
    refine hs45.putAllA 1 (l := (backS m).l) rfl rfl fun H50 hs50 => ⟨_, rfl, rowIn_whole (hs50.block 1 rfl), ?_⟩
    have := hR H50 hs50.ext
    rw [hB1] at this
    exact this
  refine ⟨by decide, by decide, m.d, hs8.rdA 1 (j := 3) rfl rfl, by decide, by decide, m.b, hs8.rdA 1 (j := 1) rfl rfl, by decide, by decide, m.c, hs8.rdA 1 (j := 2) rfl rfl, by decide, by decide, m.a, hs8.rdA 1 (j := 0) rfl rfl, ?_⟩
  rw [wrap_id (n := 0 - m.b) (by omega) (by omega), wrap_id (n := 0 - m.c) (by omega) (by omega), Int.zero_sub, Int.zero_sub]
  rw [wrap_id (n := m.d * 4294967296) (by omega) (by omega), wrap_id (n := -m.b * 4294967296) (by omega) (by omega), wrap_id (n := -m.c * 4294967296) (by omega) (by omega), wrap_id (n := m.a * 4294967296) (by omega) (by omega)]
  have put : ∀ {ob : Nat} {H1 : Heap}, St H H1 (.cell ob (ints zeroM.l).toArray 46 :: .cell b4 (ints zeroM.l).toArray 46 :: .cell b2 (ints m.l).toArray 46 :: []) →
      stAt H1 ⟨ob, 0, none⟩ (Array.toList (ints (backR m).l).toArray) fun H_70 => J [Value.pointer (some ⟨ob, 0, none⟩)] H_70 := fun {ob H1} hs => hs.putAllA 0 (l := (backR m).l) rfl rfl fun H2 hs2 => main ob H2 [] hs2
  have k1 : -144115188075855872 ≤ m.d * 4294967296 ∧ m.d * 4294967296 ≤ 144115188075855872 := by omega
  have k2 : -144115188075855872 ≤ -m.b * 4294967296 ∧ -m.b * 4294967296 ≤ 144115188075855872 := by omega
  have k3 : -144115188075855872 ≤ -m.c * 4294967296 ∧ -m.c * 4294967296 ≤ 144115188075855872 := by omega
  have k4 : -144115188075855872 ≤ m.a * 4294967296 ∧ m.a * 4294967296 ≤ 144115188075855872 := by omega
  have hdb : -2251799813685248 ≤ m.a * m.d - m.b * m.c ∧ m.a * m.d - m.b * m.c ≤ 2251799813685248 := by omega
  have rf : ∀ {H1 : Heap}, Ext H1 H1 := fun {H1} => Ext.refl H1
  refine ⟨c93 hd hdb k1 ⟨_, rfl, .inl rf, ⟨c93 hd hdb k2 ⟨_, rfl, .inl rf, ⟨c93 hd hdb k3 ⟨_, rfl, .inl rf, ⟨c93 hd hdb k4 ⟨_, rfl, hs8.alc fun b68 H69 hs69 => ⟨rfl, put hs69⟩⟩, ?_⟩⟩, ?_⟩⟩, ?_⟩⟩, ?_⟩
  · exact hs8.alcE fun b71 H72 he72 hs72 => ⟨.inl he72, c93 hd hdb k4 ⟨_, rfl, rfl, put hs72⟩⟩
  · exact hs8.alcE fun b71 H72 he72 hs72 => ⟨.inl he72, c93 hd hdb k3 ⟨_, rfl, .inl rf, c93 hd hdb k4 ⟨_, rfl, rfl, put hs72⟩⟩⟩
  · exact hs8.alcE fun b71 H72 he72 hs72 => ⟨.inl he72, c93 hd hdb k2 ⟨_, rfl, .inl rf, c93 hd hdb k3 ⟨_, rfl, .inl rf, c93 hd hdb k4 ⟨_, rfl, rfl, put hs72⟩⟩⟩⟩
  · exact hs8.alcE fun b71 H72 he72 hs72 => ⟨.inl he72, c93 hd hdb k1 ⟨_, rfl, .inl rf, c93 hd hdb k2 ⟨_, rfl, .inl rf, c93 hd hdb k3 ⟨_, rfl, .inl rf, c93 hd hdb k4 ⟨_, rfl, rfl, put hs72⟩⟩⟩⟩⟩

end Go.Proofs

/-
  OWN WORK. Tables: which params are right; that a table is made of them (what is in it isn't told here).
-/
set_option linter.unusedVariables false
set_option linter.unusedSimpArgs false
set_option maxRecDepth 10000
namespace Go.Proofs
open Go.Sh
variable {H0 H : Heap} {σ : List Rs} {R : Value → Heap → Prop}

def inP (ps : List Int) (i : Nat) : Bool := decide (0 ≤ ps.getD i 0 ∧ ps.getD i 0 ≤ 255)
def incP (ps : List Int) (i : Nat) : Bool := decide (i % 2 = 1 ∨ i = 0 ∨ ps.getD (i - 2) 0 < ps.getD i 0)
def kindP (kind : Int) (ps : List Int) : Bool :=
  if kind = 0 then decide (ps.length = 2 ∧ ps.getD 0 0 < ps.getD 1 0) else if kind = 1 then decide (2 ≤ ps.length ∧ ps.length ≤ 32 ∧ ps.length % 2 = 0) else if kind = 2 then decide (ps.length = 0) else if kind = 3 then decide (ps.length = 1) else false
def tabB (kind : Int) (ps : List Int) : Bool := (List.range ps.length).all (inP ps) && ((kind != 1 || (List.range ps.length).all (incP ps)) && kindP kind ps)

/-- A number of a list is read. -/
theorem rdG {p : Option Addr} {n : Nat} {ps : List Int} (h : IS H p n (ints ps)) {i : Int} (h0 : 0 ≤ i) (h1 : i < n) {K : Int → Prop} (hK : K (ps.getD i.toNat 0)) :
    ∃ a : Addr, p = some a ∧ 0 ≤ i ∧ i < ((n : Nat) : Int) ∧ ∃ v : Int, Sh.cell H (Addr.add a (Int.toNat i * 1)) = some (.int .i64 v) ∧ K v :=
  IS.rd h h0 h1 (getD_some ps 0 (by have := h.length; omega)) hK
theorem all_more {f : Nat → Bool} {k : Nat} (h : (List.range k).all f = true) (hf : f k = true) : (List.range (k + 1)).all f = true := by
  rw [List.range_succ, List.all_append, h, Bool.true_and, List.all_cons, List.all_nil, Bool.and_true]; exact hf
theorem all_at {f : Nat → Bool} {n k : Nat} (h : (List.range n).all f = true) (hk : k < n) : f k = true := List.all_eq_true.1 h k (List.mem_range.2 hk)

theorem tabB_of {kind : Int} {ps : List Int} (h1 : (List.range ps.length).all (inP ps) = true) (h2 : kind = 1 → (List.range ps.length).all (incP ps) = true) : tabB kind ps = kindP kind ps := by
  unfold tabB
  rw [h1, Bool.true_and]
  by_cases hk : kind = 1
  · rw [h2 hk, Bool.or_true, Bool.true_and]
  · rw [show (kind != 1) = true from by simpa using hk, Bool.true_or, Bool.true_and]
theorem tabB_in {kind : Int} {ps : List Int} {k : Nat} (hk : k < ps.length) (h : inP ps k = false) : tabB kind ps = false := by
  unfold tabB
  rw [show (List.range ps.length).all (inP ps) = false from by
    rw [Bool.eq_false_iff]; intro hh; rw [all_at hh hk] at h; cases h]
  rfl
theorem tabB_inc {ps : List Int} {k : Nat} (hk : k < ps.length) (h : incP ps k = false) : tabB 1 ps = false := by
  unfold tabB
  rw [show (List.range ps.length).all (incP ps) = false from by
    rw [Bool.eq_false_iff]; intro hh; rw [all_at hh hk] at h; cases h]
  simp

theorem c104 {kind : Int} {p : Option Addr} {n c : Nat} {ps : List Int} (h : IS H p n (ints ps)) (hn : n ≤ 1000000000000) (hR : R (.bool (tabB kind ps)) H) : CallsH Try.prog 104 #[.int .i64 kind, .slice p n c] H R := by
  refine Try.s104 ?_
  unfold Try.S104
  have hlen := h.length
  intro X hX
  have go : ∀ k, k ≤ n → (List.range k).all (inP ps) = true → (kind = 1 → (List.range k).all (incP ps) = true) → X [.int .i64 (k : Nat)] H := by
    refine upto fun k hk ih h1 h2 => hX _ _ (br_dec (fun hlt => ?_) fun hge => ?_)
    · have hk' : k < n := by omega
      intro J hJ
      have bad : tabB kind ps = false → R (.bool false) H := fun hb => by rw [hb] at hR; exact hR
      have go2 : inP ps k = true → (kind = 1 → incP ps k = true) → J [] H := fun g1 g2 => by
        refine hJ _ ?_
        rw [wrap_id (by omega) (by omega)]
        exact ih hk' (all_more h1 g1) fun hk1 => all_more (h2 hk1) (g2 hk1)
      refine rdG (i := (k : Int)) h (by omega) hlt (br_dec (fun h3 => bad (tabB_in (k := k) (by omega) ?_)) fun h3 => br_dec (fun h4 => bad (tabB_in (k := k) (by omega) ?_)) fun h4 => ?_)
      · exact decide_eq_false fun hh => by have := hh.1; rw [Int.toNat_natCast] at h3; omega
      · exact decide_eq_false fun hh => by have := hh.2; rw [Int.toNat_natCast] at h4; omega
      rw [Int.toNat_natCast] at h3 h4 ⊢
      have g1 : inP ps k = true := decide_eq_true ⟨by omega, by omega⟩
      refine br_eq (fun hk1 => ⟨by decide, ?_⟩) fun hk1 => go2 g1 fun hh => absurd hh hk1
      rw [Int.tmod_eq_emod_of_nonneg (by omega)]
      refine br_eq (fun he => br_dec (fun hp => ?_) fun hp => go2 g1 fun _ => decide_eq_true (.inr (.inl (by omega)))) fun he => go2 g1 fun _ => decide_eq_true (.inl (by omega))
      have hk2 : 2 ≤ k := by omega
      rw [wrap_id (n := (k : Int) - 2) (by omega) (by omega)]
      refine rdG (i := (k : Int) - 2) h (by omega) (by omega) ?_
      rw [show Int.toNat ((k : Int) - 2) = k - 2 from by omega]
      refine br_dec (fun hle => bad ?_) fun hle => go2 g1 fun _ => decide_eq_true (.inr (.inr (by omega)))
      rw [hk1]
      exact tabB_inc (k := k) (by omega) (decide_eq_false fun hh => by rcases hh with hh | hh | hh <;> omega)
    · have hkn : k = n := by omega
      subst hkn
      rw [← hlen] at h1 h2
      rw [tabB_of h1 h2] at hR
      unfold kindP at hR
      refine br_eq (fun k0 => ?_) fun k0 => br_eq (fun k1 => ?_) fun k1 => br_eq (fun k2 => ?_) fun k2 => br_eq (fun k3 => ?_) fun k3 => ?_
      · rw [if_pos k0] at hR
        refine br_eq (fun hn2 => ?_) fun hn2 => ?_
        · refine rdG (i := 0) h (by omega) (by omega) (rdG (i := 1) h (by omega) (by omega) ?_)
          rw [show decide (ps.length = 2 ∧ ps.getD 0 0 < ps.getD 1 0) = decide (ps.getD 0 0 < ps.getD 1 0) from decide_eq_decide.2 ⟨fun hh => hh.2, fun hh => ⟨by omega, hh⟩⟩] at hR
          exact hR
        · rw [decide_eq_false (fun hh => hn2 (by omega))] at hR
          exact hR
      · rw [if_neg k0, if_pos k1] at hR
        refine br_dec (fun g1 => br_dec (fun g2 => ⟨by decide, ?_⟩) fun g2 => ?_) fun g1 => ?_
        · rw [Int.tmod_eq_emod_of_nonneg (by omega)]
          have : decide (2 ≤ ps.length ∧ ps.length ≤ 32 ∧ ps.length % 2 = 0) = ((k : Int) % 2 == 0) := by
            rw [Bool.eq_iff_iff, decide_eq_true_iff, beq_iff_eq]; omega
          rw [this] at hR
          exact hR
        · rw [decide_eq_false (fun hh => g2 (by omega))] at hR
          exact hR
        · rw [decide_eq_false (fun hh => g1 (by omega))] at hR
          exact hR
      · rw [if_neg k0, if_neg k1, if_pos k2] at hR
        have : decide (ps.length = 0) = (((k : Nat) : Int) == 0) := by rw [Bool.eq_iff_iff, decide_eq_true_iff, beq_iff_eq]; omega
        rw [this] at hR; exact hR
      · rw [if_neg k0, if_neg k1, if_neg k2, if_pos k3] at hR
        have : decide (ps.length = 1) = (((k : Nat) : Int) == 1) := by rw [Bool.eq_iff_iff, decide_eq_true_iff, beq_iff_eq]; omega
        rw [this] at hR; exact hR
      · rw [if_neg k0, if_neg k1, if_neg k2, if_neg k3] at hR
        exact hR
  exact go 0 (Nat.zero_le _) rfl fun _ => rfl

/-- A curve's params. -/
structure CrvOk (ps : List Int) : Prop where
  len : 2 ≤ ps.length ∧ ps.length ≤ 32 ∧ ps.length % 2 = 0
  rng : ∀ i, 0 ≤ ps.getD i 0 ∧ ps.getD i 0 ≤ 255
  inc : ∀ i, 2 ≤ i → i < ps.length → i % 2 = 0 → ps.getD (i - 2) 0 < ps.getD i 0
theorem tabB_rng {kind : Int} {ps : List Int} (h : tabB kind ps = true) (i : Nat) : 0 ≤ ps.getD i 0 ∧ ps.getD i 0 ≤ 255 := by
  unfold tabB at h
  rw [Bool.and_eq_true] at h
  by_cases hi : i < ps.length
  · exact of_decide_eq_true (all_at h.1 hi)
  · rw [List.getD_eq_getElem?_getD, List.getElem?_eq_none (by omega)]; decide
theorem tabB_kind {kind : Int} {ps : List Int} (h : tabB kind ps = true) : kindP kind ps = true := by
  unfold tabB at h
  rw [Bool.and_eq_true, Bool.and_eq_true] at h
  exact h.2.2
theorem tabB_crv {ps : List Int} (h : tabB 1 ps = true) : CrvOk ps := by
  have hk := tabB_kind h
  have hr := tabB_rng h
  refine ⟨of_decide_eq_true hk, hr, fun i hi hl he => ?_⟩
  unfold tabB at h
  rw [Bool.and_eq_true, Bool.and_eq_true, Bool.or_eq_true] at h
  have h2 : (List.range ps.length).all (incP ps) = true := by
    rcases h.2.1 with h | h
    · simp at h
    · exact h
  rcases of_decide_eq_true (all_at h2 hl) with h3 | h3 | h3
  · omega
  · omega
  · exact h3

theorem repsA256 : (List.toArray (reps (Int.toNat (256 : Int)) (Array.toList #[Value.int .i64 0]))) = (ints (List.replicate 256 0)).toArray := repsA 256

theorem c105 {p : Option Addr} {n c : Nat} {ps : List Int} (h : IS H p n (ints ps)) (hok : CrvOk ps) (hR : ∀ b H', Ext H H' → R (.slice (some ⟨b, 0, none⟩) 256 256) H') : CallsH Try.prog 105 #[.slice p n c] H R := by
  refine Try.s105 ?_
  unfold Try.S105
  have hlen := h.length
  obtain ⟨l1, l2, l3⟩ := hok.len
  refine ⟨by decide, by decide, by decide, by decide, ?_⟩
  rw [repsA256, wrap_id (n := (n : Int) - 2) (by omega) (by omega), wrap_id (n := (n : Int) - 1) (by omega) (by omega)]
  refine (St.nil H).alc fun b2 H3 hs3 => ?_
  intro X hX
  have go : ∀ k, k ≤ 256 → ∀ H1 (L : List Int), L.length = 256 → St H H1 [.cell b2 (ints L).toArray 3] → X [.int .i64 (k : Nat)] H1 := by
    refine upto fun k hk ih H1 L hL hs1 => hX _ _ (br_dec (fun hlt => ?_) fun hge => ?_)
    · have hk' : k < 256 := by have : (k : Int) < 256 := hlt; omega
      have h1 := h.ext hs1.ext
      have put : ∀ (v : Int), ∃ a11 : Addr, (some ⟨b2, 0, none⟩) = some a11 ∧ 0 ≤ (k : Int) ∧ (k : Int) < (((Int.toNat (256 : Int)) : Nat) : Int) ∧ stAt H1 (Addr.add a11 (Int.toNat (k : Int) * 1)) [Value.int .i64 v] fun H_12 => X [Value.int .i64 (IntKind.wrap .i64 ((k : Int) + (1 : Int)))] H_12 := fun v => by
        refine ⟨_, rfl, by omega, hlt, ?_⟩
        rw [show Int.toNat (k : Int) * 1 = k from Nat.mul_one k, add_none, Nat.zero_add, wrap_id (by omega) (by omega)]
        exact hs1.putA 0 rfl (by omega) fun H2 hs2 => ih hk' H2 (L.set k v) (by rw [List.length_set]; exact hL) hs2
      refine rdG (i := 0) h1 (by omega) (by omega) (br_dec (fun _ => rdG (i := 1) h1 (by omega) (by omega) (put _)) fun hv0 => ?_)
      refine rdG (i := (n : Int) - 2) h1 (by omega) (by omega) (br_dec (fun _ => rdG (i := (n : Int) - 1) h1 (by omega) (by omega) (put _)) fun hv1 => ?_)
      rw [show Int.toNat ((n : Int) - 2) = n - 2 from by omega] at hv1
      have hv0 : ¬ (k : Int) ≤ ps.getD 0 0 := hv0
      intro X2 hX2
      have go2 : ∀ j, j ≤ 16 → 2 * j + 2 ≤ n → ps.getD (2 * j) 0 ≤ (k : Int) → X2 [.int .i64 ((2 * j : Nat) : Int)] H1 := by
        refine upto fun j hj ih2 hjn hpj => hX2 _ _ ?_
        have hne : 2 * j + 2 ≠ n := fun hh => by
          have : 2 * j = n - 2 := by omega
          rw [this] at hpj; omega
        have hj4 : 2 * j + 4 ≤ n := by omega
        rw [wrap_id (n := ((2 * j : Nat) : Int) + 2) (by omega) (by omega), wrap_id (n := ((2 * j : Nat) : Int) + 1) (by omega) (by omega), wrap_id (n := ((2 * j : Nat) : Int) + 3) (by omega) (by omega)]
        refine rdG (i := ((2 * j : Nat) : Int) + 2) h1 (by omega) (by omega) ?_
        rw [show Int.toNat (((2 * j : Nat) : Int) + 2) = 2 * j + 2 from by omega]
        refine br_dec (fun hle => ?_) fun hgt => ?_
        · have := ih2 (by omega) (by omega) (by rw [show 2 * (j + 1) = 2 * j + 2 from by omega]; exact hle)
          rw [show ((2 * (j + 1) : Nat) : Int) = ((2 * j : Nat) : Int) + 2 from by omega] at this
          exact this
        · refine rdG (i := ((2 * j : Nat) : Int) + 1) h1 (by omega) (by omega) (rdG (i := ((2 * j : Nat) : Int) + 3) h1 (by omega) (by omega) (rdG (i := ((2 * j : Nat) : Int) + 1) h1 (by omega) (by omega) (rdG (i := ((2 * j : Nat) : Int)) h1 (by omega) (by omega) (rdG (i := ((2 * j : Nat) : Int) + 2) h1 (by omega) (by omega) (rdG (i := ((2 * j : Nat) : Int)) h1 (by omega) (by omega) ⟨?_, put _⟩)))))
          have hi := hok.inc (2 * j + 2) (by omega) (by omega) (by omega)
          rw [show 2 * j + 2 - 2 = 2 * j from by omega] at hi
          rw [show Int.toNat (((2 * j : Nat) : Int) + 2) = 2 * j + 2 from by omega, Int.toNat_natCast]
          have r1 := hok.rng (2 * j + 2)
          have r2 := hok.rng (2 * j)
          rw [wrap_id (by omega) (by omega)]
          omega
      exact go2 0 (by omega) (by omega) (by rw [Nat.mul_zero]; omega)
    · have hk6 : ¬ (k : Int) < 256 := hge
      have : k = 256 := by omega
      subst this
      exact hR b2 H1 hs1.ext
  exact go 0 (by omega) H3 _ (by simp) hs3

theorem c81 {kind : Int} {p : Option Addr} {n c : Nat} {ps : List Int} (h : IS H p n (ints ps)) (hn : n ≤ 1000000000000)
    (h0 : tabB kind ps = false → R (.tuple #[.slice none 0 0, .bool false]) H) (h1 : tabB kind ps = true → ∀ b H', Ext H H' → R (.tuple #[.slice (some ⟨b, 0, none⟩) 256 256, .bool true]) H') : CallsH Try.prog 81 #[.int .i64 kind, .slice p n c] H R := by
  refine Try.s81 ?_
  unfold Try.S81
  have hlen := h.length
  refine c104 h hn ⟨_, rfl, br_not (fun hb => h0 hb) fun hb => br_eq (fun hk1 => ?_) fun hk1 => ?_⟩
  · rw [hk1] at hb
    exact c105 h (tabB_crv hb) fun b H' he => ⟨_, _, _, rfl, h1 (by rw [hk1]; exact hb) b H' he⟩
  refine ⟨by decide, by decide, by decide, by decide, ?_⟩
  rw [repsA256]
  refine (St.nil H).alc fun b9 H10 hs10 => ?_
  intro X hX
  have hrng := tabB_rng hb
  have hkind := tabB_kind hb
  unfold kindP at hkind
  have go : ∀ k, k ≤ 256 → ∀ H1 (L : List Int), L.length = 256 → St H H1 [.cell b9 (ints L).toArray 3] → X [.int .i64 (k : Nat)] H1 := by
    refine upto fun k hk ih H1 L hL hs1 => hX _ _ (br_dec (fun hlt => ?_) fun hge => ?_)
    · have hk' : k < 256 := by have : (k : Int) < 256 := hlt; omega
      have g1 := h.ext hs1.ext
      intro J hJ
      have same : J [] H1 := hJ _ (by
        rw [wrap_id (by omega) (by omega)]
        exact ih hk' H1 L hL hs1)
      have put : ∀ (v : Int), ∃ a11 : Addr, (some ⟨b9, 0, none⟩) = some a11 ∧ 0 ≤ (k : Int) ∧ (k : Int) < (((Int.toNat (256 : Int)) : Nat) : Int) ∧ stAt H1 (Addr.add a11 (Int.toNat (k : Int) * 1)) [Value.int .i64 v] fun H_12 => J [] H_12 := fun v => by
        refine ⟨_, rfl, by omega, hlt, ?_⟩
        rw [show Int.toNat (k : Int) * 1 = k from Nat.mul_one k, add_none, Nat.zero_add]
        refine hs1.putA 0 rfl (by omega) fun H2 hs2 => hJ _ ?_
        rw [wrap_id (by omega) (by omega)]
        exact ih hk' H2 (L.set k v) (by rw [List.length_set]; exact hL) hs2
      refine br_eq (fun k0 => ?_) fun k0 => br_eq (fun k2 => put _) fun k2 => br_eq (fun k3 => ?_) fun k3 => same
      · rw [if_pos k0] at hkind
        have hk2 := of_decide_eq_true hkind
        refine rdG (i := 1) g1 (by omega) (by omega) (rdG (i := 0) g1 (by omega) (by omega) (rdG (i := 0) g1 (by omega) (by omega) ⟨by decide, ?_, put _⟩))
        have r1 := hrng 1
        have r0 := hrng 0
        show IntKind.wrap .i64 (ps.getD 1 0 - ps.getD 0 0) ≠ 0
        rw [wrap_id (by omega) (by omega)]
        omega
      · rw [if_neg k0, if_neg hk1, if_neg k2, if_pos k3] at hkind
        have hk2 := of_decide_eq_true hkind
        exact rdG (i := 0) g1 (by omega) (by omega) (br_dec (fun _ => put _) fun _ => same)
    · have hk6 : ¬ (k : Int) < 256 := hge
      have : k = 256 := by omega
      subst this
      exact h1 hb b9 H1 hs1.ext
  exact go 0 (by omega) H10 _ (by simp) hs10

end Go.Proofs

/-
  OWN WORK. A layer is placed; adjusted; any edit.
-/
set_option linter.unusedVariables false
set_option linter.unusedSimpArgs false
set_option maxRecDepth 10000
namespace Go.Sh
/-- Some cells of an element are written. -/
theorem St.elPutRow {H0 H : Heap} {σ : List Rs} (hs : St H0 H σ) (i : Nat) {p : Option Addr} {l c n : Nat} {el : TypeId} {A cs B : List Value} (hi : σ[i]? = some (.sl p l c el 19 (A ++ cs ++ B))) (hA : A.length = n * 19) {j : Nat} {vs : List Value} (hj : j + vs.length ≤ cs.length) (hc : 0 < cs.length) (hv : ∀ v ∈ vs, v.oneCell' = true) {a : Addr} (ha : p.map (fun a => a.add (n * 19)) = some a)
    {f : Heap → Prop} (hK : ∀ H', St H0 H' (σ.set i (.sl p l c el 19 (A ++ setL cs j vs ++ B))) → f H') : stAt H (a.add j) vs f := by
  obtain ⟨b, hb⟩ := hs.slSome i (j := 0) hi (by simp; omega)
  subst hb
  cases ha
  show stAt H (((⟨b, 0, none⟩ : Addr).add (n * 19)).add j) vs f
  rw [add_none, add_none, Nat.zero_add]
  refine Go.Sh.St.slIn hs i hi (by simp; omega) hv fun H' hs' => hK H' ?_
  have e : setL (A ++ cs ++ B) (n * 19 + j) vs = A ++ setL cs j vs ++ B := by
    unfold setL
    rw [List.append_assoc A cs B, ← hA, List.take_length_add_append, show A.length + j + vs.length = A.length + (j + vs.length) from by omega, List.drop_length_add_append, List.take_append_of_le_length (by omega), List.drop_append_of_le_length hj]
    simp
  rw [e] at hs'
  exact hs'
end Go.Sh
namespace Go.Proofs
open Go.Sh
variable {H0 H : Heap} {σ : List Rs} {R : Value → Heap → Prop}

theorem workMap {b d : Nat} {e : Ed} {s : EdS} {bb : Nat} (hb : H[bb]? = some (.cells (workL b d e s).toArray 86)) : rowIn H ⟨bb, 14, none⟩ (ints e.map.l).toArray :=
  rowIn_block hb fun j v hv => match j, hv with
    | 0, hv => hv
    | 1, hv => hv
    | 2, hv => hv
    | 3, hv => hv
    | 4, hv => hv
    | 5, hv => hv
    | j + 6, hv => by simp [ints, M6.l] at hv

def placeF (e : Ed) (f : LayF) : Int × LayF := if f.kind ≠ 0 then (41, f) else if e.n ≠ 0 ∧ e.n ≠ 1 then (32, f) else if (backM e.map).1 ≠ 0 then ((backM e.map).1, f) else (0, { f with map := e.map, smooth := e.n == 1 })
theorem c48 {b d : Nat} {e : Ed} {s : EdS} {K : Sl3} {ks : List T} (hs : St H0 H (resRoot b K ks ++ σ)) (hc : cntKs (layKs ks) ≤ 1000000000) (hR : Chg (placeF e) H0 σ R b ks e.id) :
    CallsH Try.prog 48 #[.agg (workL b d e s).toArray] H R := by
  refine Try.s48 ?_
  unfold Try.S48
  refine hs.alc fun b2 H3 hs3 => ⟨_, rfl, rowIn_whole (hs3.block 0 rfl), ?_⟩
  refine tgt hs3 (by omega) (fun hl H6 hs6 => ⟨_, _, rfl, ?_⟩) fun fr u K' ks' a H6 hl ha hs6 => ⟨_, _, rfl, ?_⟩
  · intro J hJ
    exact br_ne (fun _ => hR.none hl hs6.tail.app.2) fun h => absurd h (by decide)
  intro J hJ
  have bad : ∀ {v : Int} {H' : Heap}, placeF e fr.f = (v, fr.f) → v ≠ 0 → St H0 H' (openR fr (u ++ [rootFr b]) K' ks' ++ σ) → R (.int .i64 v) H' := fun hg hv hs => hR.err hl hg hv hs.app.2
  refine br_ne (fun h => absurd rfl h) fun _ => ⟨a, rfl, _, hs6.elCell 1 rfl (cellsKs_len fr.pre) (cells_1 fr K') ha, br_ne (fun hk => bad (by unfold placeF; rw [if_pos hk]) (by decide) hs6.tail) fun hk => ?_⟩
  have go : ¬ (e.n ≠ 0 ∧ e.n ≠ 1) → J [] H6 := fun hn => by
    have hF : placeF e fr.f = (if (backM e.map).1 ≠ 0 then ((backM e.map).1, fr.f) else (0, { fr.f with map := e.map, smooth := e.n == 1 })) := by
      unfold placeF; rw [if_neg (fun hh => hh hk), if_neg hn]
    refine hJ _ ⟨(ints e.map.l).toArray, rfl, workMap (hs6.block 0 rfl), ?_⟩
    refine c80 fun H13 he13 => ⟨_, _, rfl, ?_⟩
    refine (hs6.step he13).alc fun b16 H17 hs17 => ⟨rfl, hs17.putAllA 0 (l := (backM e.map).2.l) rfl rfl fun H18 hs18 => br_ne (fun hb => bad (by rw [hF, if_pos hb]) hb (hs18.drop 2)) fun hb => ?_⟩
    rw [if_neg (fun hh => hh hb)] at hF
    refine ⟨(ints e.map.l).toArray, rfl, workMap (hs18.block 1 rfl), _, hs18.get 1 rfl (j := 6) rfl, a, rfl, rfl, ?_⟩
    refine hs18.elPutRow 2 rfl (cellsKs_len fr.pre) (j := 9) (vs := ints e.map.l) (Nat.le_of_ble_eq_true rfl) (Nat.le_of_ble_eq_true rfl) (ints_one _) ha fun H22 hs22 => ⟨.inr ⟨_, hs22.get 1 rfl (j := 6) rfl, rfl⟩, a, rfl, ?_⟩
    refine hs22.elPut 2 rfl (cellsKs_len fr.pre) (j := 15) (Nat.le_of_ble_eq_true rfl) rfl ha fun H24 hs24 => ?_
    exact hR.done hl (P := fr.P) (M := fr.M) (A := fr.A) hF (hs24.drop 2)
  refine ⟨_, hs6.get 0 rfl (j := 6) rfl, br_ne (fun h0 => ⟨_, hs6.get 0 rfl (j := 6) rfl, br_ne (fun h1 => ?_) fun h1 => go fun h => h.2 h1⟩) fun h0 => go fun h => h.1 h0⟩
  exact bad (v := 32) (by unfold placeF; rw [if_neg (fun hh => hh hk), if_pos ⟨h0, h1⟩]) (by decide) hs6.tail

def adjustF (e : Ed) (f : LayF) : Int × LayF := if f.kind ≠ 2 then (41, f) else if tabB e.n e.params = false then (32, f) else (0, { f with table := e.n, params := e.params })
theorem c49 {b d : Nat} {e : Ed} {s : EdS} {K : Sl3} {ks : List T} (hs : St H0 H (resRoot b K ks ++ σ)) (hc : cntKs (layKs ks) ≤ 1000000000) (hed : rdEd H0 e s) (hpl : e.params.length ≤ 1000000000) (hR : Chg (adjustF e) H0 σ R b ks e.id) :
    CallsH Try.prog 49 #[.agg (workL b d e s).toArray] H R := by
  refine Try.s49 ?_
  unfold Try.S49
  refine hs.alc fun b2 H3 hs3 => ⟨_, rfl, rowIn_whole (hs3.block 0 rfl), ?_⟩
  refine tgt hs3 (by omega) (fun hl H6 hs6 => ⟨_, _, rfl, ?_⟩) fun fr u K' ks' a H6 hl ha hs6 => ⟨_, _, rfl, ?_⟩
  · exact br_ne (fun _ => hR.none hl hs6.tail.app.2) fun h => absurd h (by decide)
  have bad : ∀ {v : Int} {H' : Heap}, adjustF e fr.f = (v, fr.f) → v ≠ 0 → St H0 H' (openR fr (u ++ [rootFr b]) K' ks' ++ σ) → R (.int .i64 v) H' := fun hg hv hs => hR.err hl hg hv hs.app.2
  refine br_ne (fun h => absurd rfl h) fun _ => ⟨a, rfl, _, hs6.elCell 1 rfl (cellsKs_len fr.pre) (cells_1 fr K') ha, br_ne (fun hk => bad (by unfold adjustF; rw [if_pos hk]) (by decide) hs6.tail) fun hk => ?_⟩
  have hF : adjustF e fr.f = (if tabB e.n e.params = false then (32, fr.f) else (0, { fr.f with table := e.n, params := e.params })) := by unfold adjustF; rw [if_neg (fun hh => hh hk)]
  refine ⟨_, hs6.get 0 rfl (j := 6) rfl, _, _, _, hs6.get 0 rfl (j := 20) rfl, ?_⟩
  have hal := hed.params.length
  refine c81 (hed.params.ext hs6.ext) (by omega) (fun ht => ⟨_, _, _, _, rfl, br_t rfl (bad (by rw [hF, if_pos ht]) (by decide) hs6.tail)⟩) fun ht tb H14 he14 => ⟨_, _, _, _, rfl, br_f rfl ?_⟩
  rw [if_neg (by rw [ht]; simp)] at hF
  have hs14 := hs6.step he14
  refine ⟨_, hs14.get 0 rfl (j := 6) rfl, _, _, _, hs14.get 0 rfl (j := 20) rfl, ?_⟩
  refine c82 (hed.params.ext hs14.ext) hpl fun q H20 hq20 => ⟨_, _, _, rfl, .inl hq20.ext, a, rfl, ?_⟩
  have hs20 := hs14.call hq20
  refine hs20.elPut 2 rfl (cellsKs_len fr.pre) (j := 16) (Nat.le_of_ble_eq_true rfl) rfl ha fun H23 hs23 => ⟨a, rfl, ?_⟩
  refine hs23.elPut 2 rfl (cellsKs_len fr.pre) (j := 17) (Nat.le_of_ble_eq_true rfl) rfl ha fun H25 hs25 => ?_
  refine hR.done hl (P := fr.P) (M := fr.M) (A := q) (K' := K') (ks' := ks') hF ?_
  refine ((hs25.perm (τ := .cell b2 (workL b d e s).toArray 86 :: .sl fr.A.p fr.A.l fr.A.c 3 1 (ints fr.f.params) :: (openR ⟨fr.hdr, fr.pre, { fr.f with table := e.n, params := e.params }, fr.P, fr.M, q, fr.post⟩ (u ++ [rootFr b]) K' ks' ++ σ)) (permC fun _ x => ?_)).drop 2)
  show List.count x (.sl q.p q.l q.c 3 1 (ints e.params) :: .cell b2 (workL b d e s).toArray 86 :: ((.sl fr.hdr.p fr.hdr.l fr.hdr.c 58 19 (cellsKs fr.pre ++ cellsL { fr.f with table := e.n, params := e.params } fr.P.v fr.M.v q.v K'.v ++ cellsKs fr.post) :: .sl fr.P.p fr.P.l fr.P.c 3 1 (ints fr.f.p) :: .sl fr.M.p fr.M.l fr.M.c 5 1 (kints .u8 fr.f.mask) :: .sl fr.A.p fr.A.l fr.A.c 3 1 (ints fr.f.params) ::
    .sl K'.p K'.l K'.c 58 19 (cellsKs ks') :: (resKs ks' ++ (resKs fr.pre ++ (resKs fr.post ++ resUp (u ++ [rootFr b]) fr.hdr)))) ++ σ)) =
    List.count x (.cell b2 (workL b d e s).toArray 86 :: .sl fr.A.p fr.A.l fr.A.c 3 1 (ints fr.f.params) :: ((.sl fr.hdr.p fr.hdr.l fr.hdr.c 58 19 (cellsKs fr.pre ++ cellsL { fr.f with table := e.n, params := e.params } fr.P.v fr.M.v q.v K'.v ++ cellsKs fr.post) :: .sl fr.P.p fr.P.l fr.P.c 3 1 (ints fr.f.p) :: .sl fr.M.p fr.M.l fr.M.c 5 1 (kints .u8 fr.f.mask) :: .sl q.p q.l q.c 3 1 (ints e.params) ::
    .sl K'.p K'.l K'.c 58 19 (cellsKs ks') :: (resKs ks' ++ (resKs fr.pre ++ (resKs fr.post ++ resUp (u ++ [rootFr b]) fr.hdr)))) ++ σ))
  simp only [List.count_append, List.count_cons]
  ac_rfl

/-- An edit, plain: the error, and the layers. -/
def stepL (w h next : Int) (D : List Lay) (e : Ed) : Int × List Lay :=
  if e.kind = 1 then addL next D e else if e.kind = 2 then removeL D e.id else if e.kind = 3 then moveL D e else if e.kind = 4 then chgL (paintF e) D e.id else if e.kind = 5 then chgL (lookF e) D e.id else
  if e.kind = 6 then chgL (hideF e) D e.id else if e.kind = 7 then chgL (maskF w h e) D e.id else if e.kind = 8 then chgL (placeF e) D e.id else if e.kind = 9 then chgL (adjustF e) D e.id else (41, [])
def nextL (next : Int) (e : Ed) : Int := if e.kind = 1 then next + 1 else next
/-- What an edit may come with. -/
structure EdOk (H0 : Heap) (e : Ed) (s : EdS) : Prop where
  rd : rdEd H0 e s
  shape : e.shape.length ≤ 1000000000
  params : e.params.length ≤ 1000000000
def kindFn (k : Int) : Nat := if k = 1 then 41 else if k = 2 then 42 else if k = 3 then 43 else if k = 4 then 44 else if k = 5 then 45 else if k = 6 then 46 else if k = 7 then 47 else if k = 8 then 48 else 49

theorem edit_call {b d : Nat} {e : Ed} {s : EdS} {K K0 : Sl3} {ks : List T} {w h next : Int} (hk : 1 ≤ e.kind ∧ e.kind ≤ 9) (hs : St H0 H (resRoot b K ks ++ (.cell d (docA w h next K0) 26 :: σ))) (hc : cntKs (layKs ks) ≤ 1000000000) (hnx : 0 ≤ next ∧ next ≤ 1000000000000000) (hsz : e.kind = 7 → sizedB w h = true) (hed : EdOk H0 e s)
    (hras : ∀ fr u ks', flK [] [] e.id (layKs ks) = some (fr :: u, ks') → okRas fr.f)
    (hbad : ∀ H', (stepL w h next (layKs ks) e).1 ≠ 0 → St H0 H' σ → R (.int .i64 (stepL w h next (layKs ks) e).1) H')
    (hok : ∀ Kn ksn H', (stepL w h next (layKs ks) e).1 = 0 → layKs ksn = (stepL w h next (layKs ks) e).2 → St H0 H' (resRoot b Kn ksn ++ (.cell d (docA w h (nextL next e) K0) 26 :: σ)) → R (.int .i64 0) H') :
    CallsH Try.prog (kindFn e.kind) #[.agg (workL b d e s).toArray] H R := by
  have hsl : s.S.l ≤ 1000000000 := by rw [← hed.rd.shape.len]; exact hed.shape
  by_cases k1 : e.kind = 1
  · have hst : stepL w h next (layKs ks) e = addL next (layKs ks) e := by unfold stepL; rw [if_pos k1]
    have hnl : nextL next e = next + 1 := by unfold nextL; rw [if_pos k1]
    rw [hst] at hbad hok
    rw [hnl] at hok
    rw [show kindFn e.kind = 41 from by unfold kindFn; rw [if_pos k1]]
    exact c41 hs hc hnx hbad hok
  have hnl : nextL next e = next := by unfold nextL; rw [if_neg k1]
  rw [hnl] at hok
  by_cases k2 : e.kind = 2
  · have hst : stepL w h next (layKs ks) e = removeL (layKs ks) e.id := by unfold stepL; rw [if_neg k1, if_pos k2]
    rw [hst] at hbad hok
    rw [show kindFn e.kind = 42 from by unfold kindFn; rw [if_neg k1, if_pos k2]]
    refine c42 hs hc (fun hz H' he => ?_) fun fr u K' ks' Kn ksn H' hz hl hs' => ?_
    · rcases find_cases b K ks e.id with ⟨_, hl⟩ | ⟨fr, u, K', ks', hz', _, _⟩
      · have hr : removeL (layKs ks) e.id = (40, []) := by unfold removeL; rw [hl]
        have := hbad H' (by rw [hr]; decide) (hs.step he).app.2.tail
        rw [hr] at this; exact this
      · rw [hz] at hz'; cases hz'
    · rcases find_cases b K ks e.id with ⟨hz', _⟩ | ⟨fr', u', K'', ks'', hz', _, hl'⟩
      · rw [hz] at hz'; cases hz'
      · rw [hz] at hz'
        simp only [Option.some.injEq, Prod.mk.injEq, List.cons.injEq] at hz'
        obtain ⟨⟨rfl, hu⟩, rfl, rfl⟩ := hz'
        have hu := List.append_cancel_right hu
        subst hu
        have hr : removeL (layKs ks) e.id = (0, plugL (u.map Fr.lay) (layKs fr.pre ++ layKs fr.post)) := by unfold removeL; rw [hl']; rfl
        refine hok Kn ksn H' (by rw [hr]) (by rw [hr]; exact hl) (St.app (σ := resT (fr.node K' ks')) (τ := resRoot b Kn ksn ++ (.cell d (docA w h next K0) 26 :: σ)) (hs'.perm (permC fun _ x => by simp only [List.count_append, List.count_cons]; ac_rfl))).2
  by_cases k3 : e.kind = 3
  · have hst : stepL w h next (layKs ks) e = moveL (layKs ks) e := by unfold stepL; rw [if_neg k1, if_neg k2, if_pos k3]
    rw [hst] at hbad hok
    rw [show kindFn e.kind = 43 from by unfold kindFn; rw [if_neg k1, if_neg k2, if_pos k3]]
    exact c43 hs hc (fun H' h1 h2 => hbad H' h1 h2.tail) hok
  have chg : ∀ {g : LayF → Int × LayF}, stepL w h next (layKs ks) e = chgL g (layKs ks) e.id → Chg g H0 (.cell d (docA w h next K0) 26 :: σ) R b ks e.id := fun {g} hst => by
    rw [hst] at hbad hok
    exact ⟨fun H' h1 h2 => hbad H' h1 h2.tail, hok⟩
  by_cases k4 : e.kind = 4
  · rw [show kindFn e.kind = 44 from by unfold kindFn; rw [if_neg k1, if_neg k2, if_neg k3, if_pos k4]]
    exact c44 hs hc hed.rd hras (chg (by unfold stepL; rw [if_neg k1, if_neg k2, if_neg k3, if_pos k4]))
  by_cases k5 : e.kind = 5
  · rw [show kindFn e.kind = 45 from by unfold kindFn; rw [if_neg k1, if_neg k2, if_neg k3, if_neg k4, if_pos k5]]
    exact c45 hs hc (chg (by unfold stepL; rw [if_neg k1, if_neg k2, if_neg k3, if_neg k4, if_pos k5]))
  by_cases k6 : e.kind = 6
  · rw [show kindFn e.kind = 46 from by unfold kindFn; rw [if_neg k1, if_neg k2, if_neg k3, if_neg k4, if_neg k5, if_pos k6]]
    exact c46 hs hc (chg (by unfold stepL; rw [if_neg k1, if_neg k2, if_neg k3, if_neg k4, if_neg k5, if_pos k6]))
  by_cases k7 : e.kind = 7
  · rw [show kindFn e.kind = 47 from by unfold kindFn; rw [if_neg k1, if_neg k2, if_neg k3, if_neg k4, if_neg k5, if_neg k6, if_pos k7]]
    exact c47 hs hc hed.rd hsl (hsz k7) (chg (by unfold stepL; rw [if_neg k1, if_neg k2, if_neg k3, if_neg k4, if_neg k5, if_neg k6, if_pos k7]))
  by_cases k8 : e.kind = 8
  · rw [show kindFn e.kind = 48 from by unfold kindFn; rw [if_neg k1, if_neg k2, if_neg k3, if_neg k4, if_neg k5, if_neg k6, if_neg k7, if_pos k8]]
    exact c48 hs hc (chg (by unfold stepL; rw [if_neg k1, if_neg k2, if_neg k3, if_neg k4, if_neg k5, if_neg k6, if_neg k7, if_pos k8]))
  · have k9 : e.kind = 9 := by omega
    rw [show kindFn e.kind = 49 from by unfold kindFn; rw [if_neg k1, if_neg k2, if_neg k3, if_neg k4, if_neg k5, if_neg k6, if_neg k7, if_neg k8]]
    exact c49 hs hc hed.rd hed.params (chg (by unfold stepL; rw [if_neg k1, if_neg k2, if_neg k3, if_neg k4, if_neg k5, if_neg k6, if_neg k7, if_neg k8, if_pos k9]))

end Go.Proofs

/-
  OWN WORK. Do: an edit of a document.
-/
set_option linter.unusedVariables false
set_option linter.unusedSimpArgs false
set_option maxRecDepth 10000
namespace Go.Proofs
open Go.Sh
variable {H0 H : Heap} {σ : List Rs} {R : Value → Heap → Prop}

theorem docA_one (w h next : Int) (K : Sl3) : ∀ v ∈ (docA w h next K).toList, v.oneCell' = true := by
  unfold docA
  simp only [List.forall_mem_cons]
  exact ⟨rfl, rfl, rfl, rfl, fun _ h => by cases h⟩
theorem edL_one (e : Ed) (s : EdS) : ∀ v ∈ edL e s, v.oneCell' = true := by
  unfold edL
  simp only [List.forall_mem_cons]
  exact ⟨rfl, rfl, rfl, rfl, rfl, rfl, rfl, rfl, rfl, rfl, rfl, rfl, rfl, rfl, rfl, rfl, rfl, rfl, rfl, fun _ h => by cases h⟩
theorem workL_one (b d : Nat) (e : Ed) (s : EdS) : ∀ v ∈ workL b d e s, v.oneCell' = true := by
  unfold workL
  simp only [List.forall_mem_cons]
  exact ⟨rfl, rfl, edL_one e s⟩

theorem c40 {d : Nat} {w h next : Int} {K : Sl3} (hb : H[d]? = some (.cells (docA w h next K) 26)) (hR : ∀ b H', St H H' [.cell b (cellsT (rootT K [])).toArray 58] → R (.pointer (some ⟨b, 0, none⟩)) H') : CallsH Try.prog 40 #[.pointer (some ⟨d, 0, none⟩)] H R := by
  refine Try.s40 ?_
  unfold Try.S40
  exact ⟨_, rfl, _, _, _, cell_get (i := 3) hb rfl, (St.nil H).alc fun b4 H5 hs5 => hR b4 H5 hs5⟩

/-- The root's block, and what is in it. -/
theorem mk_root {b : Nat} {K : Sl3} {ks : List T} (hs : St H0 H (.cell b (cellsT (rootT K [])).toArray 58 :: (resG K ks ++ σ))) : St H0 H (resRoot b K ks ++ σ) := by
  have h1 := hs.toSl 0 (l := 1) (k := 19) (fs := cellsKs [rootT K ks]) rfl rfl (by rw [cellsKs_one]; rfl) (by rw [cellsKs_one]; exact cellsT_one _)
  have h2 := ((h1.nilSl 3 1).nilSl 5 1).nilSl 3 1
  refine h2.perm (permC fun _ x => ?_)
  have e1 : resRoot b K ks = .sl (some ⟨b, 0, none⟩) 1 1 58 19 (cellsKs [rootT K ks]) :: .sl none 0 0 3 1 [] :: .sl none 0 0 5 1 [] :: .sl none 0 0 3 1 [] :: resG K ks := by
    unfold resRoot
    rw [resG, resKs_one, rootT, resT_mk]; rfl
  rw [e1]
  show List.count x (.sl none 0 0 3 1 [] :: .sl none 0 0 5 1 [] :: .sl none 0 0 3 1 [] :: .sl (some ⟨b, 0, none⟩) 1 1 58 19 (cellsKs [rootT K ks]) :: (resG K ks ++ σ)) = _
  simp only [List.count_append, List.count_cons]
  ac_rfl
/-- And apart again. -/
theorem un_root {b : Nat} {K : Sl3} {ks : List T} (hs : St H0 H (resRoot b K ks ++ σ)) : Sh.cell H ⟨b, 18, none⟩ = some (.slice K.p K.l K.c) ∧ St H0 H (resG K ks ++ σ) := by
  obtain ⟨a0, h1, h2, h3⟩ := hs.grp.get (i := 0) (t := rootT K ks) rfl
  cases h1
  rw [Nat.zero_mul, add_none] at h2
  refine ⟨h2 18 _ rfl, ?_⟩
  have e1 : resRoot b K ks = .sl (some ⟨b, 0, none⟩) 1 1 58 19 (cellsKs [rootT K ks]) :: .sl none 0 0 3 1 [] :: .sl none 0 0 5 1 [] :: .sl none 0 0 3 1 [] :: resG K ks := by
    unfold resRoot
    rw [resG, resKs_one, rootT, resT_mk]; rfl
  rw [e1] at hs
  exact hs.drop 4

/-- Do, plain: the error; else what comes next, and the layers. -/
def doL (w h next : Int) (D : List Lay) (e : Ed) : Int × Int × List Lay :=
  if e.kind < 1 ∨ e.kind > 9 then (41, 0, []) else if (stepL w h next D e).1 ≠ 0 then ((stepL w h next D e).1, 0, []) else (0, nextL next e, (stepL w h next D e).2)

def kindsA : Array Value := #[Value.func (.func 41) #[] #[], Value.func (.func 42) #[] #[], Value.func (.func 43) #[] #[], Value.func (.func 44) #[] #[], Value.func (.func 45) #[] #[], Value.func (.func 46) #[] #[], Value.func (.func 47) #[] #[], Value.func (.func 48) #[] #[], Value.func (.func 49) #[] #[]]
theorem kinds_get {k : Int} (h : 1 ≤ k ∧ k ≤ 9) : kindsA[(k - 1).toNat]? = some (.func (.func (kindFn k)) #[] #[]) := by
  obtain ⟨h1, h2⟩ := h
  obtain ⟨n, rfl⟩ : ∃ n : Nat, k = n := ⟨k.toNat, by omega⟩
  obtain ⟨m, rfl⟩ : ∃ m : Nat, n = m + 1 := ⟨n - 1, by omega⟩
  rw [show (((m + 1 : Nat) : Int) - 1).toNat = m from by omega]
  have : m < 9 := by omega
  obtain rfl | rfl | rfl | rfl | rfl | rfl | rfl | rfl | rfl : m = 0 ∨ m = 1 ∨ m = 2 ∨ m = 3 ∨ m = 4 ∨ m = 5 ∨ m = 6 ∨ m = 7 ∨ m = 8 := by omega
  all_goals rfl

theorem c19 {e : Ed} {s : EdS} {K : Sl3} {ks : List T} {w h next : Int} (hg : grp H K ks) (hokl : okKs (layKs ks)) (hc : cntKs (layKs ks) ≤ 1000000000) (hnx : 0 ≤ next ∧ next ≤ 1000000000000000) (hsz : e.kind = 7 → sizedB w h = true) (hed : EdOk H e s)
    (hras : ∀ fr u ks', flK [] [] e.id (layKs ks) = some (fr :: u, ks') → okRas fr.f)
    (hbad : ∀ H', (doL w h next (layKs ks) e).1 ≠ 0 → Ext H H' → R (.tuple #[.agg (docA 0 0 0 .nil), .int .i64 (doL w h next (layKs ks) e).1]) H')
    (hok : ∀ K' ks' H', (doL w h next (layKs ks) e).1 = 0 → layKs ks' = (doL w h next (layKs ks) e).2.2 → St H H' (resG K' ks') → R (.tuple #[.agg (docA w h (doL w h next (layKs ks) e).2.1 K'), .int .i64 0]) H') :
    CallsH Try.prog 19 #[.agg (docA w h next K), .agg (edL e s).toArray] H R := by
  have hlk := len_cnt (layKs ks)
  rw [layKs_len] at hlk
  refine Try.s19 ?_
  unfold Try.S19
  refine (St.nil H).alc fun b3 H4 hs4 => hs4.alc fun b5 H6 hs6 => hs6.alc fun b7 H8 hs8 => ?_
  intro J9 hJ9
  have main9 : ∀ (db : Nat) (K' : Sl3) (ks' : List T) (H11 : Heap), layKs ks' = layKs ks → St H H11 (.cell db (docA w h next K') 26 :: .cell b7 (docA 0 0 0 .nil) 26 :: .cell b5 (edL e s).toArray 43 :: (resG K' ks')) → J9 [.pointer (some ⟨db, 0, none⟩)] H11 := by
    intro db K' ks' H11 hlay hs11
    refine hJ9 _ _ ?_
    intro J12 hJ12
    have main12 : ∀ (wb rb : Nat) (H14 : Heap), St H H14 (.cell wb (workL rb db e s).toArray 86 :: .cell db (docA w h next K') 26 :: .cell b7 (docA 0 0 0 .nil) 26 :: .cell b5 (edL e s).toArray 43 :: (resRoot rb K' ks')) → J12 [.pointer (some ⟨wb, 0, none⟩)] H14 := by
      intro wb rb H14 hs14
      refine hJ12 _ _ ?_
      refine hs14.alc fun b15 H16 hs16 => ?_
      intro J17 hJ17
      have bad : ∀ {v : Int} {n : Int} {x : List Lay} {H1 : Heap} {τ : List Rs}, doL w h next (layKs ks) e = (v, n, x) → v ≠ 0 → ∀ (i : Nat), τ[i]? = some (.cell b7 (docA 0 0 0 .nil) 26) → St H H1 τ →
          (#[Value.int .i64 0, Value.int .i64 0, Value.int .i64 0, Value.slice none 0 0].size = 4 ∧ stAt H1 ⟨b7, 0, none⟩ (Array.toList #[Value.int .i64 0, Value.int .i64 0, Value.int .i64 0, Value.slice none 0 0]) fun H_36 => ∃ res37 : Array Value, res37.size = 4 ∧ rowIn H_36 ⟨b7, 0, none⟩ res37 ∧ R (Value.tuple #[Value.agg res37, Value.int .i64 v]) H_36) := fun {v n x H1 τ} hd hv i hi hs =>
        ⟨rfl, hs.putAll i hi rfl (docA_one 0 0 0 .nil) fun H2 hs2 => ⟨docA 0 0 0 .nil, rfl, rowIn_whole (hs2.block i (by rw [List.getElem?_set_self (List.getElem?_eq_some_iff.1 hi).1]; rfl)), by
          have := hbad H2 (by rw [hd]; exact hv) hs2.ext
          rw [hd] at this; exact this⟩⟩
      refine ⟨_, hs16.get 4 rfl (j := 0) rfl, br_dec (fun hk => bad (by unfold doL; rw [if_pos (.inl hk)]) (by decide) 3 rfl hs16) fun hk1 => ⟨_, hs16.get 4 rfl (j := 0) rfl, br_dec (fun hk => bad (by unfold doL; rw [if_pos (.inr hk)]) (by decide) 3 rfl hs16) fun hk2 => hJ17 _ ?_⟩⟩
      have hk1 : ¬ e.kind < 1 := hk1
      have hk2 : ¬ e.kind > 9 := hk2
      have hD : doL w h next (layKs ks) e = (if (stepL w h next (layKs ks) e).1 ≠ 0 then ((stepL w h next (layKs ks) e).1, 0, []) else (0, nextL next e, (stepL w h next (layKs ks) e).2)) := by
        unfold doL; rw [if_neg (by omega)]
      refine ⟨_, hs16.get 4 rfl (j := 0) rfl, _, rfl, ?_⟩
      show 0 ≤ (IntKind.wrap .i64 (e.kind - (1 : Int))) ∧ _
      rw [wrap_id (n := e.kind - 1) (by omega) (by omega)]
      refine ⟨by omega, by omega, kindFn e.kind, #[], #[], ?_, _, rfl, rowIn_whole (hs16.block 1 rfl), ?_⟩
      · rw [Nat.mul_one, add_none, Nat.zero_add]
        exact hs16.get 0 rfl (kinds_get ⟨by omega, by omega⟩)
      show CallsH Try.prog (kindFn e.kind) #[.agg (workL rb db e s).toArray] H16 _
      have hs17 : St H H16 (resRoot rb K' ks' ++ (.cell db (docA w h next K') 26 :: .cell b7 (docA 0 0 0 .nil) 26 :: .cell wb (workL rb db e s).toArray 86 :: [])) := by
        have h1 := St.del (St.tail hs16) 3
        exact h1.perm (permC fun _ x => by
          show List.count x (.cell wb (workL rb db e s).toArray 86 :: .cell db (docA w h next K') 26 :: .cell b7 (docA 0 0 0 .nil) 26 :: resRoot rb K' ks') = _
          simp only [List.count_append, List.count_cons, List.count_nil]; ac_rfl)
      refine edit_call ⟨by omega, by omega⟩ hs17 (by rw [hlay]; exact hc) hnx hsz ⟨hed.rd, hed.shape, hed.params⟩ (by rw [hlay]; exact hras) (fun H24 hne hs24 => ⟨_, rfl, br_ne (fun _ => ?_) fun hh => absurd hh hne⟩) fun Kn ksn H24 h0 hl hs24 => ⟨_, rfl, br_ne (fun hh => absurd rfl hh) fun _ => ?_⟩
      · rw [hlay] at hne ⊢
        exact bad (by rw [hD, if_pos hne]) hne 0 rfl hs24
      · rw [hlay] at h0 hl
        rw [if_neg (by rw [h0]; simp)] at hD
        obtain ⟨hcell, hs25⟩ := un_root hs24
        have hs26 : St H H24 (.cell wb (workL rb db e s).toArray 86 :: .cell db (docA w h (nextL next e) K') 26 :: .cell b7 (docA 0 0 0 .nil) 26 :: (resG Kn ksn)) := hs25.perm (permC fun _ x => by
          simp only [List.count_append, List.count_cons, List.count_nil]; ac_rfl)
        refine ⟨_, hs26.get 0 rfl (j := 0) rfl, _, rfl, _, _, _, hcell, ?_⟩
        refine hs26.put 1 rfl (j := 3) (Nat.le_of_ble_eq_true rfl) rfl fun H31 hs31 => ⟨docA w h (nextL next e) Kn, rfl, rowIn_whole (hs31.block 1 rfl), rfl, ?_⟩
        refine hs31.putAll 2 rfl rfl (docA_one w h (nextL next e) Kn) fun H33 hs33 => ⟨docA w h (nextL next e) Kn, rfl, rowIn_whole (hs33.block 2 rfl), ?_⟩
        have := hok Kn ksn H33 (by rw [hD]) (by rw [hD]; exact hl) (hs33.drop 3)
        rw [hD] at this
        exact this
    have hb5 : ∀ {H1 : Heap}, Ext H11 H1 → rowIn H1 ⟨b5, 0, none⟩ (edL e s).toArray := fun he => rowAt_ext he (rowIn_whole (hs11.block 2 rfl))
    refine ⟨(edL e s).toArray, rfl, hb5 (Ext.refl _), ?_, ?_⟩
    · refine c40 (hs11.block 0 rfl) fun rb H43 hp43 => ⟨_, rfl, .inl hp43.ext, rfl, by decide, ?_⟩
      have hs43 := hs11.call hp43
      refine hs43.alcE fun b45 H46 he46 hs46 => ⟨.inl he46, rfl, hs46.putAll 0 rfl rfl (workL_one rb db e s) fun H47 hs47 => main12 b45 rb H47 ?_⟩
      have h1 : St H H47 (.cell rb (cellsT (rootT K' [])).toArray 58 :: (resG K' ks' ++ (.cell b45 (workL rb db e s).toArray 86 :: .cell db (docA w h next K') 26 :: .cell b7 (docA 0 0 0 .nil) 26 :: .cell b5 (edL e s).toArray 43 :: []))) := hs47.perm (permC fun _ x => by
        show List.count x (.cell b45 (workL rb db e s).toArray 86 :: .cell rb (cellsT (rootT K' [])).toArray 58 :: .cell db (docA w h next K') 26 :: .cell b7 (docA 0 0 0 .nil) 26 :: .cell b5 (edL e s).toArray 43 :: (resG K' ks')) = _
        simp only [List.count_append, List.count_cons, List.count_nil]; ac_rfl)
      exact (mk_root h1).perm (permC fun _ x => by simp only [List.count_append, List.count_cons, List.count_nil]; ac_rfl)
    · refine hs11.alcE fun b50 H51 he51 hs51 => ⟨.inl he51, ?_⟩
      refine c40 (hs51.block 1 rfl) fun rb H53 hp53 => ⟨_, rfl, .inl hp53.ext, rfl, by decide, rfl, ?_⟩
      have hs53 := hs51.call hp53
      refine hs53.putAll 1 rfl rfl (workL_one rb db e s) fun H55 hs55 => main12 b50 rb H55 ?_
      have h1 : St H H55 (.cell rb (cellsT (rootT K' [])).toArray 58 :: (resG K' ks' ++ (.cell b50 (workL rb db e s).toArray 86 :: .cell db (docA w h next K') 26 :: .cell b7 (docA 0 0 0 .nil) 26 :: .cell b5 (edL e s).toArray 43 :: []))) := hs55.perm (permC fun _ x => by
        show List.count x (.cell rb (cellsT (rootT K' [])).toArray 58 :: .cell b50 (workL rb db e s).toArray 86 :: .cell db (docA w h next K') 26 :: .cell b7 (docA 0 0 0 .nil) 26 :: .cell b5 (edL e s).toArray 43 :: (resG K' ks')) = _
        simp only [List.count_append, List.count_cons, List.count_nil]; ac_rfl)
      exact (mk_root h1).perm (permC fun _ x => by simp only [List.count_append, List.count_cons, List.count_nil]; ac_rfl)
  refine ⟨_, hs8.get 2 rfl (j := 0) rfl, _, hs8.get 2 rfl (j := 1) rfl, _, hs8.get 2 rfl (j := 2) rfl, _, _, _, hs8.get 2 rfl (j := 3) rfl, ?_, ?_⟩
  · refine c39 (K := K) (hg.ext hs8.ext) hokl (by omega) fun K' ks' H63 hlay hp63 => ⟨_, _, _, rfl, .inl hp63.ext, ?_⟩
    have hs63 := hs8.callR hp63
    refine hs63.alcE fun b65 H66 he66 hs66 => ⟨.inl he66, rfl, hs66.putAll 0 rfl rfl (docA_one w h next K') fun H67 hs67 => main9 b65 K' ks' H67 hlay ?_⟩
    exact (St.del hs67 3)
  · refine hs8.alcE fun b74 H75 he75 hs75 => ⟨.inl he75, ?_⟩
    refine c39 (K := K) (hg.ext hs75.ext) hokl (by omega) fun K' ks' H77 hlay hp77 => ⟨_, _, _, rfl, .inl hp77.ext, rfl, ?_⟩
    have hs77 := hs75.callR hp77
    refine hs77.putAll 0 rfl rfl (docA_one w h next K') fun H79 hs79 => main9 b74 K' ks' H79 hlay ?_
    exact (St.del hs79 3)

end Go.Proofs

/-
  OWN WORK. What stays true of documents, plain.
-/
set_option linter.unusedVariables false
set_option linter.unusedSimpArgs false
set_option maxRecDepth 10000
namespace Go.Proofs
open Go.Sh

structure DocL where
  w : Int
  h : Int
  next : Int
  ks : List Lay
def zeroD : DocL := ⟨0, 0, 0, []⟩
def doD (D : DocL) (e : Ed) : Int × DocL := if (doL D.w D.h D.next D.ks e).1 ≠ 0 then ((doL D.w D.h D.next D.ks e).1, zeroD) else (0, ⟨D.w, D.h, (doL D.w D.h D.next D.ks e).2.1, (doL D.w D.h D.next D.ks e).2.2⟩)

def oneM : M6 := ⟨65536, 0, 0, 65536, 0, 0⟩
structure goodF (w h next : Int) (f : LayF) : Prop where
  id : 1 ≤ f.id ∧ f.id < next
  kind : 0 ≤ f.kind ∧ f.kind ≤ 2
  opacity : 0 ≤ f.opacity ∧ f.opacity ≤ 255
  mode : 0 ≤ f.mode ∧ f.mode ≤ 11
  maskLen : f.mask = [] ∨ (f.mask.length : Int) = w * h
  maskV : ∀ c ∈ f.mask, c = 0 ∨ c = 255
  bare : f.kind ≠ 0 → f.w = 0 ∧ f.h = 0 ∧ f.p = [] ∧ f.map = oneM ∧ f.smooth = false
  plain : f.kind ≠ 2 → f.table = 2 ∧ f.params = []
  adj : f.kind = 2 → f.mode = 0
  ras : f.kind = 0 → sizedB f.w f.h = true ∧ (f.p.length : Int) = f.w * f.h ∧ f.p.all pixelB = true ∧ (backM f.map).1 = 0
  tab : tabB f.table f.params = true

mutual
def gT (G : LayF → Prop) : Lay → Prop
  | .mk f ks => G f ∧ (f.kind = 1 ∨ ks = []) ∧ gKs G ks
def gKs (G : LayF → Prop) : List Lay → Prop
  | [] => True
  | t :: ts => gT G t ∧ gKs G ts
end
mutual
def idsT : Lay → List Int
  | .mk f ks => f.id :: idsKs ks
def idsKs : List Lay → List Int
  | [] => []
  | t :: ts => idsT t ++ idsKs ts
end
structure Inv (D : DocL) : Prop where
  size : sizedB D.w D.h = true
  next : 1 ≤ D.next
  cnt : cntKs D.ks ≤ 4096
  dep : depKs D.ks ≤ 64
  ids : (idsKs D.ks).Nodup
  good : gKs (goodF D.w D.h D.next) D.ks

variable {G : LayF → Prop}
theorem gKs_app {a b : List Lay} : gKs G (a ++ b) ↔ gKs G a ∧ gKs G b := by
  induction a with
  | nil => simp [gKs]
  | cons t a ih => rw [List.cons_append, gKs, ih, gKs, and_assoc]
theorem gKs_iff {ts : List Lay} : gKs G ts ↔ ∀ t ∈ ts, gT G t := by
  induction ts with
  | nil => simp [gKs]
  | cons t ts ih => rw [gKs, ih, List.forall_mem_cons]
theorem gT_imp {G' : LayF → Prop} (h : ∀ f, G f → G' f) : ∀ t, gT G t → gT G' t := Lay.ind fun f ks ih hg => by
  rw [gT] at hg ⊢
  exact ⟨h f hg.1, hg.2.1, gKs_iff.2 fun t ht => ih t ht (gKs_iff.1 hg.2.2 t ht)⟩
theorem gKs_imp {G' : LayF → Prop} (h : ∀ f, G f → G' f) {ts : List Lay} (hg : gKs G ts) : gKs G' ts := gKs_iff.2 fun t ht => gT_imp h t (gKs_iff.1 hg t ht)
def gUp (G : LayF → Prop) : List FrL → Prop
  | [] => True
  | fr :: u => gKs G fr.pre ∧ gKs G fr.post ∧ G fr.f ∧ fr.f.kind = 1 ∧ gUp G u
theorem g_unplug : ∀ {u : List FrL} {ks : List Lay}, gKs G (plugL u ks) → ks ≠ [] → gUp G u ∧ gKs G ks
  | [], ks, h, _ => ⟨trivial, h⟩
  | fr :: u, ks, h, hne => by
    rw [plugL] at h
    obtain ⟨h1, h2⟩ := g_unplug h (by simp)
    rw [gKs_app, gKs, gT] at h2
    refine ⟨⟨h2.1, h2.2.2, h2.2.1.1, ?_, h1⟩, h2.2.1.2.2⟩
    rcases h2.2.1.2.1 with h | h
    · exact h
    · exact absurd h hne
theorem g_plug : ∀ {u : List FrL} {ks : List Lay}, gUp G u → gKs G ks → gKs G (plugL u ks)
  | [], ks, _, h => h
  | fr :: u, ks, hu, h => by
    rw [plugL]
    refine g_plug hu.2.2.2.2 ?_
    rw [gKs_app, gKs, gT]
    exact ⟨hu.1, ⟨hu.2.2.1, .inl hu.2.2.2.1, h⟩, hu.2.1⟩
/-- A layer in its place. -/
theorem g_node {fr : FrL} {u : List FrL} {ks : List Lay} (h : gKs G (plugL (fr :: u) ks)) : gUp G u ∧ gKs G fr.pre ∧ gT G (.mk fr.f ks) ∧ gKs G fr.post := by
  rw [plugL] at h
  obtain ⟨h1, h2⟩ := g_unplug h (by simp)
  rw [gKs_app, gKs] at h2
  exact ⟨h1, h2.1, h2.2.1, h2.2.2⟩
theorem g_set {fr : FrL} {u : List FrL} {ks : List Lay} (h1 : gUp G u) (h2 : gKs G fr.pre) (h3 : gT G (.mk fr.f ks)) (h4 : gKs G fr.post) : gKs G (plugL (fr :: u) ks) := by
  rw [plugL]
  refine g_plug h1 ?_
  rw [gKs_app, gKs]
  exact ⟨h2, h3, h4⟩

def idsUp : List FrL → List Int
  | [] => []
  | fr :: u => fr.f.id :: (idsKs fr.pre ++ idsKs fr.post ++ idsUp u)
theorem idsKs_app (a b : List Lay) : idsKs (a ++ b) = idsKs a ++ idsKs b := by
  induction a with
  | nil => simp [idsKs]
  | cons t a ih => rw [List.cons_append, idsKs, ih, idsKs, List.append_assoc]
theorem ids_plug : ∀ (u : List FrL) (ks : List Lay), (idsKs (plugL u ks)).Perm (idsKs ks ++ idsUp u)
  | [], ks => by rw [idsUp, List.append_nil]; exact List.Perm.refl _
  | fr :: u, ks => by
    rw [plugL]
    refine (ids_plug u _).trans (List.perm_iff_count.2 fun x => ?_)
    simp only [idsKs_app, idsKs, idsT, idsUp, List.count_append, List.count_cons]
    ac_rfl
def depUp : List FrL → Nat → Nat
  | [], d => d
  | fr :: u, d => depUp u (max (depKs fr.pre) (max (1 + d) (depKs fr.post)))
theorem dep_plug : ∀ (u : List FrL) (ks : List Lay), depKs (plugL u ks) = depUp u (depKs ks)
  | [], ks => rfl
  | fr :: u, ks => by rw [plugL, dep_plug u, depKs_app, depKs, depL, depUp]
theorem depUp_mono : ∀ (u : List FrL) {d d' : Nat}, d ≤ d' → depUp u d ≤ depUp u d'
  | [], d, d', h => h
  | fr :: u, d, d', h => by rw [depUp, depUp]; exact depUp_mono u (by omega)

theorem fl_plug (id : Int) : ∀ (t : Lay) (up : List FrL) (pre post : List Lay) (z : ZL), flT up pre post id t = some z → plugL z.1 z.2 = plugL up (pre ++ t :: post) ∧ ∃ fr u, z.1 = fr :: u ∧ fr.f.id = id := by
  refine Lay.ind fun f ks ih up pre post z hz => ?_
  rw [flT] at hz
  split at hz
  · rename_i h; cases hz; exact ⟨rfl, _, _, rfl, h⟩
  · have : ∀ (ts : List Lay), (∀ t ∈ ts, t ∈ ks) → ∀ (u : List FrL) (pre0 : List Lay), flK u pre0 id ts = some z → plugL z.1 z.2 = plugL u (pre0 ++ ts) ∧ ∃ fr u, z.1 = fr :: u ∧ fr.f.id = id := by
      intro ts
      induction ts with
      | nil => intro _ u pre0 h; rw [flK] at h; cases h
      | cons t ts ih2 =>
        intro hm u pre0 h
        rw [flK] at h
        split at h
        · rename_i z' hz'
          cases h
          exact ih t (hm t List.mem_cons_self) _ _ _ _ hz'
        · have := ih2 (fun t ht => hm t (List.mem_cons_of_mem _ ht)) _ _ h
          rw [List.append_assoc] at this
          exact this
    exact this ks (fun _ h => h) _ _ hz
theorem flK_plug {id : Int} : ∀ (ts : List Lay) (up : List FrL) (pre : List Lay) (z : ZL), flK up pre id ts = some z → plugL z.1 z.2 = plugL up (pre ++ ts) ∧ ∃ fr u, z.1 = fr :: u ∧ fr.f.id = id
  | [], up, pre, z, h => by rw [flK] at h; cases h
  | t :: ts, up, pre, z, h => by
    rw [flK] at h
    split at h
    · rename_i z' hz'
      cases h
      exact fl_plug id t _ _ _ _ hz'
    · have := flK_plug ts _ _ _ h
      rw [List.append_assoc] at this
      exact this
/-- A layer is found or not. -/
theorem fl_cases (id : Int) (D : List Lay) : flK [] [] id D = none ∨ ∃ fr u ks, flK [] [] id D = some (fr :: u, ks) ∧ fr.f.id = id ∧ plugL (fr :: u) ks = D := by
  cases h : flK [] [] id D with
  | none => exact .inl rfl
  | some z =>
    obtain ⟨h1, fr, u, h2, h3⟩ := flK_plug D _ _ z h
    obtain ⟨z1, z2⟩ := z
    simp only at h2 h1
    subst h2
    exact .inr ⟨fr, u, z2, rfl, h3, h1⟩

theorem Inv.okL {w h next : Int} (hsz : sizedB w h = true) : ∀ t, gT (goodF w h next) t → cntL t ≤ 1000000 → okL t := Lay.ind fun f ks ih hg hc => by
  rw [gT] at hg
  rw [cntL] at hc
  have hlen := len_cnt ks
  obtain ⟨q1, q2, q3, q4, q5⟩ := of_decide_eq_true hsz
  rw [Go.Proofs.okL]
  refine ⟨?_, ?_, ?_, by omega, okKs_iff.2 fun t ht => ih t ht (gKs_iff.1 hg.2.2 t ht) (by have := cnt_mem ht; omega)⟩
  · by_cases hk : f.kind = 0
    · obtain ⟨h1, h2, _⟩ := hg.1.ras hk
      obtain ⟨_, _, _, _, h3⟩ := of_decide_eq_true h1
      omega
    · rw [(hg.1.bare hk).2.2.1]; simp
  · rcases hg.1.maskLen with h | h
    · rw [h]; simp
    · omega
  · by_cases hk : f.kind = 2
    · have ht := tabB_kind hg.1.tab
      unfold kindP at ht
      split at ht
      · have := of_decide_eq_true ht; omega
      · split at ht
        · have := of_decide_eq_true ht; omega
        · split at ht
          · have := of_decide_eq_true ht; omega
          · split at ht
            · have := of_decide_eq_true ht; omega
            · cases ht
    · rw [(hg.1.plain hk).2]; simp
theorem Inv.ok {D : DocL} (h : Inv D) : okKs D.ks := okKs_iff.2 fun t ht => Inv.okL h.size t (gKs_iff.1 h.good t ht) (by have := cnt_mem ht; have := h.cnt; omega)
theorem Inv.found {D : DocL} (h : Inv D) {id : Int} {fr : FrL} {u : List FrL} {ks : List Lay} (hf : flK [] [] id D.ks = some (fr :: u, ks)) : goodF D.w D.h D.next fr.f ∧ (fr.f.kind = 1 ∨ ks = []) := by
  have hp := (flK_plug D.ks _ _ _ hf).1
  have hg := h.good
  have hp : plugL (fr :: u) ks = D.ks := hp
  rw [← hp] at hg
  have := (g_node hg).2.2.1
  rw [gT] at this
  exact ⟨this.1, this.2.1⟩
theorem Inv.ras {D : DocL} (h : Inv D) {id : Int} {fr : FrL} {u : List FrL} {ks : List Lay} (hf : flK [] [] id D.ks = some (fr :: u, ks)) : okRas fr.f := fun hk => ⟨((h.found hf).1.ras hk).1, ((h.found hf).1.ras hk).2.1⟩

theorem chg_inv {D : DocL} (h : Inv D) {g : LayF → Int × LayF} {id : Int} (hg : ∀ f, goodF D.w D.h D.next f → (g f).1 = 0 → goodF D.w D.h D.next (g f).2 ∧ (g f).2.id = f.id ∧ (g f).2.kind = f.kind) (h0 : (chgL g D.ks id).1 = 0) : Inv ⟨D.w, D.h, D.next, (chgL g D.ks id).2⟩ := by
  rcases fl_cases id D.ks with hn | ⟨fr, u, ks, hf, hid, hp⟩
  · rw [chg_none hn] at h0; exact absurd h0 (by decide)
  · obtain ⟨g1, g2⟩ := h.found hf
    by_cases he : (g fr.f).1 = 0
    · have hge : g fr.f = (0, (g fr.f).2) := Prod.ext he rfl
      have hc := chg_ok (g := g) hf hge
      obtain ⟨k1, k2, k3⟩ := hg fr.f g1 he
      rw [hc]
      have hgd := h.good
      have hi := h.ids
      have hcn := h.cnt
      have hdp := h.dep
      rw [← hp] at hgd hi hcn hdp
      obtain ⟨u1, u2, u3, u4⟩ := g_node hgd
      rw [gT] at u3
      refine ⟨h.size, h.next, ?_, ?_, ?_, ?_⟩
      · show cntKs (plugL (⟨fr.pre, (g fr.f).2, fr.post⟩ :: u) ks) ≤ 4096
        rw [cnt_plug] at hcn ⊢; exact hcn
      · show depKs (plugL (⟨fr.pre, (g fr.f).2, fr.post⟩ :: u) ks) ≤ 64
        rw [dep_plug] at hdp ⊢; exact hdp
      · refine ((ids_plug _ _).nodup_iff).2 ?_
        have := ((ids_plug _ _).nodup_iff).1 hi
        rw [idsUp] at this ⊢
        rw [k2]; exact this
      · refine g_set (fr := ⟨fr.pre, (g fr.f).2, fr.post⟩) u1 u2 ?_ u4
        rw [gT]
        exact ⟨k1, by rw [k3]; exact u3.2.1, u3.2.2⟩
    · have := chg_bad (g := g) hf (show g fr.f = ((g fr.f).1, (g fr.f).2) from rfl) he
      rw [this] at h0; exact absurd h0 he

end Go.Proofs

/-
  OWN WORK. Every edit keeps what stays true.
-/
set_option linter.unusedVariables false
set_option linter.unusedSimpArgs false
set_option maxRecDepth 10000
namespace Go.Proofs
open Go.Sh

theorem look_good {w h next : Int} {e : Ed} {f : LayF} (hg : goodF w h next f) (h0 : (lookF e f).1 = 0) : goodF w h next (lookF e f).2 ∧ (lookF e f).2.id = f.id ∧ (lookF e f).2.kind = f.kind := by
  unfold lookF at h0 ⊢
  split at h0
  · simp at h0
  · rename_i c1
    split at h0
    · simp at h0
    · rename_i c2
      rw [if_neg c1, if_neg c2]
      refine ⟨⟨hg.id, hg.kind, by show 0 ≤ e.n ∧ e.n ≤ 255; omega, by show 0 ≤ e.m ∧ e.m ≤ 11; omega, hg.maskLen, hg.maskV, hg.bare, hg.plain, fun hk => ?_, hg.ras, hg.tab⟩, rfl, rfl⟩
      show e.m = 0
      exact Decidable.byContradiction fun hm => c2 ⟨hk, hm⟩
theorem hide_good {w h next : Int} {e : Ed} {f : LayF} (hg : goodF w h next f) (h0 : (hideF e f).1 = 0) : goodF w h next (hideF e f).2 ∧ (hideF e f).2.id = f.id ∧ (hideF e f).2.kind = f.kind := by
  unfold hideF at h0 ⊢
  split at h0
  · simp at h0
  · rename_i c1
    rw [if_neg c1]
    exact ⟨⟨hg.id, hg.kind, hg.opacity, hg.mode, hg.maskLen, hg.maskV, hg.bare, hg.plain, hg.adj, hg.ras, hg.tab⟩, rfl, rfl⟩
theorem paint_good {w h next : Int} {e : Ed} {f : LayF} (hg : goodF w h next f) (h0 : (paintF e f).1 = 0) : goodF w h next (paintF e f).2 ∧ (paintF e f).2.id = f.id ∧ (paintF e f).2.kind = f.kind := by
  unfold paintF at h0 ⊢
  split at h0
  · simp at h0
  rename_i c1
  split at h0
  · simp at h0
  rename_i c2
  split at h0
  · simp at h0
  rename_i c3
  split at h0
  · simp at h0
  rename_i c4
  rw [if_neg c1, if_neg c2, if_neg c3, if_neg c4]
  refine ⟨⟨hg.id, hg.kind, hg.opacity, hg.mode, hg.maskLen, hg.maskV, fun hk => absurd hk c1, hg.plain, hg.adj, fun hk => ?_, hg.tab⟩, rfl, rfl⟩
  obtain ⟨r1, r2, r3, r4⟩ := hg.ras hk
  refine ⟨r1, ?_, ?_, r4⟩
  · show ((paintP e f.w f.p).length : Int) = _
    unfold paintP; rw [List.length_map, List.length_range]; exact r2
  · show (paintP e f.w f.p).all pixelB = true
    rw [List.all_eq_true]
    intro v hv
    unfold paintP at hv
    obtain ⟨q, hq, rfl⟩ := List.mem_map.1 hv
    have hql := List.mem_range.1 hq
    split
    · rename_i hin
      have hr := idxP_rng hin
      have hl : (e.p.length : Int) = e.w * e.h := Decidable.byContradiction fun hh => c2 (.inr (.inr (.inr (.inr hh))))
      have hlt : (idxP e f.w q).toNat < e.p.length := by omega
      rw [List.getD_eq_getElem?_getD, List.getElem?_eq_getElem hlt]
      have hc3 : e.p.any (fun v => !pixelB v) = false := by simpa using c3
      have := List.any_eq_false.1 hc3 _ (List.getElem_mem hlt)
      simpa using this
    · rw [List.getD_eq_getElem?_getD, List.getElem?_eq_getElem hql]
      exact List.all_eq_true.1 r3 _ (List.getElem_mem hql)
theorem mask_good {w h next : Int} (hsz : sizedB w h = true) {e : Ed} {f : LayF} (hg : goodF w h next f) (h0 : (maskF w h e f).1 = 0) : goodF w h next (maskF w h e f).2 ∧ (maskF w h e f).2.id = f.id ∧ (maskF w h e f).2.kind = f.kind := by
  obtain ⟨q1, q2, q3, q4, q5⟩ := of_decide_eq_true hsz
  have hpos : 0 ≤ w * h := Int.mul_nonneg (by omega) (by omega)
  unfold maskF at h0 ⊢
  split at h0
  · simp at h0
  rename_i c1
  rw [if_neg c1]
  split at h0
  · rename_i c2
    rw [if_pos c2]
    exact ⟨⟨hg.id, hg.kind, hg.opacity, hg.mode, .inl rfl, fun _ hc => (by cases hc), hg.bare, hg.plain, hg.adj, hg.ras, hg.tab⟩, rfl, rfl⟩
  rename_i c2
  rw [if_neg c2]
  split at h0
  · simp at h0
  rename_i c3
  rw [if_neg c3]
  refine ⟨⟨hg.id, hg.kind, hg.opacity, hg.mode, .inr ?_, fun c hc => ?_, hg.bare, hg.plain, hg.adj, hg.ras, hg.tab⟩, rfl, rfl⟩
  · show ((maskL w h (fun x y => withinB e.shape x y != (e.n == 1))).length : Int) = w * h
    unfold maskL; rw [List.length_map, List.length_range]; omega
  · unfold maskL at hc
    obtain ⟨q, hq, rfl⟩ := List.mem_map.1 hc
    split
    · exact .inr rfl
    · exact .inl rfl
theorem place_good {w h next : Int} {e : Ed} {f : LayF} (hg : goodF w h next f) (h0 : (placeF e f).1 = 0) : goodF w h next (placeF e f).2 ∧ (placeF e f).2.id = f.id ∧ (placeF e f).2.kind = f.kind := by
  unfold placeF at h0 ⊢
  split at h0
  · simp at h0
  rename_i c1
  split at h0
  · simp at h0
  rename_i c2
  split at h0
  · rename_i c3; exact absurd h0 c3
  rename_i c3
  rw [if_neg c1, if_neg c2, if_neg c3]
  refine ⟨⟨hg.id, hg.kind, hg.opacity, hg.mode, hg.maskLen, hg.maskV, fun hk => absurd hk c1, hg.plain, hg.adj, fun hk => ?_, hg.tab⟩, rfl, rfl⟩
  obtain ⟨r1, r2, r3, r4⟩ := hg.ras hk
  exact ⟨r1, r2, r3, Decidable.byContradiction c3⟩
theorem adjust_good {w h next : Int} {e : Ed} {f : LayF} (hg : goodF w h next f) (h0 : (adjustF e f).1 = 0) : goodF w h next (adjustF e f).2 ∧ (adjustF e f).2.id = f.id ∧ (adjustF e f).2.kind = f.kind := by
  unfold adjustF at h0 ⊢
  split at h0
  · simp at h0
  rename_i c1
  split at h0
  · simp at h0
  rename_i c2
  rw [if_neg c1, if_neg c2]
  exact ⟨⟨hg.id, hg.kind, hg.opacity, hg.mode, hg.maskLen, hg.maskV, hg.bare, fun hk => absurd hk c1, hg.adj, hg.ras, by simpa using c2⟩, rfl, rfl⟩

theorem home_cases (D : List Lay) (to : Int) {v : List FrL} {kh : List Lay} (h : homeL D to = (0, v, kh)) : plugL v kh = D ∧ ∀ {G : LayF → Prop}, gKs G D → gUp G v ∧ gKs G kh := by
  unfold homeL at h
  split at h
  · cases h; exact ⟨rfl, fun hg => ⟨trivial, hg⟩⟩
  · rcases fl_cases to D with hn | ⟨fr, u, ks, hf, hid, hp⟩
    · rw [hn] at h; cases h
    · rw [hf] at h
      simp only at h
      split at h
      · rename_i hk
        cases h
        refine ⟨hp, fun {G} hg => ?_⟩
        rw [← hp] at hg
        obtain ⟨u1, u2, u3, u4⟩ := g_node hg
        rw [gT] at u3
        exact ⟨⟨u2, u4, u3.1, hk, u1⟩, u3.2.2⟩
      · cases h
theorem home_tri {D : List Lay} {to : Int} (h : (homeL D to).1 = 0) : homeL D to = (0, (homeL D to).2.1, (homeL D to).2.2) := by
  rw [← h]

theorem put_ok {v : List FrL} {kh : List Lay} {a : Int} {l : Lay} (h0 : (putL v kh a l).1 = 0) : ∃ i, atL a kh.length = some i ∧ (putL v kh a l).2 = plugL v (kh.take i ++ l :: kh.drop i) ∧ depKs (plugL v (kh.take i ++ l :: kh.drop i)) ≤ 64 := by
  unfold putL at h0 ⊢
  split at h0
  · simp at h0
  · rename_i i hi
    refine ⟨i, hi, rfl, ?_⟩
    simp only at h0
    split at h0
    · simp at h0
    · omega
theorem put_ids (v : List FrL) (kh : List Lay) (i : Nat) (l : Lay) : (idsKs (plugL v (kh.take i ++ l :: kh.drop i))).Perm (idsT l ++ idsKs (plugL v kh)) := by
  refine (ids_plug _ _).trans ?_
  refine List.Perm.trans ?_ (List.Perm.append_left _ (ids_plug v kh).symm)
  refine List.perm_iff_count.2 fun x => ?_
  have h := idsKs_app (kh.take i) (kh.drop i)
  rw [List.take_append_drop] at h
  rw [h]
  simp only [idsKs_app, idsKs, List.count_append]
  ac_rfl
theorem put_cnt (v : List FrL) (kh : List Lay) (i : Nat) (l : Lay) : cntKs (plugL v (kh.take i ++ l :: kh.drop i)) = cntL l + cntKs (plugL v kh) := by
  rw [cnt_plug, cnt_plug, cntKs_app, cntKs]
  have h := cntKs_app (kh.take i) (kh.drop i)
  rw [List.take_append_drop] at h
  omega
theorem put_g {G : LayF → Prop} {v : List FrL} {kh : List Lay} {i : Nat} {l : Lay} (h1 : gUp G v) (h2 : gKs G kh) (h3 : gT G l) : gKs G (plugL v (kh.take i ++ l :: kh.drop i)) := by
  refine g_plug h1 ?_
  have h := gKs_app (G := G) (a := kh.take i) (b := kh.drop i)
  rw [List.take_append_drop] at h
  rw [gKs_app, gKs]
  exact ⟨(h.1 h2).1, h3, (h.1 h2).2⟩

theorem ids_lt {w h next : Int} : ∀ t, gT (goodF w h next) t → ∀ x ∈ idsT t, 1 ≤ x ∧ x < next := Lay.ind fun f ks ih hg x hx => by
  rw [gT] at hg
  rw [idsT] at hx
  rcases List.mem_cons.1 hx with rfl | hx
  · exact hg.1.id
  · have : ∀ (ts : List Lay), (∀ t ∈ ts, t ∈ ks) → x ∈ idsKs ts → 1 ≤ x ∧ x < next := by
      intro ts
      induction ts with
      | nil => intro _ h; cases h
      | cons t ts ih2 =>
        intro hm h
        rw [idsKs, List.mem_append] at h
        rcases h with h | h
        · exact ih t (hm t List.mem_cons_self) (gKs_iff.1 hg.2.2 t (hm t List.mem_cons_self)) x h
        · exact ih2 (fun t ht => hm t (List.mem_cons_of_mem _ ht)) h
    exact this ks (fun _ h => h) hx
theorem ids_ltKs {w h next : Int} : ∀ {ts : List Lay}, gKs (goodF w h next) ts → ∀ x ∈ idsKs ts, 1 ≤ x ∧ x < next
  | [], _, x, hx => by cases hx
  | t :: ts, hg, x, hx => by
    rw [gKs] at hg
    rw [idsKs, List.mem_append] at hx
    rcases hx with hx | hx
    · exact ids_lt t hg.1 x hx
    · exact ids_ltKs hg.2 x hx

theorem good_next {w h next : Int} {f : LayF} (hg : goodF w h next f) : goodF w h (next + 1) f := ⟨by have := hg.id; omega, hg.kind, hg.opacity, hg.mode, hg.maskLen, hg.maskV, hg.bare, hg.plain, hg.adj, hg.ras, hg.tab⟩
theorem pixel0 : pixelB 0 = true := by decide
theorem new_good {w h next : Int} {e : Ed} (hnx : 1 ≤ next) (h1 : ¬ (e.n < 0 ∨ e.n > 2)) (h2 : ¬ (e.n = 0 ∧ sizedB e.w e.h = false)) : goodF w h (next + 1) (newL next e) := by
  refine ⟨⟨hnx, by show next < next + 1; omega⟩, by show 0 ≤ e.n ∧ e.n ≤ 2; omega, ⟨by show (0 : Int) ≤ 255; decide, by show (255 : Int) ≤ 255; decide⟩, ⟨by show (0 : Int) ≤ 0; decide, by show (0 : Int) ≤ 11; decide⟩, .inl rfl, fun _ hc => (by cases hc), fun hk => ?_, fun _ => ⟨rfl, rfl⟩, fun _ => rfl, fun hk => ?_, by show tabB 2 [] = true; decide⟩
  · have hk : e.n ≠ 0 := hk
    unfold newL; rw [if_neg hk, if_neg hk, if_neg hk]; exact ⟨rfl, rfl, rfl, rfl, rfl⟩
  · have hk : e.n = 0 := hk
    have hsz : sizedB e.w e.h = true := by
      cases hs : sizedB e.w e.h with
      | true => rfl
      | false => exact absurd ⟨hk, hs⟩ h2
    obtain ⟨q1, q2, q3, q4, q5⟩ := of_decide_eq_true hsz
    have hpos : 0 ≤ e.w * e.h := Int.mul_nonneg (by omega) (by omega)
    unfold newL
    rw [if_pos hk, if_pos hk, if_pos hk]
    refine ⟨hsz, by rw [List.length_replicate]; exact Int.toNat_of_nonneg hpos, ?_, show (backM oneM).1 = 0 from by decide⟩
    rw [List.all_eq_true]
    intro v hv
    rw [(List.mem_replicate.1 hv).2]
    exact pixel0

theorem add_inv {D : DocL} (h : Inv D) {e : Ed} (h0 : (addL D.next D.ks e).1 = 0) : Inv ⟨D.w, D.h, D.next + 1, (addL D.next D.ks e).2⟩ := by
  unfold addL at h0 ⊢
  split at h0
  · simp at h0
  rename_i c1
  split at h0
  · simp at h0
  rename_i c2
  split at h0
  · rename_i c3; exact absurd h0 c3
  rename_i c3
  split at h0
  · rename_i c4; exact absurd h0 c4
  rename_i c4
  split at h0
  · simp at h0
  rename_i c5
  rw [if_neg c1, if_neg c2, if_neg c3, if_neg c4, if_neg c5]
  have hho := home_tri (Decidable.byContradiction c3)
  obtain ⟨hp, hgu⟩ := home_cases D.ks e.to hho
  obtain ⟨i, hi, hpu, hdp⟩ := put_ok (Decidable.byContradiction c4)
  obtain ⟨g1, g2⟩ := hgu (gKs_imp (fun f => good_next) h.good)
  rw [hpu]
  refine ⟨h.size, by have := h.next; show 1 ≤ D.next + 1; omega, ?_, hdp, ?_, ?_⟩
  · show cntKs (plugL _ _) ≤ 4096
    rw [put_cnt, hp, cntL, cntKs]; omega
  · refine ((put_ids _ _ i _).nodup_iff).2 ?_
    rw [hp, idsT, idsKs]
    show ((newL D.next e).id :: ([] ++ idsKs D.ks)).Nodup
    rw [List.nil_append, List.nodup_cons]
    exact ⟨fun hm => by
      have h1 := (ids_ltKs h.good _ hm).2
      have h2 : (newL D.next e).id = D.next := rfl
      omega, h.ids⟩
  · refine put_g g1 g2 ?_
    rw [gT]
    exact ⟨new_good h.next c1 c2, .inr rfl, trivial⟩

theorem out_inv {D : DocL} (h : Inv D) {id : Int} {fr : FrL} {u : List FrL} {ks : List Lay} (hf : flK [] [] id D.ks = some (fr :: u, ks)) :
    Inv ⟨D.w, D.h, D.next, plugL u (fr.pre ++ fr.post)⟩ ∧ gT (goodF D.w D.h D.next) (.mk fr.f ks) ∧ (idsT (.mk fr.f ks) ++ idsKs (plugL u (fr.pre ++ fr.post))).Nodup ∧ cntL (.mk fr.f ks) + cntKs (plugL u (fr.pre ++ fr.post)) = cntKs D.ks := by
  have hp : plugL (fr :: u) ks = D.ks := (flK_plug D.ks _ _ _ hf).1
  have hgd := h.good
  have hi := h.ids
  have hcn := h.cnt
  have hdp := h.dep
  rw [← hp] at hgd hi hcn hdp
  obtain ⟨u1, u2, u3, u4⟩ := g_node hgd
  have hids : (idsKs (plugL (fr :: u) ks)).Perm (idsT (.mk fr.f ks) ++ idsKs (plugL u (fr.pre ++ fr.post))) := by
    refine (ids_plug _ _).trans (List.Perm.trans ?_ (List.Perm.append_left _ (ids_plug u _).symm))
    refine List.perm_iff_count.2 fun x => ?_
    simp only [idsUp, idsT, idsKs_app, List.count_append, List.count_cons]
    ac_rfl
  have hno := (hids.nodup_iff).1 hi
  have hct : cntL (.mk fr.f ks) + cntKs (plugL u (fr.pre ++ fr.post)) = cntKs D.ks := by
    rw [← hp, cnt_plug, cnt_plug, cntUp, cntKs_app, cntL]; omega
  refine ⟨⟨h.size, h.next, by have := h.cnt; show cntKs (plugL u (fr.pre ++ fr.post)) ≤ 4096; omega, ?_, (List.nodup_append.1 hno).2.1, ?_⟩, u3, hno, hct⟩
  · show depKs (plugL u (fr.pre ++ fr.post)) ≤ 64
    rw [dep_plug] at hdp ⊢
    refine Nat.le_trans ?_ hdp
    rw [depUp, depKs_app]
    exact depUp_mono u (by omega)
  · exact g_plug u1 (gKs_app.2 ⟨u2, u4⟩)

theorem move_inv {D : DocL} (h : Inv D) {e : Ed} (h0 : (moveL D.ks e).1 = 0) : Inv ⟨D.w, D.h, D.next, (moveL D.ks e).2⟩ := by
  rcases fl_cases e.id D.ks with hn | ⟨fr, u, ks, hf, hid, hp⟩
  · unfold moveL at h0; rw [hn] at h0; simp at h0
  · obtain ⟨o1, o2, o3, o4⟩ := out_inv h hf
    unfold moveL at h0 ⊢
    rw [hf] at h0 ⊢
    simp only at h0 ⊢
    split at h0
    · rename_i c; exact absurd h0 c
    rename_i c1
    split at h0
    · simp at h0
    rename_i c2
    split at h0
    · rename_i c; exact absurd h0 c
    rename_i c3
    rw [if_neg c1, if_neg c2, if_neg c3]
    have hho := home_tri (Decidable.byContradiction c3)
    obtain ⟨hp2, hgu⟩ := home_cases _ e.to hho
    obtain ⟨i, hi, hpu, hdp⟩ := put_ok h0
    obtain ⟨g1, g2⟩ := hgu o1.good
    rw [hpu]
    refine ⟨h.size, h.next, ?_, hdp, ?_, put_g g1 g2 o2⟩
    · show cntKs (plugL _ _) ≤ 4096
      have := h.cnt
      rw [put_cnt, hp2]; omega
    · refine ((put_ids _ _ i _).nodup_iff).2 ?_
      rw [hp2]; exact o3

/-- An edit that is done keeps it. -/
theorem do_inv {D : DocL} (h : Inv D) {e : Ed} (h0 : (doD D e).1 = 0) : Inv (doD D e).2 := by
  unfold doD at h0 ⊢
  by_cases hd : (doL D.w D.h D.next D.ks e).1 ≠ 0
  · rw [if_pos hd] at h0; exact absurd h0 hd
  rw [if_neg hd]
  unfold doL at hd ⊢
  by_cases hk : e.kind < 1 ∨ e.kind > 9
  · rw [if_pos hk] at hd; simp at hd
  rw [if_neg hk] at hd ⊢
  by_cases hs : (stepL D.w D.h D.next D.ks e).1 ≠ 0
  · rw [if_pos hs] at hd; exact absurd hs hd
  rw [if_neg hs]
  have hs := Decidable.byContradiction hs
  show Inv ⟨D.w, D.h, nextL D.next e, (stepL D.w D.h D.next D.ks e).2⟩
  unfold stepL at hs ⊢
  by_cases k1 : e.kind = 1
  · rw [if_pos k1] at hs ⊢; rw [show nextL D.next e = D.next + 1 from by unfold nextL; rw [if_pos k1]]; exact add_inv h hs
  rw [if_neg k1] at hs ⊢
  rw [show nextL D.next e = D.next from by unfold nextL; rw [if_neg k1]]
  by_cases k2 : e.kind = 2
  · rw [if_pos k2] at hs ⊢
    rcases fl_cases e.id D.ks with hn | ⟨fr, u, ks, hf, hid, hp⟩
    · unfold removeL at hs; rw [hn] at hs; simp at hs
    · have := (out_inv h hf).1
      unfold removeL; rw [hf]; exact this
  rw [if_neg k2] at hs ⊢
  by_cases k3 : e.kind = 3
  · rw [if_pos k3] at hs ⊢; exact move_inv h hs
  rw [if_neg k3] at hs ⊢
  by_cases k4 : e.kind = 4
  · rw [if_pos k4] at hs ⊢; exact chg_inv h (fun f => paint_good) hs
  rw [if_neg k4] at hs ⊢
  by_cases k5 : e.kind = 5
  · rw [if_pos k5] at hs ⊢; exact chg_inv h (fun f => look_good) hs
  rw [if_neg k5] at hs ⊢
  by_cases k6 : e.kind = 6
  · rw [if_pos k6] at hs ⊢; exact chg_inv h (fun f => hide_good) hs
  rw [if_neg k6] at hs ⊢
  by_cases k7 : e.kind = 7
  · rw [if_pos k7] at hs ⊢; exact chg_inv h (fun f => mask_good h.size) hs
  rw [if_neg k7] at hs ⊢
  by_cases k8 : e.kind = 8
  · rw [if_pos k8] at hs ⊢; exact chg_inv h (fun f => place_good) hs
  rw [if_neg k8] at hs ⊢
  by_cases k9 : e.kind = 9
  · rw [if_pos k9] at hs ⊢; exact chg_inv h (fun f => adjust_good) hs
  · rw [if_neg k9] at hs; simp at hs
theorem new_inv {w h : Int} (hs : sizedB w h = true) : Inv ⟨w, h, 1, []⟩ := ⟨hs, Int.le_refl _, by simp [cntKs], by simp [depKs], by simp [idsKs], trivial⟩
theorem do_next {D : DocL} {e : Ed} (h0 : (doD D e).1 = 0) : D.next ≤ (doD D e).2.next ∧ (doD D e).2.next ≤ D.next + 1 ∧ (doD D e).2.w = D.w ∧ (doD D e).2.h = D.h := by
  unfold doD at h0 ⊢
  by_cases hd : (doL D.w D.h D.next D.ks e).1 ≠ 0
  · rw [if_pos hd] at h0; exact absurd h0 hd
  rw [if_neg hd]
  unfold doL at hd ⊢
  by_cases hk : e.kind < 1 ∨ e.kind > 9
  · rw [if_pos hk] at hd; simp at hd
  rw [if_neg hk] at hd ⊢
  by_cases hs : (stepL D.w D.h D.next D.ks e).1 ≠ 0
  · rw [if_pos hs] at hd; exact absurd hs hd
  rw [if_neg hs]
  refine ⟨?_, ?_, rfl, rfl⟩ <;> (show _; unfold nextL; split <;> simp <;> omega)

end Go.Proofs

/-
  OWN WORK. The document's layers, in one list, each with the group that it stands in; how they stand to the tree's. Plain.
-/
set_option linter.unusedVariables false
set_option linter.unusedSimpArgs false
set_option maxRecDepth 10000
namespace Go.Proofs
open Go.Sh

structure Rw where
  f : LayF
  to : Int
  deriving DecidableEq

mutual
def flatT (to : Int) : Lay → List Rw
  | .mk f ks => ⟨f, to⟩ :: flatKs f.id ks
def flatKs (to : Int) : List Lay → List Rw
  | [] => []
  | t :: ts => flatT to t ++ flatKs to ts
end
/-- Those that stand in a group. -/
def ofG (to : Int) (L : List Rw) : List Rw := L.filter fun r => decide (r.to = to)
/-- The same layers, each group's in the same order. -/
def Rel (D : List Lay) (L : List Rw) : Prop := ∀ to, ofG to L = ofG to (flatKs 0 D)

theorem ofG_app (to : Int) (a b : List Rw) : ofG to (a ++ b) = ofG to a ++ ofG to b := List.filter_append _ _
theorem ofG_nil {to : Int} {L : List Rw} (h : ∀ r ∈ L, r.to ≠ to) : ofG to L = [] := List.filter_eq_nil_iff.2 fun r hr => by simpa using h r hr
theorem ofG_cons_eq {to : Int} {r : Rw} (h : r.to = to) (L : List Rw) : ofG to (r :: L) = r :: ofG to L := by unfold ofG; rw [List.filter_cons, if_pos (by simpa using h)]
theorem ofG_cons_ne {to : Int} {r : Rw} (h : r.to ≠ to) (L : List Rw) : ofG to (r :: L) = ofG to L := by unfold ofG; rw [List.filter_cons, if_neg (by simpa using h)]
theorem ofG_mem {to : Int} {L : List Rw} {r : Rw} : r ∈ ofG to L ↔ r ∈ L ∧ r.to = to := by unfold ofG; rw [List.mem_filter]; simp
theorem flatKs_app (to : Int) (a b : List Lay) : flatKs to (a ++ b) = flatKs to a ++ flatKs to b := by
  induction a with
  | nil => rfl
  | cons t a ih => rw [List.cons_append, flatKs, ih, flatKs, List.append_assoc]
theorem flatKs_cons (to : Int) (f : LayF) (ks ts : List Lay) : flatKs to (.mk f ks :: ts) = ⟨f, to⟩ :: (flatKs f.id ks ++ flatKs to ts) := by rw [flatKs, flatT]; rfl
theorem idsKs_cons (f : LayF) (ks ts : List Lay) : idsKs (.mk f ks :: ts) = f.id :: (idsKs ks ++ idsKs ts) := by rw [idsKs, idsT]; rfl
/-- The numbers of a list. -/
def idsR (L : List Rw) : List Int := L.map fun r => r.f.id
theorem idsR_app (a b : List Rw) : idsR (a ++ b) = idsR a ++ idsR b := List.map_append
theorem flat_ids : ∀ t to, idsR (flatT to t) = idsT t := Lay.ind fun f ks ih to => by
  rw [flatT, idsT, idsR, List.map_cons]
  have : ∀ (ts : List Lay), (∀ t ∈ ts, t ∈ ks) → ∀ g, idsR (flatKs g ts) = idsKs ts := by
    intro ts
    induction ts with
    | nil => intro _ g; rfl
    | cons t ts ih2 => intro hm g; rw [flatKs, idsKs, idsR_app, ih t (hm t List.mem_cons_self), ih2 fun t ht => hm t (List.mem_cons_of_mem _ ht)]
  rw [show List.map (fun r => r.f.id) (flatKs f.id ks) = idsKs ks from this ks (fun _ h => h) f.id]
theorem flatKs_ids : ∀ (ts : List Lay) (to : Int), idsR (flatKs to ts) = idsKs ts
  | [], to => rfl
  | t :: ts, to => by rw [flatKs, idsKs, idsR_app, flat_ids, flatKs_ids ts]
theorem to_memT : ∀ t g, ∀ x ∈ flatT g t, x.to = g ∨ x.to ∈ idsT t := Lay.ind fun f ks ih g x hx => by
  rw [flatT] at hx
  rw [idsT]
  rcases List.mem_cons.1 hx with rfl | hx
  · exact .inl rfl
  · have : ∀ (ts : List Lay), (∀ t ∈ ts, t ∈ ks) → ∀ x ∈ flatKs f.id ts, x.to = f.id ∨ x.to ∈ idsKs ts := by
      intro ts
      induction ts with
      | nil => intro _ x hx; cases hx
      | cons t ts ih2 =>
        intro hm x hx
        rw [flatKs] at hx
        rw [idsKs]
        rcases List.mem_append.1 hx with hx | hx
        · exact (ih t (hm t List.mem_cons_self) _ x hx).imp id fun h => List.mem_append_left _ h
        · exact (ih2 (fun t ht => hm t (List.mem_cons_of_mem _ ht)) x hx).imp id fun h => List.mem_append_right _ h
    rcases this ks (fun _ h => h) x hx with h | h
    · exact .inr (h ▸ List.mem_cons_self)
    · exact .inr (List.mem_cons_of_mem _ h)
theorem to_mem : ∀ {ts : List Lay} {g : Int}, ∀ x ∈ flatKs g ts, x.to = g ∨ x.to ∈ idsKs ts
  | [], g, x, hx => by cases hx
  | t :: ts, g, x, hx => by
    rw [flatKs] at hx
    rw [idsKs]
    rcases List.mem_append.1 hx with hx | hx
    · exact (to_memT t g x hx).imp id fun h => List.mem_append_left _ h
    · exact (to_mem x hx).imp id fun h => List.mem_append_right _ h
theorem ofG_other {to g : Int} {ks : List Lay} (h : to ≠ g) (hn : to ∉ idsKs ks) : ofG to (flatKs g ks) = [] :=
  ofG_nil fun r hr he => (to_mem r hr).elim (fun h2 => h (he ▸ h2)) fun h2 => hn (he ▸ h2)
def rowG (g : Int) (t : Lay) : Rw := ⟨t.f, g⟩
theorem ofG_own {g : Int} : ∀ {ks : List Lay}, g ∉ idsKs ks → ofG g (flatKs g ks) = ks.map (rowG g)
  | [], _ => rfl
  | .mk f ks :: ts, hn => by
    rw [idsKs_cons] at hn
    simp only [List.mem_cons, List.mem_append, not_or] at hn
    rw [flatKs_cons, ofG_cons_eq (r := ⟨f, g⟩) rfl, ofG_app, ofG_other (fun h => hn.1 h) hn.2.1, ofG_own hn.2.2]
    rfl
theorem ofG_hole {g g0 : Int} {pre post ks : List Lay} {f : LayF} (h1 : g ∉ idsKs pre) (h2 : g ∉ idsKs post) (h0 : g ≠ g0) : ofG g (flatKs g0 (pre ++ .mk f ks :: post)) = ofG g (flatKs f.id ks) := by
  rw [flatKs_app, ofG_app, ofG_other h0 h1, flatKs_cons, ofG_cons_ne (fun h => h0 h.symm), ofG_app, ofG_other h0 h2, List.nil_append, List.append_nil]

/-- The group's number. -/
def gid : List FrL → Int
  | [] => 0
  | fr :: _ => fr.f.id
def preV : List FrL → List Rw
  | [] => []
  | fr :: u => preV u ++ (flatKs (gid u) fr.pre ++ [⟨fr.f, gid u⟩])
def postV : List FrL → List Rw
  | [] => []
  | fr :: u => flatKs (gid u) fr.post ++ postV u
theorem flat_plug : ∀ (v : List FrL) (kh : List Lay), flatKs 0 (plugL v kh) = preV v ++ (flatKs (gid v) kh ++ postV v)
  | [], kh => by simp [plugL, preV, postV, gid]
  | fr :: u, kh => by
    rw [plugL, flat_plug u, flatKs_app, flatKs_cons, preV, postV, gid]
    simp
theorem gid_up : ∀ (u : List FrL), gid u = 0 ∨ gid u ∈ idsUp u
  | [] => .inl rfl
  | fr :: u => .inr (by rw [idsUp, gid]; simp)
theorem ofG_up {g : Int} (h0 : g ≠ 0) : ∀ (u : List FrL) (ks : List Lay), g ∉ idsUp u → ofG g (flatKs 0 (plugL u ks)) = ofG g (flatKs (gid u) ks)
  | [], ks, _ => rfl
  | fr :: u, ks, hn => by
    rw [idsUp] at hn
    simp only [List.mem_cons, List.mem_append, not_or] at hn
    rw [plugL, ofG_up h0 u _ (by simp_all), ofG_hole (by simp_all) (by simp_all) fun h => ?_]
    · rfl
    · rcases gid_up u with h2 | h2
      · exact h0 (h.trans h2)
      · rw [← h] at h2; simp_all

/-- Numbers that are right: none twice, none 0. -/
structure Ids (D : List Lay) : Prop where
  nodup : (idsKs D).Nodup
  pos : ∀ x ∈ idsKs D, x ≠ 0
theorem Inv.ids' {D : DocL} (h : Inv D) : Ids D.ks := ⟨h.ids, fun x hx => by have := ids_ltKs h.good x hx; omega⟩

theorem Ids.split {fr : FrL} {u : List FrL} {ks : List Lay} (h : Ids (plugL (fr :: u) ks)) : fr.f.id ≠ 0 ∧ fr.f.id ∉ idsKs ks ∧ fr.f.id ∉ idsUp u ∧ fr.f.id ∉ idsKs fr.pre ∧ fr.f.id ∉ idsKs fr.post ∧ (∀ x ∈ idsKs ks, x ≠ 0 ∧ x ∉ idsUp (fr :: u)) := by
  have hp := ids_plug (fr :: u) ks
  have hn := (hp.nodup_iff).1 h.nodup
  have hz : ∀ x, x ∈ idsKs ks ++ idsUp (fr :: u) → x ≠ 0 := fun x hx => h.pos x (hp.mem_iff.2 hx)
  rw [List.nodup_append] at hn
  have hu := hn.2.1
  have e2 : (idsUp (fr :: u)).Perm (fr.f.id :: (idsKs fr.pre ++ idsKs fr.post ++ idsUp u)) := by rw [idsUp]
  have hu2 := (e2.nodup_iff).1 hu
  rw [List.nodup_cons] at hu2
  have hm := hu2.1
  simp only [List.mem_append, not_or] at hm
  have hfm : fr.f.id ∈ idsUp (fr :: u) := e2.mem_iff.2 List.mem_cons_self
  exact ⟨hz _ (List.mem_append_right _ hfm), fun hk => hn.2.2 _ hk _ hfm rfl, hm.2, hm.1.1, hm.1.2, fun x hx => ⟨hz x (List.mem_append_left _ hx), fun hxu => hn.2.2 _ hx _ hxu rfl⟩⟩

/-- A group's own. -/
theorem ofG_at {v : List FrL} {kh : List Lay} (h : Ids (plugL v kh)) : ofG (gid v) (flatKs 0 (plugL v kh)) = kh.map (rowG (gid v)) := by
  cases v with
  | nil => exact ofG_own fun hm => h.pos 0 hm rfl
  | cons fr u =>
    obtain ⟨h0, h1, h2, h3, h4, _⟩ := h.split
    rw [plugL, show gid (fr :: u) = fr.f.id from rfl, ofG_up h0 u _ h2, ofG_hole h3 h4]
    · exact ofG_own h1
    · rcases gid_up u with h5 | h5
      · rw [h5]; exact h0
      · intro he; rw [← he] at h5; exact h2 h5
/-- All others, whatever stands in the group. -/
theorem ofG_off {to : Int} {v : List FrL} {kh kh' : List Lay} (h : ofG to (flatKs (gid v) kh) = ofG to (flatKs (gid v) kh')) : ofG to (flatKs 0 (plugL v kh)) = ofG to (flatKs 0 (plugL v kh')) := by
  rw [flat_plug, flat_plug, ofG_app, ofG_app, ofG_app, ofG_app, h]

theorem Rel.perm {D : List Lay} {L : List Rw} (h : Rel D L) : L.Perm (flatKs 0 D) := List.perm_iff_count.2 fun x => by
  have hc : ∀ M : List Rw, M.count x = (ofG x.to M).count x := fun M => by unfold ofG; rw [List.count_filter (by simp)]
  rw [hc, hc (flatKs 0 D), h]
theorem Rel.mem {D : List Lay} {L : List Rw} (h : Rel D L) {x : Rw} : x ∈ L ↔ x ∈ flatKs 0 D := h.perm.mem_iff
theorem Rel.ids {D : List Lay} {L : List Rw} (h : Rel D L) : (idsR L).Perm (idsKs D) := by
  rw [← flatKs_ids D 0]; exact h.perm.map _
theorem Rel.nodup {D : List Lay} {L : List Rw} (h : Rel D L) (hi : Ids D) : (idsR L).Nodup := (h.ids.nodup_iff).2 hi.nodup
theorem Rel.len {D : List Lay} {L : List Rw} (h : Rel D L) : L.length = cntKs D := by
  rw [h.perm.length_eq]
  have : ∀ t g, (flatT g t).length = cntL t := Lay.ind fun f ks ih g => by
    rw [flatT, cntL, List.length_cons]
    have : ∀ (ts : List Lay), (∀ t ∈ ts, t ∈ ks) → (flatKs f.id ts).length = cntKs ts := by
      intro ts
      induction ts with
      | nil => intro _; rfl
      | cons t ts ih2 => intro hm; rw [flatKs, cntKs, List.length_append, ih t (hm t List.mem_cons_self), ih2 fun t ht => hm t (List.mem_cons_of_mem _ ht)]
    rw [this ks fun _ h => h]; omega
  have h2 : ∀ (ts : List Lay) (g : Int), (flatKs g ts).length = cntKs ts := by
    intro ts
    induction ts with
    | nil => intro g; rfl
    | cons t ts ih => intro g; rw [flatKs, cntKs, List.length_append, this, ih]
  exact h2 D 0
theorem ids_inj {L : List Rw} (hn : (idsR L).Nodup) : ∀ {x y : Rw}, x ∈ L → y ∈ L → x.f.id = y.f.id → x = y := by
  induction L with
  | nil => intro x y hx; cases hx
  | cons a L ih =>
    intro x y hx hy he
    rw [idsR, List.map_cons, List.nodup_cons] at hn
    rcases List.mem_cons.1 hx with hx | hx <;> rcases List.mem_cons.1 hy with hy | hy
    · rw [hx, hy]
    · exact absurd (List.mem_map.2 ⟨y, hy, by rw [← he, hx]⟩) hn.1
    · exact absurd (List.mem_map.2 ⟨x, hx, by rw [he, hy]⟩) hn.1
    · exact ih hn.2 hx hy he
/-- What stands at a place in the tree is in the list. -/
theorem at_mem {fr : FrL} {u : List FrL} {ks : List Lay} : (⟨fr.f, gid u⟩ : Rw) ∈ flatKs 0 (plugL (fr :: u) ks) := by
  rw [flat_plug, preV]; simp

theorem fl_none (id : Int) : ∀ (t : Lay) (up : List FrL) (pre post : List Lay), (flT up pre post id t = none ↔ id ∉ idsT t) := by
  refine Lay.ind fun f ks ih up pre post => ?_
  rw [flT, idsT]
  by_cases hf : f.id = id
  · rw [if_pos hf]; simp [hf]
  · rw [if_neg hf]
    have : ∀ (ts : List Lay), (∀ t ∈ ts, t ∈ ks) → ∀ (u : List FrL) (pre0 : List Lay), (flK u pre0 id ts = none ↔ id ∉ idsKs ts) := by
      intro ts
      induction ts with
      | nil => intro _ u pre0; rw [flK, idsKs]; simp
      | cons t ts ih2 =>
        intro hm u pre0
        have h1 := ih t (hm t List.mem_cons_self) u pre0 ts
        have h2 := ih2 (fun t ht => hm t (List.mem_cons_of_mem _ ht)) u (pre0 ++ [t])
        rw [flK, idsKs, List.mem_append, not_or, ← h1, ← h2]
        cases flT u pre0 ts id t with
        | none => simp
        | some z => simp
    rw [this ks (fun _ h => h), List.mem_cons, not_or]
    exact ⟨fun h => ⟨fun h2 => hf h2.symm, h⟩, fun h => h.2⟩
theorem flK_none {id : Int} : ∀ (ts : List Lay) (u : List FrL) (pre0 : List Lay), (flK u pre0 id ts = none ↔ id ∉ idsKs ts)
  | [], u, pre0 => by rw [flK, idsKs]; simp
  | t :: ts, u, pre0 => by
    have h1 := fl_none id t u pre0 ts
    have h2 := flK_none (id := id) ts u (pre0 ++ [t])
    rw [flK, idsKs, List.mem_append, not_or, ← h1, ← h2]
    cases flT u pre0 ts id t with
    | none => simp
    | some z => simp

/-- The numbers on the way from a layer to the root. -/
inductive Path (L : List Rw) : Int → List Int → Prop
  | nil : Path L 0 []
  | cons {r : Rw} {l : List Int} : r ∈ L → r.f.id ≠ 0 → Path L r.to l → Path L r.f.id (r.f.id :: l)
theorem Path.zero {L : List Rw} {l : List Int} (h : Path L 0 l) : l = [] := by
  generalize hz : (0 : Int) = z at h
  cases h with
  | nil => rfl
  | cons _ h1 _ => exact absurd hz.symm h1
theorem Path.uniq {L : List Rw} (hn : (idsR L).Nodup) {id : Int} {l : List Int} (h : Path L id l) : ∀ {l'}, Path L id l' → l = l' := by
  induction h with
  | nil => intro l' h'; exact h'.zero.symm
  | @cons r l hr h0 _ ih =>
    intro l' h'
    generalize hz : r.f.id = z at h'
    cases h' with
    | nil => exact absurd hz h0
    | @cons r' l2 hr' _ h2 => have e := ids_inj hn hr hr' hz; subst e; rw [ih h2]
def idsV (v : List FrL) : List Int := v.map fun fr => fr.f.id
theorem path_at {D : List Lay} {L : List Rw} (hr : Rel D L) (hi : Ids D) : ∀ (v : List FrL) (kh : List Lay), plugL v kh = D → Path L (gid v) (idsV v)
  | [], kh, _ => .nil
  | fr :: u, kh, h => by
    have h1 : (⟨fr.f, gid u⟩ : Rw) ∈ L := hr.mem.2 (h ▸ at_mem)
    refine Path.cons (r := ⟨fr.f, gid u⟩) h1 ?_ (path_at hr hi u _ h)
    subst h
    exact hi.split.1
/-- All that are within, at depths up to the deepest. -/
theorem path_allT {L : List Rw} : ∀ t g c, (∀ x ∈ flatT g t, x ∈ L ∧ x.f.id ≠ 0) → Path L g c → (∀ x ∈ flatT g t, ∃ c', Path L x.f.id c' ∧ c.length < c'.length ∧ c'.length ≤ c.length + depL t) ∧ ∃ x ∈ flatT g t, ∃ c', Path L x.f.id c' ∧ c'.length = c.length + depL t := by
  refine Lay.ind fun f ks ih g c hm hp => ?_
  rw [flatT] at hm ⊢
  rw [depL]
  obtain ⟨h1, h2⟩ := hm ⟨f, g⟩ List.mem_cons_self
  have hp1 : Path L f.id (f.id :: c) := Path.cons (r := ⟨f, g⟩) h1 h2 hp
  have : ∀ (ts : List Lay), (∀ t ∈ ts, t ∈ ks) → (∀ x ∈ flatKs f.id ts, x ∈ L ∧ x.f.id ≠ 0) → (∀ x ∈ flatKs f.id ts, ∃ c', Path L x.f.id c' ∧ c.length + 1 < c'.length ∧ c'.length ≤ c.length + 1 + depKs ts) ∧ (ts = [] ∨ ∃ x ∈ flatKs f.id ts, ∃ c', Path L x.f.id c' ∧ c'.length = c.length + 1 + depKs ts) := by
    intro ts
    induction ts with
    | nil => intro _ _; exact ⟨fun x hx => (by cases hx), .inl rfl⟩
    | cons t ts ih2 =>
      intro hk hm2
      rw [flatKs] at hm2 ⊢
      rw [depKs]
      obtain ⟨a1, x1, a2, c1, a3, a4⟩ := ih t (hk t List.mem_cons_self) f.id (f.id :: c) (fun x hx => hm2 x (List.mem_append_left _ hx)) hp1
      obtain ⟨b1, b2⟩ := ih2 (fun t ht => hk t (List.mem_cons_of_mem _ ht)) fun x hx => hm2 x (List.mem_append_right _ hx)
      rw [List.length_cons] at a1 a4
      refine ⟨fun x hx => ?_, .inr ?_⟩
      · rcases List.mem_append.1 hx with hx | hx
        · obtain ⟨c', q1, q2, q3⟩ := a1 x hx; exact ⟨c', q1, q2, by omega⟩
        · obtain ⟨c', q1, q2, q3⟩ := b1 x hx; exact ⟨c', q1, q2, by omega⟩
      · rcases Nat.lt_or_ge (depL t) (depKs ts) with hlt | hge
        · rcases b2 with rfl | ⟨x, hx, c', q1, q2⟩
          · rw [depKs] at hlt; omega
          · exact ⟨x, List.mem_append_right _ hx, c', q1, by omega⟩
        · exact ⟨x1, List.mem_append_left _ a2, c1, a3, by omega⟩
  obtain ⟨b1, b2⟩ := this ks (fun _ h => h) fun x hx => hm x (List.mem_cons_of_mem _ hx)
  refine ⟨fun x hx => ?_, ?_⟩
  · rcases List.mem_cons.1 hx with rfl | hx
    · exact ⟨_, hp1, by simp, by rw [List.length_cons]; omega⟩
    · obtain ⟨c', q1, q2, q3⟩ := b1 x hx; exact ⟨c', q1, by omega, by omega⟩
  · rcases b2 with rfl | ⟨x, hx, c', q1, q2⟩
    · exact ⟨_, List.mem_cons_self, _, hp1, by simp [depKs]⟩
    · exact ⟨x, List.mem_cons_of_mem _ hx, c', q1, by omega⟩
theorem path_ks {L : List Rw} {g : Int} {c : List Int} (hp : Path L g c) : ∀ ts : List Lay, (∀ x ∈ flatKs g ts, x ∈ L ∧ x.f.id ≠ 0) → (∀ x ∈ flatKs g ts, ∃ c', Path L x.f.id c' ∧ c.length < c'.length ∧ c'.length ≤ c.length + depKs ts) ∧ (ts = [] ∨ ∃ x ∈ flatKs g ts, ∃ c', Path L x.f.id c' ∧ c'.length = c.length + depKs ts)
  | [], _ => ⟨fun x hx => (by cases hx), .inl rfl⟩
  | t :: ts, hm => by
    rw [flatKs] at hm ⊢
    rw [depKs]
    obtain ⟨a1, x1, a2, c1, a3, a4⟩ := path_allT t g c (fun x hx => hm x (List.mem_append_left _ hx)) hp
    obtain ⟨b1, b2⟩ := path_ks hp ts fun x hx => hm x (List.mem_append_right _ hx)
    refine ⟨fun x hx => ?_, .inr ?_⟩
    · rcases List.mem_append.1 hx with hx | hx
      · obtain ⟨c', q1, q2, q3⟩ := a1 x hx; exact ⟨c', q1, q2, by omega⟩
      · obtain ⟨c', q1, q2, q3⟩ := b1 x hx; exact ⟨c', q1, q2, by omega⟩
    · rcases Nat.lt_or_ge (depL t) (depKs ts) with hlt | hge
      · rcases b2 with rfl | ⟨x, hx, c', q1, q2⟩
        · rw [depKs] at hlt; omega
        · exact ⟨x, List.mem_append_right _ hx, c', q1, by omega⟩
      · exact ⟨x1, List.mem_append_left _ a2, c1, a3, by omega⟩

end Go.Proofs

/-
  OWN WORK. Edits, in the tree and in the list; documents that are alike. Plain.
-/
set_option linter.unusedVariables false
set_option linter.unusedSimpArgs false
set_option maxRecDepth 10000
namespace Go.Proofs
open Go.Sh

/-- The places of a group's. -/
def kidsI (g : Int) : Nat → List Rw → List Nat
  | _, [] => []
  | b, r :: L => if r.to = g then b :: kidsI g (b + 1) L else kidsI g (b + 1) L
theorem kidsI_len (g : Int) : ∀ (L : List Rw) (b : Nat), (kidsI g b L).length = (ofG g L).length
  | [], b => rfl
  | r :: L, b => by
    rw [kidsI]
    by_cases h : r.to = g
    · rw [if_pos h, ofG_cons_eq h, List.length_cons, List.length_cons, kidsI_len g L]
    · rw [if_neg h, ofG_cons_ne h, kidsI_len g L]
theorem kidsI_app (g : Int) : ∀ (L M : List Rw) (b : Nat), kidsI g b (L ++ M) = kidsI g b L ++ kidsI g (b + L.length) M
  | [], M, b => rfl
  | r :: L, M, b => by
    rw [List.cons_append, kidsI, kidsI, kidsI_app g L M, List.length_cons, show b + 1 + L.length = b + (L.length + 1) from by omega]
    split <;> rfl
theorem kidsI_at {g : Int} : ∀ {L : List Rw} {b i w : Nat}, (kidsI g b L)[i]? = some w → ∃ A r B, L = A ++ r :: B ∧ w = b + A.length ∧ r.to = g ∧ (ofG g A).length = i
  | [], b, i, w, h => by simp [kidsI] at h
  | r :: L, b, i, w, h => by
    rw [kidsI] at h
    by_cases hg : r.to = g
    · rw [if_pos hg] at h
      cases i with
      | zero => simp at h; exact ⟨[], r, L, rfl, by simp; omega, hg, rfl⟩
      | succ i =>
        rw [List.getElem?_cons_succ] at h
        obtain ⟨A, r', B, h1, h2, h3, h4⟩ := kidsI_at h
        exact ⟨r :: A, r', B, by rw [h1]; rfl, by rw [List.length_cons]; omega, h3, by rw [ofG_cons_eq hg, List.length_cons, h4]⟩
    · rw [if_neg hg] at h
      obtain ⟨A, r', B, h1, h2, h3, h4⟩ := kidsI_at h
      exact ⟨r :: A, r', B, by rw [h1]; rfl, by rw [List.length_cons]; omega, h3, by rw [ofG_cons_ne hg, h4]⟩
/-- Where a layer goes. -/
def putAt (L : List Rw) (g : Int) (i : Nat) : Nat := ((kidsI g 0 L)[i]?).getD L.length
def insR (L : List Rw) (r : Rw) (i : Nat) : List Rw := L.take (putAt L r.to i) ++ r :: L.drop (putAt L r.to i)
theorem putAt_le (L : List Rw) (g : Int) (i : Nat) : putAt L g i ≤ L.length := by
  unfold putAt
  cases h : (kidsI g 0 L)[i]? with
  | none => exact Nat.le_refl _
  | some w =>
    obtain ⟨A, r, B, h1, h2, _⟩ := kidsI_at h
    show w ≤ L.length
    rw [h1, List.length_append]; omega
theorem ins_off {to : Int} {L : List Rw} {r : Rw} (i : Nat) (h : r.to ≠ to) : ofG to (insR L r i) = ofG to L := by
  unfold insR
  rw [ofG_app, ofG_cons_ne h, ← ofG_app, List.take_append_drop]
theorem ins_own {L : List Rw} {r : Rw} {i : Nat} (h : i ≤ (ofG r.to L).length) : ofG r.to (insR L r i) = (ofG r.to L).take i ++ r :: (ofG r.to L).drop i := by
  unfold insR putAt
  cases hk : (kidsI r.to 0 L)[i]? with
  | none =>
    have h1 := List.getElem?_eq_none_iff.1 hk
    rw [kidsI_len] at h1
    rw [Option.getD_none, List.take_length, List.drop_length, ofG_app, ofG_cons_eq rfl, List.take_of_length_le h1, List.drop_eq_nil_of_le h1]; rfl
  | some w =>
    obtain ⟨A, r', B, h1, h2, h3, h4⟩ := kidsI_at hk
    subst h4
    rw [Option.getD_some, show w = A.length from by omega, h1, List.take_left, List.drop_left, ofG_app, ofG_cons_eq rfl, ofG_app, List.take_left, List.drop_left]
theorem rel_put {v : List FrL} {kh : List Lay} {L : List Rw} {i : Nat} {f : LayF} (hr : Rel (plugL v kh) L) (hi : Ids (plugL v kh)) (hi' : Ids (plugL v (kh.take i ++ .mk f [] :: kh.drop i))) (hle : i ≤ kh.length) :
    Rel (plugL v (kh.take i ++ .mk f [] :: kh.drop i)) (insR L ⟨f, gid v⟩ i) := fun to => by
  by_cases ht : gid v = to
  · subst ht
    have e := hr (gid v)
    rw [ofG_at hi] at e
    have h2 := ins_own (L := L) (r := ⟨f, gid v⟩) (i := i) (by show i ≤ (ofG (gid v) L).length; rw [e, List.length_map]; exact hle)
    rw [h2, ofG_at hi']
    show List.take i (ofG (gid v) L) ++ _ :: List.drop i (ofG (gid v) L) = _
    rw [e, List.map_append, List.map_cons, List.map_take, List.map_drop]; rfl
  · rw [ins_off i ht, hr]
    refine ofG_off ?_
    conv => lhs; rw [← List.take_append_drop i kh]
    rw [flatKs_app, flatKs_app, ofG_app, ofG_app, flatKs_cons, ofG_cons_ne ht]; rfl

theorem ofG_filter (to : Int) (p : Rw → Bool) (L : List Rw) : ofG to (L.filter p) = (ofG to L).filter p := by
  unfold ofG; rw [List.filter_filter, List.filter_filter]; congr 1; funext r; rw [Bool.and_comm]
theorem rel_filter {D D' : List Lay} {L : List Rw} (hr : Rel D L) (p : Rw → Bool) (h : flatKs 0 D' = (flatKs 0 D).filter p) : Rel D' (L.filter p) := fun to => by rw [ofG_filter, hr, h, ofG_filter]
theorem ofG_map (to : Int) {g : Rw → Rw} (hg : ∀ r, (g r).to = r.to) (L : List Rw) : ofG to (L.map g) = (ofG to L).map g := by
  unfold ofG; rw [List.filter_map]; congr 2; funext r; simp [hg]
theorem rel_map {D D' : List Lay} {L : List Rw} (hr : Rel D L) {g : Rw → Rw} (hg : ∀ r, (g r).to = r.to) (h : flatKs 0 D' = (flatKs 0 D).map g) : Rel D' (L.map g) := fun to => by rw [ofG_map to hg, hr, h, ofG_map to hg]
theorem mid_out {A M B : List Rw} (hn : (idsR (A ++ (M ++ B))).Nodup) : (A ++ (M ++ B)).filter (fun r => decide (r.f.id ∉ idsR M)) = A ++ B ∧ (A ++ (M ++ B)).filter (fun r => decide (r.f.id ∈ idsR M)) = M := by
  have hm : ∀ {X : List Rw} {r : Rw}, r ∈ X → r.f.id ∈ idsR X := fun h => List.mem_map.2 ⟨_, h, rfl⟩
  rw [idsR_app, idsR_app, List.nodup_append, List.nodup_append] at hn
  have hA : ∀ r ∈ A, r.f.id ∉ idsR M := fun r hr h => hn.2.2 _ (hm hr) _ (List.mem_append_left _ h) rfl
  have hB : ∀ r ∈ B, r.f.id ∉ idsR M := fun r hr h => hn.2.1.2.2 _ h _ (hm hr) rfl
  constructor
  · rw [List.filter_append, List.filter_append, List.filter_eq_self.2 (fun r hr => decide_eq_true (hA r hr)), List.filter_eq_nil_iff.2 (fun r hr => by simpa using hm hr), List.filter_eq_self.2 (fun r hr => decide_eq_true (hB r hr))]; rfl
  · rw [List.filter_append, List.filter_append, List.filter_eq_nil_iff.2 (fun r hr => by simpa using hA r hr), List.filter_eq_self.2 (fun r hr => decide_eq_true (hm hr)), List.filter_eq_nil_iff.2 (fun r hr => by simpa using hB r hr)]; simp
/-- The layer and those within it. -/
def subS (fr : FrL) (ks : List Lay) : List Int := fr.f.id :: idsKs ks
theorem flat_sub (fr : FrL) (u : List FrL) (ks : List Lay) : flatKs 0 (plugL (fr :: u) ks) = (preV u ++ flatKs (gid u) fr.pre) ++ ((⟨fr.f, gid u⟩ :: flatKs fr.f.id ks) ++ (flatKs (gid u) fr.post ++ postV u)) := by
  rw [flat_plug, preV, postV, gid]; simp
theorem sub_ids (fr : FrL) (u : List FrL) (ks : List Lay) : idsR (⟨fr.f, gid u⟩ :: flatKs fr.f.id ks) = subS fr ks := by
  unfold subS; rw [← flatKs_ids ks fr.f.id]; rfl
theorem flat_nodup {D : List Lay} (h : Ids D) : (idsR (flatKs 0 D)).Nodup := by rw [flatKs_ids]; exact h.nodup
theorem rel_out {fr : FrL} {u : List FrL} {ks : List Lay} {L : List Rw} (hr : Rel (plugL (fr :: u) ks) L) (hi : Ids (plugL (fr :: u) ks)) : Rel (plugL u (fr.pre ++ fr.post)) (L.filter fun r => decide (r.f.id ∉ subS fr ks)) := by
  refine rel_filter hr _ ?_
  have hn := flat_nodup hi
  rw [flat_sub] at hn ⊢
  have := (mid_out hn).1
  rw [sub_ids] at this
  rw [this, flat_plug, flatKs_app]; simp
theorem sub_only {fr : FrL} {u : List FrL} {ks : List Lay} (hi : Ids (plugL (fr :: u) ks)) {s : Int} (hs : s ∈ subS fr ks) : ofG s (flatKs 0 (plugL (fr :: u) ks)) = ofG s (flatKs fr.f.id ks) := by
  obtain ⟨h0, h1, h2, h3, h4, h5⟩ := hi.split
  have hz : s ≠ 0 ∧ s ∉ idsUp u ∧ s ∉ idsKs fr.pre ∧ s ∉ idsKs fr.post := by
    rcases List.mem_cons.1 hs with rfl | hs
    · exact ⟨h0, h2, h3, h4⟩
    · obtain ⟨q1, q2⟩ := h5 s hs
      rw [idsUp] at q2
      simp only [List.mem_cons, List.mem_append, not_or] at q2
      exact ⟨q1, q2.2.2, q2.2.1.1, q2.2.1.2⟩
  rw [plugL, ofG_up hz.1 u _ hz.2.1, ofG_hole hz.2.2.1 hz.2.2.2]
  rcases gid_up u with h6 | h6
  · rw [h6]; exact hz.1
  · exact fun he => hz.2.1 (he ▸ h6)
/-- Which are within a layer. -/
theorem path_in {fr : FrL} {u : List FrL} {ks : List Lay} {L : List Rw} (hr : Rel (plugL (fr :: u) ks) L) (hi : Ids (plugL (fr :: u) ks)) {id : Int} {c : List Int} (hp : Path L id c) : fr.f.id ∈ c ↔ id ∈ subS fr ks := by
  have hn := hr.nodup hi
  induction hp with
  | nil =>
    constructor
    · intro h; cases h
    · intro h
      exfalso
      have hh := hi.split
      rcases List.mem_cons.1 h with h | h
      · exact hh.1 h.symm
      · exact (hh.2.2.2.2.2 0 h).1 rfl
  | @cons r l hm h0 _ ih =>
    have hm' := hr.mem.1 hm
    refine Iff.trans List.mem_cons (Iff.trans (or_congr Iff.rfl ih) ?_)
    constructor
    · rintro (h | h)
      · rw [← h]; exact List.mem_cons_self
      · have h1 : r ∈ ofG r.to (flatKs 0 (plugL (fr :: u) ks)) := ofG_mem.2 ⟨hm', rfl⟩
        rw [sub_only hi h] at h1
        refine List.mem_cons_of_mem _ ?_
        rw [← flatKs_ids ks fr.f.id]
        exact List.mem_map.2 ⟨r, (ofG_mem.1 h1).1, rfl⟩
    · intro h
      rw [← sub_ids fr u ks] at h
      obtain ⟨y, hy, he⟩ := List.mem_map.1 h
      have hy' : y ∈ L := hr.mem.2 (by rw [flat_sub]; exact List.mem_append_right _ (List.mem_append_left _ hy))
      have := ids_inj hn hy' hm he
      subst this
      rcases List.mem_cons.1 hy with rfl | hy
      · exact .inl rfl
      · right
        rcases to_mem y hy with h2 | h2
        · rw [h2]; exact List.mem_cons_self
        · exact List.mem_cons_of_mem _ h2
theorem Ids.perm {D D' : List Lay} {x : List Int} (h : Ids D) (hp : (idsKs D').Perm (x ++ idsKs D)) (hx : x.Nodup) (hz : ∀ y ∈ x, y ≠ 0 ∧ y ∉ idsKs D) : Ids D' :=
  ⟨(hp.nodup_iff).2 (List.nodup_append.2 ⟨hx, h.nodup, fun a ha b hb hab => (hz a ha).2 (hab ▸ hb)⟩), fun y hy => by
    rcases List.mem_append.1 (hp.mem_iff.1 hy) with h1 | h1
    · exact (hz y h1).1
    · exact h.pos y h1⟩
theorem rel_move {fr : FrL} {u v : List FrL} {ks kh : List Lay} {L : List Rw} {i : Nat} (hr : Rel (plugL (fr :: u) ks) L) (hi : Ids (plugL (fr :: u) ks)) (hv : plugL v kh = plugL u (fr.pre ++ fr.post)) (hle : i ≤ kh.length) :
    Rel (plugL v (kh.take i ++ .mk fr.f ks :: kh.drop i)) (insR (L.filter fun r => decide (r.f.id ∉ subS fr ks)) ⟨fr.f, gid v⟩ i ++ L.filter fun r => decide (r.f.id ∈ subS fr ks) && decide (r.f.id ≠ fr.f.id)) := by
  have hn := flat_nodup hi
  have hids : (idsKs (plugL (fr :: u) ks)).Perm (subS fr ks ++ idsKs (plugL u (fr.pre ++ fr.post))) := by
    refine (ids_plug _ _).trans (List.Perm.trans ?_ (List.Perm.append_left _ (ids_plug u _).symm))
    refine List.perm_iff_count.2 fun x => ?_
    simp only [idsUp, subS, idsKs_app, List.count_append, List.count_cons]
    ac_rfl
  have hnn := (hids.nodup_iff).1 hi.nodup
  rw [List.nodup_append] at hnn
  have hdis : ∀ s ∈ subS fr ks, s ≠ 0 ∧ s ∉ idsKs (plugL v kh) := fun s hs => ⟨hi.pos s (hids.mem_iff.2 (List.mem_append_left _ hs)), fun h => hnn.2.2 s hs s (hv ▸ h) rfl⟩
  have hi1 : Ids (plugL v kh) := ⟨by rw [hv]; exact hnn.2.1, fun x hx => hi.pos x (hids.mem_iff.2 (List.mem_append_right _ (hv ▸ hx)))⟩
  have hr1 : Rel (plugL v kh) (L.filter fun r => decide (r.f.id ∉ subS fr ks)) := by rw [hv]; exact rel_out hr hi
  have hf0 : fr.f.id ∈ subS fr ks := List.mem_cons_self
  have hi2 : Ids (plugL v (kh.take i ++ .mk fr.f [] :: kh.drop i)) := hi1.perm (x := [fr.f.id]) (put_ids v kh i (.mk fr.f [])) (by simp) fun y hy => by
    rw [List.mem_singleton] at hy; subst hy; exact hdis _ hf0
  have hi3 : Ids (plugL v (kh.take i ++ .mk fr.f ks :: kh.drop i)) := hi1.perm (x := subS fr ks) (put_ids v kh i (.mk fr.f ks)) hnn.1 hdis
  have hr2 := rel_put hr1 hi1 hi2 hle
  have e1 : ∀ ks', plugL v (kh.take i ++ .mk fr.f ks' :: kh.drop i) = plugL (⟨kh.take i, fr.f, kh.drop i⟩ :: v) ks' := fun ks' => rfl
  have emv : ∀ to, ofG to (L.filter fun r => decide (r.f.id ∈ subS fr ks) && decide (r.f.id ≠ fr.f.id)) = ofG to (flatKs fr.f.id ks) := fun to => by
    rw [ofG_filter, hr, ← ofG_filter]
    have hf : (flatKs 0 (plugL (fr :: u) ks)).filter (fun r => decide (r.f.id ∈ subS fr ks) && decide (r.f.id ≠ fr.f.id)) = flatKs fr.f.id ks := by
      have h1 : ∀ M : List Rw, M.filter (fun r => decide (r.f.id ∈ subS fr ks) && decide (r.f.id ≠ fr.f.id)) = (M.filter fun r => decide (r.f.id ∈ subS fr ks)).filter fun r => decide (r.f.id ≠ fr.f.id) := fun M => by
        rw [List.filter_filter]; congr 1; funext r; rw [Bool.and_comm]
      rw [h1]
      rw [flat_sub] at hn ⊢
      have h2 := (mid_out hn).2
      rw [sub_ids] at h2
      rw [h2, List.filter_cons, if_neg (by simp), List.filter_eq_self.2]
      intro r hrm
      have : r.f.id ∈ idsKs ks := by rw [← flatKs_ids ks fr.f.id]; exact List.mem_map.2 ⟨r, hrm, rfl⟩
      exact decide_eq_true fun he => hi.split.2.1 (he ▸ this)
    rw [hf]
  intro to
  rw [ofG_app, hr2, emv]
  by_cases ht : to ∈ subS fr ks
  · rw [e1, e1, sub_only (fr := ⟨kh.take i, fr.f, kh.drop i⟩) hi3 ht]
    have : ofG to (flatKs 0 (plugL (⟨kh.take i, fr.f, kh.drop i⟩ :: v) [])) = [] := by
      rcases List.mem_cons.1 ht with rfl | ht'
      · rw [sub_only (fr := ⟨kh.take i, fr.f, kh.drop i⟩) hi2 List.mem_cons_self]; rfl
      · refine ofG_nil fun r hrm he => ?_
        have hpi : (idsKs (plugL v (kh.take i ++ .mk fr.f [] :: kh.drop i))).Perm ([fr.f.id] ++ idsKs (plugL v kh)) := put_ids v kh i (.mk fr.f [])
        rcases to_mem r hrm with h | h
        · exact (hdis to ht).1 (he ▸ h)
        · rw [he] at h
          rcases List.mem_append.1 (hpi.mem_iff.1 h) with h' | h'
          · rw [List.mem_singleton] at h'; rw [h'] at ht'; exact hi.split.2.1 ht'
          · exact (hdis to ht).2 h'
    rw [this, List.nil_append]
  · have hne : to ≠ fr.f.id := fun h => ht (h ▸ hf0)
    have hz : ofG to (flatKs fr.f.id ks) = [] := ofG_other hne fun h => ht (List.mem_cons_of_mem _ h)
    rw [hz, List.append_nil, e1, e1]
    refine ofG_off ?_
    show ofG to (flatKs fr.f.id []) = ofG to (flatKs fr.f.id ks)
    rw [hz]; rfl
/-- One row is another one. -/
def setR (id : Int) (f : LayF) (r : Rw) : Rw := if r.f.id = id then ⟨f, r.to⟩ else r
theorem setR_to (id : Int) (f : LayF) (r : Rw) : (setR id f r).to = r.to := by unfold setR; split <;> rfl
theorem rel_set {fr : FrL} {u : List FrL} {ks : List Lay} {L : List Rw} {f : LayF} (hr : Rel (plugL (fr :: u) ks) L) (hi : Ids (plugL (fr :: u) ks)) (hf : f.id = fr.f.id) : Rel (plugL (⟨fr.pre, f, fr.post⟩ :: u) ks) (L.map (setR fr.f.id f)) := by
  refine rel_map hr (setR_to _ _) ?_
  have hn := flat_nodup hi
  rw [flat_sub] at hn ⊢
  rw [flat_sub fr u ks]
  have hm : ∀ {X : List Rw} {r : Rw}, r ∈ X → r.f.id ∈ idsR X := fun h => List.mem_map.2 ⟨_, h, rfl⟩
  rw [idsR_app (preV u ++ flatKs (gid u) fr.pre), idsR_app (⟨fr.f, gid u⟩ :: flatKs fr.f.id ks), sub_ids, List.nodup_append, List.nodup_append] at hn
  have hmap : ∀ X : List Rw, fr.f.id ∉ idsR X → X.map (setR fr.f.id f) = X := fun X hX => by
    conv => rhs; rw [← List.map_id X]
    refine List.map_congr_left fun r hrm => ?_
    have hne : r.f.id ≠ fr.f.id := fun he => hX (he ▸ hm hrm)
    show (if r.f.id = fr.f.id then (⟨f, r.to⟩ : Rw) else r) = r
    rw [if_neg hne]
  have hS : fr.f.id ∈ subS fr ks := List.mem_cons_self
  have hset : setR fr.f.id f ⟨fr.f, gid u⟩ = ⟨f, gid u⟩ := by unfold setR; rw [if_pos rfl]
  rw [List.map_append, List.map_append (l₁ := _ :: _), List.map_cons, hmap _ (fun h => hn.2.2 _ h _ (List.mem_append_left _ hS) rfl), hmap _ (fun h => hn.2.1.2.2 _ hS _ h rfl), hmap (flatKs fr.f.id ks) (by rw [flatKs_ids]; exact hi.split.2.1), hset]
  simp only [hf]
theorem set_map {L : List Rw} {i : Nat} {r : Rw} (hn : (idsR L).Nodup) (h : L[i]? = some r) (f : LayF) : L.set i ⟨f, r.to⟩ = L.map (setR r.f.id f) := by
  induction L generalizing i with
  | nil => simp at h
  | cons a L ih =>
    rw [idsR, List.map_cons, List.nodup_cons] at hn
    cases i with
    | zero =>
      simp at h; subst h
      rw [List.set_cons_zero, List.map_cons]
      have : L.map (setR a.f.id f) = L := by
        conv => rhs; rw [← List.map_id L]
        refine List.map_congr_left fun r hrm => ?_
        have hne : r.f.id ≠ a.f.id := fun he => hn.1 (he ▸ List.mem_map.2 ⟨r, hrm, rfl⟩)
        show (if r.f.id = a.f.id then (⟨f, r.to⟩ : Rw) else r) = r
        rw [if_neg hne]
      rw [this, setR, if_pos rfl]
    | succ i =>
      rw [List.getElem?_cons_succ] at h
      have hne : a.f.id ≠ r.f.id := fun he => hn.1 (he ▸ List.mem_map.2 ⟨r, List.mem_of_getElem? h, rfl⟩)
      rw [List.set_cons_succ, List.map_cons, ih hn.2 h, setR, if_neg hne]

theorem depUp_max : ∀ (v : List FrL) (a b : Nat), depUp v (max a b) = max (depUp v a) (v.length + b)
  | [], a, b => by simp [depUp]
  | fr :: u, a, b => by
    rw [depUp, depUp, show max (depKs fr.pre) (max (1 + max a b) (depKs fr.post)) = max (max (depKs fr.pre) (max (1 + a) (depKs fr.post))) (1 + b) from by omega, depUp_max u, List.length_cons]
    omega
theorem put_dep (v : List FrL) (kh : List Lay) (i : Nat) (l : Lay) : depKs (plugL v (kh.take i ++ l :: kh.drop i)) = max (depKs (plugL v kh)) (v.length + depL l) := by
  have e : depKs (kh.take i ++ l :: kh.drop i) = max (depKs kh) (depL l) := by
    conv => rhs; rw [← List.take_append_drop i kh]
    rw [depKs_app, depKs_app, depKs]; omega
  rw [dep_plug, dep_plug, e, depUp_max]
theorem rel_paths {D : List Lay} {L : List Rw} (hr : Rel D L) (hi : Ids D) : (∀ r ∈ L, ∃ c, Path L r.f.id c ∧ 0 < c.length ∧ c.length ≤ depKs D) ∧ (D = [] ∨ ∃ r ∈ L, ∃ c, Path L r.f.id c ∧ c.length = depKs D) := by
  have hm : ∀ x ∈ flatKs 0 D, x ∈ L ∧ x.f.id ≠ 0 := fun x hx => ⟨hr.mem.2 hx, hi.pos _ (by rw [← flatKs_ids D 0]; exact List.mem_map.2 ⟨x, hx, rfl⟩)⟩
  obtain ⟨h1, h2⟩ := path_ks (L := L) .nil D hm
  refine ⟨fun r hrm => ?_, h2.imp id fun ⟨x, hx, c, q1, q2⟩ => ⟨x, hr.mem.2 hx, c, q1, by simpa using q2⟩⟩
  obtain ⟨c, q1, q2, q3⟩ := h1 r (hr.mem.1 hrm)
  exact ⟨c, q1, by simpa using q2, by simpa using q3⟩

mutual
def likeT (L : List Rw) : Lay → Bool
  | .mk f ks => decide (ks.map Lay.f = (ofG f.id L).map Rw.f) && likeKs L ks
def likeKs (L : List Rw) : List Lay → Bool
  | [] => true
  | t :: ts => likeT L t && likeKs L ts
end
/-- Are a group's the list's? -/
def likeG (L : List Rw) (to : Int) (ks : List Lay) : Bool := decide (ks.map Lay.f = (ofG to L).map Rw.f) && likeKs L ks
theorem like_aux {E : List Lay} {L : List Rw} (hr : Rel E L) (hi : Ids E) : ∀ t : Lay, ∀ v kh, plugL v kh = E → gid v = t.f.id → (likeT L t = true ↔ t.kids = kh) := by
  refine Lay.ind fun f ks ih v kh hv hg => ?_
  rw [likeT, Bool.and_eq_true, decide_eq_true_iff]
  have hg' : gid v = f.id := hg
  rw [← hg', hr, ← hv, ofG_at (by rw [hv]; exact hi), List.map_map, show (Rw.f ∘ rowG (gid v)) = Lay.f from rfl]
  show _ ↔ ks = kh
  have : ∀ (ts us pre : List Lay), (∀ t ∈ ts, t ∈ ks) → plugL v (pre ++ us) = E → ((ts.map Lay.f = us.map Lay.f ∧ likeKs L ts = true) ↔ ts = us) := by
    intro ts
    induction ts with
    | nil => intro us pre _ _; cases us <;> simp [likeKs]
    | cons t ts ih2 =>
      intro us pre hm hE
      cases us with
      | nil => simp
      | cons s us =>
        rw [List.map_cons, List.map_cons, likeKs, Bool.and_eq_true, List.cons.injEq, List.cons.injEq]
        have h1 := ih2 us (pre ++ [s]) (fun t ht => hm t (List.mem_cons_of_mem _ ht)) (by rw [List.append_assoc]; exact hE)
        cases s with
        | mk sf sk =>
        have h2 := fun h => ih t (hm t List.mem_cons_self) (⟨pre, sf, us⟩ :: v) sk hE h
        cases t with
        | mk tf tk =>
        constructor
        · rintro ⟨⟨q1, q2⟩, q3, q4⟩
          have q1' : tf = sf := q1
          subst q1'
          have := (h2 rfl).1 q3
          exact ⟨by rw [show tk = sk from this], h1.1 ⟨q2, q4⟩⟩
        · rintro ⟨q1, q2⟩
          injection q1 with q1 q3
          subst q1
          obtain ⟨r1, r2⟩ := h1.2 q2
          exact ⟨⟨rfl, r1⟩, (h2 rfl).2 q3, r2⟩
  exact this ks kh [] (fun _ h => h) hv
theorem like_iff {D E : List Lay} {L : List Rw} (hr : Rel E L) (hi : Ids E) : likeG L 0 D = true ↔ D = E := by
  have h := like_aux (L := L) hr hi (.mk ⟨0, 1, false, 0, 0, 0, 0, [], [], ⟨0, 0, 0, 0, 0, 0⟩, false, 0, []⟩ D) [] E rfl rfl
  exact h

end Go.Proofs

/-
  OWN WORK. Documents as their users see them: edited, counted, searched, compared.
-/
set_option linter.unusedVariables false
set_option linter.unusedSimpArgs false
set_option maxRecDepth 10000
namespace Go.Proofs
open Go.Sh
variable {H0 H : Heap} {σ : List Rs} {R : Value → Heap → Prop}

/-- A document that can be read. -/
def DocR (H : Heap) (A : Array Value) (D : DocL) : Prop := ∃ K ks, A = docA D.w D.h D.next K ∧ grp H K ks ∧ layKs ks = D.ks
theorem DocR.ext {H H' : Heap} {A : Array Value} {D : DocL} (h : DocR H A D) (he : Ext H H') : DocR H' A D := let ⟨K, ks, h1, h2, h3⟩ := h; ⟨K, ks, h1, h2.ext he, h3⟩
theorem DocR.size {H : Heap} {A : Array Value} {D : DocL} (h : DocR H A D) : A.size = 4 := by obtain ⟨K, ks, rfl, _⟩ := h; rfl
theorem DocR.one {H : Heap} {A : Array Value} {D : DocL} (h : DocR H A D) : ∀ v ∈ A.toList, v.oneCell' = true := by obtain ⟨K, ks, rfl, _⟩ := h; exact docA_one _ _ _ _
theorem DocR.zero (H : Heap) : DocR H (docA 0 0 0 .nil) zeroD := ⟨.nil, [], rfl, grp.nil H, rfl⟩
theorem DocR.new (H : Heap) (w h : Int) : DocR H (docA w h 1 .nil) ⟨w, h, 1, []⟩ := ⟨.nil, [], rfl, grp.nil H, rfl⟩

theorem c25 {A : Array Value} {D : DocL} (hd : DocR H A D) (hc : cntKs D.ks ≤ 1000000000) (hR : ∀ H', Ext H H' → R (.int .i64 (cntKs D.ks)) H') : CallsH Try.prog 25 #[.agg A] H R := by
  obtain ⟨K, ks, rfl, hg, hl⟩ := hd
  refine Try.s25 ?_
  unfold Try.S25
  refine (St.nil H).alcE fun b2 H3 he3 hs3 => ⟨_, _, _, hs3.get 0 rfl (j := 3) rfl, ?_⟩
  refine c53 (K := K) (hg.ext he3) (by rw [hl]; omega) fun H6 he6 => ⟨_, rfl, ?_⟩
  rw [hl]; exact hR H6 (he3.trans he6)
theorem c26 {A : Array Value} {D : DocL} (hd : DocR H A D) (hc : cntKs D.ks ≤ 1000000000) (hR : ∀ H', Ext H H' → R (.int .i64 (depKs D.ks)) H') : CallsH Try.prog 26 #[.agg A] H R := by
  obtain ⟨K, ks, rfl, hg, hl⟩ := hd
  refine Try.s26 ?_
  unfold Try.S26
  refine (St.nil H).alcE fun b2 H3 he3 hs3 => ⟨_, _, _, hs3.get 0 rfl (j := 3) rfl, ?_⟩
  refine c54 (K := K) (hg.ext he3) (by rw [hl]; omega) fun H6 he6 => ⟨_, rfl, ?_⟩
  rw [hl]; exact hR H6 (he3.trans he6)

/-- Where a layer stands: its group's number, its place. -/
def parentL (D : List Lay) (id : Int) : Int × Int × Bool :=
  match flK [] [] id D with
  | some (fr :: u, _) => (match u with | [] => 0 | fp :: _ => fp.f.id, fr.pre.length, true)
  | _ => (0, 0, false)
def zeroF : LayF := ⟨0, 0, false, 0, 0, 0, 0, [], [], ⟨0, 0, 0, 0, 0, 0⟩, false, 0, []⟩
theorem rd_root {K : Sl3} {ks : List T} (hg : grp H K ks) : rdT H (rootT K ks) := by
  unfold rootT
  rw [rdT]
  exact ⟨⟨rfl, fun i v h => by simp [rootF, ints] at h⟩, ⟨rfl, fun i v h => by simp [rootF, kints] at h⟩, ⟨rfl, fun i v h => by simp [rootF, ints] at h⟩, hg⟩

/-- What is found can be read: row by row down the frames. -/
theorem fz_rd (id : Int) : ∀ (t : T) {H : Heap} (up : List Fr) (K : Sl3) (pre post : List T) (z : Z), grp H K (pre ++ t :: post) → fzT up K pre post id t = some z → (∃ fr u, z.1 = fr :: u ∧ ∃ a, fr.ad = some a ∧ rowIn H a (cellsT (fr.node z.2.1 z.2.2)).toArray ∧ rdT H (fr.node z.2.1 z.2.2)) ∧
    (∀ (fp : Fr) (up' : List Fr) (ap : Addr) (Kp : Sl3) (ksp : List T), up = fp :: up' → fp.ad = some ap → rowIn H ap (cellsT (fp.node Kp ksp)).toArray → ∃ fr fq u, z.1 = fr :: fq :: u ∧ ∃ aq Kq ksq, fq.ad = some aq ∧ rowIn H aq (cellsT (fq.node Kq ksq)).toArray) := by
  refine T.ind fun f P M A K' ks ih {H} up K pre post z hg hz => ?_
  obtain ⟨a, h1, h2, h3⟩ := hg.get (i := pre.length) (t := .mk f P M A K' ks) (by rw [List.getElem?_append_right (Nat.le_refl _), Nat.sub_self]; rfl)
  have had : (⟨K, pre, f, P, M, A, post⟩ : Fr).ad = some (a.add (pre.length * 19)) := by unfold Fr.ad; rw [h1]; rfl
  rw [fzT] at hz
  split at hz
  · cases hz
    exact ⟨⟨_, _, rfl, _, had, h2, h3⟩, fun fp up' ap Kp ksp hup hap hrow => ⟨_, fp, up', by rw [hup], ap, Kp, ksp, hap, hrow⟩⟩
  · have : ∀ (ts done : List T), ks = done ++ ts → ∀ (u : List Fr), fzK (⟨K, pre, f, P, M, A, post⟩ :: up) K' done id ts = some z → (∃ fr u, z.1 = fr :: u ∧ ∃ a, fr.ad = some a ∧ rowIn H a (cellsT (fr.node z.2.1 z.2.2)).toArray ∧ rdT H (fr.node z.2.1 z.2.2)) ∧
        ∃ fr fq u, z.1 = fr :: fq :: u ∧ ∃ aq Kq ksq, fq.ad = some aq ∧ rowIn H aq (cellsT (fq.node Kq ksq)).toArray := by
      intro ts
      induction ts with
      | nil => intro done _ u h; rw [fzK] at h; cases h
      | cons t ts ih2 =>
        intro done hd u h
        rw [fzK] at h
        split at h
        · rename_i z' hz'
          cases h
          obtain ⟨g1, g2⟩ := ih t (by rw [hd]; simp) _ _ _ _ _ (by rw [← hd]; exact rdT.grp h3) hz'
          exact ⟨g1, g2 _ _ _ K' ks rfl had h2⟩
        · exact ih2 (done ++ [t]) (by rw [hd]; simp) u h
    obtain ⟨g1, g2⟩ := this ks [] rfl [] hz
    exact ⟨g1, fun _ _ _ _ _ _ _ _ => g2⟩
theorem fzK_rd {id : Int} : ∀ (ts : List T) {H : Heap} (up : List Fr) (K : Sl3) (pre : List T) (z : Z), grp H K (pre ++ ts) → fzK up K pre id ts = some z → (∃ fr u, z.1 = fr :: u ∧ ∃ a, fr.ad = some a ∧ rowIn H a (cellsT (fr.node z.2.1 z.2.2)).toArray ∧ rdT H (fr.node z.2.1 z.2.2)) ∧
    (∀ (fp : Fr) (up' : List Fr) (ap : Addr) (Kp : Sl3) (ksp : List T), up = fp :: up' → fp.ad = some ap → rowIn H ap (cellsT (fp.node Kp ksp)).toArray → ∃ fr fq u, z.1 = fr :: fq :: u ∧ ∃ aq Kq ksq, fq.ad = some aq ∧ rowIn H aq (cellsT (fq.node Kq ksq)).toArray)
  | [], H, up, K, pre, z, _, h => by rw [fzK] at h; cases h
  | t :: ts, H, up, K, pre, z, hg, h => by
    rw [fzK] at h
    split at h
    · rename_i z' hz'
      cases h
      exact fz_rd id t _ _ _ _ _ hg hz'
    · exact fzK_rd ts up K (pre ++ [t]) z (by rw [List.append_assoc]; exact hg) h

theorem root_find {b : Nat} {K : Sl3} {ks : List T} {H1 : Heap} (hg : grp H K ks) (he : Ext H H1) (hb : H1[b]? = some (.cells (cellsT (rootT K [])).toArray 58)) {id : Int} (hc : cntKs (layKs ks) ≤ 1000000000)
    (hR : ∀ H', Ext H1 H' → (∀ z, fzK [rootFr b] K [] id ks = some z → (resZ (some z)).1 ≠ none) →
      R (.tuple #[.pointer (resZ (fzK [rootFr b] K [] id ks)).1, .pointer (resZ (fzK [rootFr b] K [] id ks)).2.1, .int .i64 (resZ (fzK [rootFr b] K [] id ks)).2.2]) H') : CallsH Try.prog 51 #[.pointer (some ⟨b, 0, none⟩), .int .i64 id] H1 R :=
  c51 (rootT K ks) (fr := rootFr b) (up := []) (root_ad b) (rowIn_whole hb) (rd_root (hg.ext he)) (by show cntKs (layKs ks) ≤ _; omega) hR

theorem c23 {A : Array Value} {D : DocL} {id : Int} (hd : DocR H A D) (hc : cntKs D.ks ≤ 1000000000) (hR : ∀ H', Ext H H' → R (.tuple #[.int .i64 (parentL D.ks id).1, .int .i64 (parentL D.ks id).2.1, .bool (parentL D.ks id).2.2]) H') : CallsH Try.prog 23 #[.agg A, .int .i64 id] H R := by
  obtain ⟨K, ks, rfl, hg, hl⟩ := hd
  rw [← hl] at hc hR
  refine Try.s23 ?_
  unfold Try.S23
  refine (St.nil H).alc fun b3 H4 hs4 => ?_
  refine c40 (hs4.block 0 rfl) fun rb H6 hp6 => ⟨_, rfl, ?_⟩
  have he6 := hs4.ext.trans hp6.ext
  refine root_find hg he6 (hp6.block 0 rfl) hc fun H9 he9 hne => ⟨_, _, _, rfl, ?_⟩
  have he := he6.trans he9
  rcases find_cases rb K ks id with ⟨hz, hf⟩ | ⟨fr, u, K', ks', hz, hid, hf⟩
  · rw [hz]
    have hpl : parentL (layKs ks) id = (0, 0, false) := by unfold parentL; rw [hf]
    have := hR H9 he
    rw [hpl] at this
    exact br_t rfl this
  · obtain ⟨g1, g2⟩ := fzK_rd ks _ _ _ _ (hg.ext he) hz
    obtain ⟨fr', fq, u', hz1, aq, Kq, ksq, haq, hrq⟩ := g2 (rootFr rb) [] ⟨rb, 0, none⟩ K ks rfl (root_ad rb) (rowAt_ext he9 (rowIn_whole (hp6.block 0 rfl)))
    obtain ⟨fr2, u2, hz2, a2, ha2, hr2, _⟩ := g1
    simp only at hz1 hz2
    rw [hz1] at hz2
    cases hz2
    have hfr : fr' = fr := by simp only [List.cons.injEq] at hz1; exact hz1.1.symm
    subst hfr
    have hu : u ++ [rootFr rb] = fq :: u' := by simp only [List.cons.injEq] at hz1; exact hz1.2
    have hpl : parentL (layKs ks) id = (fq.f.id, ((fr'.pre.length : Nat) : Int), true) := by
      unfold parentL
      rw [hf]
      cases u with
      | nil =>
        simp only [List.nil_append, List.cons.injEq] at hu
        rw [← hu.1]
        show ((0 : Int), (((layKs fr'.pre).length : Nat) : Int), true) = _
        rw [layKs_len]; rfl
      | cons x u =>
        simp only [List.cons_append, List.cons.injEq] at hu
        rw [← hu.1]
        show (x.f.id, (((layKs fr'.pre).length : Nat) : Int), true) = _
        rw [layKs_len]
    have := hR H9 he
    rw [hpl] at this
    rw [hz, hz1]
    refine br_f (by show Option.isNone fr'.ad = false; rw [ha2]; rfl) ⟨aq, haq, fq.f.id, hrq 0 _ rfl, this⟩

/-- A layer that can be read. -/
def LayR (H : Heap) (A : Array Value) (l : Lay) : Prop := ∃ t, A = (cellsT t).toArray ∧ rdT H t ∧ layT t = l
theorem LayR.ext {H H' : Heap} {A : Array Value} {l : Lay} (h : LayR H A l) (he : Ext H H') : LayR H' A l := let ⟨t, h1, h2, h3⟩ := h; ⟨t, h1, rdT.ext he t h2, h3⟩
theorem LayR.zero (H : Heap) : LayR H (cellsL zeroF Sl3.nil.v Sl3.nil.v Sl3.nil.v Sl3.nil.v).toArray (.mk zeroF []) := by
  refine ⟨.mk zeroF .nil .nil .nil .nil [], rfl, ?_, rfl⟩
  rw [rdT]
  exact ⟨⟨rfl, fun i v h => by simp [zeroF, ints] at h⟩, ⟨rfl, fun i v h => by simp [zeroF, kints] at h⟩, ⟨rfl, fun i v h => by simp [zeroF, ints] at h⟩, grp.nil H⟩

end Go.Proofs

/-
  OWN WORK. Documents are compared.
-/
set_option linter.unusedVariables false
set_option linter.unusedSimpArgs false
set_option maxRecDepth 10000
namespace Go.Proofs
open Go.Sh
variable {H0 H : Heap} {σ : List Rs} {R : Value → Heap → Prop}

theorem eq_take {α : Type} {xs ys : List α} {k : Nat} {x y : α} (h : xs.take k = ys.take k) (hx : xs[k]? = some x) (hy : ys[k]? = some y) : xs.take (k + 1) = ys.take (k + 1) ↔ x = y := by
  rw [take_succ hx, take_succ hy, h]; simp
theorem M6_l {m n : M6} : m.l = n.l ↔ m = n := by
  cases m; cases n; simp [M6.l]

end Go.Proofs

/-
  OWN WORK. The document's example; groups within groups.
-/
set_option linter.unusedVariables false
set_option linter.unusedSimpArgs false
set_option maxRecDepth 100000
namespace Go.Proofs
open Go.Sh
variable {H0 H : Heap} {σ : List Rs} {R : Value → Heap → Prop}

/-- An edit without pixels, shape or params. -/
def ed0 (kind id to at_ n m x y w h : Int) : Ed := ⟨kind, id, to, at_, n, m, x, y, w, h, [], [], zeroM, []⟩
def es0 : EdS := ⟨.nil, .nil, .nil⟩
theorem ed0_ok (H : Heap) (kind id to at_ n m x y w h : Int) : EdOk H (ed0 kind id to at_ n m x y w h) es0 :=
  ⟨⟨⟨rfl, fun i v h => by simp [ed0, ints] at h⟩, IS2.nil H, ⟨rfl, fun i v h => by simp [ed0, ints] at h⟩⟩, by simp [ed0], by simp [ed0]⟩

def anD0 : DocL := ⟨4, 4, 1, []⟩
def anD1 : DocL := (doD anD0 (ed0 1 0 0 (-1) 0 0 0 0 4 4)).2
def anD2 : DocL := (doD anD1 (ed0 1 0 0 0 1 0 0 0 0 0)).2
def anD3 : DocL := (doD anD2 (ed0 3 1 2 (-1) 0 0 0 0 0 0)).2
theorem an1 : (doD anD0 (ed0 1 0 0 (-1) 0 0 0 0 4 4)).1 = 0 := by decide +kernel
theorem an2 : (doD anD1 (ed0 1 0 0 0 1 0 0 0 0 0)).1 = 0 := by decide +kernel
theorem an3 : (doD anD2 (ed0 3 1 2 (-1) 0 0 0 0 0 0)).1 = 0 := by decide +kernel
theorem an4 : (doD anD3 (ed0 3 2 2 0 0 0 0 0 0 0)).1 = 42 := by decide +kernel
theorem an5 : parentL anD3.ks 1 = (2, 0, true) := by decide +kernel
theorem an6 : cntKs anD3.ks = 2 ∧ depKs anD3.ks = 2 ∧ depKs anD2.ks = 1 := by decide +kernel

end Go.Proofs

/-
  OWN WORK. Documents as resources; the anchor; the law TreeDeep, over heaps.
-/
set_option linter.unusedVariables false
set_option linter.unusedSimpArgs false
set_option maxRecDepth 10000
namespace Go.Sh
variable {H0 H H' : Heap} {σ τ : List Rs}
/-- Many as one. -/
def starAll : List Rs → Rs
  | [] => .emp
  | r :: l => .star r (starAll l)
theorem St.addEmp (hs : St H0 H σ) : St H0 H (.emp :: σ) := hs.new (Ext.refl H) (fp := []) rfl (by simp) (by simp)
theorem St.packAll : ∀ (l : List Rs) {σ : List Rs}, St H0 H (l ++ σ) → St H0 H (starAll l :: σ)
  | [], σ, hs => hs.addEmp
  | r :: l, σ, hs => by
    have h1 : St H0 H (l ++ (r :: σ)) := hs.perm List.perm_middle.symm
    exact (St.packAll l h1).swap.cat
theorem St.unpackAll : ∀ (l : List Rs) {σ : List Rs}, St H0 H (starAll l :: σ) → St H0 H (l ++ σ)
  | [], σ, hs => hs.tail
  | r :: l, σ, hs => by
    have h1 : St H0 H (l ++ (r :: σ)) := St.unpackAll l hs.cut.swap
    exact h1.perm List.perm_middle
end Go.Sh
namespace Go.Proofs
open Go.Sh
variable {H0 H : Heap} {σ : List Rs} {R : Value → Heap → Prop}

/-- A document of one's own. -/
def docRs (A : Array Value) (D : DocL) : Rs := .ex fun (x : Sl3 × List T) => .pu (A = docA D.w D.h D.next x.1 ∧ layKs x.2 = D.ks) (starAll (resG x.1 x.2))
theorem St_docIn {A : Array Value} {D : DocL} {K : Sl3} {ks : List T} (hA : A = docA D.w D.h D.next K) (hl : layKs ks = D.ks) (hs : St H0 H (resG K ks ++ σ)) : St H0 H (docRs A D :: σ) :=
  St.inex (f := fun (x : Sl3 × List T) => .pu (A = docA D.w D.h D.next x.1 ∧ layKs x.2 = D.ks) (starAll (resG x.1 x.2))) (K, ks) (St.with ⟨hA, hl⟩ (St.packAll _ hs))
theorem St_docOut {A : Array Value} {D : DocL} (hs : St H0 H (docRs A D :: σ)) : ∃ K ks, A = docA D.w D.h D.next K ∧ layKs ks = D.ks ∧ St H0 H (resG K ks ++ σ) := by
  obtain ⟨⟨K, ks⟩, h1⟩ := St.unex hs
  obtain ⟨⟨h2, h3⟩, h4⟩ := St.fact h1
  exact ⟨K, ks, h2, h3, St.unpackAll _ h4⟩
theorem _root_.Go.Sh.St.doc (hs : St H0 H σ) (i : Nat) {A : Array Value} {D : DocL} (hi : σ[i]? = some (docRs A D)) : DocR H A D := by
  obtain ⟨K, ks, h1, h2, h3⟩ := St_docOut (hs.front i hi)
  exact ⟨K, ks, h1, h3.grp, h2⟩
theorem _root_.Go.Sh.St.docNil (hs : St H0 H σ) (w h next : Int) : St H0 H (docRs (docA w h next .nil) ⟨w, h, next, []⟩ :: σ) :=
  St_docIn (K := .nil) (ks := []) rfl rfl (hs.nilSl _ _)

theorem do_gen {A : Array Value} {D : DocL} {e : Ed} {s : EdS} (hs : St H0 H σ) (hd : DocR H A D) (hok : okKs D.ks) (hcn : cntKs D.ks ≤ 1000000000) (hnx : 0 ≤ D.next ∧ D.next ≤ 1000000000000000) (hsz : e.kind = 7 → sizedB D.w D.h = true) (hras : ∀ fr u ks', flK [] [] e.id D.ks = some (fr :: u, ks') → okRas fr.f) (hed : EdOk H e s)
    (hR : ∀ A' H', DocR H' A' (doD D e).2 → St H0 H' (docRs A' (doD D e).2 :: σ) → R (.tuple #[.agg A', .int .i64 (doD D e).1]) H') :
    CallsH Try.prog 19 #[.agg A, .agg (edL e s).toArray] H R := by
  obtain ⟨K, ks, rfl, hg, hl⟩ := hd
  rw [← hl] at hok hcn hras
  refine c19 hg hok hcn hnx hsz hed hras (fun H' hne he => ?_) fun K' ks' H' h0 hl' hs' => ?_
  · rw [hl] at hne ⊢
    have e1 : doD D e = ((doL D.w D.h D.next D.ks e).1, zeroD) := by unfold doD; rw [if_pos hne]
    have := hR (docA 0 0 0 .nil) H' (by rw [e1]; exact DocR.zero H') (by rw [e1]; exact (hs.step he).docNil 0 0 0)
    rw [e1] at this; exact this
  · rw [hl] at h0 hl' ⊢
    have e1 : doD D e = (0, ⟨D.w, D.h, (doL D.w D.h D.next D.ks e).2.1, (doL D.w D.h D.next D.ks e).2.2⟩) := by unfold doD; rw [if_neg (by rw [h0]; simp)]
    have hs2 : St H0 H' (docRs (docA D.w D.h (doL D.w D.h D.next D.ks e).2.1 K') ⟨D.w, D.h, (doL D.w D.h D.next D.ks e).2.1, (doL D.w D.h D.next D.ks e).2.2⟩ :: σ) := St_docIn rfl hl' (hs.call hs')
    have := hR (docA D.w D.h (doL D.w D.h D.next D.ks e).2.1 K') H' (by rw [e1]; exact hs2.doc 0 rfl) (by rw [e1]; exact hs2)
    rw [e1] at this; exact this
theorem do_st {A : Array Value} {D : DocL} {e : Ed} {s : EdS} (hs : St H0 H σ) (hd : DocR H A D) (hi : Inv D) (hnx : D.next ≤ 1000000000000000) (hed : EdOk H e s) (hR : ∀ A' H', DocR H' A' (doD D e).2 → St H0 H' (docRs A' (doD D e).2 :: σ) → R (.tuple #[.agg A', .int .i64 (doD D e).1]) H') :
    CallsH Try.prog 19 #[.agg A, .agg (edL e s).toArray] H R := by
  have h1 := hi.next
  have h2 := hi.cnt
  exact do_gen hs hd hi.ok (by omega) ⟨by omega, hnx⟩ (fun _ => hi.size) (fun fr u ks' hf => hi.ras hf) hed hR
theorem an_inv0 : Inv anD0 := new_inv (by decide)
theorem an_inv1 : Inv anD1 := do_inv an_inv0 an1
theorem an_inv2 : Inv anD2 := do_inv an_inv1 an2
theorem an_inv3 : Inv anD3 := do_inv an_inv2 an3
theorem an_nx : anD1.next = 2 ∧ anD2.next = 3 ∧ anD3.next = 3 := by decide +kernel
theorem c12 (hR : ∀ H', Ext H H' → R (.bool true) H') : CallsH Try.prog 12 #[] H R := by
  obtain ⟨x1, x2, x3⟩ := an_nx
  refine Try.s12 (_u := ()) ?_
  unfold Try.S12
  refine c13 (fun _ H2 he2 => ⟨_, _, rfl, ?_⟩) fun h => absurd h (by decide)
  refine (St.of_ext he2).alc fun b5 H6 hs6 => ⟨rfl, hs6.putAll 0 rfl rfl (docA_one 4 4 1 .nil) fun H7 hs7 => br_ne (fun h => absurd rfl h) fun _ => ⟨_, ?_, rowIn_whole (hs7.block 0 rfl), ?_⟩⟩
  · rfl
  refine do_st (D := anD0) (e := ed0 1 0 0 (-1) 0 0 0 0 4 4) (s := es0) hs7 (DocR.new H7 4 4) an_inv0 (by decide) (ed0_ok H7 ..) fun A1 H10 hd1 hs10 => ⟨_, _, rfl, hd1.size, hs10.putAll 1 rfl hd1.size hd1.one fun H13 hs13 => ⟨A1, hd1.size, rowIn_whole (hs13.block 1 rfl), ?_⟩⟩
  refine do_st (D := anD1) (e := ed0 1 0 0 0 1 0 0 0 0 0) (s := es0) hs13 (hs13.doc 0 rfl) an_inv1 (by rw [x1]; decide) (ed0_ok H13 ..) fun A2 H16 hd2 hs16 => ⟨_, _, rfl, hd2.size, hs16.putAll 2 rfl (hd2.size.trans hd1.size.symm) hd2.one fun H19 hs19 => ⟨A2, hd2.size, rowIn_whole (hs19.block 2 rfl), ?_⟩⟩
  refine do_st (D := anD2) (e := ed0 3 1 2 (-1) 0 0 0 0 0 0) (s := es0) hs19 (hs19.doc 0 rfl) an_inv2 (by rw [x2]; decide) (ed0_ok H19 ..) fun A3 H22 hd3 hs22 => ⟨_, _, rfl, ?_⟩
  refine hs22.alc fun b25 H26 hs26 => ⟨hd3.size, hs26.putAll 0 rfl hd3.size hd3.one fun H27 hs27 => ⟨A3, hd3.size, rowIn_whole (hs27.block 0 rfl), ?_⟩⟩
  refine do_st (D := anD3) (e := ed0 3 2 2 0 0 0 0 0 0 0) (s := es0) hs27 (hs27.doc 1 rfl) an_inv3 (by rw [x3]; decide) (ed0_ok H27 ..) fun A4 H30 hd4 hs30 => ⟨_, _, rfl, ?_⟩
  refine hs30.alc fun b33 H34 hs34 => ⟨hd4.size, hs34.putAll 0 rfl hd4.size hd4.one fun H35 hs35 => ⟨A3, hd3.size, rowIn_whole (hs35.block 2 rfl), ?_⟩⟩
  have c3 : cntKs anD3.ks ≤ 1000000000 := by rw [an6.1]; decide
  refine c23 (D := anD3) (hs35.doc 3 rfl) c3 fun H38 he38 => ⟨_, _, _, rfl, ?_⟩
  have hs38 := hs35.step he38
  have a1 : (doD anD0 (ed0 1 0 0 (-1) 0 0 0 0 4 4)).1 = 0 := an1
  rw [an1, an2, an3, an4, an5]
  refine br_t rfl (br_t rfl (br_t rfl (br_t rfl (br_t rfl (br_t rfl ⟨A3, hd3.size, rowIn_whole (hs38.block 2 rfl), ?_⟩)))))
  refine c25 (D := anD3) (hs38.doc 3 rfl) c3 fun H44 he44 => ⟨_, rfl, ?_⟩
  have hs44 := hs38.step he44
  rw [an6.1]
  refine br_t rfl ⟨A3, hd3.size, rowIn_whole (hs44.block 2 rfl), ?_⟩
  refine c26 (D := anD3) (hs44.doc 3 rfl) c3 fun H48 he48 => ⟨_, rfl, ?_⟩
  have hs48 := hs44.step he48
  rw [an6.2.1]
  refine br_t rfl ⟨A2, hd2.size, rowIn_whole (hs48.block 6 rfl), ?_⟩
  refine c26 (D := anD2) (hs48.doc 4 rfl) (by have := an_inv2.cnt; omega) fun H52 he52 => ⟨_, rfl, ?_⟩
  rw [an6.2.2]
  exact hR H52 (hs48.ext.trans he52)

end Go.Proofs
