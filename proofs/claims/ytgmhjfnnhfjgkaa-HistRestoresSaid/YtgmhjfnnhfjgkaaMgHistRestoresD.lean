/-
  OWN WORK. Several texts in one: TrN, ShF, TrO, TrP, TrQ, TrR, TrS, TrT, TrU, TrV, TrW, TrX, TrY, TrZ.
-/
import Derived.Test.YtgmhjfnnhfjgkaaMgHistRestoresC
import Derived.Test.YtgmhjfnnhfjgkaaMgHistRestoresB

set_option linter.unusedVariables false
set_option linter.unusedSimpArgs false
set_option maxRecDepth 100000
namespace Go.Proofs
open Go.Sh
variable {H0 H : Heap} {σ : List Rs} {R : Value → Heap → Prop}
def okRas (f : LayF) : Prop := f.kind = 0 → sizedB f.w f.h = true ∧ (f.p.length : Int) = f.w * f.h
theorem c35 {b d : Nat} {e : Ed} {s : EdS} {K : Sl3} {ks : List T} (hs : St H0 H (resRoot b K ks ++ σ)) (hc : cntKs (layKs ks) ≤ 1000000000) (hed : rdEd H0 e s) (hras : ∀ fr u ks', flK [] [] e.id (layKs ks) = some (fr :: u, ks') → okRas fr.f) (hR : Chg (paintF e) H0 σ R b ks e.id) :
    CallsH Try.prog 35 #[.agg (workL b d e s).toArray] H R := by
  refine Try.s35 ?_
  unfold Try.S35
  refine hs.alc fun b2 H3 hs3 => ⟨_, rfl, rowIn_whole (hs3.block 0 rfl), ?_⟩
  refine tgt hs3 (by omega) (fun hl H6 hs6 => ⟨_, _, rfl, ?_⟩) fun fr u K' ks' a H6 hl ha hs6 => ⟨_, _, rfl, ?_⟩
  · intro J hJ
    exact br_ne (fun _ => hR.none hl hs6.tail.app.2) fun h => absurd h (by decide)
  intro J hJ
  have bad : ∀ {v : Int} {H' : Heap}, paintF e fr.f = (v, fr.f) → v ≠ 0 → St H0 H' (.cell b2 (workL b d e s).toArray 81 :: (openR fr (u ++ [rootFr b]) K' ks' ++ σ)) → R (.int .i64 v) H' := fun hg hv hs => hR.err hl hg hv hs.tail.app.2
  have hplen := (hed.p.ext hs6.ext).length
  refine br_ne (fun h => absurd rfl h) fun _ => ?_
  refine ⟨a, rfl, _, hs6.elCell 1 rfl (cellsKs_len fr.pre) (cells_1 fr K') ha, br_ne (fun hk => ?_) fun hk => ?_⟩
  · exact bad (v := 41) (by unfold paintF; rw [if_pos hk]) (by decide) hs6
  have hF1 : ∀ x, paintF e fr.f = x ↔ (if e.w < 1 ∨ e.h < 1 ∨ e.w > 32768 ∨ e.h > 32768 ∨ (e.p.length : Int) ≠ e.w * e.h then (25, fr.f) else
      if e.p.any (fun v => !pixelB v) = true then (25, fr.f) else if e.x < -32768 ∨ e.x > 32768 ∨ e.y < -32768 ∨ e.y > 32768 then (31, fr.f) else (0, { fr.f with p := paintP e fr.f.w fr.f.p })) = x := fun x => by
    unfold paintF; rw [if_neg (fun h => h hk)]
  refine ⟨_, hs6.get 0 rfl (j := 10) rfl, br_dec (fun c => bad (v := 25) ((hF1 _).2 (if_pos (.inl c))) (by decide) hs6) fun c1 => ?_⟩
  refine ⟨_, hs6.get 0 rfl (j := 11) rfl, br_dec (fun c => bad (v := 25) ((hF1 _).2 (if_pos (.inr (.inl c)))) (by decide) hs6) fun c2 => ?_⟩
  refine ⟨_, hs6.get 0 rfl (j := 10) rfl, br_dec (fun c => bad (v := 25) ((hF1 _).2 (if_pos (.inr (.inr (.inl c))))) (by decide) hs6) fun c3 => ?_⟩
  refine ⟨_, hs6.get 0 rfl (j := 11) rfl, br_dec (fun c => bad (v := 25) ((hF1 _).2 (if_pos (.inr (.inr (.inr (.inl c)))))) (by decide) hs6) fun c4 => ?_⟩
  have c1 : ¬ e.w < 1 := c1
  have c2 : ¬ e.h < 1 := c2
  have c3 : ¬ e.w > 32768 := c3
  have c4 : ¬ e.h > 32768 := c4
  have hwh : IntKind.wrap .i64 (e.w * e.h) = e.w * e.h := wrap_area (by omega) (by omega) (by omega) (by omega)
  have hbd := mul_bd (x := e.w) (y := e.h) (A := 32768) (B := 32768) (by omega) (by omega)
  refine ⟨_, _, _, hs6.get 0 rfl (j := 12) rfl, _, hs6.get 0 rfl (j := 10) rfl, _, hs6.get 0 rfl (j := 11) rfl, ?_⟩
  rw [hwh]
  refine br_ne (fun c => bad (v := 25) ((hF1 _).2 (if_pos (.inr (.inr (.inr (.inr (by rw [hplen]; exact c))))))) (by decide) hs6) fun c5 => hJ _ ?_
  have hF2 : ∀ x, paintF e fr.f = x ↔ (if e.p.any (fun v => !pixelB v) = true then (25, fr.f) else if e.x < -32768 ∨ e.x > 32768 ∨ e.y < -32768 ∨ e.y > 32768 then (31, fr.f) else (0, { fr.f with p := paintP e fr.f.w fr.f.p })) = x := fun x => by
    rw [hF1, if_neg (by rintro (h | h | h | h | h); exact c1 h; exact c2 h; exact c3 h; exact c4 h; rw [hplen] at h; exact h c5)]
  have c5 : (s.P.l : Int) = e.w * e.h := c5
  refine ⟨_, _, _, hs6.get 0 rfl (j := 12) rfl, ?_⟩
  refine c51 (hed.p.ext hs6.ext) (by omega) (T := fun v => !pixelB v) (fun v _ _ hK => c52 hK) fun H13 he13 => ⟨_, rfl, ?_⟩
  have hs13 := hs6.step he13
  refine br_i (fun ht => bad (v := 25) ((hF2 _).2 (if_pos ht)) (by decide) hs13) fun ht => ?_
  have hF3 : ∀ x, paintF e fr.f = x ↔ (if e.x < -32768 ∨ e.x > 32768 ∨ e.y < -32768 ∨ e.y > 32768 then (31, fr.f) else (0, { fr.f with p := paintP e fr.f.w fr.f.p })) = x := fun x => by
    rw [hF2, if_neg (by rw [ht]; exact Bool.false_ne_true)]
  intro J15 hJ15
  refine ⟨_, hs13.get 0 rfl (j := 8) rfl, br_dec (fun c => bad (v := 31) ((hF3 _).2 (if_pos (.inl c))) (by decide) hs13) fun d1 => ?_⟩
  refine ⟨_, hs13.get 0 rfl (j := 8) rfl, br_dec (fun c => bad (v := 31) ((hF3 _).2 (if_pos (.inr (.inl c)))) (by decide) hs13) fun d2 => ?_⟩
  refine ⟨_, hs13.get 0 rfl (j := 9) rfl, br_dec (fun c => bad (v := 31) ((hF3 _).2 (if_pos (.inr (.inr (.inl c))))) (by decide) hs13) fun d3 => ?_⟩
  refine ⟨_, hs13.get 0 rfl (j := 9) rfl, br_dec (fun c => bad (v := 31) ((hF3 _).2 (if_pos (.inr (.inr (.inr c))))) (by decide) hs13) fun d4 => hJ15 _ ?_⟩
  have d1 : ¬ e.x < -32768 := d1
  have d2 : ¬ e.x > 32768 := d2
  have d3 : ¬ e.y < -32768 := d3
  have d4 : ¬ e.y > 32768 := d4
  have hF4 : paintF e fr.f = (0, { fr.f with p := paintP e fr.f.w fr.f.p }) := (hF3 _).2 (if_neg (by omega))
  refine ⟨_, _, _, hs13.get 0 rfl (j := 12) rfl, ?_⟩
  intro X hX
  obtain ⟨hsz, hpl⟩ := hras (Fr.lay fr) (u.map Fr.lay) (layKs ks') hl hk
  have hsz : sizedB fr.f.w fr.f.h = true := hsz
  have hpl : (fr.f.p.length : Int) = fr.f.w * fr.f.h := hpl
  obtain ⟨q1, q2, q3, q4, q5⟩ := of_decide_eq_true hsz
  have hPl : fr.P.l = fr.f.p.length := by have := (hs13.fs 2 rfl).len; rw [ints_len] at this; omega
  have go : ∀ k, k ≤ e.p.length → ∀ H1, St H0 H1 (.cell b2 (workL b d e s).toArray 81 :: (openR ⟨fr.hdr, fr.pre, { fr.f with p := paintTo e fr.f.w fr.f.p (k : Nat) }, fr.P, fr.M, fr.A, fr.post⟩ (u ++ [rootFr b]) K' ks' ++ σ)) → X [.int .i64 (k : Nat)] H1 := by
    refine upto fun k hk2 ih H1 hs1 => hX _ _ (br_dec (fun hlt => ?_) fun hge => ?_)
    · have hk' : k < e.p.length := by omega
      intro J21 hJ21
      obtain ⟨pa, hpa, hpc⟩ := (hed.p.ext hs1.ext).get k _ (ints_get (List.getElem?_eq_getElem hk'))
      have hpk : e.p.getD k 0 = e.p[k] := by rw [List.getD_eq_getElem?_getD, List.getElem?_eq_getElem hk']; rfl
      have next : ∀ H2, St H0 H2 (.cell b2 (workL b d e s).toArray 81 :: (openR ⟨fr.hdr, fr.pre, { fr.f with p := paintTo e fr.f.w fr.f.p ((k : Nat) + 1) }, fr.P, fr.M, fr.A, fr.post⟩ (u ++ [rootFr b]) K' ks' ++ σ)) → J21 [] H2 := fun H2 hs2 => by
        refine hJ21 _ ?_
        rw [wrap_id (by omega) (by omega)]
        exact ih hk' H2 hs2
      refine ⟨pa, hpa, by omega, hlt, e.p[k], by rw [show Int.toNat (k : Int) * 1 = k from Nat.mul_one k]; exact hpc, _, hs1.get 0 rfl (j := 8) rfl, _, hs1.get 0 rfl (j := 10) rfl, by show e.w ≠ 0; omega, _, hs1.get 0 rfl (j := 9) rfl, _, hs1.get 0 rfl (j := 10) rfl, by show e.w ≠ 0; omega, ?_⟩
      have m0 := Int.emod_nonneg (k : Int) (show e.w ≠ 0 by omega)
      have m1 := Int.emod_lt_of_pos (k : Int) (show 0 < e.w by omega)
      have m2 : 0 ≤ (k : Int) / e.w := Int.ediv_nonneg (by omega) (by omega)
      have m3 : (k : Int) / e.w ≤ k := Int.ediv_le_self _ (by omega)
      rw [Int.tmod_eq_emod_of_nonneg (by omega), Int.tdiv_eq_ediv_of_nonneg (by omega)]
      rw [wrap_id (n := e.x + (k : Int) % e.w) (by omega) (by omega), wrap_id (n := (k : Int) / e.w) (by omega) (by omega), wrap_id (n := e.y + (k : Int) / e.w) (by omega) (by omega)]
      have hpl' : (fr.f.p.length : Int) = fr.f.w * fr.f.h := hpl
      have out : ¬ (0 ≤ e.x + (k : Int) % e.w ∧ e.x + (k : Int) % e.w < fr.f.w ∧ 0 ≤ e.y + (k : Int) / e.w ∧ e.y + (k : Int) / e.w < fr.f.h) → J21 [] H1 := fun h => by
        refine next H1 ?_
        have := paintTo_out (e := e) (p := fr.f.p) (by omega) q1 hpl' h
        rw [← this]; exact hs1
      refine br_dec (fun g1 => ⟨a, rfl, fr.f.w, hs1.elCell 1 rfl (cellsKs_len fr.pre) (j := 5) rfl ha, br_dec (fun g2 => br_dec (fun g3 => ⟨a, rfl, fr.f.h, hs1.elCell 1 rfl (cellsKs_len fr.pre) (j := 6) rfl ha, br_dec (fun g4 => ?_) fun g4 => out (by omega)⟩) fun g3 => out (by omega)) fun g2 => out (by omega)⟩) fun g1 => out (by omega)
      refine ⟨a, rfl, _, _, _, hs1.elCell 1 rfl (cellsKs_len fr.pre) (j := 7) rfl ha, a, rfl, _, hs1.elCell 1 rfl (cellsKs_len fr.pre) (j := 5) rfl ha, ?_⟩
      have r1 : 0 ≤ (e.y + (k : Int) / e.w) * fr.f.w := Int.mul_nonneg (by omega) (by omega)
      have r2 : (e.y + (k : Int) / e.w) * fr.f.w ≤ (fr.f.h - 1) * fr.f.w := Int.mul_le_mul_of_nonneg_right (by omega) (by omega)
      have r3 : (fr.f.h - 1) * fr.f.w = fr.f.w * fr.f.h - fr.f.w := by rw [Int.sub_mul, Int.mul_comm fr.f.h]; omega
      show ∃ a37 : Addr, fr.P.p = some a37 ∧ 0 ≤ (IntKind.wrap .i64 ((IntKind.wrap .i64 ((e.y + (k : Int) / e.w) * fr.f.w)) + (e.x + (k : Int) % e.w))) ∧ (IntKind.wrap .i64 ((IntKind.wrap .i64 ((e.y + (k : Int) / e.w) * fr.f.w)) + (e.x + (k : Int) % e.w))) < ((fr.P.l : Nat) : Int) ∧ stAt H1 (Addr.add a37 (Int.toNat (IntKind.wrap .i64 ((IntKind.wrap .i64 ((e.y + (k : Int) / e.w) * fr.f.w)) + (e.x + (k : Int) % e.w))) * 1)) [Value.int .i64 e.p[k]] fun H_38 => J21 [] H_38
      rw [wrap_id (n := (e.y + (k : Int) / e.w) * fr.f.w) (by omega) (by omega), wrap_id (n := (e.y + (k : Int) / e.w) * fr.f.w + (e.x + (k : Int) % e.w)) (by omega) (by omega)]
      obtain ⟨q, hq⟩ : ∃ q : Nat, (q : Int) = (e.y + (k : Int) / e.w) * fr.f.w + (e.x + (k : Int) % e.w) := ⟨((e.y + (k : Int) / e.w) * fr.f.w + (e.x + (k : Int) % e.w)).toNat, by omega⟩
      obtain ⟨p1, p2⟩ := paintTo_in (e := e) (p := fr.f.p) (k := k) (q := q) (by omega) q1 hpl' (by omega) g1 g2 g3 g4 hq
      rw [← hq]
      obtain ⟨blk, hblk⟩ := hs1.slSome 2 rfl (j := q) (by rw [ints_len]; show q < (paintTo e fr.f.w fr.f.p k).length; rw [paintTo_len]; exact p1)
      have hblk : fr.P.p = some ⟨blk, 0, none⟩ := hblk
      refine ⟨⟨blk, 0, none⟩, hblk, by omega, by omega, ?_⟩
      rw [show Int.toNat (q : Int) * 1 = q from Nat.mul_one q, add_none, Nat.zero_add]
      have hs1' := hs1
      have hsl : (.cell b2 (workL b d e s).toArray 81 :: (openR ⟨fr.hdr, fr.pre, { fr.f with p := paintTo e fr.f.w fr.f.p (k : Nat) }, fr.P, fr.M, fr.A, fr.post⟩ (u ++ [rootFr b]) K' ks' ++ σ) : List Rs)[2]? = some (.sl (some ⟨blk, 0, none⟩) fr.P.l fr.P.c 3 1 (ints (paintTo e fr.f.w fr.f.p (k : Nat)))) := by rw [← hblk]; rfl
      refine hs1.slPut 2 hsl (by rw [ints_len, paintTo_len]; exact p1) rfl fun H2 hs2 => next H2 ?_
      rw [ints_set, ← hpk, p2, ← hblk] at hs2
      exact hs2
    · have : k = e.p.length := by omega
      subst this
      have hall := paintTo_all (e := e) (W := fr.f.w) (p := fr.f.p) (k := (e.p.length : Nat)) (by omega)
      rw [hall] at hs1
      exact hR.done hl hF4 hs1.tail
  have h0 := go 0 (Nat.zero_le _) H13 (by
    have := paintTo_zero e fr.f.w fr.f.p
    rw [show ((0 : Nat) : Int) = 0 from rfl, this]
    exact hs13)
  exact h0
end Go.Proofs
namespace Go.Sh
open Ieee
def sg (s : Bool) (m : Nat) : Int := if s then -(m : Int) else m
theorem signed_eq (s : Bool) (m u : Nat) : signed s m u = sg s m * 2 ^ u := by
 unfold signed sg
 rw [Nat.shiftLeft_eq]
 cases s <;> simp [Int.neg_mul]
theorem sg_not (s : Bool) (m : Nat) : sg (!s) m = - sg s m := by cases s <;> simp [sg]
theorem sg_xor (s t : Bool) (m n : Nat) : sg (s ^^ t) (m * n) = sg s m * sg t n := by cases s <;> cases t <;> simp [sg, Int.neg_mul, Int.mul_neg]
theorem sg_abs (x : Int) : sg (decide (x < 0)) x.natAbs = x := by unfold sg; split <;> simp_all <;> omega
theorem natAbs_sg (s : Bool) (m : Nat) : (sg s m).natAbs = m := by cases s <;> simp [sg]
def nv (s : Bool) (m : Nat) (e n : Int) : Prop := ∃ k : Nat, 0 ≤ e + k ∧ sg s m * 2 ^ (e + k).toNat = n * 2 ^ k
theorem p2 (a b : Nat) : (2 : Int) ^ (a + b) = 2 ^ a * 2 ^ b := Int.pow_add 2 a b
theorem nv.up {s : Bool} {m : Nat} {e n : Int} (h : nv s m e n) : ∃ k : Nat, ∀ K : Nat, k ≤ K → 0 ≤ e + K ∧ sg s m * 2 ^ (e + K).toNat = n * 2 ^ K := by
 obtain ⟨k, h0, h1⟩ := h
 refine ⟨k, fun K hK => ⟨by omega, ?_⟩⟩
 rw [show (e + (K : Int)).toNat = (e + (k : Int)).toNat + (K - k) from by omega, p2, ← Int.mul_assoc, h1, Int.mul_assoc, ← p2, show k + (K - k) = K from by omega]
def FZ (b : Nat) (n : Int) : Prop := ∃ s m e, double.read b = .number s m e ∧ nv s m e n
theorem log2_mul_pow {n : Nat} (h : n ≠ 0) (k : Nat) : (n * 2 ^ k).log2 = n.log2 + k := by
 have h1 := Nat.log2_self_le h
 have h2 := Nat.lt_log2_self (n := n)
 refine (Nat.log2_eq_iff (Nat.mul_ne_zero h (Nat.pos_iff_ne_zero.1 (Nat.two_pow_pos k)))).2 ⟨?_, ?_⟩
 ·rw [Nat.pow_add]; exact Nat.mul_le_mul_right _ h1
 ·rw [show n.log2 + k + 1 = (n.log2 + 1) + k from by omega, Nat.pow_add]; exact Nat.mul_lt_mul_of_pos_right h2 (Nat.two_pow_pos k)
theorem read_word {s : Bool} {q M : Nat} (hq : q ≤ 52) (h1 : 4503599627370496 ≤ M) (h2 : M < 9007199254740992) :
    double.read (double.word s (min ((1074 - q) * 4503599627370496 + M) 9218868437227405312)) = .number s M (-(q : Int)) := by
  have e1 : min ((1074 - q) * 4503599627370496 + M) 9218868437227405312 = (1074 - q) * 4503599627370496 + M := Nat.min_eq_left (by omega)
  rw [e1]
  have hb : double.binade = 4503599627370496 := rfl
  have hw : double.signWeight = 9223372036854775808 := rfl
  have hi : double.infRung = 9218868437227405312 := rfl
  have hl : double.leastPlace = -1074 := rfl
  generalize hR : (1074 - q) * 4503599627370496 + M = R
  have hR1 : R < 9223372036854775808 := by omega
  have hR2 : R / 4503599627370496 = 1075 - q := by omega
  have hR3 : R % 4503599627370496 = M - 4503599627370496 := by omega
  unfold Format.read Format.word
  simp only [hb, hw, hi, hl]
  have hs : ((if s = true then 9223372036854775808 + R else R) / 9223372036854775808 % 2 == 1) = s := by
    cases s
    · simp only [Bool.false_eq_true, if_false]; rw [Nat.div_eq_of_lt hR1]; rfl
    · simp only [if_true]
      rw [show (9223372036854775808 + R) / 9223372036854775808 = 1 from by omega]; rfl
  have hm : (if s = true then 9223372036854775808 + R else R) % 9223372036854775808 = R := by
    cases s
    · simp only [Bool.false_eq_true, if_false]; exact Nat.mod_eq_of_lt hR1
    · simp only [if_true]; omega
  rw [hs, hm, if_neg (by omega), if_pos (by omega), hR2, hR3]
  have e2 : 4503599627370496 + (M - 4503599627370496) = M := by omega
  have e3 : (-1074 : Int) + ((1075 - q - 1 : Nat) : Int) = -(q : Int) := by omega
  rw [e2, e3]
theorem cut_exact (s : Bool) (N q d : Nat) (hN : N ≠ 0) (hd : d ≤ (N * 2 ^ q * 2 ^ d).log2 + 2) : Toward.even.cut s (N * 2 ^ q * 2 ^ d) d = N * 2 ^ q := by
 unfold Toward.cut
 rw [Nat.min_eq_left hd]
 have hg : 1 <<< d = 2 ^ d := by rw [Nat.shiftLeft_eq, Nat.one_mul]
 have h1 : N * 2 ^ q * 2 ^ d / 2 ^ d = N * 2 ^ q := Nat.mul_div_cancel _ (Nat.two_pow_pos d)
 have h2 : N * 2 ^ q * 2 ^ d % 2 ^ d = 0 := Nat.mul_mod_left _ _
 have hp := Nat.two_pow_pos d
 simp only [hg, h1, h2]
 have e1 : decide (2 ^ d < 2 * 0) = false := by simp
 have e2 : (2 ^ d == 2 * 0) = false := by
  rw [beq_eq_false_iff_ne]; omega
 rw [e1, e2]
 rfl
theorem FZ.write {s : Bool} {m : Nat} {e n : Int} (h : nv s m e n) (h0 : -9007199254740992 < n) (h1 : n < 9007199254740992) : FZ (double.write (.number s m e)) n := by
 obtain ⟨k, hk⟩ := h.up
 show FZ (double.nearest s m e) n
 unfold Format.nearest
 by_cases hm : m = 0
 ·rw [if_pos hm]
  have hn : n = 0 := by
   have := (hk k (Nat.le_refl _)).2
   rw [hm] at this
   have hz : sg s 0 = 0 := by cases s <;> rfl
   rw [hz, Int.zero_mul] at this
   rcases Int.mul_eq_zero.1 this.symm with h | h
   ·exact h
   ·exact absurd h (Int.ne_of_gt (Int.pow_pos (by decide)))
  subst hn
  refine ⟨s, 0, -1074, ?_, 1074, by decide, ?_⟩
  ·cases s <;> rfl
  ·rw [show sg s 0 = 0 from by cases s <;> rfl, Int.zero_mul, Int.zero_mul]
 ·rw [if_neg hm]
  -- N, the number without its sign
  have habs : ∀ K : Nat, k ≤ K → m * 2 ^ (e + K).toNat = n.natAbs * 2 ^ K := fun K hK => by
   have := congrArg Int.natAbs (hk K hK).2
   rw [Int.natAbs_mul, Int.natAbs_mul, natAbs_sg, Int.natAbs_pow, Int.natAbs_pow] at this
   exact this
  generalize hN : n.natAbs = N at habs
  have hN0 : N ≠ 0 := fun h0 => by
   have := habs k (Nat.le_refl _)
   rw [h0, Nat.zero_mul] at this
   rcases Nat.mul_eq_zero.1 this with h | h
   ·exact hm h
   ·exact absurd h (Nat.pos_iff_ne_zero.1 (Nat.two_pow_pos _))
  have hNlt : N < 2 ^ 53 := by
   have : (2 : Nat) ^ 53 = 9007199254740992 := rfl
   omega
  have hL : N.log2 ≤ 52 := by
   have := (Nat.log2_lt hN0 (k := 53)).2 hNlt
   omega
  have hlog : e + (m.log2 : Int) = N.log2 := by
   have h3 := congrArg Nat.log2 (habs k (Nat.le_refl _))
   rw [log2_mul_pow hm, log2_mul_pow hN0] at h3
   have := (hk k (Nat.le_refl _)).1
   omega
  generalize hq : 52 - N.log2 = q
  have hlast : max (e + (m.log2 : Int) - (double.fractionBits : Nat)) double.leastPlace = -(q : Int) := by
   have a : (double.fractionBits : Int) = 52 := rfl
   have b : double.leastPlace = -1074 := rfl
   rw [hlog, a, b, Int.max_def]
   split <;> omega
  dsimp only
  rw [hlast]
  have hl : double.leastPlace = -1074 := rfl
  have hb : double.binade = 4503599627370496 := rfl
  have hi : double.infRung = 9218868437227405312 := rfl
  rw [hl, hb, hi]
  have hM1 : 4503599627370496 ≤ N * 2 ^ q := by
   have h4 := Nat.mul_le_mul_right (2 ^ q) (Nat.log2_self_le hN0)
   rw [← Nat.pow_add, show N.log2 + q = 52 from by omega] at h4
   exact h4
  have hM2 : N * 2 ^ q < 9007199254740992 := by
   have h4 := Nat.mul_lt_mul_of_pos_right (Nat.lt_log2_self (n := N)) (Nat.two_pow_pos q)
   rw [← Nat.pow_add, show N.log2 + 1 + q = 53 from by omega] at h4
   exact h4
  have hkept : Toward.even.cut s (m <<< (e - -(q : Int)).toNat) (-(q : Int) - e).toNat = N * 2 ^ q := by
   by_cases hc : 0 ≤ e + q
   ·rw [show (-(q : Int) - e).toNat = 0 from by omega, Nat.shiftLeft_eq, show (e - -(q : Int)).toNat = (e + q).toNat from by omega]
    have h5 := habs (k + q) (by omega)
    rw [show (e + ((k + q : Nat) : Int)).toNat = (e + q).toNat + k from by omega, Nat.pow_add, ← Nat.mul_assoc, Nat.add_comm k q, Nat.pow_add, ← Nat.mul_assoc] at h5
    have h6 : m * 2 ^ (e + q).toNat = N * 2 ^ q := Nat.eq_of_mul_eq_mul_right (Nat.two_pow_pos k) h5
    have h7 := cut_exact s N q 0 hN0 (by omega)
    rw [Nat.pow_zero, Nat.mul_one] at h7
    rw [h6]; exact h7
   ·generalize hd : (-(q : Int) - e).toNat = d
    rw [show (e - -(q : Int)).toNat = 0 from by omega, Nat.shiftLeft_eq, Nat.pow_zero, Nat.mul_one]
    have h5 := habs (k + q + d) (by omega)
    rw [show (e + ((k + q + d : Nat) : Int)).toNat = k from by omega, show k + q + d = q + d + k from by omega, Nat.pow_add _ (q + d), ← Nat.mul_assoc] at h5
    have h6 : m = N * 2 ^ (q + d) := Nat.eq_of_mul_eq_mul_right (Nat.two_pow_pos k) h5
    rw [Nat.pow_add, ← Nat.mul_assoc] at h6
    rw [h6]
    refine cut_exact s N q d hN0 ?_
    rw [← h6]; omega
  rw [hkept, show (-(q : Int) - -1074).toNat = 1074 - q from by omega]
  refine ⟨s, _, _, read_word (by omega) hM1 hM2, q, by omega, ?_⟩
  rw [show (-(q : Int) + (q : Int)).toNat = 0 from by omega, Int.pow_zero, Int.mul_one]
  have hs : sg s N = n := by
   have h5 := (hk k (Nat.le_refl _)).2
   have h6 : 0 < (2 : Int) ^ (e + k).toNat := Int.pow_pos (by decide)
   have h7 : 0 < (2 : Int) ^ k := Int.pow_pos (by decide)
   cases s with
   | false =>
    have h8 : sg false m = (m : Int) := rfl
    rw [h8] at h5
    have h9 : (0 : Int) < m * 2 ^ (e + k).toNat := Int.mul_pos (by omega) h6
    have h10 : 0 < n := by
     by_cases h : 0 < n
     ·exact h
     ·have h := Int.not_lt.1 h
      have := Int.mul_le_mul_of_nonneg_right h (Int.le_of_lt h7); rw [Int.zero_mul] at this; omega
    show (N : Int) = n
    omega
   | true =>
    have h8 : sg true m = -(m : Int) := rfl
    rw [h8] at h5
    have h9 : (0 : Int) < m * 2 ^ (e + k).toNat := Int.mul_pos (by omega) h6
    rw [Int.neg_mul] at h5
    have h10 : n < 0 := by
     by_cases h : n < 0
     ·exact h
     ·have h := Int.not_lt.1 h
      have := Int.mul_nonneg h (Int.le_of_lt h7); omega
    show -(N : Int) = n
    omega
  have : sg s (N * 2 ^ q) = sg s N * 2 ^ q := by cases s <;> simp [sg, Int.neg_mul]
  rw [this, hs]
theorem FZ.ofInt {n : Int} (h0 : -9007199254740992 < n) (h1 : n < 9007199254740992) : FZ (floatOfInt .f64 n) n :=
 FZ.write (s := decide (n < 0)) (m := n.natAbs) (e := 0) ⟨0, by omega, by rw [sg_abs]; simp⟩ h0 h1
theorem FZ.add {a b : Nat} {x y : Int} (ha : FZ a x) (hb : FZ b y) (h0 : -9007199254740992 < x + y) (h1 : x + y < 9007199254740992) : ∃ r, floatBits .add .f64 a b = some r ∧ FZ r (x + y) := by
 obtain ⟨s, m, i, ra, hx⟩ := ha
 obtain ⟨t, n, j, rb, hy⟩ := hb
 obtain ⟨k1, h2⟩ := hx.up
 obtain ⟨k2, h3⟩ := hy.up
 refine ⟨_, by show ((double.read a).sum (double.read b)).map double.write = _; rw [ra, rb]; rfl, ?_⟩
 refine FZ.write ⟨max k1 k2 + i.natAbs + j.natAbs, by omega, ?_⟩ h0 h1
 obtain ⟨h4, h5⟩ := h2 (max k1 k2 + i.natAbs + j.natAbs) (by omega)
 obtain ⟨h6, h7⟩ := h3 (max k1 k2 + i.natAbs + j.natAbs) (by omega)
 generalize max k1 k2 + i.natAbs + j.natAbs = K at h4 h5 h6 h7
 rw [signed_eq, signed_eq]
 generalize ht : sg s m * 2 ^ (i - min i j).toNat + sg t n * 2 ^ (j - min i j).toNat = T
 have hsg : sg (if T = 0 then s && t else decide (T < 0)) T.natAbs = T := by
  by_cases hT : T = 0
  ·rw [if_pos hT, hT]; cases (s && t) <;> rfl
  ·rw [if_neg hT]; exact sg_abs T
 rw [hsg, ← ht, Int.add_mul, Int.mul_assoc, Int.mul_assoc, ← p2, ← p2, show (i - min i j).toNat + (min i j + (K : Int)).toNat = (i + K).toNat from by omega, show (j - min i j).toNat + (min i j + (K : Int)).toNat = (j + K).toNat from by omega, h5, h7, Int.add_mul]
theorem FZ.sub {a b : Nat} {x y : Int} (ha : FZ a x) (hb : FZ b y) (h0 : -9007199254740992 < x - y) (h1 : x - y < 9007199254740992) : ∃ r, floatBits .sub .f64 a b = some r ∧ FZ r (x - y) := by
 obtain ⟨s, m, i, ra, hx⟩ := ha
 obtain ⟨t, n, j, rb, hy⟩ := hb
 obtain ⟨k1, h2⟩ := hx.up
 obtain ⟨k2, h3⟩ := hy.up
 refine ⟨_, by show ((double.read a).sum (double.read b).opposite).map double.write = _; rw [ra, rb]; rfl, ?_⟩
 refine FZ.write ⟨max k1 k2 + i.natAbs + j.natAbs, by omega, ?_⟩ h0 h1
 obtain ⟨h4, h5⟩ := h2 (max k1 k2 + i.natAbs + j.natAbs) (by omega)
 obtain ⟨h6, h7⟩ := h3 (max k1 k2 + i.natAbs + j.natAbs) (by omega)
 generalize max k1 k2 + i.natAbs + j.natAbs = K at h4 h5 h6 h7
 rw [signed_eq, signed_eq]
 generalize ht : sg s m * 2 ^ (i - min i j).toNat + sg (!t) n * 2 ^ (j - min i j).toNat = T
 have hsg : sg (if T = 0 then s && !t else decide (T < 0)) T.natAbs = T := by
  by_cases hT : T = 0
  ·rw [if_pos hT, hT]; cases (s && !t) <;> rfl
  ·rw [if_neg hT]; exact sg_abs T
 rw [hsg, ← ht, Int.add_mul, Int.mul_assoc, Int.mul_assoc, ← p2, ← p2, show (i - min i j).toNat + (min i j + (K : Int)).toNat = (i + K).toNat from by omega, show (j - min i j).toNat + (min i j + (K : Int)).toNat = (j + K).toNat from by omega, h5, sg_not, Int.neg_mul, h7, Int.sub_mul]
 omega
theorem FZ.mul {a b : Nat} {x y : Int} (ha : FZ a x) (hb : FZ b y) (h0 : -9007199254740992 < x * y) (h1 : x * y < 9007199254740992) : ∃ r, floatBits .mul .f64 a b = some r ∧ FZ r (x * y) := by
 obtain ⟨s, m, i, ra, hx⟩ := ha
 obtain ⟨t, n, j, rb, hy⟩ := hb
 obtain ⟨k1, h2, h3⟩ := hx
 obtain ⟨k2, h4, h5⟩ := hy
 refine ⟨_, by show ((double.read a).product (double.read b)).map double.write = _; rw [ra, rb]; rfl, ?_⟩
 refine FZ.write ⟨k1 + k2, by omega, ?_⟩ h0 h1
 rw [sg_xor, show (i + j + ((k1 + k2 : Nat) : Int)).toNat = (i + k1).toNat + (j + k2).toNat from by omega, p2, p2]
 have e : ∀ p q r u : Int, p * q * (r * u) = (p * r) * (q * u) := fun p q r u => by rw [Int.mul_assoc, Int.mul_assoc, Int.mul_left_comm q r u]
 rw [e, h3, h5, e]
theorem xor_top (b : Nat) : (b ^^^ 9223372036854775808) % 9223372036854775808 = b % 9223372036854775808 ∧ ((b ^^^ 9223372036854775808) / 9223372036854775808 % 2 == 1) = !(b / 9223372036854775808 % 2 == 1) := by
 have e : (9223372036854775808 : Nat) = 2 ^ 63 := rfl
 constructor
 ·rw [e, Nat.xor_mod_two_pow]; simp
 ·have h1 : (b ^^^ 2 ^ 63) / 2 ^ 63 = (b / 2 ^ 63) ^^^ 1 := by rw [Nat.xor_div_two_pow]
  rw [e, h1]
  have h2 : ((b / 2 ^ 63) ^^^ 1) % 2 = ((b / 2 ^ 63) % 2 ^^^ 1) := by
   have := Nat.xor_mod_two_pow (a := b / 2 ^ 63) (b := 1) (n := 1)
   simpa using this
  rw [h2]
  rcases Nat.mod_two_eq_zero_or_one (b / 2 ^ 63) with h | h <;> rw [h] <;> rfl
theorem FZ.neg {a : Nat} {x : Int} (ha : FZ a x) : FZ (Op.negFloat .f64 a) (-x) := by
 obtain ⟨s, m, i, ra, k, h2, h3⟩ := ha
 refine ⟨!s, m, i, ?_, k, h2, by rw [sg_not, Int.neg_mul, h3, Int.neg_mul]⟩
 have he : Op.negFloat .f64 a = a ^^^ 9223372036854775808 := rfl
 rw [he]
 obtain ⟨h4, h5⟩ := xor_top a
 have hw : double.signWeight = 9223372036854775808 := rfl
 unfold Format.read at ra ⊢
 simp only [hw] at ra ⊢
 rw [h4, h5]
 generalize (a / 9223372036854775808 % 2 == 1) = u at ra ⊢
 split at ra
 ·rename_i hc; rw [if_pos hc]; cases ra; rfl
 ·rename_i hc; rw [if_neg hc]
  split at ra
  ·rename_i hc2; rw [if_pos hc2]; cases ra; rfl
  ·split at ra <;> cases ra
theorem FZ.order {a b : Nat} {x y : Int} (ha : FZ a x) (hb : FZ b y) : Ieee.Format.order (FloatKind.format .f64) a b = some (compare x y) := by
 obtain ⟨s, m, i, ra, hx⟩ := ha
 obtain ⟨t, n, j, rb, hy⟩ := hb
 obtain ⟨k1, h2⟩ := hx.up
 obtain ⟨k2, h3⟩ := hy.up
 show (double.read a).order (double.read b) = _
 rw [ra, rb]
 show some (compare (signed s m (i - min i j).toNat) (signed t n (j - min i j).toNat)) = _
 rw [signed_eq, signed_eq]
 obtain ⟨h4, h5⟩ := h2 (max k1 k2 + i.natAbs + j.natAbs) (by omega)
 obtain ⟨h6, h7⟩ := h3 (max k1 k2 + i.natAbs + j.natAbs) (by omega)
 generalize hK : max k1 k2 + i.natAbs + j.natAbs = K at h4 h5 h6 h7
 rw [show (i + (K : Int)).toNat = (i - min i j).toNat + (min i j + K).toNat from by omega, p2, ← Int.mul_assoc] at h5
 rw [show (j + (K : Int)).toNat = (j - min i j).toNat + (min i j + K).toNat from by omega, p2, ← Int.mul_assoc] at h7
 generalize sg s m * 2 ^ (i - min i j).toNat = A at h5
 generalize sg t n * 2 ^ (j - min i j).toNat = B at h7
 have hp : (0 : Int) < 2 ^ (min i j + (K : Int)).toNat := Int.pow_pos (by decide)
 have hq : (0 : Int) < 2 ^ K := Int.pow_pos (by decide)
 generalize (2 : Int) ^ (min i j + (K : Int)).toNat = p at h5 h7 hp
 generalize (2 : Int) ^ K = q at h5 h7 hq
 have key : (A < B ↔ x < y) ∧ (A = B ↔ x = y) := by
  have e1 : A * p < B * p ↔ A < B := Int.mul_lt_mul_right hp
  have e2 : x * q < y * q ↔ x < y := Int.mul_lt_mul_right hq
  have e3 : A * p = B * p ↔ A = B := Int.mul_eq_mul_right_iff (by omega)
  have e4 : x * q = y * q ↔ x = y := Int.mul_eq_mul_right_iff (by omega)
  rw [h5, h7] at e1 e3
  exact ⟨e1.symm.trans e2, e3.symm.trans e4⟩
 congr 1
 show (if A < B then Ordering.lt else if A = B then .eq else .gt) = (if x < y then Ordering.lt else if x = y then .eq else .gt)
 by_cases h8 : A < B
 ·rw [if_pos h8, if_pos (key.1.1 h8)]
 ·rw [if_neg h8, if_neg (fun h => h8 (key.1.2 h))]
  by_cases h9 : A = B
  ·rw [if_pos h9, if_pos (key.2.1 h9)]
  ·rw [if_neg h9, if_neg (fun h => h9 (key.2.2 h))]
theorem FZ.gt {a b : Nat} {x y : Int} (ha : FZ a x) (hb : FZ b y) : (Ieee.Format.order (FloatKind.format .f64) a b == some Ordering.gt) = decide (x > y) := by
 rw [ha.order hb]
 show ((some (if x < y then Ordering.lt else if x = y then .eq else .gt)) == some Ordering.gt) = _
 by_cases h8 : x < y
 ·rw [if_pos h8]; simp; omega
 ·rw [if_neg h8]
  by_cases h9 : x = y
  ·rw [if_pos h9]; simp; omega
  ·rw [if_neg h9]; simp; omega
theorem FZ.zero : FZ 0 0 := ⟨false, 0, -1074, rfl, 1074, by decide, by rw [show sg false 0 = 0 from rfl, Int.zero_mul, Int.zero_mul]⟩
theorem FZ.two : FZ 4611686018427387904 2 := ⟨false, 4503599627370496, -51, by rfl, 51, by decide, by decide⟩
end Go.Sh
namespace Go.Proofs
open Go.Sh
variable {H0 H : Heap} {σ : List Rs} {R : Value → Heap → Prop}
abbrev Pt := Int × Int
def ptB (p : Pt) : Bool := decide (-1048576 ≤ p.1 ∧ p.1 ≤ 1048576 ∧ -1048576 ≤ p.2 ∧ p.2 ≤ 1048576)
def shapeB (l : List Pt) : Bool := decide (3 ≤ l.length ∧ l.length ≤ 256) && l.all ptB
def nMet (a b : Pt) (x y : Int) : Int := (2 * b.1 - 2 * a.1) * (2 * y + 1 - 2 * a.2) + (2 * a.1 - (2 * x + 1)) * (2 * b.2 - 2 * a.2)
def metB (a b : Pt) (x y : Int) : Bool :=
 if decide (2 * a.2 > 2 * y + 1) = decide (2 * b.2 > 2 * y + 1) then false else if 2 * b.2 - 2 * a.2 < 0 then decide (nMet a b x y < 0) else decide (nMet a b x y > 0)
def xorN : Nat → (Nat → Bool) → Bool
 | 0, _ => false
 | n + 1, f => xorN n f ^^ f n
theorem xorN_front (f : Nat → Bool) : ∀ n, xorN (n + 1) f = (f 0 ^^ xorN n fun i => f (i + 1))
 | 0 => by simp [xorN]
 | n + 1 => by rw [xorN, xorN_front f n, xorN, Bool.xor_assoc]
theorem xorN_congr {f g : Nat → Bool} : ∀ {n : Nat}, (∀ i, i < n → f i = g i) → xorN n f = xorN n g
 | 0, _ => rfl
 | n + 1, h => by rw [xorN, xorN, xorN_congr fun i hi => h i (by omega), h n (by omega)]
def nthP (l : List Pt) (i : Nat) : Pt := l.getD i (0, 0)
def withinB (l : List Pt) (x y : Int) : Bool := xorN l.length fun i => metB (nthP l i) (nthP l (if i + 1 = l.length then 0 else i + 1)) x y
theorem within_prev (l : List Pt) (x y : Int) : withinB l x y = xorN l.length fun k => metB (nthP l (if k = 0 then l.length - 1 else k - 1)) (nthP l k) x y := by
 unfold withinB
 cases hl : l.length with
 | zero => rfl
 | succ m =>
  rw [xorN, xorN_front, Bool.xor_comm]
  congr 1
  ·simp
  ·refine xorN_congr fun i hi => ?_
   rw [if_neg (by omega), if_neg (by omega), show i + 1 - 1 = i from by omega]
def ptV (p : Pt) : Array Value := #[.int .i64 p.1, .int .i64 p.2]
theorem IS2.row {H : Heap} {p : Option Addr} {l : Nat} {pts : List Pt} (h : IS2 H p l pts) {i : Nat} (hi : i < pts.length) : ∃ a, p = some a ∧ rowIn H (a.add (i * 2)) (ptV (nthP pts i)) := by
 have hx := List.getElem?_eq_getElem hi
 have hn : nthP pts i = pts[i] := by unfold nthP; rw [List.getD_eq_getElem?_getD, hx]; rfl
 rw [hn]
 exact h.get i _ _ hx
theorem CZ.sub {a b c d : Nat} {x y u v : Int} (ha : FZ a x) (hb : FZ b y) (hc : FZ c u) (hd : FZ d v) (h1 : -1000000000000 ≤ x - u ∧ x - u ≤ 1000000000000) (h2 : -1000000000000 ≤ y - v ∧ y - v ≤ 1000000000000) :
    ∃ re im, cSumBits .sub .f64 a b c d = some (re, im) ∧ FZ re (x - u) ∧ FZ im (y - v) := by
  obtain ⟨re, e1, f1⟩ := ha.sub hc (by omega) (by omega)
  obtain ⟨im, e2, f2⟩ := hb.sub hd (by omega) (by omega)
  exact ⟨re, im, by unfold cSumBits; rw [e1, e2]; rfl, f1, f2⟩
theorem CZ.mul {a b c d : Nat} {x y u v : Int} (ha : FZ a x) (hb : FZ b y) (hc : FZ c u) (hd : FZ d v) (h1 : -1000000000000000 ≤ x * u ∧ x * u ≤ 1000000000000000) (h2 : -1000000000000000 ≤ y * v ∧ y * v ≤ 1000000000000000)
    (h3 : -1000000000000000 ≤ x * v ∧ x * v ≤ 1000000000000000) (h4 : -1000000000000000 ≤ y * u ∧ y * u ≤ 1000000000000000) : ∃ re im, cMulBits a b c d = some (re, im) ∧ FZ re (x * u - y * v) ∧ FZ im (x * v + y * u) := by
  obtain ⟨p, e1, f1⟩ := ha.mul hc (by omega) (by omega)
  obtain ⟨q, e2, f2⟩ := hb.mul hd (by omega) (by omega)
  obtain ⟨r, e3, f3⟩ := ha.mul hd (by omega) (by omega)
  obtain ⟨s, e4, f4⟩ := hb.mul hc (by omega) (by omega)
  obtain ⟨re, e5, f5⟩ := f1.sub f2 (by omega) (by omega)
  obtain ⟨im, e6, f6⟩ := f3.add f4 (by omega) (by omega)
  exact ⟨re, im, by unfold cMulBits; simp only [e1, e2, e3, e4, e5, e6, Option.bind_some], f5, f6⟩
theorem c73 {p : Pt} (hR : ∀ H', Ext H H' → R (.complex .f64 (floatOfInt .f64 p.1) (floatOfInt .f64 p.2)) H') : CallsH Try.prog 73 #[.agg (ptV p)] H R := by
 refine Try.s73 ?_
 unfold Try.S73
 exact (St.nil H).alcE fun b2 H3 he hs3 => ⟨_, hs3.get 0 rfl (j := 0) rfl, _, hs3.get 0 rfl (j := 1) rfl, rfl, hR H3 he⟩
theorem c74 {a b c d : Nat} {x y u v : Int} (ha : FZ a x) (hb : FZ b y) (hc : FZ c u) (hd : FZ d v) (hx : -10000000 ≤ x ∧ x ≤ 10000000) (hy : -10000000 ≤ y ∧ y ≤ 10000000) (hu : -10000000 ≤ u ∧ u ≤ 10000000) (hv : -10000000 ≤ v ∧ v ≤ 10000000)
    (hR : ∀ r, FZ r (x * v + -y * u) → R (.float .f64 r) H) : CallsH Try.prog 74 #[.complex .f64 a b, .complex .f64 c d] H R := by
  refine Try.s74 ?_
  unfold Try.S74
  have b1 := mul_bd hx hu
  have b2 := mul_bd (x := -y) (y := v) (A := 10000000) (B := 10000000) (by omega) hv
  have b3 := mul_bd hx hv
  have b4 := mul_bd (x := -y) (y := u) (A := 10000000) (B := 10000000) (by omega) hu
  obtain ⟨re, im, e1, _, f2⟩ := CZ.mul ha hb.neg hc hd (by omega) (by omega) (by omega) (by omega)
  exact ⟨rfl, rfl, rfl, re, im, e1, hR im f2⟩
theorem mul2 {c d : Nat} {u v : Int} (hc : FZ c u) (hd : FZ d v) (hu : -10000000 ≤ u ∧ u ≤ 10000000) (hv : -10000000 ≤ v ∧ v ≤ 10000000) : ∃ re im, cMulBits (4611686018427387904 : Nat) (0 : Nat) c d = some (re, im) ∧ FZ re (2 * u) ∧ FZ im (2 * v) := by
 obtain ⟨re, im, e1, f1, f2⟩ := CZ.mul FZ.two FZ.zero hc hd (by omega) (by omega) (by omega) (by omega)
 rw [Int.zero_mul, Int.sub_zero] at f1
 rw [Int.zero_mul, Int.add_zero] at f2
 exact ⟨re, im, e1, f1, f2⟩
theorem met_prog (a b : Pt) (x y : Int) : metB a b x y = if decide (2 * a.2 > 2 * y + 1) = decide (2 * b.2 > 2 * y + 1) then false else
    if 2 * b.2 > 2 * y + 1 then decide ((2 * b.1 - 2 * a.1) * (2 * y + 1 - 2 * a.2) + -(2 * b.2 - 2 * a.2) * (2 * x + 1 - 2 * a.1) > 0) else decide ((2 * a.1 - 2 * b.1) * (2 * y + 1 - 2 * b.2) + -(2 * a.2 - 2 * b.2) * (2 * x + 1 - 2 * b.1) > 0) := by
  unfold metB nMet
  split
  · rfl
  · rename_i hne
    have hne' : ¬ ((2 * a.2 > 2 * y + 1) ↔ (2 * b.2 > 2 * y + 1)) := fun h => hne (decide_eq_decide.2 h)
    obtain ⟨ax, ay⟩ := a
    obtain ⟨bx, by_⟩ := b
    simp only at hne' ⊢
    by_cases hb : 2 * by_ > 2 * y + 1
    · rw [if_pos hb, if_neg (by omega)]
      refine decide_eq_decide.2 ?_
      have e : (2 * bx - 2 * ax) * (2 * y + 1 - 2 * ay) + (2 * ax - (2 * x + 1)) * (2 * by_ - 2 * ay) = (2 * bx - 2 * ax) * (2 * y + 1 - 2 * ay) + -(2 * by_ - 2 * ay) * (2 * x + 1 - 2 * ax) := by
        congr 1
        rw [show (2 * ax - (2 * x + 1)) = -(2 * x + 1 - 2 * ax) from by omega, Int.neg_mul, Int.neg_mul, Int.mul_comm]
      rw [e]
    · rw [if_neg hb, if_pos (by omega)]
      refine decide_eq_decide.2 ?_
      have e : (2 * bx - 2 * ax) * (2 * y + 1 - 2 * ay) + (2 * ax - (2 * x + 1)) * (2 * by_ - 2 * ay) = -((2 * ax - 2 * bx) * (2 * y + 1 - 2 * by_) + -(2 * ay - 2 * by_) * (2 * x + 1 - 2 * bx)) := by
        generalize hm : 2 * x + 1 = m
        generalize hn : 2 * y + 1 = n
        generalize 2 * ax = p
        generalize 2 * bx = q
        generalize 2 * ay = r
        generalize 2 * by_ = t
        rw [Int.neg_mul]
        simp only [Int.sub_mul, Int.mul_sub]
        rw [Int.mul_comm m t, Int.mul_comm m r, Int.mul_comm p t, Int.mul_comm p r, Int.mul_comm q r, Int.mul_comm q t]
        omega
      rw [e]; omega
theorem pt_bd {l : List Pt} (h : l.all ptB = true) (i : Nat) : (-1048576 ≤ (nthP l i).1 ∧ (nthP l i).1 ≤ 1048576) ∧ (-1048576 ≤ (nthP l i).2 ∧ (nthP l i).2 ≤ 1048576) := by
 by_cases hi : i < l.length
 ·have hn : nthP l i = l[i] := by unfold nthP; rw [List.getD_eq_getElem?_getD, List.getElem?_eq_getElem hi]; rfl
  have := of_decide_eq_true (List.all_eq_true.1 h _ (List.getElem_mem hi))
  rw [hn]
  exact ⟨⟨this.1, this.2.1⟩, this.2.2⟩
 ·have hn : nthP l i = (0, 0) := by unfold nthP; rw [List.getD_eq_getElem?_getD, List.getElem?_eq_none (by omega)]; rfl
  rw [hn]; decide
theorem c64 {p : Option Addr} {n c : Nat} {l : List Pt} (h : IS2 H p n l) (hn : 1 ≤ n) (hn2 : n ≤ 1000000) (hb : l.all ptB = true) {x y : Int} (hx : 0 ≤ x ∧ x ≤ 100000) (hy : 0 ≤ y ∧ y ≤ 100000) (hR : ∀ H', Ext H H' → R (.bool (withinB l x y)) H') :
    CallsH Try.prog 64 #[.slice p n c, .int .i64 x, .int .i64 y] H R := by
  refine Try.s64 ?_
  unfold Try.S64
  have hlen := h.len
  rw [wrap_id (n := (n : Int) - 1) (by omega) (by omega), show Int.toNat ((n : Int) - 1) = n - 1 from by omega]
  have m1 : IntKind.wrap .i64 (IntKind.wrap .i64 ((2 : Int) * x) + (1 : Int)) = 2 * x + 1 := by rw [wrap_id (n := 2 * x) (by omega) (by omega), wrap_id (by omega) (by omega)]
  have m2 : IntKind.wrap .i64 (IntKind.wrap .i64 ((2 : Int) * y) + (1 : Int)) = 2 * y + 1 := by rw [wrap_id (n := 2 * y) (by omega) (by omega), wrap_id (by omega) (by omega)]
  rw [m1, m2]
  have fmx : FZ (floatOfInt .f64 (2 * x + 1)) (2 * x + 1) := FZ.ofInt (by omega) (by omega)
  have fmy : FZ (floatOfInt .f64 (2 * y + 1)) (2 * y + 1) := FZ.ofInt (by omega) (by omega)
  obtain ⟨a0, hp, hrow⟩ := h.row (i := n - 1) (by omega)
  refine ⟨rfl, a0, hp, by omega, by omega, _, rfl, hrow, ?_⟩
  refine (St.nil H).alc fun b6 H7 hs7 => ⟨rfl, hs7.putAll 0 rfl rfl (by simp [ptV, Value.oneCell']) fun H8 hs8 => ?_⟩
  intro X hX
  have go : ∀ k, k ≤ n → ∀ H1, St H H1 [.cell b6 (ptV (nthP l (if k = 0 then l.length - 1 else k - 1))) 120] → X [.bool (xorN k fun k => metB (nthP l (if k = 0 then l.length - 1 else k - 1)) (nthP l k) x y), .int .i64 (k : Nat)] H1 := by
    refine upto fun k hk ih H1 hs1 => hX _ _ _ (br_dec (fun hlt => ?_) fun hge => ?_)
    · have hk' : k < n := by omega
      obtain ⟨a1, hp1, hrow1⟩ := (h.ext hs1.ext).row (i := k) (by omega)
      generalize hA : nthP l (if k = 0 then l.length - 1 else k - 1) = A at hs1
      have hAb := pt_bd hb (if k = 0 then l.length - 1 else k - 1)
      rw [hA] at hAb
      have hBb := pt_bd hb k
      have hxs : xorN (k + 1) (fun k => metB (nthP l (if k = 0 then l.length - 1 else k - 1)) (nthP l k) x y) = ((xorN k fun k => metB (nthP l (if k = 0 then l.length - 1 else k - 1)) (nthP l k) x y) ^^ metB A (nthP l k) x y) := by rw [xorN, hA]
      generalize hB : nthP l k = B at hrow1 hBb hxs
      generalize hO : (xorN k fun k => metB (nthP l (if k = 0 then l.length - 1 else k - 1)) (nthP l k) x y) = O at hxs
      refine ⟨a1, hp1, by omega, hlt, _, rfl, hrow1, hs1.alc fun b15 H16 hs16 => ⟨rfl, hs16.putAll 0 rfl rfl (by simp [ptV, Value.oneCell']) fun H17 hs17 => ?_⟩⟩
      refine ⟨_, rfl, rowIn_whole (hs17.block 1 rfl), _, rfl, rowIn_whole (hs17.block 0 rfl), ?_⟩
      refine c73 (p := A) fun H21 he21 => ⟨_, _, rfl, .inl he21, rfl, rfl, ?_⟩
      obtain ⟨ar, ai, ea, far, fai⟩ := mul2 (FZ.ofInt (n := A.1) (by omega) (by omega)) (FZ.ofInt (n := A.2) (by omega) (by omega)) (by omega) (by omega)
      refine ⟨ar, ai, ea, ?_⟩
      refine c73 (p := B) fun H26 he26 => ⟨_, _, rfl, rfl, rfl, ?_⟩
      obtain ⟨br', bi, eb, fbr, fbi⟩ := mul2 (FZ.ofInt (n := B.1) (by omega) (by omega)) (FZ.ofInt (n := B.2) (by omega) (by omega)) (by omega) (by omega)
      refine ⟨br', bi, eb, rfl, rfl, ?_⟩
      have hs26 := (hs17.step he21).step he26
      -- what is left of a round
      have next : ∀ (t : Bool), metB A B x y = t → ∀ H2, St H H2 (.cell b15 (ptV B) 120 :: .cell b6 (ptV A) 120 :: []) →
          ∃ v41 : Array Value, v41.size = 2 ∧ rowIn H2 ⟨b15, 0, none⟩ v41 ∧ v41.size = 2 ∧ stAt H2 ⟨b6, 0, none⟩ (Array.toList v41) fun H_42 => X [Value.bool (O ^^ t), Value.int .i64 (IntKind.wrap .i64 ((k : Int) + (1 : Int)))] H_42 := fun t ht H2 hs2 => by
        refine ⟨_, ?_, rowIn_whole (hs2.block 0 rfl), ?_, ?_⟩
        · rfl
        · rfl
        refine hs2.putAll 1 rfl rfl (by simp [ptV, Value.oneCell']) fun H3 hs3 => ?_
        rw [wrap_id (by omega) (by omega)]
        have := ih hk' H3 (by
          rw [if_neg (by omega), show k + 1 - 1 = k from by omega, hB]
          exact hs3.tail)
        rw [hxs, ht] at this
        exact this
      rw [fai.gt fmy, fbi.gt fmy]
      -- the cross product of a and b, a the lower
      have cross : ∀ (cr ci dr di : Nat) (C D : Pt), FZ cr (2 * C.1) → FZ ci (2 * C.2) → FZ dr (2 * D.1) → FZ di (2 * D.2) → (-1048576 ≤ C.1 ∧ C.1 ≤ 1048576) → (-1048576 ≤ C.2 ∧ C.2 ≤ 1048576) → (-1048576 ≤ D.1 ∧ D.1 ≤ 1048576) → (-1048576 ≤ D.2 ∧ D.2 ≤ 1048576) →
          metB A B x y = decide ((2 * C.1 - 2 * D.1) * (2 * y + 1 - 2 * D.2) + -(2 * C.2 - 2 * D.2) * (2 * x + 1 - 2 * D.1) > 0) →
          (FloatKind.f64 = FloatKind.f64 ∧ ∃ re34 im35 : Nat, cSumBits .sub .f64 cr ci dr di = some (re34, im35) ∧ (FloatKind.f64 = FloatKind.f64 ∧ ∃ re36 im37 : Nat, cSumBits .sub .f64 (floatOfInt .f64 (2 * x + 1)) (floatOfInt .f64 (2 * y + 1)) dr di = some (re36, im37) ∧ CallsH Try.prog 74 #[Value.complex .f64 re34 im35, Value.complex .f64 re36 im37] H26 fun r38 H_39 => ∃ r40 : Nat, r38 = Value.float .f64 r40 ∧ (FloatKind.f64 = FloatKind.f64 ∧ br (Ieee.Format.order (FloatKind.format .f64) r40 (0 : Nat) == some Ordering.gt)
            (∃ v41 : Array Value, v41.size = 2 ∧ rowIn H_39 ⟨b15, 0, none⟩ v41 ∧ v41.size = 2 ∧ stAt H_39 ⟨b6, 0, none⟩ (Array.toList v41) fun H_42 => X [Value.bool (!O), Value.int .i64 (IntKind.wrap .i64 ((k : Int) + (1 : Int)))] H_42)
            (∃ v43 : Array Value, v43.size = 2 ∧ rowIn H_39 ⟨b15, 0, none⟩ v43 ∧ v43.size = 2 ∧ stAt H_39 ⟨b6, 0, none⟩ (Array.toList v43) fun H_44 => X [Value.bool O, Value.int .i64 (IntKind.wrap .i64 ((k : Int) + (1 : Int)))] H_44)))) := by
        intro cr ci dr di C D fcr fci fdr fdi hc1 hc2 hd1 hd2 hm
        obtain ⟨r1, i1, e1, f1, f2⟩ := CZ.sub fcr fci fdr fdi (by omega) (by omega)
        obtain ⟨r2, i2, e2, f3, f4⟩ := CZ.sub fmx fmy fdr fdi (by omega) (by omega)
        refine ⟨rfl, r1, i1, e1, rfl, r2, i2, e2, ?_⟩
        refine c74 f1 f2 f3 f4 (by omega) (by omega) (by omega) (by omega) fun r fr => ⟨r, rfl, rfl, ?_⟩
        rw [fr.gt FZ.zero, ← hm]
        refine br_i (fun ht => ?_) fun ht => ?_
        · have := next true ht H26 hs26
          rw [Bool.xor_true] at this
          exact this
        · have := next false ht H26 hs26
          rw [Bool.xor_false] at this
          exact this
      have hmp := met_prog A B x y
      by_cases hab : decide (2 * A.2 > 2 * y + 1) = decide (2 * B.2 > 2 * y + 1)
      · rw [if_pos hab] at hmp
        refine br_f (by rw [hab]; simp) ?_
        have := next false hmp H26 hs26
        rw [Bool.xor_false] at this
        exact this
      · rw [if_neg hab] at hmp
        refine br_t (by simpa using hab) ?_
        intro J hJ
        refine br_dec (fun hB2 => ?_) fun hB2 => ?_
        · rw [if_pos hB2] at hmp
          exact hJ _ _ _ _ _ (cross _ _ _ _ B A fbr fbi far fai hBb.1 hBb.2 hAb.1 hAb.2 hmp)
        · rw [if_neg hB2] at hmp
          exact hJ _ _ _ _ _ (cross _ _ _ _ A B far fai fbr fbi hAb.1 hAb.2 hBb.1 hBb.2 hmp)
    · have : k = n := by omega
      subst this
      have := hR H1 hs1.ext
      rw [within_prev, hlen] at this
      rw [hlen]
      exact this
  exact go 0 (Nat.zero_le _) H8 (by rw [if_pos rfl, hlen]; exact hs8)
end Go.Proofs
namespace Go.Proofs
open Go.Sh
variable {H0 H : Heap} {σ : List Rs} {R : Value → Heap → Prop}
theorem c72 {p : Pt} (hR : ∀ H', Ext H H' → R (.bool (ptB p)) H') : CallsH Try.prog 72 #[.agg (ptV p)] H R := by
 refine Try.s72 ?_
 unfold Try.S72
 refine (St.nil H).alcE fun b2 H3 he hs3 => ?_
 have bad : ¬ (-1048576 ≤ p.1 ∧ p.1 ≤ 1048576 ∧ -1048576 ≤ p.2 ∧ p.2 ≤ 1048576) → R (.bool false) H3 := fun h => by
  have := hR H3 he
  rw [show ptB p = false from decide_eq_false h] at this; exact this
 refine ⟨_, hs3.get 0 rfl (j := 0) rfl, br_dec (fun h1 => ⟨_, hs3.get 0 rfl (j := 0) rfl, br_dec (fun h2 => ⟨_, hs3.get 0 rfl (j := 1) rfl, br_dec (fun h3 => ⟨_, hs3.get 0 rfl (j := 1) rfl, ?_⟩) fun h => bad (by omega)⟩) fun h => bad (by omega)⟩) fun h => bad (by omega)⟩
 have := hR H3 he
 rw [show ptB p = decide (p.2 ≤ 1048576) from decide_eq_decide.2 ⟨fun h => h.2.2.2, fun h => ⟨h1, h2, h3, h⟩⟩] at this
 exact this
theorem IS2.nil (H : Heap) : IS2 H none 0 [] := ⟨rfl, fun i x y h => by simp at h⟩
theorem nthP_eq {l : List Pt} {i : Nat} (h : i < l.length) : nthP l i = l[i] := by unfold nthP; rw [List.getD_eq_getElem?_getD, List.getElem?_eq_getElem h]; rfl
theorem c63 {p : Option Addr} {n c : Nat} {l : List Pt} (h : IS2 H p n l) (hn : n ≤ 1000000000) (hR : ∀ H', Ext H H' → R (.int .i64 (if shapeB l = true then 0 else 31)) H') :
    CallsH Try.prog 63 #[.slice p n c, .slice none 0 0] H R := by
  refine Try.s63 ?_
  unfold Try.S63
  have hlen := h.len
  have bad : ¬ (shapeB l = true) → ∀ {H'}, Ext H H' → R (.int .i64 31) H' := fun hb {H'} he => by
    have := hR H' he
    rw [if_neg hb] at this; exact this
  intro J hJ
  refine br_dec (fun h3 => bad (fun hh => ?_) (Ext.refl H)) fun h3 => br_dec (fun h4 => bad (fun hh => ?_) (Ext.refl H)) fun h4 => hJ _ ?_
  · unfold shapeB at hh; rw [Bool.and_eq_true] at hh; have := of_decide_eq_true hh.1; omega
  · unfold shapeB at hh; rw [Bool.and_eq_true] at hh; have := of_decide_eq_true hh.1; omega
  refine (St.nil H).alcE fun b5 H6 he6 hs6 => ?_
  intro X hX
  have two : ∀ H1, l.all ptB = true → St H H1 [.cell b5 #[Value.slice p n c, Value.slice none 0 0] 35] → X [.int .i64 2] H1 := fun H1 hall hs1 => by
    refine hX _ _ (br_f (by decide) ?_)
    have := hR H1 hs1.ext
    rw [if_pos (by unfold shapeB; rw [Bool.and_eq_true]; exact ⟨decide_eq_true (by omega), hall⟩)] at this
    exact this
  have one : ∀ H1, l.all ptB = true → St H H1 [.cell b5 #[Value.slice p n c, Value.slice none 0 0] 35] → X [.int .i64 1] H1 := fun H1 hall hs1 => by
    refine hX _ _ (br_t (by decide) ⟨_, rfl, by decide, by decide, _, _, _, hs1.get 0 rfl (j := 1) rfl, ?_⟩)
    intro X2 hX2
    exact hX2 _ _ (br_f (by decide) (two H1 hall hs1))
  refine hX _ _ (br_t (by decide) ⟨_, rfl, by decide, by decide, _, _, _, hs6.get 0 rfl (j := 0) rfl, ?_⟩)
  intro X2 hX2
  have go : ∀ k, k ≤ n → ∀ H1, (l.take k).all ptB = true → St H H1 [.cell b5 #[Value.slice p n c, Value.slice none 0 0] 35] → X2 [.int .i64 (k : Nat)] H1 := by
    refine upto fun k hk ih H1 hall hs1 => hX2 _ _ (br_dec (fun hlt => ?_) fun hge => ?_)
    · have hk' : k < n := by omega
      obtain ⟨a1, hp1, hrow1⟩ := (h.ext hs1.ext).row (i := k) (by omega)
      refine ⟨a1, hp1, by omega, hlt, _, rfl, hrow1, hs1.alc fun b17 H18 hs18 => ⟨rfl, hs18.putAll 0 rfl rfl (by simp [ptV, Value.oneCell']) fun H19 hs19 => ?_⟩⟩
      refine ⟨_, rfl, rowIn_whole (hs19.block 0 rfl), ?_⟩
      refine c72 (p := nthP l k) fun H22 he22 => ⟨_, rfl, br_not (fun hb => ?_) fun hb => ?_⟩
      · refine bad (fun hh => ?_) (hs19.ext.trans he22)
        unfold shapeB at hh; rw [Bool.and_eq_true] at hh
        have := List.all_eq_true.1 hh.2 _ (List.getElem_mem (n := k) (show k < l.length by omega))
        rw [nthP_eq (by omega), this] at hb; cases hb
      · rw [wrap_id (by omega) (by omega)]
        refine ih hk' H22 ?_ ((hs19.tail).step he22)
        rw [take_succ (List.getElem?_eq_getElem (show k < l.length by omega)), List.all_append, hall, Bool.true_and]
        rw [nthP_eq (by omega)] at hb
        simp [hb]
    · have : k = n := by omega
      subst this
      rw [List.take_of_length_le (by omega)] at hall
      exact one H1 hall hs1
  exact go 0 (Nat.zero_le _) H6 rfl hs6
def maskL (w h : Int) (f : Int → Int → Bool) : List Int := (List.range (w * h).toNat).map fun (i : Nat) => if f ((i : Int) % w) ((i : Int) / w) = true then 255 else 0
theorem reps_u8 (n : Nat) : (reps n (Array.toList #[Value.int .u8 0])).toArray.toList = kints .u8 (List.replicate n 0) := by
 show reps n [Value.int .u8 0] = _
 rw [reps_rep]; simp [kints]
theorem c54 {p : Option Addr} {n c : Nat} {l : List Pt} {w h : Int} (hl : IS2 H p n l) (hn : n ≤ 1000000000) (hsz : sizedB w h = true)
    (h0 : shapeB l = false → ∀ H', Ext H H' → R (.tuple #[.slice none 0 0, .int .i64 31]) H')
    (h1 : shapeB l = true → ∀ (m : Sl3) H', St H H' [.sl m.p m.l m.c 5 1 (kints .u8 (maskL w h (withinB l)))] → R (.tuple #[.slice m.p m.l m.c, .int .i64 0]) H') :
    CallsH Try.prog 54 #[.slice p n c, .int .i64 w, .int .i64 h] H R := by
  obtain ⟨q1, q2, q3, q4, q5⟩ := of_decide_eq_true hsz
  have hwh : IntKind.wrap .i64 (w * h) = w * h := wrap_area q1 q2 q3 q4
  have hpos : 0 ≤ w * h := Int.mul_nonneg (by omega) (by omega)
  refine Try.s54 ?_
  unfold Try.S54
  rw [hwh]
  refine c63 hl hn fun H5 he5 => ⟨_, rfl, ?_⟩
  cases hsh : shapeB l with
  | false => exact br_ne (fun _ => h0 hsh H5 he5) fun h => absurd h (by decide)
  | true =>
    refine br_ne (fun h => absurd rfl h) fun _ => ?_
    intro J hJ
    refine br_n (by omega) (br_n (by omega) (br_n (by omega) (br_n (by omega) (br_n (by omega) (hJ _ ?_)))))
    refine ⟨hpos, Int.le_refl _, by omega, by omega, ?_⟩
    refine (St.of_ext he5).alc fun b9 H10 hs10 => ?_
    intro X hX
    have hs10 := hs10.toSl 0 (l := (w * h).toNat) (k := 1) (fs := kints .u8 (List.replicate (w * h).toNat 0)) rfl (by simp [reps_length]) (reps_u8 _) (kints_one _ _)
    have hsb := hsh
    unfold shapeB at hsb
    rw [Bool.and_eq_true] at hsb
    have hlen := hl.len
    have hlb := of_decide_eq_true hsb.1
    have hML : (maskL w h (withinB l)).length = (w * h).toNat := by simp [maskL]
    have go : ∀ k, k ≤ (w * h).toNat → ∀ H1, St H H1 [.sl (some ⟨b9, 0, none⟩) (w * h).toNat (w * h).toNat 5 1 (kints .u8 (fillA (maskL w h (withinB l)) k))] → X [.int .i64 (k : Nat)] H1 := by
      refine upto fun k hk ih H1 hs1 => hX _ _ (br_dec (fun hlt => ?_) fun hge => ?_)
      · have hk' : k < (w * h).toNat := by omega
        have m0 := Int.emod_nonneg (k : Int) (show w ≠ 0 by omega)
        have m1 := Int.emod_lt_of_pos (k : Int) (show 0 < w by omega)
        have m2 : 0 ≤ (k : Int) / w := Int.ediv_nonneg (by omega) (by omega)
        have m3 : (k : Int) / w < h := Int.ediv_lt_of_lt_mul (by omega) (by rw [Int.mul_comm]; omega)
        rw [Int.tmod_eq_emod_of_nonneg (by omega), Int.tdiv_eq_ediv_of_nonneg (by omega), wrap_id (n := (k : Int) / w) (by omega) (by omega)]
        have hget : (maskL w h (withinB l)).getD k 0 = if withinB l ((k : Int) % w) ((k : Int) / w) = true then 255 else 0 := by unfold maskL; rw [tab_getD hk']
        refine ⟨by omega, by omega, ?_⟩
        refine c64 (hl.ext hs1.ext) (by omega) (by omega) hsb.2 (by omega) (by omega) fun H15 he15 => ⟨_, rfl, br_i (fun ht => ?_) fun ht => ?_⟩
        · refine ⟨_, rfl, by omega, by omega, ?_⟩
          rw [show Int.toNat (k : Int) * 1 = k from Nat.mul_one k, add_none, Nat.zero_add]
          refine (hs1.step he15).slPut 0 rfl (by rw [kints_len, fillA_len (by omega)]; omega) rfl fun H18 hs18 => ?_
          rw [wrap_id (by omega) (by omega)]
          refine ih hk' H18 ?_
          rw [kints_set] at hs18
          rw [← fillA_set (by omega), hget, if_pos ht]
          exact hs18
        · rw [wrap_id (by omega) (by omega)]
          refine ih hk' H15 ?_
          rw [← fillA_set (by omega), hget, if_neg (by rw [ht]; exact Bool.false_ne_true), fillA_set0 (by omega)]
          exact hs1.step he15
      · have : k = (w * h).toNat := by omega
        subst this
        have hfa := fillA_all (maskL w h (withinB l))
        rw [hML] at hfa
        rw [hfa] at hs1
        exact h1 hsh ⟨some ⟨b9, 0, none⟩, (w * h).toNat, (w * h).toNat⟩ H1 hs1
    refine go 0 (Nat.zero_le _) H10 ?_
    rw [fillA_zero, hML]
    exact hs10
def maskF (w h : Int) (e : Ed) (f : LayF) : Int × LayF :=
 if e.n < 0 ∨ e.n > 2 then (32, f) else if e.n = 2 then (0, { f with mask := [] }) else if shapeB e.shape = false then (31, f) else
 (0, { f with mask := maskL w h fun x y => withinB e.shape x y != (e.n == 1) })
theorem c38 {b d : Nat} {e : Ed} {s : EdS} {K K0 : Sl3} {ks : List T} {w h next : Int} (hs : St H0 H (resRoot b K ks ++ (.cell d (docA w h next K0) 27 :: σ))) (hc : cntKs (layKs ks) ≤ 1000000000) (hed : rdEd H0 e s) (hsl : s.S.l ≤ 1000000000) (hsz : sizedB w h = true) (hR : Chg (maskF w h e) H0 (.cell d (docA w h next K0) 27 :: σ) R b ks e.id) :
    CallsH Try.prog 38 #[.agg (workL b d e s).toArray] H R := by
  refine Try.s38 ?_
  unfold Try.S38
  refine hs.alc fun b2 H3 hs3 => ⟨_, rfl, rowIn_whole (hs3.block 0 rfl), ?_⟩
  refine tgt hs3 (by omega) (fun hl H6 hs6 => ⟨_, _, rfl, ?_⟩) fun fr u K' ks' a H6 hl ha hs6 => ⟨_, _, rfl, ?_⟩
  · intro J hJ
    exact br_ne (fun _ => hR.none hl hs6.tail.app.2) fun h => absurd h (by decide)
  intro J hJ
  have bad : ∀ {v : Int} {H' : Heap}, maskF w h e fr.f = (v, fr.f) → v ≠ 0 → St H0 H' (.cell b2 (workL b d e s).toArray 81 :: (openR fr (u ++ [rootFr b]) K' ks' ++ (.cell d (docA w h next K0) 27 :: σ))) → R (.int .i64 v) H' := fun hg hv hs => hR.err hl hg hv hs.tail.app.2
  refine br_ne (fun h => absurd rfl h) fun _ => ?_
  refine ⟨_, hs6.get 0 rfl (j := 6) rfl, br_dec (fun c => bad (v := 32) (by unfold maskF; rw [if_pos (.inl c)]) (by decide) hs6) fun c1 => ?_⟩
  refine ⟨_, hs6.get 0 rfl (j := 6) rfl, br_dec (fun c => bad (v := 32) (by unfold maskF; rw [if_pos (.inr c)]) (by decide) hs6) fun c2 => ?_⟩
  have c1 : ¬ e.n < 0 := c1
  have c2 : ¬ e.n > 2 := c2
  refine ⟨_, hs6.get 0 rfl (j := 6) rfl, br_eq (fun hn2 => ⟨a, rfl, ?_⟩) fun hn2 => hJ _ ?_⟩
  · have hF : maskF w h e fr.f = (0, { fr.f with mask := [] }) := by unfold maskF; rw [if_neg (by omega), if_pos hn2]
    refine hs6.elPut 1 rfl (cellsKs_len fr.pre) (j := 8) (Nat.le_of_ble_eq_true rfl) rfl ha fun H14 hs14 => ?_
    refine hR.done hl (P := fr.P) (M := .nil) (A := fr.A) (K' := K') (ks' := ks') hF ?_
    refine (((hs14.nilSl 5 1).perm (τ := .cell b2 (workL b d e s).toArray 81 :: .sl fr.M.p fr.M.l fr.M.c 5 1 (kints .u8 fr.f.mask) :: (openR ⟨fr.hdr, fr.pre, { fr.f with mask := [] }, fr.P, .nil, fr.A, fr.post⟩ (u ++ [rootFr b]) K' ks' ++ (.cell d (docA w h next K0) 27 :: σ))) (permC fun _ x => ?_)).drop 2)
    show List.count x (.sl none 0 0 5 1 [] :: .cell b2 (workL b d e s).toArray 81 :: ((.sl fr.hdr.p fr.hdr.l fr.hdr.c 70 19 (cellsKs fr.pre ++ cellsL { fr.f with mask := [] } fr.P.v Sl3.nil.v fr.A.v K'.v ++ cellsKs fr.post) :: .sl fr.P.p fr.P.l fr.P.c 3 1 (ints fr.f.p) :: .sl fr.M.p fr.M.l fr.M.c 5 1 (kints .u8 fr.f.mask) :: .sl fr.A.p fr.A.l fr.A.c 3 1 (ints fr.f.params) ::
      .sl K'.p K'.l K'.c 70 19 (cellsKs ks') :: (resKs ks' ++ (resKs fr.pre ++ (resKs fr.post ++ resUp (u ++ [rootFr b]) fr.hdr)))) ++ (.cell d (docA w h next K0) 27 :: σ))) =
      List.count x (.cell b2 (workL b d e s).toArray 81 :: .sl fr.M.p fr.M.l fr.M.c 5 1 (kints .u8 fr.f.mask) :: ((.sl fr.hdr.p fr.hdr.l fr.hdr.c 70 19 (cellsKs fr.pre ++ cellsL { fr.f with mask := [] } fr.P.v Sl3.nil.v fr.A.v K'.v ++ cellsKs fr.post) :: .sl fr.P.p fr.P.l fr.P.c 3 1 (ints fr.f.p) :: .sl none 0 0 5 1 [] :: .sl fr.A.p fr.A.l fr.A.c 3 1 (ints fr.f.params) ::
      .sl K'.p K'.l K'.c 70 19 (cellsKs ks') :: (resKs ks' ++ (resKs fr.pre ++ (resKs fr.post ++ resUp (u ++ [rootFr b]) fr.hdr)))) ++ (.cell d (docA w h next K0) 27 :: σ)))
    simp only [List.count_append, List.count_cons]
    ac_rfl
  · have hn2 : e.n ≠ 2 := hn2
    have hF1 : ∀ x, maskF w h e fr.f = x ↔ (if shapeB e.shape = false then (31, fr.f) else (0, { fr.f with mask := maskL w h fun x y => withinB e.shape x y != (e.n == 1) })) = x := fun x => by
      unfold maskF; rw [if_neg (by omega), if_neg hn2]
    have hsd : ∀ {H' : Heap} {τ : List Rs}, St H0 H' (.cell b2 (workL b d e s).toArray 81 :: (τ ++ (.cell d (docA w h next K0) 27 :: σ))) → St H0 H' (.cell d (docA w h next K0) 27 :: .cell b2 (workL b d e s).toArray 81 :: (τ ++ σ)) := fun hs =>
      hs.perm (permC fun _ x => by simp only [List.count_append, List.count_cons]; ac_rfl)
    have hd6 := hsd hs6
    refine ⟨_, _, _, hs6.get 0 rfl (j := 13) rfl, _, hs6.get 0 rfl (j := 1) rfl, _, rfl, _, hd6.get 0 rfl (j := 0) rfl, _, hs6.get 0 rfl (j := 1) rfl, _, rfl, _, hd6.get 0 rfl (j := 1) rfl, ?_⟩
    refine c54 (hed.shape.ext hs6.ext) hsl hsz (fun hsh H19 he19 => ⟨_, _, _, _, rfl, br_ne (fun _ => ?_) fun h => absurd h (by decide)⟩) fun hsh m H19 hm19 => ⟨_, _, _, _, rfl, br_ne (fun h => absurd rfl h) fun _ => ?_⟩
    · exact bad (v := 31) ((hF1 _).2 (if_pos hsh)) (by decide) (hs6.step he19)
    · have hs19 := hs6.call hm19
      intro J2 hJ2
      have fin : ∀ H2, St H0 H2 ([.sl m.p m.l m.c 5 1 (kints .u8 (maskL w h fun x y => withinB e.shape x y != (e.n == 1)))] ++ (.cell b2 (workL b d e s).toArray 81 :: (openR fr (u ++ [rootFr b]) K' ks' ++ (.cell d (docA w h next K0) 27 :: σ)))) → J2 [] H2 := fun H2 hs2 => by
        refine hJ2 _ ⟨a, rfl, ?_⟩
        refine hs2.elPut 2 rfl (cellsKs_len fr.pre) (j := 8) (Nat.le_of_ble_eq_true rfl) rfl ha fun H14 hs14 => ?_
        refine hR.done hl (P := fr.P) (M := m) (A := fr.A) (K' := K') (ks' := ks') ((hF1 _).2 (if_neg (by rw [hsh]; simp))) ?_
        generalize hmk : (maskL w h fun x y => withinB e.shape x y != (e.n == 1)) = mk at hs14 ⊢
        refine ((hs14.perm (τ := .cell b2 (workL b d e s).toArray 81 :: .sl fr.M.p fr.M.l fr.M.c 5 1 (kints .u8 fr.f.mask) :: (openR ⟨fr.hdr, fr.pre, { fr.f with mask := mk }, fr.P, m, fr.A, fr.post⟩ (u ++ [rootFr b]) K' ks' ++ (.cell d (docA w h next K0) 27 :: σ))) (permC fun _ x => ?_)).drop 2)
        show List.count x (.sl m.p m.l m.c 5 1 (kints .u8 mk) :: .cell b2 (workL b d e s).toArray 81 :: ((.sl fr.hdr.p fr.hdr.l fr.hdr.c 70 19 (cellsKs fr.pre ++ cellsL { fr.f with mask := mk } fr.P.v m.v fr.A.v K'.v ++ cellsKs fr.post) :: .sl fr.P.p fr.P.l fr.P.c 3 1 (ints fr.f.p) :: .sl fr.M.p fr.M.l fr.M.c 5 1 (kints .u8 fr.f.mask) :: .sl fr.A.p fr.A.l fr.A.c 3 1 (ints fr.f.params) ::
          .sl K'.p K'.l K'.c 70 19 (cellsKs ks') :: (resKs ks' ++ (resKs fr.pre ++ (resKs fr.post ++ resUp (u ++ [rootFr b]) fr.hdr)))) ++ (.cell d (docA w h next K0) 27 :: σ))) =
          List.count x (.cell b2 (workL b d e s).toArray 81 :: .sl fr.M.p fr.M.l fr.M.c 5 1 (kints .u8 fr.f.mask) :: ((.sl fr.hdr.p fr.hdr.l fr.hdr.c 70 19 (cellsKs fr.pre ++ cellsL { fr.f with mask := mk } fr.P.v m.v fr.A.v K'.v ++ cellsKs fr.post) :: .sl fr.P.p fr.P.l fr.P.c 3 1 (ints fr.f.p) :: .sl m.p m.l m.c 5 1 (kints .u8 mk) :: .sl fr.A.p fr.A.l fr.A.c 3 1 (ints fr.f.params) ::
          .sl K'.p K'.l K'.c 70 19 (cellsKs ks') :: (resKs ks' ++ (resKs fr.pre ++ (resKs fr.post ++ resUp (u ++ [rootFr b]) fr.hdr)))) ++ (.cell d (docA w h next K0) 27 :: σ)))
        simp only [List.count_append, List.count_cons]
        ac_rfl
      refine ⟨_, hs19.get 1 rfl (j := 6) rfl, br_eq (fun hn1 => ?_) fun hn1 => ?_⟩
      · have hn1 : e.n = 1 := hn1
        intro X hX
        have hML : (maskL w h (withinB e.shape)).length = (w * h).toNat := by simp [maskL]
        have hml : m.l = (w * h).toNat := by have := (hs19.fs 0 rfl).len; rw [kints_len, hML] at this; omega
        obtain ⟨q1, q2, q3, q4, q5⟩ := of_decide_eq_true hsz
        have hpos : 0 ≤ w * h := Int.mul_nonneg (by omega) (by omega)
        -- turned up to k
        have go : ∀ k, k ≤ (w * h).toNat → ∀ H2 (L : List Int), L.length = (w * h).toNat → (∀ i, i < (w * h).toNat → L.getD i 0 = if i < k then 255 - (maskL w h (withinB e.shape)).getD i 0 else (maskL w h (withinB e.shape)).getD i 0) →
            St H0 H2 ([.sl m.p m.l m.c 5 1 (kints .u8 L)] ++ (.cell b2 (workL b d e s).toArray 81 :: (openR fr (u ++ [rootFr b]) K' ks' ++ (.cell d (docA w h next K0) 27 :: σ)))) → X [.int .i64 (k : Nat)] H2 := by
          refine upto fun k hk ih H2 L hL hLv hs2 => hX _ _ (br_dec (fun hlt => ?_) fun hge => ?_)
          · have hk' : k < (w * h).toNat := by omega
            obtain ⟨blk, hblk⟩ := hs2.slSome 0 rfl (j := k) (by rw [kints_len]; omega)
            have hget : L[k]? = some (L.getD k 0) := getD_some L 0 (by omega)
            have hv := hLv k hk'
            rw [if_neg (by omega)] at hv
            have hmv : (maskL w h (withinB e.shape)).getD k 0 = 0 ∨ (maskL w h (withinB e.shape)).getD k 0 = 255 := by
              unfold maskL; rw [tab_getD hk']; split <;> simp
            have hb2 : St H0 H2 ((.sl (some ⟨blk, 0, none⟩) m.l m.c 5 1 (kints .u8 L)) :: (.cell b2 (workL b d e s).toArray 81 :: (openR fr (u ++ [rootFr b]) K' ks' ++ (.cell d (docA w h next K0) 27 :: σ)))) := by rw [← hblk]; exact hs2
            refine IS.rd (i := (k : Int)) (hs2.is 0 rfl) (by omega) (by omega) (x := L.getD k 0) hget ⟨⟨blk, 0, none⟩, hblk, by omega, hlt, ?_⟩
            rw [show Int.toNat (k : Int) * 1 = k from Nat.mul_one k, add_none, Nat.zero_add, wrap_u8 (by omega) (by omega)]
            refine hb2.slPut 0 rfl (by rw [kints_len]; omega) rfl fun H3 hs3 => ?_
            rw [wrap_id (by omega) (by omega)]
            rw [kints_set] at hs3
            refine ih hk' H3 (L.set k (255 - L.getD k 0)) (by rw [List.length_set]; exact hL) (fun i hi => ?_) (by rw [hblk]; exact hs3)
            rw [List.getD_eq_getElem?_getD, List.getElem?_set]
            by_cases hik : k = i
            · subst hik
              rw [if_pos rfl, if_pos (by omega), if_pos (by omega), hv]; rfl
            · rw [if_neg hik, ← List.getD_eq_getElem?_getD, hLv i hi]
              by_cases h1 : i < k
              · rw [if_pos h1, if_pos (by omega)]
              · rw [if_neg h1, if_neg (by omega)]
          · have : k = (w * h).toNat := by omega
            subst this
            refine fin H2 ?_
            have : L = maskL w h fun x y => withinB e.shape x y != (e.n == 1) := by
              apply List.ext_getElem?
              intro i
              by_cases hi : i < (w * h).toNat
              · rw [getD_some L 0 (by omega), hLv i hi, if_pos hi]
                unfold maskL
                rw [tab_getD hi, tab_get hi, hn1]
                have : ∀ t : Bool, some (255 - (if t = true then (255 : Int) else 0)) = some (if (t != ((1 : Int) == 1)) = true then 255 else 0) := by intro t; cases t <;> rfl
                exact this _
              · rw [List.getElem?_eq_none (by omega), List.getElem?_eq_none (by simp [maskL]; omega)]
            rw [← this]
            exact hs2
        refine go 0 (Nat.zero_le _) H19 _ hML (fun i hi => by rw [if_neg (Nat.not_lt_zero _)]) hs19
      · have hn1 : e.n ≠ 1 := hn1
        refine fin H19 ?_
        have : maskL w h (withinB e.shape) = maskL w h fun x y => withinB e.shape x y != (e.n == 1) := by
          congr 1
          funext x y
          rw [show (e.n == 1) = false from by simpa using hn1]
          simp
        rw [← this]
        exact hs19
end Go.Proofs
namespace Go.Proofs
open Go.Sh
variable {H0 H : Heap} {σ : List Rs} {R : Value → Heap → Prop}
def mostM (i : Nat) : Int := if 4 ≤ i then 68719476736 else 16777216
def inM (m : M6) (i : Nat) : Bool := decide (-(mostM i) ≤ m.l.getD i 0 ∧ m.l.getD i 0 ≤ mostM i)
def rightM (m : M6) : Bool := (List.range 6).all (inM m)
theorem rightM_iff (m : M6) : rightM m = true ↔ ((-16777216 ≤ m.a ∧ m.a ≤ 16777216) ∧ (-16777216 ≤ m.b ∧ m.b ≤ 16777216) ∧ (-16777216 ≤ m.c ∧ m.c ≤ 16777216) ∧ (-16777216 ≤ m.d ∧ m.d ≤ 16777216) ∧ (-68719476736 ≤ m.e ∧ m.e ≤ 68719476736) ∧ (-68719476736 ≤ m.f ∧ m.f ≤ 68719476736)) := by
 have : rightM m = (inM m 0 && (inM m 1 && (inM m 2 && (inM m 3 && (inM m 4 && (inM m 5 && true)))))) := rfl
 rw [this]
 simp only [Bool.and_eq_true, inM, decide_eq_true_eq, and_true]
 exact Iff.rfl
def roundM (n m : Int) : Int := if m < 0 then (2 * -n + -m) / (2 * -m) else (2 * n + m) / (2 * m)
def nearM (n : Int) : Int := (n + 32768) / 65536
def backR (m : M6) : M6 := ⟨roundM (m.d * 4294967296) (m.a * m.d - m.b * m.c), roundM (-m.b * 4294967296) (m.a * m.d - m.b * m.c), roundM (-m.c * 4294967296) (m.a * m.d - m.b * m.c), roundM (m.a * 4294967296) (m.a * m.d - m.b * m.c), 0, 0⟩
def backS (m : M6) : M6 := { backR m with e := nearM (-((backR m).a * m.e + (backR m).b * m.f)), f := nearM (-((backR m).c * m.e + (backR m).d * m.f)) }
def zeroM : M6 := ⟨0, 0, 0, 0, 0, 0⟩
def backM (m : M6) : Int × M6 :=
 if rightM m = false then (31, zeroM) else if m.a * m.d - m.b * m.c = 0 then (33, zeroM) else if rightM (backR m) = false then (33, zeroM) else if rightM (backS m) = false then (33, zeroM) else (0, backS m)
theorem floor_t {n m : Int} (hm : 0 < m) : n / m = if n.tmod m ≠ 0 ∧ n < 0 then n.tdiv m - 1 else n.tdiv m := by
 rw [Int.tdiv_eq_ediv]
 have h1 : n.tmod m = 0 ↔ m ∣ n := ⟨Int.dvd_of_tmod_eq_zero, Int.tmod_eq_zero_of_dvd⟩
 by_cases h : 0 ≤ n ∨ m ∣ n
 ·rw [if_pos h, if_neg (fun hh => by rcases h with h | h; omega; exact hh.1 (h1.2 h))]; omega
 ·have h2 : ¬ 0 ≤ n := fun hh => h (.inl hh)
  have h3 : ¬ m ∣ n := fun hh => h (.inr hh)
  rw [if_neg h, if_pos ⟨fun hh => h3 (h1.1 hh), by omega⟩, Int.sign_eq_one_of_pos hm]; omega
theorem tdiv_bd {n m B : Int} (hm : 0 < m) (hn : -B ≤ n ∧ n ≤ B) : -B ≤ n.tdiv m ∧ n.tdiv m ≤ B := by
 have h := Int.natAbs_tdiv n m
 have h2 : n.natAbs / m.natAbs ≤ n.natAbs := Nat.div_le_self _ _
 have h3 : (n.tdiv m).natAbs = n.natAbs / m.natAbs := h
 omega
theorem c75 {n m : Int} (hm : 0 < m) (hn : -4611686018427387904 ≤ n ∧ n ≤ 4611686018427387904) (hR : R (.int .i64 (n / m)) H) : CallsH Try.prog 75 #[.int .i64 n, .int .i64 m] H R := by
 refine Try.s75 ⟨by omega, ?_⟩
 intro J hJ
 have hb := tdiv_bd hm hn
 rw [wrap_id (n := n.tdiv m) (by omega) (by omega), wrap_id (n := n.tdiv m - 1) (by omega) (by omega)]
 rw [floor_t hm] at hR
 refine ⟨by omega, br_ne (fun h0 => ?_) fun h0 => ?_⟩
 ·rw [show decide (m < 0) = false from decide_eq_false (by omega)]
  by_cases hn0 : n < 0
  ·rw [if_pos ⟨h0, hn0⟩] at hR
   exact br_t (by rw [decide_eq_true hn0]; rfl) (hJ _ _ hR)
  ·rw [if_neg fun hh => hn0 hh.2] at hR
   exact br_f (by rw [decide_eq_false hn0]; rfl) (hJ _ _ hR)
 ·rw [if_neg fun hh => hh.1 h0] at hR
  exact hJ _ _ hR
theorem c66 {n m : Int} (hm : m ≠ 0) (hm2 : -2251799813685248 ≤ m ∧ m ≤ 2251799813685248) (hn : -144115188075855872 ≤ n ∧ n ≤ 144115188075855872) (hR : R (.int .i64 (roundM n m)) H) : CallsH Try.prog 66 #[.int .i64 n, .int .i64 m] H R := by
 refine Try.s66 ?_
 unfold Try.S66
 intro J hJ
 refine br_dec (fun h => hJ _ _ _ ?_) fun h => hJ _ _ _ ?_
 ·rw [wrap_id (n := 0 - n) (by omega) (by omega), wrap_id (n := 0 - m) (by omega) (by omega), wrap_id (n := 2 * (0 - n)) (by omega) (by omega), wrap_id (n := 2 * (0 - n) + (0 - m)) (by omega) (by omega), wrap_id (n := 2 * (0 - m)) (by omega) (by omega)]
  refine c75 (by omega) (by omega) ⟨_, rfl, ?_⟩
  unfold roundM at hR
  rw [if_pos h] at hR
  rw [Int.zero_sub, Int.zero_sub]; exact hR
 ·rw [wrap_id (n := 2 * n) (by omega) (by omega), wrap_id (n := 2 * n + m) (by omega) (by omega), wrap_id (n := 2 * m) (by omega) (by omega)]
  refine c75 (by omega) (by omega) ⟨_, rfl, ?_⟩
  unfold roundM at hR
  rw [if_neg h] at hR
  exact hR
theorem c67 {n : Int} (hn : -4611686018427387904 ≤ n ∧ n ≤ 4611686018427387904) (hR : R (.int .i64 (nearM n)) H) : CallsH Try.prog 67 #[.int .i64 n] H R := by
 refine Try.s67 ⟨by decide, ?_⟩
 rw [wrap_id (by omega) (by omega), shr16']
 exact hR
theorem c65 {m : M6} (hR : ∀ H', Ext H H' → R (.bool (rightM m)) H') : CallsH Try.prog 65 #[.agg (ints m.l).toArray] H R := by
 refine Try.s65 ?_
 unfold Try.S65
 refine (St.nil H).alcE fun b2 H3 he3 hs3 => ⟨_, rfl, rowIn_whole (hs3.block 0 rfl), ?_⟩
 intro X hX
 have go : ∀ k, k ≤ 6 → (List.range k).all (inM m) = true → X [.int .i64 (k : Nat)] H3 := by
  refine upto fun k hk ih hall => hX _ _ (br_dec (fun hlt => ?_) fun hge => ?_)
  ·have hk' : k < 6 := by omega
   have hget : (ints m.l).toArray[Int.toNat (k : Int) * 1]? = some (.int .i64 (m.l.getD k 0)) := by
    rw [show Int.toNat (k : Int) * 1 = k from Nat.mul_one k, List.getElem?_toArray]
    exact ints_get (getD_some m.l 0 (show k < 6 from hk'))
   refine ⟨by omega, by omega, _, hget, ?_⟩
   intro J hJ
   have main : ∀ most, most = mostM k → J [.int .i64 most] H3 := fun most hmo => by
    have hmr : 0 ≤ most ∧ most ≤ 68719476736 := by rw [hmo]; unfold mostM; split <;> omega
    refine hJ _ _ ?_
    rw [wrap_id (n := 0 - most) (by omega) (by omega), Int.zero_sub]
    have bad : ¬ (inM m k = true) → R (.bool false) H3 := fun hb => by
     have := hR H3 he3
     rw [show rightM m = false from by
      rw [Bool.eq_false_iff]; intro hh
      exact hb (List.all_eq_true.1 hh k (List.mem_range.2 hk'))] at this
     exact this
    refine br_dec (fun h1 => bad fun hh => ?_) fun h1 => br_dec (fun h2 => bad fun hh => ?_) fun h2 => ?_
    ·have := of_decide_eq_true hh; rw [← hmo] at this; omega
    ·have := of_decide_eq_true hh; rw [← hmo] at this; omega
    ·rw [wrap_id (by omega) (by omega)]
     refine ih hk' ?_
     rw [List.range_succ, List.all_append, hall, Bool.true_and, List.all_cons, List.all_nil, Bool.and_true]
     exact decide_eq_true (by rw [← hmo]; omega)
   exact br_dec (fun h => main _ (by unfold mostM; rw [if_pos (by omega)])) fun h => main _ (by unfold mostM; rw [if_neg (by omega)])
  ·have : k = 6 := by omega
   subst this
   have := hR H3 he3
   rw [show rightM m = true from hall] at this
   exact this
 exact go 0 (by omega) rfl
theorem shl32 {x : Int} (h : -16777216 ≤ x ∧ x ≤ 16777216) : shlI .i64 x (32 : Int) = x * 4294967296 := by
 unfold shlI
 rw [show min (32 : Int).toNat (IntKind.bits .i64) = 32 from rfl, show (2 : Int) ^ 32 = 4294967296 from rfl]
 exact wrap_id (by omega) (by omega)
theorem c55 {m : M6} (hR : ∀ H', Ext H H' → R (.tuple #[.agg (ints (backM m).2.l).toArray, .int .i64 (backM m).1]) H') : CallsH Try.prog 55 #[.agg (ints m.l).toArray] H R := by
  refine Try.s55 ?_
  unfold Try.S55
  refine (St.nil H).alc fun b2 H3 hs3 => hs3.alc fun b4 H5 hs5 => ⟨_, rfl, rowIn_whole (hs5.block 1 rfl), ?_⟩
  refine c65 fun H8 he8 => ⟨_, rfl, ?_⟩
  have hs8 := hs5.step he8
  have zero : ∀ {v : Int} {H1 : Heap}, backM m = (v, zeroM) → ∀ (i : Nat) {τ : List Rs} {cs : Array Value}, τ[i]? = some (.cell b4 cs 37) → cs.size = 6 → St H H1 τ →
      (#[Value.int .i64 0, Value.int .i64 0, Value.int .i64 0, Value.int .i64 0, Value.int .i64 0, Value.int .i64 0].size = 6 ∧ stAt H1 ⟨b4, 0, none⟩ (Array.toList #[Value.int .i64 0, Value.int .i64 0, Value.int .i64 0, Value.int .i64 0, Value.int .i64 0, Value.int .i64 0]) fun H_10 => ∃ res11 : Array Value, res11.size = 6 ∧ rowIn H_10 ⟨b4, 0, none⟩ res11 ∧ R (Value.tuple #[Value.agg res11, Value.int .i64 v]) H_10) := fun {v H1} hb i {τ cs} hi hcs hs =>
    ⟨rfl, hs.putAll i hi (by rw [hcs]; rfl) (by simp [Value.oneCell']) fun H9 hs9 => ⟨(ints zeroM.l).toArray, rfl, rowIn_whole (hs9.block i (by rw [List.getElem?_set_self (List.getElem?_eq_some_iff.1 hi).1]; rfl)), by
      have := hR H9 hs9.ext
      rw [hb] at this; exact this⟩⟩
  refine br_not (fun hr => zero (by unfold backM; rw [if_pos hr]) 0 rfl rfl hs8) fun hr => ?_
  obtain ⟨ba, bb, bc, bd, be, bf⟩ := (rightM_iff m).1 hr
  have hB1 : backM m = (if m.a * m.d - m.b * m.c = 0 then (33, zeroM) else if rightM (backR m) = false then (33, zeroM) else if rightM (backS m) = false then (33, zeroM) else (0, backS m)) := by
    unfold backM; rw [if_neg (by rw [hr]; simp)]
  have p1 := mul_bd ba bd
  have p2 := mul_bd bb bc
  refine ⟨by decide, by decide, m.a, hs8.rdA 1 (j := 0) rfl rfl, by decide, by decide, m.d, hs8.rdA 1 (j := 3) rfl rfl, by decide, by decide, m.b, hs8.rdA 1 (j := 1) rfl rfl, by decide, by decide, m.c, hs8.rdA 1 (j := 2) rfl rfl, ?_⟩
  rw [wrap_id (n := m.a * m.d) (by omega) (by omega), wrap_id (n := m.b * m.c) (by omega) (by omega), wrap_id (n := m.a * m.d - m.b * m.c) (by omega) (by omega)]
  refine br_eq (fun hd => zero (by rw [hB1, if_pos hd]) 0 rfl rfl hs8) fun hd => ?_
  rw [if_neg hd] at hB1
  intro J hJ
  have main : ∀ ob H20 (τ : List Rs), St H H20 (.cell ob (ints (backR m).l).toArray 37 :: .cell b4 (ints zeroM.l).toArray 37 :: .cell b2 (ints m.l).toArray 37 :: []) → J [.pointer (some ⟨ob, 0, none⟩)] H20 := fun ob H20 τ hs20 => by
    refine hJ _ _ ⟨_, rfl, rowIn_whole (hs20.block 0 rfl), ?_⟩
    refine c65 fun H23 he23 => ⟨_, rfl, ?_⟩
    have hs23 := hs20.step he23
    refine br_not (fun hr1 => zero (by rw [hB1, if_pos hr1]) 1 rfl rfl hs23) fun hr1 => ?_
    rw [if_neg (by rw [hr1]; simp)] at hB1
    obtain ⟨ra, rb, rc, rd, _, _⟩ := (rightM_iff (backR m)).1 hr1
    have q1 := mul_bd ra be
    have q2 := mul_bd rb bf
    have q3 := mul_bd rc be
    have q4 := mul_bd rd bf
    refine ⟨by decide, by decide, (backR m).a, hs23.rdA 0 (j := 0) rfl rfl, by decide, by decide, m.e, hs23.rdA 2 (j := 4) rfl rfl, by decide, by decide, (backR m).b, hs23.rdA 0 (j := 1) rfl rfl, by decide, by decide, m.f, hs23.rdA 2 (j := 5) rfl rfl, ?_⟩
    rw [wrap_id (n := (backR m).a * m.e) (by omega) (by omega), wrap_id (n := (backR m).b * m.f) (by omega) (by omega), wrap_id (n := (backR m).a * m.e + (backR m).b * m.f) (by omega) (by omega), wrap_id (n := 0 - ((backR m).a * m.e + (backR m).b * m.f)) (by omega) (by omega), Int.zero_sub]
    refine c67 (by omega) ⟨_, rfl, by decide, by decide, ?_⟩
    refine hs23.putA 0 (j := 4) rfl (Nat.le_of_ble_eq_true rfl) fun H34 hs34 => ⟨by decide, by decide, (backR m).c, hs34.rdA 0 (j := 2) rfl rfl, by decide, by decide, m.e, hs34.rdA 2 (j := 4) rfl rfl, by decide, by decide, (backR m).d, hs34.rdA 0 (j := 3) rfl rfl, by decide, by decide, m.f, hs34.rdA 2 (j := 5) rfl rfl, ?_⟩
    rw [wrap_id (n := (backR m).c * m.e) (by omega) (by omega), wrap_id (n := (backR m).d * m.f) (by omega) (by omega), wrap_id (n := (backR m).c * m.e + (backR m).d * m.f) (by omega) (by omega), wrap_id (n := 0 - ((backR m).c * m.e + (backR m).d * m.f)) (by omega) (by omega), Int.zero_sub]
    refine c67 (by omega) ⟨_, rfl, by decide, by decide, ?_⟩
    refine hs34.putA 0 (j := 5) rfl (Nat.le_of_ble_eq_true rfl) fun H42 hs42 => ?_
    have hs42 : St H H42 (.cell ob (ints (backS m).l).toArray 37 :: .cell b4 (ints zeroM.l).toArray 37 :: .cell b2 (ints m.l).toArray 37 :: []) := hs42
    refine ⟨_, rfl, rowIn_whole (hs42.block 0 rfl), ?_⟩
    refine c65 fun H45 he45 => ⟨_, rfl, ?_⟩
    have hs45 := hs42.step he45
    refine br_not (fun hr2 => zero (by rw [hB1, if_pos hr2]) 1 rfl rfl hs45) fun hr2 => ?_
    rw [if_neg (by rw [hr2]; simp)] at hB1
    refine ⟨_, ?_, rowIn_whole (hs45.block 0 rfl), ?_, ?_⟩
    · rfl
    · rfl
    refine hs45.putAllA 1 (l := (backS m).l) rfl rfl fun H50 hs50 => ⟨_, rfl, rowIn_whole (hs50.block 1 rfl), ?_⟩
    have := hR H50 hs50.ext
    rw [hB1] at this
    exact this
  refine ⟨by decide, by decide, m.d, hs8.rdA 1 (j := 3) rfl rfl, by decide, by decide, by decide, m.b, hs8.rdA 1 (j := 1) rfl rfl, by decide, by decide, by decide, m.c, hs8.rdA 1 (j := 2) rfl rfl, by decide, by decide, by decide, m.a, hs8.rdA 1 (j := 0) rfl rfl, by decide, ?_⟩
  rw [wrap_id (n := 0 - m.b) (by omega) (by omega), wrap_id (n := 0 - m.c) (by omega) (by omega), Int.zero_sub, Int.zero_sub]
  rw [shl32 bd, shl32 (x := -m.b) (by omega), shl32 (x := -m.c) (by omega), shl32 ba]
  have put : ∀ {ob : Nat} {H1 : Heap}, St H H1 (.cell ob (ints zeroM.l).toArray 37 :: .cell b4 (ints zeroM.l).toArray 37 :: .cell b2 (ints m.l).toArray 37 :: []) →
      stAt H1 ⟨ob, 0, none⟩ (Array.toList (ints (backR m).l).toArray) fun H_70 => J [Value.pointer (some ⟨ob, 0, none⟩)] H_70 := fun {ob H1} hs => hs.putAllA 0 (l := (backR m).l) rfl rfl fun H2 hs2 => main ob H2 [] hs2
  have k1 : -144115188075855872 ≤ m.d * 4294967296 ∧ m.d * 4294967296 ≤ 144115188075855872 := by omega
  have k2 : -144115188075855872 ≤ -m.b * 4294967296 ∧ -m.b * 4294967296 ≤ 144115188075855872 := by omega
  have k3 : -144115188075855872 ≤ -m.c * 4294967296 ∧ -m.c * 4294967296 ≤ 144115188075855872 := by omega
  have k4 : -144115188075855872 ≤ m.a * 4294967296 ∧ m.a * 4294967296 ≤ 144115188075855872 := by omega
  have hdb : -2251799813685248 ≤ m.a * m.d - m.b * m.c ∧ m.a * m.d - m.b * m.c ≤ 2251799813685248 := by omega
  have rf : ∀ {H1 : Heap}, Ext H1 H1 := fun {H1} => Ext.refl H1
  refine ⟨c66 hd hdb k1 ⟨_, rfl, .inl rf, ⟨c66 hd hdb k2 ⟨_, rfl, .inl rf, ⟨c66 hd hdb k3 ⟨_, rfl, .inl rf, ⟨c66 hd hdb k4 ⟨_, rfl, hs8.alc fun b68 H69 hs69 => ⟨rfl, put hs69⟩⟩, ?_⟩⟩, ?_⟩⟩, ?_⟩⟩, ?_⟩
  · exact hs8.alcE fun b71 H72 he72 hs72 => ⟨.inl he72, c66 hd hdb k4 ⟨_, rfl, rfl, put hs72⟩⟩
  · exact hs8.alcE fun b71 H72 he72 hs72 => ⟨.inl he72, c66 hd hdb k3 ⟨_, rfl, .inl rf, c66 hd hdb k4 ⟨_, rfl, rfl, put hs72⟩⟩⟩
  · exact hs8.alcE fun b71 H72 he72 hs72 => ⟨.inl he72, c66 hd hdb k2 ⟨_, rfl, .inl rf, c66 hd hdb k3 ⟨_, rfl, .inl rf, c66 hd hdb k4 ⟨_, rfl, rfl, put hs72⟩⟩⟩⟩
  · exact hs8.alcE fun b71 H72 he72 hs72 => ⟨.inl he72, c66 hd hdb k1 ⟨_, rfl, .inl rf, c66 hd hdb k2 ⟨_, rfl, .inl rf, c66 hd hdb k3 ⟨_, rfl, .inl rf, c66 hd hdb k4 ⟨_, rfl, rfl, put hs72⟩⟩⟩⟩⟩
end Go.Proofs
namespace Go.Proofs
open Go.Sh
variable {H0 H : Heap} {σ : List Rs} {R : Value → Heap → Prop}
def inP (ps : List Int) (i : Nat) : Bool := decide (0 ≤ ps.getD i 0 ∧ ps.getD i 0 ≤ 255)
def incP (ps : List Int) (i : Nat) : Bool := decide (i % 2 = 1 ∨ i = 0 ∨ ps.getD (i - 2) 0 < ps.getD i 0)
def kindP (kind : Int) (ps : List Int) : Bool :=
 if kind = 0 then decide (ps.length = 2 ∧ ps.getD 0 0 < ps.getD 1 0) else if kind = 1 then decide (2 ≤ ps.length ∧ ps.length ≤ 32 ∧ ps.length % 2 = 0) else if kind = 2 then decide (ps.length = 0) else if kind = 3 then decide (ps.length = 1) else false
def tabB (kind : Int) (ps : List Int) : Bool := (List.range ps.length).all (inP ps) && ((kind != 1 || (List.range ps.length).all (incP ps)) && kindP kind ps)
theorem rdG {p : Option Addr} {n : Nat} {ps : List Int} (h : IS H p n (ints ps)) {i : Int} (h0 : 0 ≤ i) (h1 : i < n) {K : Int → Prop} (hK : K (ps.getD i.toNat 0)) :
    ∃ a : Addr, p = some a ∧ 0 ≤ i ∧ i < ((n : Nat) : Int) ∧ ∃ v : Int, Sh.cell H (Addr.add a (Int.toNat i * 1)) = some (.int .i64 v) ∧ K v :=
  IS.rd h h0 h1 (getD_some ps 0 (by have := h.length; omega)) hK
theorem all_more {f : Nat → Bool} {k : Nat} (h : (List.range k).all f = true) (hf : f k = true) : (List.range (k + 1)).all f = true := by
 rw [List.range_succ, List.all_append, h, Bool.true_and, List.all_cons, List.all_nil, Bool.and_true]; exact hf
theorem all_at {f : Nat → Bool} {n k : Nat} (h : (List.range n).all f = true) (hk : k < n) : f k = true := List.all_eq_true.1 h k (List.mem_range.2 hk)
theorem tabB_of {kind : Int} {ps : List Int} (h1 : (List.range ps.length).all (inP ps) = true) (h2 : kind = 1 → (List.range ps.length).all (incP ps) = true) : tabB kind ps = kindP kind ps := by
 unfold tabB
 rw [h1, Bool.true_and]
 by_cases hk : kind = 1
 ·rw [h2 hk, Bool.or_true, Bool.true_and]
 ·rw [show (kind != 1) = true from by simpa using hk, Bool.true_or, Bool.true_and]
theorem tabB_in {kind : Int} {ps : List Int} {k : Nat} (hk : k < ps.length) (h : inP ps k = false) : tabB kind ps = false := by
 unfold tabB
 rw [show (List.range ps.length).all (inP ps) = false from by
  rw [Bool.eq_false_iff]; intro hh; rw [all_at hh hk] at h; cases h]
 rfl
theorem tabB_inc {ps : List Int} {k : Nat} (hk : k < ps.length) (h : incP ps k = false) : tabB 1 ps = false := by
 unfold tabB
 rw [show (List.range ps.length).all (incP ps) = false from by
  rw [Bool.eq_false_iff]; intro hh; rw [all_at hh hk] at h; cases h]
 simp
theorem c68 {kind : Int} {p : Option Addr} {n c : Nat} {ps : List Int} (h : IS H p n (ints ps)) (hn : n ≤ 1000000000000) (hR : R (.bool (tabB kind ps)) H) : CallsH Try.prog 68 #[.int .i64 kind, .slice p n c] H R := by
 refine Try.s68 ?_
 unfold Try.S68
 have hlen := h.length
 intro X hX
 have go : ∀ k, k ≤ n → (List.range k).all (inP ps) = true → (kind = 1 → (List.range k).all (incP ps) = true) → X [.int .i64 (k : Nat)] H := by
  refine upto fun k hk ih h1 h2 => hX _ _ (br_dec (fun hlt => ?_) fun hge => ?_)
  ·have hk' : k < n := by omega
   intro J hJ
   have bad : tabB kind ps = false → R (.bool false) H := fun hb => by rw [hb] at hR; exact hR
   have go2 : inP ps k = true → (kind = 1 → incP ps k = true) → J [] H := fun g1 g2 => by
    refine hJ _ ?_
    rw [wrap_id (by omega) (by omega)]
    exact ih hk' (all_more h1 g1) fun hk1 => all_more (h2 hk1) (g2 hk1)
   refine rdG (i := (k : Int)) h (by omega) hlt (br_dec (fun h3 => bad (tabB_in (k := k) (by omega) ?_)) fun h3 => br_dec (fun h4 => bad (tabB_in (k := k) (by omega) ?_)) fun h4 => ?_)
   ·exact decide_eq_false fun hh => by have := hh.1; rw [Int.toNat_natCast] at h3; omega
   ·exact decide_eq_false fun hh => by have := hh.2; rw [Int.toNat_natCast] at h4; omega
   rw [Int.toNat_natCast] at h3 h4 ⊢
   have g1 : inP ps k = true := decide_eq_true ⟨by omega, by omega⟩
   refine br_eq (fun hk1 => ⟨by decide, ?_⟩) fun hk1 => go2 g1 fun hh => absurd hh hk1
   rw [Int.tmod_eq_emod_of_nonneg (by omega)]
   refine br_eq (fun he => br_dec (fun hp => ?_) fun hp => go2 g1 fun _ => decide_eq_true (.inr (.inl (by omega)))) fun he => go2 g1 fun _ => decide_eq_true (.inl (by omega))
   have hk2 : 2 ≤ k := by omega
   rw [wrap_id (n := (k : Int) - 2) (by omega) (by omega)]
   refine rdG (i := (k : Int) - 2) h (by omega) (by omega) ?_
   rw [show Int.toNat ((k : Int) - 2) = k - 2 from by omega]
   refine br_dec (fun hle => bad ?_) fun hle => go2 g1 fun _ => decide_eq_true (.inr (.inr (by omega)))
   rw [hk1]
   exact tabB_inc (k := k) (by omega) (decide_eq_false fun hh => by rcases hh with hh | hh | hh <;> omega)
  ·have hkn : k = n := by omega
   subst hkn
   rw [← hlen] at h1 h2
   rw [tabB_of h1 h2] at hR
   unfold kindP at hR
   refine br_eq (fun k0 => ?_) fun k0 => br_eq (fun k1 => ?_) fun k1 => br_eq (fun k2 => ?_) fun k2 => br_eq (fun k3 => ?_) fun k3 => ?_
   ·rw [if_pos k0] at hR
    refine br_eq (fun hn2 => ?_) fun hn2 => ?_
    ·refine rdG (i := 0) h (by omega) (by omega) (rdG (i := 1) h (by omega) (by omega) ?_)
     rw [show decide (ps.length = 2 ∧ ps.getD 0 0 < ps.getD 1 0) = decide (ps.getD 0 0 < ps.getD 1 0) from decide_eq_decide.2 ⟨fun hh => hh.2, fun hh => ⟨by omega, hh⟩⟩] at hR
     exact hR
    ·rw [decide_eq_false (fun hh => hn2 (by omega))] at hR
     exact hR
   ·rw [if_neg k0, if_pos k1] at hR
    refine br_dec (fun g1 => br_dec (fun g2 => ⟨by decide, ?_⟩) fun g2 => ?_) fun g1 => ?_
    ·rw [Int.tmod_eq_emod_of_nonneg (by omega)]
     have : decide (2 ≤ ps.length ∧ ps.length ≤ 32 ∧ ps.length % 2 = 0) = ((k : Int) % 2 == 0) := by
      rw [Bool.eq_iff_iff, decide_eq_true_iff, beq_iff_eq]; omega
     rw [this] at hR
     exact hR
    ·rw [decide_eq_false (fun hh => g2 (by omega))] at hR
     exact hR
    ·rw [decide_eq_false (fun hh => g1 (by omega))] at hR
     exact hR
   ·rw [if_neg k0, if_neg k1, if_pos k2] at hR
    have : decide (ps.length = 0) = (((k : Nat) : Int) == 0) := by rw [Bool.eq_iff_iff, decide_eq_true_iff, beq_iff_eq]; omega
    rw [this] at hR; exact hR
   ·rw [if_neg k0, if_neg k1, if_neg k2, if_pos k3] at hR
    have : decide (ps.length = 1) = (((k : Nat) : Int) == 1) := by rw [Bool.eq_iff_iff, decide_eq_true_iff, beq_iff_eq]; omega
    rw [this] at hR; exact hR
   ·rw [if_neg k0, if_neg k1, if_neg k2, if_neg k3] at hR
    exact hR
 exact go 0 (Nat.zero_le _) rfl fun _ => rfl
structure CrvOk (ps : List Int) : Prop where
 len : 2 ≤ ps.length ∧ ps.length ≤ 32 ∧ ps.length % 2 = 0
 rng : ∀ i, 0 ≤ ps.getD i 0 ∧ ps.getD i 0 ≤ 255
 inc : ∀ i, 2 ≤ i → i < ps.length → i % 2 = 0 → ps.getD (i - 2) 0 < ps.getD i 0
theorem tabB_rng {kind : Int} {ps : List Int} (h : tabB kind ps = true) (i : Nat) : 0 ≤ ps.getD i 0 ∧ ps.getD i 0 ≤ 255 := by
 unfold tabB at h
 rw [Bool.and_eq_true] at h
 by_cases hi : i < ps.length
 ·exact of_decide_eq_true (all_at h.1 hi)
 ·rw [List.getD_eq_getElem?_getD, List.getElem?_eq_none (by omega)]; decide
theorem tabB_kind {kind : Int} {ps : List Int} (h : tabB kind ps = true) : kindP kind ps = true := by
 unfold tabB at h
 rw [Bool.and_eq_true, Bool.and_eq_true] at h
 exact h.2.2
theorem tabB_crv {ps : List Int} (h : tabB 1 ps = true) : CrvOk ps := by
 have hk := tabB_kind h
 have hr := tabB_rng h
 refine ⟨of_decide_eq_true hk, hr, fun i hi hl he => ?_⟩
 unfold tabB at h
 rw [Bool.and_eq_true, Bool.and_eq_true, Bool.or_eq_true] at h
 have h2 : (List.range ps.length).all (incP ps) = true := by
  rcases h.2.1 with h | h
  ·simp at h
  ·exact h
 rcases of_decide_eq_true (all_at h2 hl) with h3 | h3 | h3
 ·omega
 ·omega
 ·exact h3
theorem repsA256 : (List.toArray (reps (Int.toNat (256 : Int)) (Array.toList #[Value.int .i64 0]))) = (ints (List.replicate 256 0)).toArray := repsA 256
theorem c69 {p : Option Addr} {n c : Nat} {ps : List Int} (h : IS H p n (ints ps)) (hok : CrvOk ps) (hR : ∀ b H', Ext H H' → R (.slice (some ⟨b, 0, none⟩) 256 256) H') : CallsH Try.prog 69 #[.slice p n c] H R := by
 refine Try.s69 ?_
 unfold Try.S69
 have hlen := h.length
 obtain ⟨l1, l2, l3⟩ := hok.len
 refine ⟨by decide, by decide, by decide, by decide, ?_⟩
 rw [repsA256, wrap_id (n := (n : Int) - 2) (by omega) (by omega), wrap_id (n := (n : Int) - 1) (by omega) (by omega)]
 refine (St.nil H).alc fun b2 H3 hs3 => ?_
 intro X hX
 have go : ∀ k, k ≤ 256 → ∀ H1 (L : List Int), L.length = 256 → St H H1 [.cell b2 (ints L).toArray 3] → X [.int .i64 (k : Nat)] H1 := by
  refine upto fun k hk ih H1 L hL hs1 => hX _ _ (br_dec (fun hlt => ?_) fun hge => ?_)
  ·have hk' : k < 256 := by have : (k : Int) < 256 := hlt; omega
   have h1 := h.ext hs1.ext
   have put : ∀ (v : Int), ∃ a11 : Addr, (some ⟨b2, 0, none⟩) = some a11 ∧ 0 ≤ (k : Int) ∧ (k : Int) < (((Int.toNat (256 : Int)) : Nat) : Int) ∧ stAt H1 (Addr.add a11 (Int.toNat (k : Int) * 1)) [Value.int .i64 v] fun H_12 => X [Value.int .i64 (IntKind.wrap .i64 ((k : Int) + (1 : Int)))] H_12 := fun v => by
    refine ⟨_, rfl, by omega, hlt, ?_⟩
    rw [show Int.toNat (k : Int) * 1 = k from Nat.mul_one k, add_none, Nat.zero_add, wrap_id (by omega) (by omega)]
    exact hs1.putA 0 rfl (by omega) fun H2 hs2 => ih hk' H2 (L.set k v) (by rw [List.length_set]; exact hL) hs2
   refine rdG (i := 0) h1 (by omega) (by omega) (br_dec (fun _ => rdG (i := 1) h1 (by omega) (by omega) (put _)) fun hv0 => ?_)
   refine rdG (i := (n : Int) - 2) h1 (by omega) (by omega) (br_dec (fun _ => rdG (i := (n : Int) - 1) h1 (by omega) (by omega) (put _)) fun hv1 => ?_)
   rw [show Int.toNat ((n : Int) - 2) = n - 2 from by omega] at hv1
   have hv0 : ¬ (k : Int) ≤ ps.getD 0 0 := hv0
   intro X2 hX2
   have go2 : ∀ j, j ≤ 16 → 2 * j + 2 ≤ n → ps.getD (2 * j) 0 ≤ (k : Int) → X2 [.int .i64 ((2 * j : Nat) : Int)] H1 := by
    refine upto fun j hj ih2 hjn hpj => hX2 _ _ ?_
    have hne : 2 * j + 2 ≠ n := fun hh => by
     have : 2 * j = n - 2 := by omega
     rw [this] at hpj; omega
    have hj4 : 2 * j + 4 ≤ n := by omega
    rw [wrap_id (n := ((2 * j : Nat) : Int) + 2) (by omega) (by omega), wrap_id (n := ((2 * j : Nat) : Int) + 1) (by omega) (by omega), wrap_id (n := ((2 * j : Nat) : Int) + 3) (by omega) (by omega)]
    refine rdG (i := ((2 * j : Nat) : Int) + 2) h1 (by omega) (by omega) ?_
    rw [show Int.toNat (((2 * j : Nat) : Int) + 2) = 2 * j + 2 from by omega]
    refine br_dec (fun hle => ?_) fun hgt => ?_
    ·have := ih2 (by omega) (by omega) (by rw [show 2 * (j + 1) = 2 * j + 2 from by omega]; exact hle)
     rw [show ((2 * (j + 1) : Nat) : Int) = ((2 * j : Nat) : Int) + 2 from by omega] at this
     exact this
    ·refine rdG (i := ((2 * j : Nat) : Int) + 1) h1 (by omega) (by omega) (rdG (i := ((2 * j : Nat) : Int) + 3) h1 (by omega) (by omega) (rdG (i := ((2 * j : Nat) : Int) + 1) h1 (by omega) (by omega) (rdG (i := ((2 * j : Nat) : Int)) h1 (by omega) (by omega) (rdG (i := ((2 * j : Nat) : Int) + 2) h1 (by omega) (by omega) (rdG (i := ((2 * j : Nat) : Int)) h1 (by omega) (by omega) ⟨?_, put _⟩)))))
     have hi := hok.inc (2 * j + 2) (by omega) (by omega) (by omega)
     rw [show 2 * j + 2 - 2 = 2 * j from by omega] at hi
     rw [show Int.toNat (((2 * j : Nat) : Int) + 2) = 2 * j + 2 from by omega, Int.toNat_natCast]
     have r1 := hok.rng (2 * j + 2)
     have r2 := hok.rng (2 * j)
     rw [wrap_id (by omega) (by omega)]
     omega
   exact go2 0 (by omega) (by omega) (by rw [Nat.mul_zero]; omega)
  ·have hk6 : ¬ (k : Int) < 256 := hge
   have : k = 256 := by omega
   subst this
   exact hR b2 H1 hs1.ext
 exact go 0 (by omega) H3 _ (by simp) hs3
theorem c56 {kind : Int} {p : Option Addr} {n c : Nat} {ps : List Int} (h : IS H p n (ints ps)) (hn : n ≤ 1000000000000)
    (h0 : tabB kind ps = false → R (.tuple #[.slice none 0 0, .bool false]) H) (h1 : tabB kind ps = true → ∀ b H', Ext H H' → R (.tuple #[.slice (some ⟨b, 0, none⟩) 256 256, .bool true]) H') : CallsH Try.prog 56 #[.int .i64 kind, .slice p n c] H R := by
  refine Try.s56 ?_
  unfold Try.S56
  have hlen := h.length
  refine c68 h hn ⟨_, rfl, br_not (fun hb => h0 hb) fun hb => br_eq (fun hk1 => ?_) fun hk1 => ?_⟩
  · rw [hk1] at hb
    exact c69 h (tabB_crv hb) fun b H' he => ⟨_, _, _, rfl, h1 (by rw [hk1]; exact hb) b H' he⟩
  refine ⟨by decide, by decide, by decide, by decide, ?_⟩
  rw [repsA256]
  refine (St.nil H).alc fun b9 H10 hs10 => ?_
  intro X hX
  have hrng := tabB_rng hb
  have hkind := tabB_kind hb
  unfold kindP at hkind
  have go : ∀ k, k ≤ 256 → ∀ H1 (L : List Int), L.length = 256 → St H H1 [.cell b9 (ints L).toArray 3] → X [.int .i64 (k : Nat)] H1 := by
    refine upto fun k hk ih H1 L hL hs1 => hX _ _ (br_dec (fun hlt => ?_) fun hge => ?_)
    · have hk' : k < 256 := by have : (k : Int) < 256 := hlt; omega
      have g1 := h.ext hs1.ext
      intro J hJ
      have same : J [] H1 := hJ _ (by
        rw [wrap_id (by omega) (by omega)]
        exact ih hk' H1 L hL hs1)
      have put : ∀ (v : Int), ∃ a11 : Addr, (some ⟨b9, 0, none⟩) = some a11 ∧ 0 ≤ (k : Int) ∧ (k : Int) < (((Int.toNat (256 : Int)) : Nat) : Int) ∧ stAt H1 (Addr.add a11 (Int.toNat (k : Int) * 1)) [Value.int .i64 v] fun H_12 => J [] H_12 := fun v => by
        refine ⟨_, rfl, by omega, hlt, ?_⟩
        rw [show Int.toNat (k : Int) * 1 = k from Nat.mul_one k, add_none, Nat.zero_add]
        refine hs1.putA 0 rfl (by omega) fun H2 hs2 => hJ _ ?_
        rw [wrap_id (by omega) (by omega)]
        exact ih hk' H2 (L.set k v) (by rw [List.length_set]; exact hL) hs2
      refine br_eq (fun k0 => ?_) fun k0 => br_eq (fun k2 => put _) fun k2 => br_eq (fun k3 => ?_) fun k3 => same
      · rw [if_pos k0] at hkind
        have hk2 := of_decide_eq_true hkind
        refine rdG (i := 1) g1 (by omega) (by omega) (rdG (i := 0) g1 (by omega) (by omega) (rdG (i := 0) g1 (by omega) (by omega) ⟨by decide, ?_, put _⟩))
        have r1 := hrng 1
        have r0 := hrng 0
        show IntKind.wrap .i64 (ps.getD 1 0 - ps.getD 0 0) ≠ 0
        rw [wrap_id (by omega) (by omega)]
        omega
      · rw [if_neg k0, if_neg hk1, if_neg k2, if_pos k3] at hkind
        have hk2 := of_decide_eq_true hkind
        exact rdG (i := 0) g1 (by omega) (by omega) (br_dec (fun _ => put _) fun _ => same)
    · have hk6 : ¬ (k : Int) < 256 := hge
      have : k = 256 := by omega
      subst this
      exact h1 hb b9 H1 hs1.ext
  exact go 0 (by omega) H10 _ (by simp) hs10
end Go.Proofs
namespace Go.Sh
theorem St.elPutRow {H0 H : Heap} {σ : List Rs} (hs : St H0 H σ) (i : Nat) {p : Option Addr} {l c n : Nat} {el : TypeId} {A cs B : List Value} (hi : σ[i]? = some (.sl p l c el 19 (A ++ cs ++ B))) (hA : A.length = n * 19) {j : Nat} {vs : List Value} (hj : j + vs.length ≤ cs.length) (hc : 0 < cs.length) (hv : ∀ v ∈ vs, v.oneCell' = true) {a : Addr} (ha : p.map (fun a => a.add (n * 19)) = some a)
    {f : Heap → Prop} (hK : ∀ H', St H0 H' (σ.set i (.sl p l c el 19 (A ++ setL cs j vs ++ B))) → f H') : stAt H (a.add j) vs f := by
  obtain ⟨b, hb⟩ := hs.slSome i (j := 0) hi (by simp; omega)
  subst hb
  cases ha
  show stAt H (((⟨b, 0, none⟩ : Addr).add (n * 19)).add j) vs f
  rw [add_none, add_none, Nat.zero_add]
  refine Go.Sh.St.slIn hs i hi (by simp; omega) hv fun H' hs' => hK H' ?_
  have e : setL (A ++ cs ++ B) (n * 19 + j) vs = A ++ setL cs j vs ++ B := by
    unfold setL
    rw [List.append_assoc A cs B, ← hA, List.take_length_add_append, show A.length + j + vs.length = A.length + (j + vs.length) from by omega, List.drop_length_add_append, List.take_append_of_le_length (by omega), List.drop_append_of_le_length hj]
    simp
  rw [e] at hs'
  exact hs'
end Go.Sh
namespace Go.Proofs
open Go.Sh
variable {H0 H : Heap} {σ : List Rs} {R : Value → Heap → Prop}
theorem workMap {b d : Nat} {e : Ed} {s : EdS} {bb : Nat} (hb : H[bb]? = some (.cells (workL b d e s).toArray 81)) : rowIn H ⟨bb, 14, none⟩ (ints e.map.l).toArray :=
 rowIn_block hb fun j v hv => match j, hv with
  | 0, hv => hv
  | 1, hv => hv
  | 2, hv => hv
  | 3, hv => hv
  | 4, hv => hv
  | 5, hv => hv
  | j + 6, hv => by simp [ints, M6.l] at hv
def placeF (e : Ed) (f : LayF) : Int × LayF := if f.kind ≠ 0 then (41, f) else if e.n ≠ 0 ∧ e.n ≠ 1 then (32, f) else if (backM e.map).1 ≠ 0 then ((backM e.map).1, f) else (0, { f with map := e.map, smooth := e.n == 1 })
theorem c39 {b d : Nat} {e : Ed} {s : EdS} {K : Sl3} {ks : List T} (hs : St H0 H (resRoot b K ks ++ σ)) (hc : cntKs (layKs ks) ≤ 1000000000) (hR : Chg (placeF e) H0 σ R b ks e.id) :
    CallsH Try.prog 39 #[.agg (workL b d e s).toArray] H R := by
  refine Try.s39 ?_
  unfold Try.S39
  refine hs.alc fun b2 H3 hs3 => ⟨_, rfl, rowIn_whole (hs3.block 0 rfl), ?_⟩
  refine tgt hs3 (by omega) (fun hl H6 hs6 => ⟨_, _, rfl, ?_⟩) fun fr u K' ks' a H6 hl ha hs6 => ⟨_, _, rfl, ?_⟩
  · intro J hJ
    exact br_ne (fun _ => hR.none hl hs6.tail.app.2) fun h => absurd h (by decide)
  intro J hJ
  have bad : ∀ {v : Int} {H' : Heap}, placeF e fr.f = (v, fr.f) → v ≠ 0 → St H0 H' (openR fr (u ++ [rootFr b]) K' ks' ++ σ) → R (.int .i64 v) H' := fun hg hv hs => hR.err hl hg hv hs.app.2
  refine br_ne (fun h => absurd rfl h) fun _ => ⟨a, rfl, _, hs6.elCell 1 rfl (cellsKs_len fr.pre) (cells_1 fr K') ha, br_ne (fun hk => bad (by unfold placeF; rw [if_pos hk]) (by decide) hs6.tail) fun hk => ?_⟩
  have go : ¬ (e.n ≠ 0 ∧ e.n ≠ 1) → J [] H6 := fun hn => by
    have hF : placeF e fr.f = (if (backM e.map).1 ≠ 0 then ((backM e.map).1, fr.f) else (0, { fr.f with map := e.map, smooth := e.n == 1 })) := by
      unfold placeF; rw [if_neg (fun hh => hh hk), if_neg hn]
    refine hJ _ ⟨(ints e.map.l).toArray, rfl, workMap (hs6.block 0 rfl), ?_⟩
    refine c55 fun H13 he13 => ⟨_, _, rfl, ?_⟩
    refine (hs6.step he13).alc fun b16 H17 hs17 => ⟨rfl, hs17.putAllA 0 (l := (backM e.map).2.l) rfl rfl fun H18 hs18 => br_ne (fun hb => bad (by rw [hF, if_pos hb]) hb (hs18.drop 2)) fun hb => ?_⟩
    rw [if_neg (fun hh => hh hb)] at hF
    refine ⟨(ints e.map.l).toArray, rfl, workMap (hs18.block 1 rfl), _, hs18.get 1 rfl (j := 6) rfl, a, rfl, rfl, ?_⟩
    refine hs18.elPutRow 2 rfl (cellsKs_len fr.pre) (j := 9) (vs := ints e.map.l) (Nat.le_of_ble_eq_true rfl) (Nat.le_of_ble_eq_true rfl) (ints_one _) ha fun H22 hs22 => ⟨.inr ⟨_, hs22.get 1 rfl (j := 6) rfl, rfl⟩, a, rfl, ?_⟩
    refine hs22.elPut 2 rfl (cellsKs_len fr.pre) (j := 15) (Nat.le_of_ble_eq_true rfl) rfl ha fun H24 hs24 => ?_
    exact hR.done hl (P := fr.P) (M := fr.M) (A := fr.A) hF (hs24.drop 2)
  refine ⟨_, hs6.get 0 rfl (j := 6) rfl, br_ne (fun h0 => ⟨_, hs6.get 0 rfl (j := 6) rfl, br_ne (fun h1 => ?_) fun h1 => go fun h => h.2 h1⟩) fun h0 => go fun h => h.1 h0⟩
  exact bad (v := 32) (by unfold placeF; rw [if_neg (fun hh => hh hk), if_pos ⟨h0, h1⟩]) (by decide) hs6.tail
def adjustF (e : Ed) (f : LayF) : Int × LayF := if f.kind ≠ 2 then (41, f) else if tabB e.n e.params = false then (32, f) else (0, { f with table := e.n, params := e.params })
theorem c40 {b d : Nat} {e : Ed} {s : EdS} {K : Sl3} {ks : List T} (hs : St H0 H (resRoot b K ks ++ σ)) (hc : cntKs (layKs ks) ≤ 1000000000) (hed : rdEd H0 e s) (hpl : e.params.length ≤ 1000000000) (hR : Chg (adjustF e) H0 σ R b ks e.id) :
    CallsH Try.prog 40 #[.agg (workL b d e s).toArray] H R := by
  refine Try.s40 ?_
  unfold Try.S40
  refine hs.alc fun b2 H3 hs3 => ⟨_, rfl, rowIn_whole (hs3.block 0 rfl), ?_⟩
  refine tgt hs3 (by omega) (fun hl H6 hs6 => ⟨_, _, rfl, ?_⟩) fun fr u K' ks' a H6 hl ha hs6 => ⟨_, _, rfl, ?_⟩
  · exact br_ne (fun _ => hR.none hl hs6.tail.app.2) fun h => absurd h (by decide)
  have bad : ∀ {v : Int} {H' : Heap}, adjustF e fr.f = (v, fr.f) → v ≠ 0 → St H0 H' (openR fr (u ++ [rootFr b]) K' ks' ++ σ) → R (.int .i64 v) H' := fun hg hv hs => hR.err hl hg hv hs.app.2
  refine br_ne (fun h => absurd rfl h) fun _ => ⟨a, rfl, _, hs6.elCell 1 rfl (cellsKs_len fr.pre) (cells_1 fr K') ha, br_ne (fun hk => bad (by unfold adjustF; rw [if_pos hk]) (by decide) hs6.tail) fun hk => ?_⟩
  have hF : adjustF e fr.f = (if tabB e.n e.params = false then (32, fr.f) else (0, { fr.f with table := e.n, params := e.params })) := by unfold adjustF; rw [if_neg (fun hh => hh hk)]
  refine ⟨_, hs6.get 0 rfl (j := 6) rfl, _, _, _, hs6.get 0 rfl (j := 20) rfl, ?_⟩
  have hal := hed.params.length
  refine c56 (hed.params.ext hs6.ext) (by omega) (fun ht => ⟨_, _, _, _, rfl, br_t rfl (bad (by rw [hF, if_pos ht]) (by decide) hs6.tail)⟩) fun ht tb H14 he14 => ⟨_, _, _, _, rfl, br_f rfl ?_⟩
  rw [if_neg (by rw [ht]; simp)] at hF
  have hs14 := hs6.step he14
  refine ⟨_, hs14.get 0 rfl (j := 6) rfl, _, _, _, hs14.get 0 rfl (j := 20) rfl, ?_⟩
  refine c57 (hed.params.ext hs14.ext) hpl fun q H20 hq20 => ⟨_, _, _, rfl, .inl hq20.ext, a, rfl, ?_⟩
  have hs20 := hs14.call hq20
  refine hs20.elPut 2 rfl (cellsKs_len fr.pre) (j := 16) (Nat.le_of_ble_eq_true rfl) rfl ha fun H23 hs23 => ⟨a, rfl, ?_⟩
  refine hs23.elPut 2 rfl (cellsKs_len fr.pre) (j := 17) (Nat.le_of_ble_eq_true rfl) rfl ha fun H25 hs25 => ?_
  refine hR.done hl (P := fr.P) (M := fr.M) (A := q) (K' := K') (ks' := ks') hF ?_
  refine ((hs25.perm (τ := .cell b2 (workL b d e s).toArray 81 :: .sl fr.A.p fr.A.l fr.A.c 3 1 (ints fr.f.params) :: (openR ⟨fr.hdr, fr.pre, { fr.f with table := e.n, params := e.params }, fr.P, fr.M, q, fr.post⟩ (u ++ [rootFr b]) K' ks' ++ σ)) (permC fun _ x => ?_)).drop 2)
  show List.count x (.sl q.p q.l q.c 3 1 (ints e.params) :: .cell b2 (workL b d e s).toArray 81 :: ((.sl fr.hdr.p fr.hdr.l fr.hdr.c 70 19 (cellsKs fr.pre ++ cellsL { fr.f with table := e.n, params := e.params } fr.P.v fr.M.v q.v K'.v ++ cellsKs fr.post) :: .sl fr.P.p fr.P.l fr.P.c 3 1 (ints fr.f.p) :: .sl fr.M.p fr.M.l fr.M.c 5 1 (kints .u8 fr.f.mask) :: .sl fr.A.p fr.A.l fr.A.c 3 1 (ints fr.f.params) ::
    .sl K'.p K'.l K'.c 70 19 (cellsKs ks') :: (resKs ks' ++ (resKs fr.pre ++ (resKs fr.post ++ resUp (u ++ [rootFr b]) fr.hdr)))) ++ σ)) =
    List.count x (.cell b2 (workL b d e s).toArray 81 :: .sl fr.A.p fr.A.l fr.A.c 3 1 (ints fr.f.params) :: ((.sl fr.hdr.p fr.hdr.l fr.hdr.c 70 19 (cellsKs fr.pre ++ cellsL { fr.f with table := e.n, params := e.params } fr.P.v fr.M.v q.v K'.v ++ cellsKs fr.post) :: .sl fr.P.p fr.P.l fr.P.c 3 1 (ints fr.f.p) :: .sl fr.M.p fr.M.l fr.M.c 5 1 (kints .u8 fr.f.mask) :: .sl q.p q.l q.c 3 1 (ints e.params) ::
    .sl K'.p K'.l K'.c 70 19 (cellsKs ks') :: (resKs ks' ++ (resKs fr.pre ++ (resKs fr.post ++ resUp (u ++ [rootFr b]) fr.hdr)))) ++ σ))
  simp only [List.count_append, List.count_cons]
  ac_rfl
def stepL (w h next : Int) (D : List Lay) (e : Ed) : Int × List Lay :=
 if e.kind = 1 then addL next D e else if e.kind = 2 then removeL D e.id else if e.kind = 3 then moveL D e else if e.kind = 4 then chgL (paintF e) D e.id else if e.kind = 5 then chgL (lookF e) D e.id else
 if e.kind = 6 then chgL (hideF e) D e.id else if e.kind = 7 then chgL (maskF w h e) D e.id else if e.kind = 8 then chgL (placeF e) D e.id else if e.kind = 9 then chgL (adjustF e) D e.id else (41, [])
def nextL (next : Int) (e : Ed) : Int := if e.kind = 1 then next + 1 else next
structure EdOk (H0 : Heap) (e : Ed) (s : EdS) : Prop where
 rd : rdEd H0 e s
 shape : e.shape.length ≤ 1000000000
 params : e.params.length ≤ 1000000000
def kindFn (k : Int) : Nat := if k = 1 then 32 else if k = 2 then 33 else if k = 3 then 34 else if k = 4 then 35 else if k = 5 then 36 else if k = 6 then 37 else if k = 7 then 38 else if k = 8 then 39 else 40
theorem edit_call {b d : Nat} {e : Ed} {s : EdS} {K K0 : Sl3} {ks : List T} {w h next : Int} (hk : 1 ≤ e.kind ∧ e.kind ≤ 9) (hs : St H0 H (resRoot b K ks ++ (.cell d (docA w h next K0) 27 :: σ))) (hc : cntKs (layKs ks) ≤ 1000000000) (hnx : 0 ≤ next ∧ next ≤ 1000000000000000) (hsz : e.kind = 7 → sizedB w h = true) (hed : EdOk H0 e s)
    (hras : ∀ fr u ks', flK [] [] e.id (layKs ks) = some (fr :: u, ks') → okRas fr.f)
    (hbad : ∀ H', (stepL w h next (layKs ks) e).1 ≠ 0 → St H0 H' σ → R (.int .i64 (stepL w h next (layKs ks) e).1) H')
    (hok : ∀ Kn ksn H', (stepL w h next (layKs ks) e).1 = 0 → layKs ksn = (stepL w h next (layKs ks) e).2 → St H0 H' (resRoot b Kn ksn ++ (.cell d (docA w h (nextL next e) K0) 27 :: σ)) → R (.int .i64 0) H') :
    CallsH Try.prog (kindFn e.kind) #[.agg (workL b d e s).toArray] H R := by
  have hsl : s.S.l ≤ 1000000000 := by rw [← hed.rd.shape.len]; exact hed.shape
  by_cases k1 : e.kind = 1
  · have hst : stepL w h next (layKs ks) e = addL next (layKs ks) e := by unfold stepL; rw [if_pos k1]
    have hnl : nextL next e = next + 1 := by unfold nextL; rw [if_pos k1]
    rw [hst] at hbad hok
    rw [hnl] at hok
    rw [show kindFn e.kind = 32 from by unfold kindFn; rw [if_pos k1]]
    exact c32 hs hc hnx hbad hok
  have hnl : nextL next e = next := by unfold nextL; rw [if_neg k1]
  rw [hnl] at hok
  by_cases k2 : e.kind = 2
  · have hst : stepL w h next (layKs ks) e = removeL (layKs ks) e.id := by unfold stepL; rw [if_neg k1, if_pos k2]
    rw [hst] at hbad hok
    rw [show kindFn e.kind = 33 from by unfold kindFn; rw [if_neg k1, if_pos k2]]
    refine c33 hs hc (fun hz H' he => ?_) fun fr u K' ks' Kn ksn H' hz hl hs' => ?_
    · rcases find_cases b K ks e.id with ⟨_, hl⟩ | ⟨fr, u, K', ks', hz', _, _⟩
      · have hr : removeL (layKs ks) e.id = (40, []) := by unfold removeL; rw [hl]
        have := hbad H' (by rw [hr]; decide) (hs.step he).app.2.tail
        rw [hr] at this; exact this
      · rw [hz] at hz'; cases hz'
    · rcases find_cases b K ks e.id with ⟨hz', _⟩ | ⟨fr', u', K'', ks'', hz', _, hl'⟩
      · rw [hz] at hz'; cases hz'
      · rw [hz] at hz'
        simp only [Option.some.injEq, Prod.mk.injEq, List.cons.injEq] at hz'
        obtain ⟨⟨rfl, hu⟩, rfl, rfl⟩ := hz'
        have hu := List.append_cancel_right hu
        subst hu
        have hr : removeL (layKs ks) e.id = (0, plugL (u.map Fr.lay) (layKs fr.pre ++ layKs fr.post)) := by unfold removeL; rw [hl']; rfl
        refine hok Kn ksn H' (by rw [hr]) (by rw [hr]; exact hl) (St.app (σ := resT (fr.node K' ks')) (τ := resRoot b Kn ksn ++ (.cell d (docA w h next K0) 27 :: σ)) (hs'.perm (permC fun _ x => by simp only [List.count_append, List.count_cons]; ac_rfl))).2
  by_cases k3 : e.kind = 3
  · have hst : stepL w h next (layKs ks) e = moveL (layKs ks) e := by unfold stepL; rw [if_neg k1, if_neg k2, if_pos k3]
    rw [hst] at hbad hok
    rw [show kindFn e.kind = 34 from by unfold kindFn; rw [if_neg k1, if_neg k2, if_pos k3]]
    exact c34 hs hc (fun H' h1 h2 => hbad H' h1 h2.tail) hok
  have chg : ∀ {g : LayF → Int × LayF}, stepL w h next (layKs ks) e = chgL g (layKs ks) e.id → Chg g H0 (.cell d (docA w h next K0) 27 :: σ) R b ks e.id := fun {g} hst => by
    rw [hst] at hbad hok
    exact ⟨fun H' h1 h2 => hbad H' h1 h2.tail, hok⟩
  by_cases k4 : e.kind = 4
  · rw [show kindFn e.kind = 35 from by unfold kindFn; rw [if_neg k1, if_neg k2, if_neg k3, if_pos k4]]
    exact c35 hs hc hed.rd hras (chg (by unfold stepL; rw [if_neg k1, if_neg k2, if_neg k3, if_pos k4]))
  by_cases k5 : e.kind = 5
  · rw [show kindFn e.kind = 36 from by unfold kindFn; rw [if_neg k1, if_neg k2, if_neg k3, if_neg k4, if_pos k5]]
    exact c36 hs hc (chg (by unfold stepL; rw [if_neg k1, if_neg k2, if_neg k3, if_neg k4, if_pos k5]))
  by_cases k6 : e.kind = 6
  · rw [show kindFn e.kind = 37 from by unfold kindFn; rw [if_neg k1, if_neg k2, if_neg k3, if_neg k4, if_neg k5, if_pos k6]]
    exact c37 hs hc (chg (by unfold stepL; rw [if_neg k1, if_neg k2, if_neg k3, if_neg k4, if_neg k5, if_pos k6]))
  by_cases k7 : e.kind = 7
  · rw [show kindFn e.kind = 38 from by unfold kindFn; rw [if_neg k1, if_neg k2, if_neg k3, if_neg k4, if_neg k5, if_neg k6, if_pos k7]]
    exact c38 hs hc hed.rd hsl (hsz k7) (chg (by unfold stepL; rw [if_neg k1, if_neg k2, if_neg k3, if_neg k4, if_neg k5, if_neg k6, if_pos k7]))
  by_cases k8 : e.kind = 8
  · rw [show kindFn e.kind = 39 from by unfold kindFn; rw [if_neg k1, if_neg k2, if_neg k3, if_neg k4, if_neg k5, if_neg k6, if_neg k7, if_pos k8]]
    exact c39 hs hc (chg (by unfold stepL; rw [if_neg k1, if_neg k2, if_neg k3, if_neg k4, if_neg k5, if_neg k6, if_neg k7, if_pos k8]))
  · have k9 : e.kind = 9 := by omega
    rw [show kindFn e.kind = 40 from by unfold kindFn; rw [if_neg k1, if_neg k2, if_neg k3, if_neg k4, if_neg k5, if_neg k6, if_neg k7, if_neg k8]]
    exact c40 hs hc hed.rd hed.params (chg (by unfold stepL; rw [if_neg k1, if_neg k2, if_neg k3, if_neg k4, if_neg k5, if_neg k6, if_neg k7, if_neg k8, if_pos k9]))
end Go.Proofs
namespace Go.Proofs
open Go.Sh
variable {H0 H : Heap} {σ : List Rs} {R : Value → Heap → Prop}
theorem docA_one (w h next : Int) (K : Sl3) : ∀ v ∈ (docA w h next K).toList, v.oneCell' = true := by
 unfold docA
 simp only [List.forall_mem_cons]
 exact ⟨rfl, rfl, rfl, rfl, fun _ h => by cases h⟩
theorem edL_one (e : Ed) (s : EdS) : ∀ v ∈ edL e s, v.oneCell' = true := by
 unfold edL
 simp only [List.forall_mem_cons]
 exact ⟨rfl, rfl, rfl, rfl, rfl, rfl, rfl, rfl, rfl, rfl, rfl, rfl, rfl, rfl, rfl, rfl, rfl, rfl, rfl, fun _ h => by cases h⟩
theorem workL_one (b d : Nat) (e : Ed) (s : EdS) : ∀ v ∈ workL b d e s, v.oneCell' = true := by
 unfold workL
 simp only [List.forall_mem_cons]
 exact ⟨rfl, rfl, edL_one e s⟩
theorem c31 {d : Nat} {w h next : Int} {K : Sl3} (hb : H[d]? = some (.cells (docA w h next K) 27)) (hR : ∀ b H', St H H' [.cell b (cellsT (rootT K [])).toArray 70] → R (.pointer (some ⟨b, 0, none⟩)) H') : CallsH Try.prog 31 #[.pointer (some ⟨d, 0, none⟩)] H R := by
 refine Try.s31 ?_
 unfold Try.S31
 exact ⟨_, rfl, _, _, _, cell_get (i := 3) hb rfl, (St.nil H).alc fun b4 H5 hs5 => hR b4 H5 hs5⟩
theorem mk_root {b : Nat} {K : Sl3} {ks : List T} (hs : St H0 H (.cell b (cellsT (rootT K [])).toArray 70 :: (resG K ks ++ σ))) : St H0 H (resRoot b K ks ++ σ) := by
 have h1 := hs.toSl 0 (l := 1) (k := 19) (fs := cellsKs [rootT K ks]) rfl rfl (by rw [cellsKs_one]; rfl) (by rw [cellsKs_one]; exact cellsT_one _)
 have h2 := ((h1.nilSl 3 1).nilSl 5 1).nilSl 3 1
 refine h2.perm (permC fun _ x => ?_)
 have e1 : resRoot b K ks = .sl (some ⟨b, 0, none⟩) 1 1 70 19 (cellsKs [rootT K ks]) :: .sl none 0 0 3 1 [] :: .sl none 0 0 5 1 [] :: .sl none 0 0 3 1 [] :: resG K ks := by
  unfold resRoot
  rw [resG, resKs_one, rootT, resT_mk]; rfl
 rw [e1]
 show List.count x (.sl none 0 0 3 1 [] :: .sl none 0 0 5 1 [] :: .sl none 0 0 3 1 [] :: .sl (some ⟨b, 0, none⟩) 1 1 70 19 (cellsKs [rootT K ks]) :: (resG K ks ++ σ)) = _
 simp only [List.count_append, List.count_cons]
 ac_rfl
theorem un_root {b : Nat} {K : Sl3} {ks : List T} (hs : St H0 H (resRoot b K ks ++ σ)) : Sh.cell H ⟨b, 18, none⟩ = some (.slice K.p K.l K.c) ∧ St H0 H (resG K ks ++ σ) := by
 obtain ⟨a0, h1, h2, h3⟩ := hs.grp.get (i := 0) (t := rootT K ks) rfl
 cases h1
 rw [Nat.zero_mul, add_none] at h2
 refine ⟨h2 18 _ rfl, ?_⟩
 have e1 : resRoot b K ks = .sl (some ⟨b, 0, none⟩) 1 1 70 19 (cellsKs [rootT K ks]) :: .sl none 0 0 3 1 [] :: .sl none 0 0 5 1 [] :: .sl none 0 0 3 1 [] :: resG K ks := by
  unfold resRoot
  rw [resG, resKs_one, rootT, resT_mk]; rfl
 rw [e1] at hs
 exact hs.drop 4
def doL (w h next : Int) (D : List Lay) (e : Ed) : Int × Int × List Lay :=
 if e.kind < 1 ∨ e.kind > 9 then (41, 0, []) else if (stepL w h next D e).1 ≠ 0 then ((stepL w h next D e).1, 0, []) else (0, nextL next e, (stepL w h next D e).2)
def kindsA : Array Value := #[Value.func (.func 32) #[] #[], Value.func (.func 33) #[] #[], Value.func (.func 34) #[] #[], Value.func (.func 35) #[] #[], Value.func (.func 36) #[] #[], Value.func (.func 37) #[] #[], Value.func (.func 38) #[] #[], Value.func (.func 39) #[] #[], Value.func (.func 40) #[] #[]]
theorem kinds_get {k : Int} (h : 1 ≤ k ∧ k ≤ 9) : kindsA[(k - 1).toNat]? = some (.func (.func (kindFn k)) #[] #[]) := by
 obtain ⟨h1, h2⟩ := h
 obtain ⟨n, rfl⟩ : ∃ n : Nat, k = n := ⟨k.toNat, by omega⟩
 obtain ⟨m, rfl⟩ : ∃ m : Nat, n = m + 1 := ⟨n - 1, by omega⟩
 rw [show (((m + 1 : Nat) : Int) - 1).toNat = m from by omega]
 have : m < 9 := by omega
 obtain rfl | rfl | rfl | rfl | rfl | rfl | rfl | rfl | rfl : m = 0 ∨ m = 1 ∨ m = 2 ∨ m = 3 ∨ m = 4 ∨ m = 5 ∨ m = 6 ∨ m = 7 ∨ m = 8 := by omega
 all_goals rfl
theorem c22 {e : Ed} {s : EdS} {K : Sl3} {ks : List T} {w h next : Int} (hg : grp H K ks) (hokl : okKs (layKs ks)) (hc : cntKs (layKs ks) ≤ 1000000000) (hnx : 0 ≤ next ∧ next ≤ 1000000000000000) (hsz : e.kind = 7 → sizedB w h = true) (hed : EdOk H e s)
    (hras : ∀ fr u ks', flK [] [] e.id (layKs ks) = some (fr :: u, ks') → okRas fr.f)
    (hbad : ∀ H', (doL w h next (layKs ks) e).1 ≠ 0 → Ext H H' → R (.tuple #[.agg (docA 0 0 0 .nil), .int .i64 (doL w h next (layKs ks) e).1]) H')
    (hok : ∀ K' ks' H', (doL w h next (layKs ks) e).1 = 0 → layKs ks' = (doL w h next (layKs ks) e).2.2 → St H H' (resG K' ks') → R (.tuple #[.agg (docA w h (doL w h next (layKs ks) e).2.1 K'), .int .i64 0]) H') :
    CallsH Try.prog 22 #[.agg (docA w h next K), .agg (edL e s).toArray] H R := by
  have hlk := len_cnt (layKs ks)
  rw [layKs_len] at hlk
  refine Try.s22 ?_
  unfold Try.S22
  refine (St.nil H).alc fun b3 H4 hs4 => hs4.alc fun b5 H6 hs6 => hs6.alc fun b7 H8 hs8 => ?_
  intro J9 hJ9
  have main9 : ∀ (db : Nat) (K' : Sl3) (ks' : List T) (H11 : Heap), layKs ks' = layKs ks → St H H11 (.cell db (docA w h next K') 27 :: .cell b7 (docA 0 0 0 .nil) 27 :: .cell b5 (edL e s).toArray 39 :: (resG K' ks')) → J9 [.pointer (some ⟨db, 0, none⟩)] H11 := by
    intro db K' ks' H11 hlay hs11
    refine hJ9 _ _ ?_
    intro J12 hJ12
    have main12 : ∀ (wb rb : Nat) (H14 : Heap), St H H14 (.cell wb (workL rb db e s).toArray 81 :: .cell db (docA w h next K') 27 :: .cell b7 (docA 0 0 0 .nil) 27 :: .cell b5 (edL e s).toArray 39 :: (resRoot rb K' ks')) → J12 [.pointer (some ⟨wb, 0, none⟩)] H14 := by
      intro wb rb H14 hs14
      refine hJ12 _ _ ?_
      refine hs14.alc fun b15 H16 hs16 => ?_
      intro J17 hJ17
      have bad : ∀ {v : Int} {n : Int} {x : List Lay} {H1 : Heap} {τ : List Rs}, doL w h next (layKs ks) e = (v, n, x) → v ≠ 0 → ∀ (i : Nat), τ[i]? = some (.cell b7 (docA 0 0 0 .nil) 27) → St H H1 τ →
          (#[Value.int .i64 0, Value.int .i64 0, Value.int .i64 0, Value.slice none 0 0].size = 4 ∧ stAt H1 ⟨b7, 0, none⟩ (Array.toList #[Value.int .i64 0, Value.int .i64 0, Value.int .i64 0, Value.slice none 0 0]) fun H_36 => ∃ res37 : Array Value, res37.size = 4 ∧ rowIn H_36 ⟨b7, 0, none⟩ res37 ∧ R (Value.tuple #[Value.agg res37, Value.int .i64 v]) H_36) := fun {v n x H1 τ} hd hv i hi hs =>
        ⟨rfl, hs.putAll i hi rfl (docA_one 0 0 0 .nil) fun H2 hs2 => ⟨docA 0 0 0 .nil, rfl, rowIn_whole (hs2.block i (by rw [List.getElem?_set_self (List.getElem?_eq_some_iff.1 hi).1]; rfl)), by
          have := hbad H2 (by rw [hd]; exact hv) hs2.ext
          rw [hd] at this; exact this⟩⟩
      refine ⟨_, hs16.get 4 rfl (j := 0) rfl, br_dec (fun hk => bad (by unfold doL; rw [if_pos (.inl hk)]) (by decide) 3 rfl hs16) fun hk1 => ⟨_, hs16.get 4 rfl (j := 0) rfl, br_dec (fun hk => bad (by unfold doL; rw [if_pos (.inr hk)]) (by decide) 3 rfl hs16) fun hk2 => hJ17 _ ?_⟩⟩
      have hk1 : ¬ e.kind < 1 := hk1
      have hk2 : ¬ e.kind > 9 := hk2
      have hD : doL w h next (layKs ks) e = (if (stepL w h next (layKs ks) e).1 ≠ 0 then ((stepL w h next (layKs ks) e).1, 0, []) else (0, nextL next e, (stepL w h next (layKs ks) e).2)) := by
        unfold doL; rw [if_neg (by omega)]
      refine ⟨_, hs16.get 4 rfl (j := 0) rfl, _, rfl, ?_⟩
      show 0 ≤ (IntKind.wrap .i64 (e.kind - (1 : Int))) ∧ _
      rw [wrap_id (n := e.kind - 1) (by omega) (by omega)]
      refine ⟨by omega, by omega, kindFn e.kind, #[], #[], ?_, _, rfl, rowIn_whole (hs16.block 1 rfl), ?_⟩
      · rw [Nat.mul_one, add_none, Nat.zero_add]
        exact hs16.get 0 rfl (kinds_get ⟨by omega, by omega⟩)
      show CallsH Try.prog (kindFn e.kind) #[.agg (workL rb db e s).toArray] H16 _
      have hs17 : St H H16 (resRoot rb K' ks' ++ (.cell db (docA w h next K') 27 :: .cell b7 (docA 0 0 0 .nil) 27 :: .cell wb (workL rb db e s).toArray 81 :: [])) := by
        have h1 := St.del (St.tail hs16) 3
        exact h1.perm (permC fun _ x => by
          show List.count x (.cell wb (workL rb db e s).toArray 81 :: .cell db (docA w h next K') 27 :: .cell b7 (docA 0 0 0 .nil) 27 :: resRoot rb K' ks') = _
          simp only [List.count_append, List.count_cons, List.count_nil]; ac_rfl)
      refine edit_call ⟨by omega, by omega⟩ hs17 (by rw [hlay]; exact hc) hnx hsz ⟨hed.rd, hed.shape, hed.params⟩ (by rw [hlay]; exact hras) (fun H24 hne hs24 => ⟨_, rfl, br_ne (fun _ => ?_) fun hh => absurd hh hne⟩) fun Kn ksn H24 h0 hl hs24 => ⟨_, rfl, br_ne (fun hh => absurd rfl hh) fun _ => ?_⟩
      · rw [hlay] at hne ⊢
        exact bad (by rw [hD, if_pos hne]) hne 0 rfl hs24
      · rw [hlay] at h0 hl
        rw [if_neg (by rw [h0]; simp)] at hD
        obtain ⟨hcell, hs25⟩ := un_root hs24
        have hs26 : St H H24 (.cell wb (workL rb db e s).toArray 81 :: .cell db (docA w h (nextL next e) K') 27 :: .cell b7 (docA 0 0 0 .nil) 27 :: (resG Kn ksn)) := hs25.perm (permC fun _ x => by
          simp only [List.count_append, List.count_cons, List.count_nil]; ac_rfl)
        refine ⟨_, hs26.get 0 rfl (j := 0) rfl, _, rfl, _, _, _, hcell, ?_⟩
        refine hs26.put 1 rfl (j := 3) (Nat.le_of_ble_eq_true rfl) rfl fun H31 hs31 => ⟨docA w h (nextL next e) Kn, rfl, rowIn_whole (hs31.block 1 rfl), rfl, ?_⟩
        refine hs31.putAll 2 rfl rfl (docA_one w h (nextL next e) Kn) fun H33 hs33 => ⟨docA w h (nextL next e) Kn, rfl, rowIn_whole (hs33.block 2 rfl), ?_⟩
        have := hok Kn ksn H33 (by rw [hD]) (by rw [hD]; exact hl) (hs33.drop 3)
        rw [hD] at this
        exact this
    have hb5 : ∀ {H1 : Heap}, Ext H11 H1 → rowIn H1 ⟨b5, 0, none⟩ (edL e s).toArray := fun he => rowAt_ext he (rowIn_whole (hs11.block 2 rfl))
    refine ⟨(edL e s).toArray, rfl, hb5 (Ext.refl _), ?_, ?_⟩
    · refine c31 (hs11.block 0 rfl) fun rb H43 hp43 => ⟨_, rfl, .inl hp43.ext, rfl, by decide, ?_⟩
      have hs43 := hs11.call hp43
      refine hs43.alcE fun b45 H46 he46 hs46 => ⟨.inl he46, rfl, hs46.putAll 0 rfl rfl (workL_one rb db e s) fun H47 hs47 => main12 b45 rb H47 ?_⟩
      have h1 : St H H47 (.cell rb (cellsT (rootT K' [])).toArray 70 :: (resG K' ks' ++ (.cell b45 (workL rb db e s).toArray 81 :: .cell db (docA w h next K') 27 :: .cell b7 (docA 0 0 0 .nil) 27 :: .cell b5 (edL e s).toArray 39 :: []))) := hs47.perm (permC fun _ x => by
        show List.count x (.cell b45 (workL rb db e s).toArray 81 :: .cell rb (cellsT (rootT K' [])).toArray 70 :: .cell db (docA w h next K') 27 :: .cell b7 (docA 0 0 0 .nil) 27 :: .cell b5 (edL e s).toArray 39 :: (resG K' ks')) = _
        simp only [List.count_append, List.count_cons, List.count_nil]; ac_rfl)
      exact (mk_root h1).perm (permC fun _ x => by simp only [List.count_append, List.count_cons, List.count_nil]; ac_rfl)
    · refine hs11.alcE fun b50 H51 he51 hs51 => ⟨.inl he51, ?_⟩
      refine c31 (hs51.block 1 rfl) fun rb H53 hp53 => ⟨_, rfl, .inl hp53.ext, rfl, by decide, rfl, ?_⟩
      have hs53 := hs51.call hp53
      refine hs53.putAll 1 rfl rfl (workL_one rb db e s) fun H55 hs55 => main12 b50 rb H55 ?_
      have h1 : St H H55 (.cell rb (cellsT (rootT K' [])).toArray 70 :: (resG K' ks' ++ (.cell b50 (workL rb db e s).toArray 81 :: .cell db (docA w h next K') 27 :: .cell b7 (docA 0 0 0 .nil) 27 :: .cell b5 (edL e s).toArray 39 :: []))) := hs55.perm (permC fun _ x => by
        show List.count x (.cell rb (cellsT (rootT K' [])).toArray 70 :: .cell b50 (workL rb db e s).toArray 81 :: .cell db (docA w h next K') 27 :: .cell b7 (docA 0 0 0 .nil) 27 :: .cell b5 (edL e s).toArray 39 :: (resG K' ks')) = _
        simp only [List.count_append, List.count_cons, List.count_nil]; ac_rfl)
      exact (mk_root h1).perm (permC fun _ x => by simp only [List.count_append, List.count_cons, List.count_nil]; ac_rfl)
  refine ⟨_, hs8.get 2 rfl (j := 0) rfl, _, hs8.get 2 rfl (j := 1) rfl, _, hs8.get 2 rfl (j := 2) rfl, _, _, _, hs8.get 2 rfl (j := 3) rfl, ?_, ?_⟩
  · refine c30 (K := K) (hg.ext hs8.ext) hokl (by omega) fun K' ks' H63 hlay hp63 => ⟨_, _, _, rfl, .inl hp63.ext, ?_⟩
    have hs63 := hs8.callR hp63
    refine hs63.alcE fun b65 H66 he66 hs66 => ⟨.inl he66, rfl, hs66.putAll 0 rfl rfl (docA_one w h next K') fun H67 hs67 => main9 b65 K' ks' H67 hlay ?_⟩
    exact (St.del hs67 3)
  · refine hs8.alcE fun b74 H75 he75 hs75 => ⟨.inl he75, ?_⟩
    refine c30 (K := K) (hg.ext hs75.ext) hokl (by omega) fun K' ks' H77 hlay hp77 => ⟨_, _, _, rfl, .inl hp77.ext, rfl, ?_⟩
    have hs77 := hs75.callR hp77
    refine hs77.putAll 0 rfl rfl (docA_one w h next K') fun H79 hs79 => main9 b74 K' ks' H79 hlay ?_
    exact (St.del hs79 3)
end Go.Proofs
namespace Go.Proofs
open Go.Sh
structure DocL where
 w : Int
 h : Int
 next : Int
 ks : List Lay
def zeroD : DocL := ⟨0, 0, 0, []⟩
def doD (D : DocL) (e : Ed) : Int × DocL := if (doL D.w D.h D.next D.ks e).1 ≠ 0 then ((doL D.w D.h D.next D.ks e).1, zeroD) else (0, ⟨D.w, D.h, (doL D.w D.h D.next D.ks e).2.1, (doL D.w D.h D.next D.ks e).2.2⟩)
def oneM : M6 := ⟨65536, 0, 0, 65536, 0, 0⟩
structure goodF (w h next : Int) (f : LayF) : Prop where
 id : 1 ≤ f.id ∧ f.id < next
 kind : 0 ≤ f.kind ∧ f.kind ≤ 2
 opacity : 0 ≤ f.opacity ∧ f.opacity ≤ 255
 mode : 0 ≤ f.mode ∧ f.mode ≤ 11
 maskLen : f.mask = [] ∨ (f.mask.length : Int) = w * h
 maskV : ∀ c ∈ f.mask, c = 0 ∨ c = 255
 bare : f.kind ≠ 0 → f.w = 0 ∧ f.h = 0 ∧ f.p = [] ∧ f.map = oneM ∧ f.smooth = false
 plain : f.kind ≠ 2 → f.table = 2 ∧ f.params = []
 adj : f.kind = 2 → f.mode = 0
 ras : f.kind = 0 → sizedB f.w f.h = true ∧ (f.p.length : Int) = f.w * f.h ∧ f.p.all pixelB = true ∧ (backM f.map).1 = 0
 tab : tabB f.table f.params = true
mutual
def gT (G : LayF → Prop) : Lay → Prop
 | .mk f ks => G f ∧ (f.kind = 1 ∨ ks = []) ∧ gKs G ks
def gKs (G : LayF → Prop) : List Lay → Prop
 | [] => True
 | t :: ts => gT G t ∧ gKs G ts
end
mutual
def idsT : Lay → List Int
 | .mk f ks => f.id :: idsKs ks
def idsKs : List Lay → List Int
 | [] => []
 | t :: ts => idsT t ++ idsKs ts
end
structure Inv (D : DocL) : Prop where
 size : sizedB D.w D.h = true
 next : 1 ≤ D.next
 cnt : cntKs D.ks ≤ 4096
 dep : depKs D.ks ≤ 64
 ids : (idsKs D.ks).Nodup
 good : gKs (goodF D.w D.h D.next) D.ks
variable {G : LayF → Prop}
theorem gKs_app {a b : List Lay} : gKs G (a ++ b) ↔ gKs G a ∧ gKs G b := by
 induction a with
 | nil => simp [gKs]
 | cons t a ih => rw [List.cons_append, gKs, ih, gKs, and_assoc]
theorem gKs_iff {ts : List Lay} : gKs G ts ↔ ∀ t ∈ ts, gT G t := by
 induction ts with
 | nil => simp [gKs]
 | cons t ts ih => rw [gKs, ih, List.forall_mem_cons]
theorem gT_imp {G' : LayF → Prop} (h : ∀ f, G f → G' f) : ∀ t, gT G t → gT G' t := Lay.ind fun f ks ih hg => by
 rw [gT] at hg ⊢
 exact ⟨h f hg.1, hg.2.1, gKs_iff.2 fun t ht => ih t ht (gKs_iff.1 hg.2.2 t ht)⟩
theorem gKs_imp {G' : LayF → Prop} (h : ∀ f, G f → G' f) {ts : List Lay} (hg : gKs G ts) : gKs G' ts := gKs_iff.2 fun t ht => gT_imp h t (gKs_iff.1 hg t ht)
def gUp (G : LayF → Prop) : List FrL → Prop
 | [] => True
 | fr :: u => gKs G fr.pre ∧ gKs G fr.post ∧ G fr.f ∧ fr.f.kind = 1 ∧ gUp G u
theorem g_unplug : ∀ {u : List FrL} {ks : List Lay}, gKs G (plugL u ks) → ks ≠ [] → gUp G u ∧ gKs G ks
 | [], ks, h, _ => ⟨trivial, h⟩
 | fr :: u, ks, h, hne => by
  rw [plugL] at h
  obtain ⟨h1, h2⟩ := g_unplug h (by simp)
  rw [gKs_app, gKs, gT] at h2
  refine ⟨⟨h2.1, h2.2.2, h2.2.1.1, ?_, h1⟩, h2.2.1.2.2⟩
  rcases h2.2.1.2.1 with h | h
  ·exact h
  ·exact absurd h hne
theorem g_plug : ∀ {u : List FrL} {ks : List Lay}, gUp G u → gKs G ks → gKs G (plugL u ks)
 | [], ks, _, h => h
 | fr :: u, ks, hu, h => by
  rw [plugL]
  refine g_plug hu.2.2.2.2 ?_
  rw [gKs_app, gKs, gT]
  exact ⟨hu.1, ⟨hu.2.2.1, .inl hu.2.2.2.1, h⟩, hu.2.1⟩
theorem g_node {fr : FrL} {u : List FrL} {ks : List Lay} (h : gKs G (plugL (fr :: u) ks)) : gUp G u ∧ gKs G fr.pre ∧ gT G (.mk fr.f ks) ∧ gKs G fr.post := by
 rw [plugL] at h
 obtain ⟨h1, h2⟩ := g_unplug h (by simp)
 rw [gKs_app, gKs] at h2
 exact ⟨h1, h2.1, h2.2.1, h2.2.2⟩
theorem g_set {fr : FrL} {u : List FrL} {ks : List Lay} (h1 : gUp G u) (h2 : gKs G fr.pre) (h3 : gT G (.mk fr.f ks)) (h4 : gKs G fr.post) : gKs G (plugL (fr :: u) ks) := by
 rw [plugL]
 refine g_plug h1 ?_
 rw [gKs_app, gKs]
 exact ⟨h2, h3, h4⟩
def idsUp : List FrL → List Int
 | [] => []
 | fr :: u => fr.f.id :: (idsKs fr.pre ++ idsKs fr.post ++ idsUp u)
theorem idsKs_app (a b : List Lay) : idsKs (a ++ b) = idsKs a ++ idsKs b := by
 induction a with
 | nil => simp [idsKs]
 | cons t a ih => rw [List.cons_append, idsKs, ih, idsKs, List.append_assoc]
theorem ids_plug : ∀ (u : List FrL) (ks : List Lay), (idsKs (plugL u ks)).Perm (idsKs ks ++ idsUp u)
 | [], ks => by rw [idsUp, List.append_nil]; exact List.Perm.refl _
 | fr :: u, ks => by
  rw [plugL]
  refine (ids_plug u _).trans (List.perm_iff_count.2 fun x => ?_)
  simp only [idsKs_app, idsKs, idsT, idsUp, List.count_append, List.count_cons]
  ac_rfl
def depUp : List FrL → Nat → Nat
 | [], d => d
 | fr :: u, d => depUp u (max (depKs fr.pre) (max (1 + d) (depKs fr.post)))
theorem dep_plug : ∀ (u : List FrL) (ks : List Lay), depKs (plugL u ks) = depUp u (depKs ks)
 | [], ks => rfl
 | fr :: u, ks => by rw [plugL, dep_plug u, depKs_app, depKs, depL, depUp]
theorem depUp_mono : ∀ (u : List FrL) {d d' : Nat}, d ≤ d' → depUp u d ≤ depUp u d'
 | [], d, d', h => h
 | fr :: u, d, d', h => by rw [depUp, depUp]; exact depUp_mono u (by omega)
theorem fl_plug (id : Int) : ∀ (t : Lay) (up : List FrL) (pre post : List Lay) (z : ZL), flT up pre post id t = some z → plugL z.1 z.2 = plugL up (pre ++ t :: post) ∧ ∃ fr u, z.1 = fr :: u ∧ fr.f.id = id := by
 refine Lay.ind fun f ks ih up pre post z hz => ?_
 rw [flT] at hz
 split at hz
 ·rename_i h; cases hz; exact ⟨rfl, _, _, rfl, h⟩
 ·have : ∀ (ts : List Lay), (∀ t ∈ ts, t ∈ ks) → ∀ (u : List FrL) (pre0 : List Lay), flK u pre0 id ts = some z → plugL z.1 z.2 = plugL u (pre0 ++ ts) ∧ ∃ fr u, z.1 = fr :: u ∧ fr.f.id = id := by
   intro ts
   induction ts with
   | nil => intro _ u pre0 h; rw [flK] at h; cases h
   | cons t ts ih2 =>
    intro hm u pre0 h
    rw [flK] at h
    split at h
    ·rename_i z' hz'
     cases h
     exact ih t (hm t List.mem_cons_self) _ _ _ _ hz'
    ·have := ih2 (fun t ht => hm t (List.mem_cons_of_mem _ ht)) _ _ h
     rw [List.append_assoc] at this
     exact this
  exact this ks (fun _ h => h) _ _ hz
theorem flK_plug {id : Int} : ∀ (ts : List Lay) (up : List FrL) (pre : List Lay) (z : ZL), flK up pre id ts = some z → plugL z.1 z.2 = plugL up (pre ++ ts) ∧ ∃ fr u, z.1 = fr :: u ∧ fr.f.id = id
 | [], up, pre, z, h => by rw [flK] at h; cases h
 | t :: ts, up, pre, z, h => by
  rw [flK] at h
  split at h
  ·rename_i z' hz'
   cases h
   exact fl_plug id t _ _ _ _ hz'
  ·have := flK_plug ts _ _ _ h
   rw [List.append_assoc] at this
   exact this
theorem fl_cases (id : Int) (D : List Lay) : flK [] [] id D = none ∨ ∃ fr u ks, flK [] [] id D = some (fr :: u, ks) ∧ fr.f.id = id ∧ plugL (fr :: u) ks = D := by
 cases h : flK [] [] id D with
 | none => exact .inl rfl
 | some z =>
  obtain ⟨h1, fr, u, h2, h3⟩ := flK_plug D _ _ z h
  obtain ⟨z1, z2⟩ := z
  simp only at h2 h1
  subst h2
  exact .inr ⟨fr, u, z2, rfl, h3, h1⟩
theorem Inv.okL {w h next : Int} (hsz : sizedB w h = true) : ∀ t, gT (goodF w h next) t → cntL t ≤ 1000000 → okL t := Lay.ind fun f ks ih hg hc => by
 rw [gT] at hg
 rw [cntL] at hc
 have hlen := len_cnt ks
 obtain ⟨q1, q2, q3, q4, q5⟩ := of_decide_eq_true hsz
 rw [Go.Proofs.okL]
 refine ⟨?_, ?_, ?_, by omega, okKs_iff.2 fun t ht => ih t ht (gKs_iff.1 hg.2.2 t ht) (by have := cnt_mem ht; omega)⟩
 ·by_cases hk : f.kind = 0
  ·obtain ⟨h1, h2, _⟩ := hg.1.ras hk
   obtain ⟨_, _, _, _, h3⟩ := of_decide_eq_true h1
   omega
  ·rw [(hg.1.bare hk).2.2.1]; simp
 ·rcases hg.1.maskLen with h | h
  ·rw [h]; simp
  ·omega
 ·by_cases hk : f.kind = 2
  ·have ht := tabB_kind hg.1.tab
   unfold kindP at ht
   split at ht
   ·have := of_decide_eq_true ht; omega
   ·split at ht
    ·have := of_decide_eq_true ht; omega
    ·split at ht
     ·have := of_decide_eq_true ht; omega
     ·split at ht
      ·have := of_decide_eq_true ht; omega
      ·cases ht
  ·rw [(hg.1.plain hk).2]; simp
theorem Inv.ok {D : DocL} (h : Inv D) : okKs D.ks := okKs_iff.2 fun t ht => Inv.okL h.size t (gKs_iff.1 h.good t ht) (by have := cnt_mem ht; have := h.cnt; omega)
theorem Inv.found {D : DocL} (h : Inv D) {id : Int} {fr : FrL} {u : List FrL} {ks : List Lay} (hf : flK [] [] id D.ks = some (fr :: u, ks)) : goodF D.w D.h D.next fr.f ∧ (fr.f.kind = 1 ∨ ks = []) := by
 have hp := (flK_plug D.ks _ _ _ hf).1
 have hg := h.good
 have hp : plugL (fr :: u) ks = D.ks := hp
 rw [← hp] at hg
 have := (g_node hg).2.2.1
 rw [gT] at this
 exact ⟨this.1, this.2.1⟩
theorem Inv.ras {D : DocL} (h : Inv D) {id : Int} {fr : FrL} {u : List FrL} {ks : List Lay} (hf : flK [] [] id D.ks = some (fr :: u, ks)) : okRas fr.f := fun hk => ⟨((h.found hf).1.ras hk).1, ((h.found hf).1.ras hk).2.1⟩
theorem chg_inv {D : DocL} (h : Inv D) {g : LayF → Int × LayF} {id : Int} (hg : ∀ f, goodF D.w D.h D.next f → (g f).1 = 0 → goodF D.w D.h D.next (g f).2 ∧ (g f).2.id = f.id ∧ (g f).2.kind = f.kind) (h0 : (chgL g D.ks id).1 = 0) : Inv ⟨D.w, D.h, D.next, (chgL g D.ks id).2⟩ := by
 rcases fl_cases id D.ks with hn | ⟨fr, u, ks, hf, hid, hp⟩
 ·rw [chg_none hn] at h0; exact absurd h0 (by decide)
 ·obtain ⟨g1, g2⟩ := h.found hf
  by_cases he : (g fr.f).1 = 0
  ·have hge : g fr.f = (0, (g fr.f).2) := Prod.ext he rfl
   have hc := chg_ok (g := g) hf hge
   obtain ⟨k1, k2, k3⟩ := hg fr.f g1 he
   rw [hc]
   have hgd := h.good
   have hi := h.ids
   have hcn := h.cnt
   have hdp := h.dep
   rw [← hp] at hgd hi hcn hdp
   obtain ⟨u1, u2, u3, u4⟩ := g_node hgd
   rw [gT] at u3
   refine ⟨h.size, h.next, ?_, ?_, ?_, ?_⟩
   ·show cntKs (plugL (⟨fr.pre, (g fr.f).2, fr.post⟩ :: u) ks) ≤ 4096
    rw [cnt_plug] at hcn ⊢; exact hcn
   ·show depKs (plugL (⟨fr.pre, (g fr.f).2, fr.post⟩ :: u) ks) ≤ 64
    rw [dep_plug] at hdp ⊢; exact hdp
   ·refine ((ids_plug _ _).nodup_iff).2 ?_
    have := ((ids_plug _ _).nodup_iff).1 hi
    rw [idsUp] at this ⊢
    rw [k2]; exact this
   ·refine g_set (fr := ⟨fr.pre, (g fr.f).2, fr.post⟩) u1 u2 ?_ u4
    rw [gT]
    exact ⟨k1, by rw [k3]; exact u3.2.1, u3.2.2⟩
  ·have := chg_bad (g := g) hf (show g fr.f = ((g fr.f).1, (g fr.f).2) from rfl) he
   rw [this] at h0; exact absurd h0 he
end Go.Proofs
namespace Go.Proofs
open Go.Sh
theorem look_good {w h next : Int} {e : Ed} {f : LayF} (hg : goodF w h next f) (h0 : (lookF e f).1 = 0) : goodF w h next (lookF e f).2 ∧ (lookF e f).2.id = f.id ∧ (lookF e f).2.kind = f.kind := by
 unfold lookF at h0 ⊢
 split at h0
 ·simp at h0
 ·rename_i c1
  split at h0
  ·simp at h0
  ·rename_i c2
   rw [if_neg c1, if_neg c2]
   refine ⟨⟨hg.id, hg.kind, by show 0 ≤ e.n ∧ e.n ≤ 255; omega, by show 0 ≤ e.m ∧ e.m ≤ 11; omega, hg.maskLen, hg.maskV, hg.bare, hg.plain, fun hk => ?_, hg.ras, hg.tab⟩, rfl, rfl⟩
   show e.m = 0
   exact Decidable.byContradiction fun hm => c2 ⟨hk, hm⟩
theorem hide_good {w h next : Int} {e : Ed} {f : LayF} (hg : goodF w h next f) (h0 : (hideF e f).1 = 0) : goodF w h next (hideF e f).2 ∧ (hideF e f).2.id = f.id ∧ (hideF e f).2.kind = f.kind := by
 unfold hideF at h0 ⊢
 split at h0
 ·simp at h0
 ·rename_i c1
  rw [if_neg c1]
  exact ⟨⟨hg.id, hg.kind, hg.opacity, hg.mode, hg.maskLen, hg.maskV, hg.bare, hg.plain, hg.adj, hg.ras, hg.tab⟩, rfl, rfl⟩
theorem paint_good {w h next : Int} {e : Ed} {f : LayF} (hg : goodF w h next f) (h0 : (paintF e f).1 = 0) : goodF w h next (paintF e f).2 ∧ (paintF e f).2.id = f.id ∧ (paintF e f).2.kind = f.kind := by
 unfold paintF at h0 ⊢
 split at h0
 ·simp at h0
 rename_i c1
 split at h0
 ·simp at h0
 rename_i c2
 split at h0
 ·simp at h0
 rename_i c3
 split at h0
 ·simp at h0
 rename_i c4
 rw [if_neg c1, if_neg c2, if_neg c3, if_neg c4]
 refine ⟨⟨hg.id, hg.kind, hg.opacity, hg.mode, hg.maskLen, hg.maskV, fun hk => absurd hk c1, hg.plain, hg.adj, fun hk => ?_, hg.tab⟩, rfl, rfl⟩
 obtain ⟨r1, r2, r3, r4⟩ := hg.ras hk
 refine ⟨r1, ?_, ?_, r4⟩
 ·show ((paintP e f.w f.p).length : Int) = _
  unfold paintP; rw [List.length_map, List.length_range]; exact r2
 ·show (paintP e f.w f.p).all pixelB = true
  rw [List.all_eq_true]
  intro v hv
  unfold paintP at hv
  obtain ⟨q, hq, rfl⟩ := List.mem_map.1 hv
  have hql := List.mem_range.1 hq
  split
  ·rename_i hin
   have hr := idxP_rng hin
   have hl : (e.p.length : Int) = e.w * e.h := Decidable.byContradiction fun hh => c2 (.inr (.inr (.inr (.inr hh))))
   have hlt : (idxP e f.w q).toNat < e.p.length := by omega
   rw [List.getD_eq_getElem?_getD, List.getElem?_eq_getElem hlt]
   have hc3 : e.p.any (fun v => !pixelB v) = false := by simpa using c3
   have := List.any_eq_false.1 hc3 _ (List.getElem_mem hlt)
   simpa using this
  ·rw [List.getD_eq_getElem?_getD, List.getElem?_eq_getElem hql]
   exact List.all_eq_true.1 r3 _ (List.getElem_mem hql)
theorem mask_good {w h next : Int} (hsz : sizedB w h = true) {e : Ed} {f : LayF} (hg : goodF w h next f) (h0 : (maskF w h e f).1 = 0) : goodF w h next (maskF w h e f).2 ∧ (maskF w h e f).2.id = f.id ∧ (maskF w h e f).2.kind = f.kind := by
 obtain ⟨q1, q2, q3, q4, q5⟩ := of_decide_eq_true hsz
 have hpos : 0 ≤ w * h := Int.mul_nonneg (by omega) (by omega)
 unfold maskF at h0 ⊢
 split at h0
 ·simp at h0
 rename_i c1
 rw [if_neg c1]
 split at h0
 ·rename_i c2
  rw [if_pos c2]
  exact ⟨⟨hg.id, hg.kind, hg.opacity, hg.mode, .inl rfl, fun _ hc => (by cases hc), hg.bare, hg.plain, hg.adj, hg.ras, hg.tab⟩, rfl, rfl⟩
 rename_i c2
 rw [if_neg c2]
 split at h0
 ·simp at h0
 rename_i c3
 rw [if_neg c3]
 refine ⟨⟨hg.id, hg.kind, hg.opacity, hg.mode, .inr ?_, fun c hc => ?_, hg.bare, hg.plain, hg.adj, hg.ras, hg.tab⟩, rfl, rfl⟩
 ·show ((maskL w h (fun x y => withinB e.shape x y != (e.n == 1))).length : Int) = w * h
  unfold maskL; rw [List.length_map, List.length_range]; omega
 ·unfold maskL at hc
  obtain ⟨q, hq, rfl⟩ := List.mem_map.1 hc
  split
  ·exact .inr rfl
  ·exact .inl rfl
theorem place_good {w h next : Int} {e : Ed} {f : LayF} (hg : goodF w h next f) (h0 : (placeF e f).1 = 0) : goodF w h next (placeF e f).2 ∧ (placeF e f).2.id = f.id ∧ (placeF e f).2.kind = f.kind := by
 unfold placeF at h0 ⊢
 split at h0
 ·simp at h0
 rename_i c1
 split at h0
 ·simp at h0
 rename_i c2
 split at h0
 ·rename_i c3; exact absurd h0 c3
 rename_i c3
 rw [if_neg c1, if_neg c2, if_neg c3]
 refine ⟨⟨hg.id, hg.kind, hg.opacity, hg.mode, hg.maskLen, hg.maskV, fun hk => absurd hk c1, hg.plain, hg.adj, fun hk => ?_, hg.tab⟩, rfl, rfl⟩
 obtain ⟨r1, r2, r3, r4⟩ := hg.ras hk
 exact ⟨r1, r2, r3, Decidable.byContradiction c3⟩
theorem adjust_good {w h next : Int} {e : Ed} {f : LayF} (hg : goodF w h next f) (h0 : (adjustF e f).1 = 0) : goodF w h next (adjustF e f).2 ∧ (adjustF e f).2.id = f.id ∧ (adjustF e f).2.kind = f.kind := by
 unfold adjustF at h0 ⊢
 split at h0
 ·simp at h0
 rename_i c1
 split at h0
 ·simp at h0
 rename_i c2
 rw [if_neg c1, if_neg c2]
 exact ⟨⟨hg.id, hg.kind, hg.opacity, hg.mode, hg.maskLen, hg.maskV, hg.bare, fun hk => absurd hk c1, hg.adj, hg.ras, by simpa using c2⟩, rfl, rfl⟩
theorem home_cases (D : List Lay) (to : Int) {v : List FrL} {kh : List Lay} (h : homeL D to = (0, v, kh)) : plugL v kh = D ∧ ∀ {G : LayF → Prop}, gKs G D → gUp G v ∧ gKs G kh := by
 unfold homeL at h
 split at h
 ·cases h; exact ⟨rfl, fun hg => ⟨trivial, hg⟩⟩
 ·rcases fl_cases to D with hn | ⟨fr, u, ks, hf, hid, hp⟩
  ·rw [hn] at h; cases h
  ·rw [hf] at h
   simp only at h
   split at h
   ·rename_i hk
    cases h
    refine ⟨hp, fun {G} hg => ?_⟩
    rw [← hp] at hg
    obtain ⟨u1, u2, u3, u4⟩ := g_node hg
    rw [gT] at u3
    exact ⟨⟨u2, u4, u3.1, hk, u1⟩, u3.2.2⟩
   ·cases h
theorem home_tri {D : List Lay} {to : Int} (h : (homeL D to).1 = 0) : homeL D to = (0, (homeL D to).2.1, (homeL D to).2.2) := by
 rw [← h]
theorem put_ok {v : List FrL} {kh : List Lay} {a : Int} {l : Lay} (h0 : (putL v kh a l).1 = 0) : ∃ i, atL a kh.length = some i ∧ (putL v kh a l).2 = plugL v (kh.take i ++ l :: kh.drop i) ∧ depKs (plugL v (kh.take i ++ l :: kh.drop i)) ≤ 64 := by
 unfold putL at h0 ⊢
 split at h0
 ·simp at h0
 ·rename_i i hi
  refine ⟨i, hi, rfl, ?_⟩
  simp only at h0
  split at h0
  ·simp at h0
  ·omega
theorem put_ids (v : List FrL) (kh : List Lay) (i : Nat) (l : Lay) : (idsKs (plugL v (kh.take i ++ l :: kh.drop i))).Perm (idsT l ++ idsKs (plugL v kh)) := by
 refine (ids_plug _ _).trans ?_
 refine List.Perm.trans ?_ (List.Perm.append_left _ (ids_plug v kh).symm)
 refine List.perm_iff_count.2 fun x => ?_
 have h := idsKs_app (kh.take i) (kh.drop i)
 rw [List.take_append_drop] at h
 rw [h]
 simp only [idsKs_app, idsKs, List.count_append]
 ac_rfl
theorem put_cnt (v : List FrL) (kh : List Lay) (i : Nat) (l : Lay) : cntKs (plugL v (kh.take i ++ l :: kh.drop i)) = cntL l + cntKs (plugL v kh) := by
 rw [cnt_plug, cnt_plug, cntKs_app, cntKs]
 have h := cntKs_app (kh.take i) (kh.drop i)
 rw [List.take_append_drop] at h
 omega
theorem put_g {G : LayF → Prop} {v : List FrL} {kh : List Lay} {i : Nat} {l : Lay} (h1 : gUp G v) (h2 : gKs G kh) (h3 : gT G l) : gKs G (plugL v (kh.take i ++ l :: kh.drop i)) := by
 refine g_plug h1 ?_
 have h := gKs_app (G := G) (a := kh.take i) (b := kh.drop i)
 rw [List.take_append_drop] at h
 rw [gKs_app, gKs]
 exact ⟨(h.1 h2).1, h3, (h.1 h2).2⟩
theorem ids_lt {w h next : Int} : ∀ t, gT (goodF w h next) t → ∀ x ∈ idsT t, 1 ≤ x ∧ x < next := Lay.ind fun f ks ih hg x hx => by
 rw [gT] at hg
 rw [idsT] at hx
 rcases List.mem_cons.1 hx with rfl | hx
 ·exact hg.1.id
 ·have : ∀ (ts : List Lay), (∀ t ∈ ts, t ∈ ks) → x ∈ idsKs ts → 1 ≤ x ∧ x < next := by
   intro ts
   induction ts with
   | nil => intro _ h; cases h
   | cons t ts ih2 =>
    intro hm h
    rw [idsKs, List.mem_append] at h
    rcases h with h | h
    ·exact ih t (hm t List.mem_cons_self) (gKs_iff.1 hg.2.2 t (hm t List.mem_cons_self)) x h
    ·exact ih2 (fun t ht => hm t (List.mem_cons_of_mem _ ht)) h
  exact this ks (fun _ h => h) hx
theorem ids_ltKs {w h next : Int} : ∀ {ts : List Lay}, gKs (goodF w h next) ts → ∀ x ∈ idsKs ts, 1 ≤ x ∧ x < next
 | [], _, x, hx => by cases hx
 | t :: ts, hg, x, hx => by
  rw [gKs] at hg
  rw [idsKs, List.mem_append] at hx
  rcases hx with hx | hx
  ·exact ids_lt t hg.1 x hx
  ·exact ids_ltKs hg.2 x hx
theorem good_next {w h next : Int} {f : LayF} (hg : goodF w h next f) : goodF w h (next + 1) f := ⟨by have := hg.id; omega, hg.kind, hg.opacity, hg.mode, hg.maskLen, hg.maskV, hg.bare, hg.plain, hg.adj, hg.ras, hg.tab⟩
theorem pixel0 : pixelB 0 = true := by decide
theorem new_good {w h next : Int} {e : Ed} (hnx : 1 ≤ next) (h1 : ¬ (e.n < 0 ∨ e.n > 2)) (h2 : ¬ (e.n = 0 ∧ sizedB e.w e.h = false)) : goodF w h (next + 1) (newL next e) := by
 refine ⟨⟨hnx, by show next < next + 1; omega⟩, by show 0 ≤ e.n ∧ e.n ≤ 2; omega, ⟨by show (0 : Int) ≤ 255; decide, by show (255 : Int) ≤ 255; decide⟩, ⟨by show (0 : Int) ≤ 0; decide, by show (0 : Int) ≤ 11; decide⟩, .inl rfl, fun _ hc => (by cases hc), fun hk => ?_, fun _ => ⟨rfl, rfl⟩, fun _ => rfl, fun hk => ?_, by show tabB 2 [] = true; decide⟩
 ·have hk : e.n ≠ 0 := hk
  unfold newL; rw [if_neg hk, if_neg hk, if_neg hk]; exact ⟨rfl, rfl, rfl, rfl, rfl⟩
 ·have hk : e.n = 0 := hk
  have hsz : sizedB e.w e.h = true := by
   cases hs : sizedB e.w e.h with
   | true => rfl
   | false => exact absurd ⟨hk, hs⟩ h2
  obtain ⟨q1, q2, q3, q4, q5⟩ := of_decide_eq_true hsz
  have hpos : 0 ≤ e.w * e.h := Int.mul_nonneg (by omega) (by omega)
  unfold newL
  rw [if_pos hk, if_pos hk, if_pos hk]
  refine ⟨hsz, by rw [List.length_replicate]; exact Int.toNat_of_nonneg hpos, ?_, show (backM oneM).1 = 0 from by decide⟩
  rw [List.all_eq_true]
  intro v hv
  rw [(List.mem_replicate.1 hv).2]
  exact pixel0
theorem add_inv {D : DocL} (h : Inv D) {e : Ed} (h0 : (addL D.next D.ks e).1 = 0) : Inv ⟨D.w, D.h, D.next + 1, (addL D.next D.ks e).2⟩ := by
 unfold addL at h0 ⊢
 split at h0
 ·simp at h0
 rename_i c1
 split at h0
 ·simp at h0
 rename_i c2
 split at h0
 ·rename_i c3; exact absurd h0 c3
 rename_i c3
 split at h0
 ·rename_i c4; exact absurd h0 c4
 rename_i c4
 split at h0
 ·simp at h0
 rename_i c5
 rw [if_neg c1, if_neg c2, if_neg c3, if_neg c4, if_neg c5]
 have hho := home_tri (Decidable.byContradiction c3)
 obtain ⟨hp, hgu⟩ := home_cases D.ks e.to hho
 obtain ⟨i, hi, hpu, hdp⟩ := put_ok (Decidable.byContradiction c4)
 obtain ⟨g1, g2⟩ := hgu (gKs_imp (fun f => good_next) h.good)
 rw [hpu]
 refine ⟨h.size, by have := h.next; show 1 ≤ D.next + 1; omega, ?_, hdp, ?_, ?_⟩
 ·show cntKs (plugL _ _) ≤ 4096
  rw [put_cnt, hp, cntL, cntKs]; omega
 ·refine ((put_ids _ _ i _).nodup_iff).2 ?_
  rw [hp, idsT, idsKs]
  show ((newL D.next e).id :: ([] ++ idsKs D.ks)).Nodup
  rw [List.nil_append, List.nodup_cons]
  exact ⟨fun hm => by
   have h1 := (ids_ltKs h.good _ hm).2
   have h2 : (newL D.next e).id = D.next := rfl
   omega, h.ids⟩
 ·refine put_g g1 g2 ?_
  rw [gT]
  exact ⟨new_good h.next c1 c2, .inr rfl, trivial⟩
theorem out_inv {D : DocL} (h : Inv D) {id : Int} {fr : FrL} {u : List FrL} {ks : List Lay} (hf : flK [] [] id D.ks = some (fr :: u, ks)) :
    Inv ⟨D.w, D.h, D.next, plugL u (fr.pre ++ fr.post)⟩ ∧ gT (goodF D.w D.h D.next) (.mk fr.f ks) ∧ (idsT (.mk fr.f ks) ++ idsKs (plugL u (fr.pre ++ fr.post))).Nodup ∧ cntL (.mk fr.f ks) + cntKs (plugL u (fr.pre ++ fr.post)) = cntKs D.ks := by
  have hp : plugL (fr :: u) ks = D.ks := (flK_plug D.ks _ _ _ hf).1
  have hgd := h.good
  have hi := h.ids
  have hcn := h.cnt
  have hdp := h.dep
  rw [← hp] at hgd hi hcn hdp
  obtain ⟨u1, u2, u3, u4⟩ := g_node hgd
  have hids : (idsKs (plugL (fr :: u) ks)).Perm (idsT (.mk fr.f ks) ++ idsKs (plugL u (fr.pre ++ fr.post))) := by
    refine (ids_plug _ _).trans (List.Perm.trans ?_ (List.Perm.append_left _ (ids_plug u _).symm))
    refine List.perm_iff_count.2 fun x => ?_
    simp only [idsUp, idsT, idsKs_app, List.count_append, List.count_cons]
    ac_rfl
  have hno := (hids.nodup_iff).1 hi
  have hct : cntL (.mk fr.f ks) + cntKs (plugL u (fr.pre ++ fr.post)) = cntKs D.ks := by
    rw [← hp, cnt_plug, cnt_plug, cntUp, cntKs_app, cntL]; omega
  refine ⟨⟨h.size, h.next, by have := h.cnt; show cntKs (plugL u (fr.pre ++ fr.post)) ≤ 4096; omega, ?_, (List.nodup_append.1 hno).2.1, ?_⟩, u3, hno, hct⟩
  · show depKs (plugL u (fr.pre ++ fr.post)) ≤ 64
    rw [dep_plug] at hdp ⊢
    refine Nat.le_trans ?_ hdp
    rw [depUp, depKs_app]
    exact depUp_mono u (by omega)
  · exact g_plug u1 (gKs_app.2 ⟨u2, u4⟩)
theorem move_inv {D : DocL} (h : Inv D) {e : Ed} (h0 : (moveL D.ks e).1 = 0) : Inv ⟨D.w, D.h, D.next, (moveL D.ks e).2⟩ := by
 rcases fl_cases e.id D.ks with hn | ⟨fr, u, ks, hf, hid, hp⟩
 ·unfold moveL at h0; rw [hn] at h0; simp at h0
 ·obtain ⟨o1, o2, o3, o4⟩ := out_inv h hf
  unfold moveL at h0 ⊢
  rw [hf] at h0 ⊢
  simp only at h0 ⊢
  split at h0
  ·rename_i c; exact absurd h0 c
  rename_i c1
  split at h0
  ·simp at h0
  rename_i c2
  split at h0
  ·rename_i c; exact absurd h0 c
  rename_i c3
  rw [if_neg c1, if_neg c2, if_neg c3]
  have hho := home_tri (Decidable.byContradiction c3)
  obtain ⟨hp2, hgu⟩ := home_cases _ e.to hho
  obtain ⟨i, hi, hpu, hdp⟩ := put_ok h0
  obtain ⟨g1, g2⟩ := hgu o1.good
  rw [hpu]
  refine ⟨h.size, h.next, ?_, hdp, ?_, put_g g1 g2 o2⟩
  ·show cntKs (plugL _ _) ≤ 4096
   have := h.cnt
   rw [put_cnt, hp2]; omega
  ·refine ((put_ids _ _ i _).nodup_iff).2 ?_
   rw [hp2]; exact o3
theorem do_inv {D : DocL} (h : Inv D) {e : Ed} (h0 : (doD D e).1 = 0) : Inv (doD D e).2 := by
 unfold doD at h0 ⊢
 by_cases hd : (doL D.w D.h D.next D.ks e).1 ≠ 0
 ·rw [if_pos hd] at h0; exact absurd h0 hd
 rw [if_neg hd]
 unfold doL at hd ⊢
 by_cases hk : e.kind < 1 ∨ e.kind > 9
 ·rw [if_pos hk] at hd; simp at hd
 rw [if_neg hk] at hd ⊢
 by_cases hs : (stepL D.w D.h D.next D.ks e).1 ≠ 0
 ·rw [if_pos hs] at hd; exact absurd hs hd
 rw [if_neg hs]
 have hs := Decidable.byContradiction hs
 show Inv ⟨D.w, D.h, nextL D.next e, (stepL D.w D.h D.next D.ks e).2⟩
 unfold stepL at hs ⊢
 by_cases k1 : e.kind = 1
 ·rw [if_pos k1] at hs ⊢; rw [show nextL D.next e = D.next + 1 from by unfold nextL; rw [if_pos k1]]; exact add_inv h hs
 rw [if_neg k1] at hs ⊢
 rw [show nextL D.next e = D.next from by unfold nextL; rw [if_neg k1]]
 by_cases k2 : e.kind = 2
 ·rw [if_pos k2] at hs ⊢
  rcases fl_cases e.id D.ks with hn | ⟨fr, u, ks, hf, hid, hp⟩
  ·unfold removeL at hs; rw [hn] at hs; simp at hs
  ·have := (out_inv h hf).1
   unfold removeL; rw [hf]; exact this
 rw [if_neg k2] at hs ⊢
 by_cases k3 : e.kind = 3
 ·rw [if_pos k3] at hs ⊢; exact move_inv h hs
 rw [if_neg k3] at hs ⊢
 by_cases k4 : e.kind = 4
 ·rw [if_pos k4] at hs ⊢; exact chg_inv h (fun f => paint_good) hs
 rw [if_neg k4] at hs ⊢
 by_cases k5 : e.kind = 5
 ·rw [if_pos k5] at hs ⊢; exact chg_inv h (fun f => look_good) hs
 rw [if_neg k5] at hs ⊢
 by_cases k6 : e.kind = 6
 ·rw [if_pos k6] at hs ⊢; exact chg_inv h (fun f => hide_good) hs
 rw [if_neg k6] at hs ⊢
 by_cases k7 : e.kind = 7
 ·rw [if_pos k7] at hs ⊢; exact chg_inv h (fun f => mask_good h.size) hs
 rw [if_neg k7] at hs ⊢
 by_cases k8 : e.kind = 8
 ·rw [if_pos k8] at hs ⊢; exact chg_inv h (fun f => place_good) hs
 rw [if_neg k8] at hs ⊢
 by_cases k9 : e.kind = 9
 ·rw [if_pos k9] at hs ⊢; exact chg_inv h (fun f => adjust_good) hs
 ·rw [if_neg k9] at hs; simp at hs
theorem new_inv {w h : Int} (hs : sizedB w h = true) : Inv ⟨w, h, 1, []⟩ := ⟨hs, Int.le_refl _, by simp [cntKs], by simp [depKs], by simp [idsKs], trivial⟩
theorem do_next {D : DocL} {e : Ed} (h0 : (doD D e).1 = 0) : D.next ≤ (doD D e).2.next ∧ (doD D e).2.next ≤ D.next + 1 ∧ (doD D e).2.w = D.w ∧ (doD D e).2.h = D.h := by
 unfold doD at h0 ⊢
 by_cases hd : (doL D.w D.h D.next D.ks e).1 ≠ 0
 ·rw [if_pos hd] at h0; exact absurd h0 hd
 rw [if_neg hd]
 unfold doL at hd ⊢
 by_cases hk : e.kind < 1 ∨ e.kind > 9
 ·rw [if_pos hk] at hd; simp at hd
 rw [if_neg hk] at hd ⊢
 by_cases hs : (stepL D.w D.h D.next D.ks e).1 ≠ 0
 ·rw [if_pos hs] at hd; exact absurd hs hd
 rw [if_neg hs]
 refine ⟨?_, ?_, rfl, rfl⟩ <;> (show _; unfold nextL; split <;> simp <;> omega)
end Go.Proofs
namespace Go.Proofs
open Go.Sh
variable {H0 H : Heap} {σ : List Rs} {R : Value → Heap → Prop}
def DocR (H : Heap) (A : Array Value) (D : DocL) : Prop := ∃ K ks, A = docA D.w D.h D.next K ∧ grp H K ks ∧ layKs ks = D.ks
theorem DocR.ext {H H' : Heap} {A : Array Value} {D : DocL} (h : DocR H A D) (he : Ext H H') : DocR H' A D := let ⟨K, ks, h1, h2, h3⟩ := h; ⟨K, ks, h1, h2.ext he, h3⟩
theorem DocR.size {H : Heap} {A : Array Value} {D : DocL} (h : DocR H A D) : A.size = 4 := by obtain ⟨K, ks, rfl, _⟩ := h; rfl
theorem DocR.one {H : Heap} {A : Array Value} {D : DocL} (h : DocR H A D) : ∀ v ∈ A.toList, v.oneCell' = true := by obtain ⟨K, ks, rfl, _⟩ := h; exact docA_one _ _ _ _
theorem DocR.zero (H : Heap) : DocR H (docA 0 0 0 .nil) zeroD := ⟨.nil, [], rfl, grp.nil H, rfl⟩
theorem DocR.new (H : Heap) (w h : Int) : DocR H (docA w h 1 .nil) ⟨w, h, 1, []⟩ := ⟨.nil, [], rfl, grp.nil H, rfl⟩
theorem c19 {A : Array Value} {D : DocL} (hd : DocR H A D) (hc : cntKs D.ks ≤ 1000000000) (hR : ∀ H', Ext H H' → R (.int .i64 (cntKs D.ks)) H') : CallsH Try.prog 19 #[.agg A] H R := by
 obtain ⟨K, ks, rfl, hg, hl⟩ := hd
 refine Try.s19 ?_
 unfold Try.S19
 refine (St.nil H).alcE fun b2 H3 he3 hs3 => ⟨_, _, _, hs3.get 0 rfl (j := 3) rfl, ?_⟩
 refine c28 (K := K) (hg.ext he3) (by rw [hl]; omega) fun H6 he6 => ⟨_, rfl, ?_⟩
 rw [hl]; exact hR H6 (he3.trans he6)
def zeroF : LayF := ⟨0, 0, false, 0, 0, 0, 0, [], [], ⟨0, 0, 0, 0, 0, 0⟩, false, 0, []⟩
def findL (D : List Lay) (id : Int) : Option Lay :=
 match flK [] [] id D with
 | some (fr :: _, ks) => some (.mk fr.f ks)
 | _ => none
theorem rd_root {K : Sl3} {ks : List T} (hg : grp H K ks) : rdT H (rootT K ks) := by
 unfold rootT
 rw [rdT]
 exact ⟨⟨rfl, fun i v h => by simp [rootF, ints] at h⟩, ⟨rfl, fun i v h => by simp [rootF, kints] at h⟩, ⟨rfl, fun i v h => by simp [rootF, ints] at h⟩, hg⟩
theorem fz_rd (id : Int) : ∀ (t : T) {H : Heap} (up : List Fr) (K : Sl3) (pre post : List T) (z : Z), grp H K (pre ++ t :: post) → fzT up K pre post id t = some z → (∃ fr u, z.1 = fr :: u ∧ ∃ a, fr.ad = some a ∧ rowIn H a (cellsT (fr.node z.2.1 z.2.2)).toArray ∧ rdT H (fr.node z.2.1 z.2.2)) ∧
    (∀ (fp : Fr) (up' : List Fr) (ap : Addr) (Kp : Sl3) (ksp : List T), up = fp :: up' → fp.ad = some ap → rowIn H ap (cellsT (fp.node Kp ksp)).toArray → ∃ fr fq u, z.1 = fr :: fq :: u ∧ ∃ aq Kq ksq, fq.ad = some aq ∧ rowIn H aq (cellsT (fq.node Kq ksq)).toArray) := by
  refine T.ind fun f P M A K' ks ih {H} up K pre post z hg hz => ?_
  obtain ⟨a, h1, h2, h3⟩ := hg.get (i := pre.length) (t := .mk f P M A K' ks) (by rw [List.getElem?_append_right (Nat.le_refl _), Nat.sub_self]; rfl)
  have had : (⟨K, pre, f, P, M, A, post⟩ : Fr).ad = some (a.add (pre.length * 19)) := by unfold Fr.ad; rw [h1]; rfl
  rw [fzT] at hz
  split at hz
  · cases hz
    exact ⟨⟨_, _, rfl, _, had, h2, h3⟩, fun fp up' ap Kp ksp hup hap hrow => ⟨_, fp, up', by rw [hup], ap, Kp, ksp, hap, hrow⟩⟩
  · have : ∀ (ts done : List T), ks = done ++ ts → ∀ (u : List Fr), fzK (⟨K, pre, f, P, M, A, post⟩ :: up) K' done id ts = some z → (∃ fr u, z.1 = fr :: u ∧ ∃ a, fr.ad = some a ∧ rowIn H a (cellsT (fr.node z.2.1 z.2.2)).toArray ∧ rdT H (fr.node z.2.1 z.2.2)) ∧
        ∃ fr fq u, z.1 = fr :: fq :: u ∧ ∃ aq Kq ksq, fq.ad = some aq ∧ rowIn H aq (cellsT (fq.node Kq ksq)).toArray := by
      intro ts
      induction ts with
      | nil => intro done _ u h; rw [fzK] at h; cases h
      | cons t ts ih2 =>
        intro done hd u h
        rw [fzK] at h
        split at h
        · rename_i z' hz'
          cases h
          obtain ⟨g1, g2⟩ := ih t (by rw [hd]; simp) _ _ _ _ _ (by rw [← hd]; exact rdT.grp h3) hz'
          exact ⟨g1, g2 _ _ _ K' ks rfl had h2⟩
        · exact ih2 (done ++ [t]) (by rw [hd]; simp) u h
    obtain ⟨g1, g2⟩ := this ks [] rfl [] hz
    exact ⟨g1, fun _ _ _ _ _ _ _ _ => g2⟩
theorem fzK_rd {id : Int} : ∀ (ts : List T) {H : Heap} (up : List Fr) (K : Sl3) (pre : List T) (z : Z), grp H K (pre ++ ts) → fzK up K pre id ts = some z → (∃ fr u, z.1 = fr :: u ∧ ∃ a, fr.ad = some a ∧ rowIn H a (cellsT (fr.node z.2.1 z.2.2)).toArray ∧ rdT H (fr.node z.2.1 z.2.2)) ∧
    (∀ (fp : Fr) (up' : List Fr) (ap : Addr) (Kp : Sl3) (ksp : List T), up = fp :: up' → fp.ad = some ap → rowIn H ap (cellsT (fp.node Kp ksp)).toArray → ∃ fr fq u, z.1 = fr :: fq :: u ∧ ∃ aq Kq ksq, fq.ad = some aq ∧ rowIn H aq (cellsT (fq.node Kq ksq)).toArray)
  | [], H, up, K, pre, z, _, h => by rw [fzK] at h; cases h
  | t :: ts, H, up, K, pre, z, hg, h => by
    rw [fzK] at h
    split at h
    · rename_i z' hz'
      cases h
      exact fz_rd id t _ _ _ _ _ hg hz'
    · exact fzK_rd ts up K (pre ++ [t]) z (by rw [List.append_assoc]; exact hg) h
theorem root_find {b : Nat} {K : Sl3} {ks : List T} {H1 : Heap} (hg : grp H K ks) (he : Ext H H1) (hb : H1[b]? = some (.cells (cellsT (rootT K [])).toArray 70)) {id : Int} (hc : cntKs (layKs ks) ≤ 1000000000)
    (hR : ∀ H', Ext H1 H' → (∀ z, fzK [rootFr b] K [] id ks = some z → (resZ (some z)).1 ≠ none) →
      R (.tuple #[.pointer (resZ (fzK [rootFr b] K [] id ks)).1, .pointer (resZ (fzK [rootFr b] K [] id ks)).2.1, .int .i64 (resZ (fzK [rootFr b] K [] id ks)).2.2]) H') : CallsH Try.prog 44 #[.pointer (some ⟨b, 0, none⟩), .int .i64 id] H1 R :=
  c44 (rootT K ks) (fr := rootFr b) (up := []) (root_ad b) (rowIn_whole hb) (rd_root (hg.ext he)) (by show cntKs (layKs ks) ≤ _; omega) hR
def LayR (H : Heap) (A : Array Value) (l : Lay) : Prop := ∃ t, A = (cellsT t).toArray ∧ rdT H t ∧ layT t = l
theorem LayR.ext {H H' : Heap} {A : Array Value} {l : Lay} (h : LayR H A l) (he : Ext H H') : LayR H' A l := let ⟨t, h1, h2, h3⟩ := h; ⟨t, h1, rdT.ext he t h2, h3⟩
theorem LayR.zero (H : Heap) : LayR H (cellsL zeroF Sl3.nil.v Sl3.nil.v Sl3.nil.v Sl3.nil.v).toArray (.mk zeroF []) := by
 refine ⟨.mk zeroF .nil .nil .nil .nil [], rfl, ?_, rfl⟩
 rw [rdT]
 exact ⟨⟨rfl, fun i v h => by simp [zeroF, ints] at h⟩, ⟨rfl, fun i v h => by simp [zeroF, kints] at h⟩, ⟨rfl, fun i v h => by simp [zeroF, ints] at h⟩, grp.nil H⟩
theorem c29 {A : Array Value} {D : DocL} {id : Int} (hd : DocR H A D) (hc : cntKs D.ks ≤ 1000000000) (hok : okKs D.ks) (hokf : ∀ l, findL D.ks id = some l → okL l)
    (h0 : findL D.ks id = none → ∀ H', Ext H H' → R (.tuple #[.agg (cellsL zeroF Sl3.nil.v Sl3.nil.v Sl3.nil.v Sl3.nil.v).toArray, .bool false]) H')
    (h1 : ∀ l, findL D.ks id = some l → ∀ t' H', layT t' = l → St H H' (resT t' ++ []) → R (.tuple #[.agg (cellsT t').toArray, .bool true]) H') : CallsH Try.prog 29 #[.agg A, .int .i64 id] H R := by
  obtain ⟨K, ks, rfl, hg, hl⟩ := hd
  rw [← hl] at hc hok hokf h0 h1
  refine Try.s29 ?_
  unfold Try.S29
  refine (St.nil H).alc fun b3 H4 hs4 => hs4.alc fun b5 H6 hs6 => ?_
  refine c31 (hs6.block 1 rfl) fun rb H8 hp8 => ⟨_, rfl, ?_⟩
  have he8 := hs6.ext.trans hp8.ext
  refine root_find hg he8 (hp8.block 0 rfl) hc fun H11 he11 hne => ⟨_, _, _, rfl, ?_⟩
  have he := he8.trans he11
  have hs11 := (hs6.step hp8.ext).step he11
  rcases find_cases rb K ks id with ⟨hz, hf⟩ | ⟨fr, u, K', ks', hz, hid, hf⟩
  · rw [hz]
    have hfl : findL (layKs ks) id = none := by unfold findL; rw [hf]
    refine br_t rfl ⟨rfl, hs11.putAll 0 rfl rfl (cellsL_one zeroF .nil .nil .nil .nil) fun H15 hs15 => ⟨(cellsL zeroF Sl3.nil.v Sl3.nil.v Sl3.nil.v Sl3.nil.v).toArray, rfl, rowIn_whole (hs15.block 0 rfl), h0 hfl H15 hs15.ext⟩⟩
  · obtain ⟨⟨fr2, u2, hz2, a2, ha2, hr2, hrd2⟩, _⟩ := fzK_rd ks _ _ _ _ (hg.ext he) hz
    simp only [List.cons.injEq] at hz2
    obtain ⟨rfl, _⟩ := hz2
    have hfl : findL (layKs ks) id = some (layT (fr.node K' ks')) := by unfold findL; rw [hf]; rfl
    have hre : (resZ (fzK [rootFr rb] K [] id ks)).1 = some a2 := by rw [hz, ← ha2]; cases u <;> rfl
    refine br_f (by rw [hre]; rfl) ⟨a2, hre, _, rfl, hr2, ?_⟩
    refine c45 (fr.node K' ks') hrd2 (hokf _ hfl) fun t' H20 hlay hs20 => ⟨_, rfl, by simp [cellsT_len], ?_⟩
    have hs21 := hs11.callR hs20
    refine hs21.putAll 0 rfl (by simp [cellsT_len]) (by simpa using cellsT_one t') fun H22 hs22 => ⟨(cellsT t').toArray, by simp [cellsT_len], rowIn_whole (hs22.block 0 rfl), ?_⟩
    have hd2 : St H H22 (resT t' ++ []) := by rw [List.append_nil]; exact hs22.drop 2
    exact h1 _ hfl t' H22 hlay hd2
end Go.Proofs
namespace Go.Proofs
open Go.Sh
variable {H0 H : Heap} {σ : List Rs} {R : Value → Heap → Prop}
mutual
def sameT : Lay → Lay → Bool
 | .mk f ks, .mk g ls => decide (f = g) && sameKs ks ls
def sameKs : List Lay → List Lay → Bool
 | [], [] => true
 | t :: ts, u :: us => sameT t u && sameKs ts us
 | _, _ => false
end
theorem sameT_iff : ∀ t u, sameT t u = true ↔ t = u := Lay.ind fun f ks ih u => by
 cases u with | mk g ls =>
 rw [sameT, Bool.and_eq_true, decide_eq_true_eq]
 have : ∀ (ts us : List Lay), (∀ t ∈ ts, t ∈ ks) → (sameKs ts us = true ↔ ts = us) := by
  intro ts
  induction ts with
  | nil => intro us _; cases us <;> simp [sameKs]
  | cons t ts ih2 =>
   intro us hm
   cases us with
   | nil => simp [sameKs]
   | cons u us => rw [sameKs, Bool.and_eq_true, ih t (hm t List.mem_cons_self) u, ih2 us fun t ht => hm t (List.mem_cons_of_mem _ ht), List.cons.injEq]
 rw [this ks ls fun _ h => h, Lay.mk.injEq]
theorem sameKs_iff : ∀ {ts us : List Lay}, sameKs ts us = true ↔ ts = us
 | [], [] => by simp [sameKs]
 | [], u :: us => by simp [sameKs]
 | t :: ts, [] => by simp [sameKs]
 | t :: ts, u :: us => by rw [sameKs, Bool.and_eq_true, sameT_iff, sameKs_iff, List.cons.injEq]
def sameD (D E : DocL) : Bool := decide (D.w = E.w) && (decide (D.h = E.h) && (decide (D.next = E.next) && sameKs D.ks E.ks))
theorem sameD_iff {D E : DocL} : sameD D E = true ↔ D = E := by
 unfold sameD
 rw [Bool.and_eq_true, Bool.and_eq_true, Bool.and_eq_true, decide_eq_true_eq, decide_eq_true_eq, decide_eq_true_eq, sameKs_iff]
 cases D; cases E; simp
theorem eq_take {α : Type} {xs ys : List α} {k : Nat} {x y : α} (h : xs.take k = ys.take k) (hx : xs[k]? = some x) (hy : ys[k]? = some y) : xs.take (k + 1) = ys.take (k + 1) ↔ x = y := by
 rw [take_succ hx, take_succ hy, h]; simp
theorem ne_take {α : Type} {xs ys : List α} {k : Nat} (h : xs.take k ≠ ys.take k) : xs ≠ ys := fun hh => h (by rw [hh])
theorem c42 {p q : Option Addr} {l m c d : Nat} {xs ys : List Int} (hx : IS H p l (ints xs)) (hy : IS H q m (ints ys)) (hl : l ≤ 1000000000000) (hR : R (.bool (decide (xs = ys))) H) : CallsH Try.prog 42 #[.slice p l c, .slice q m d] H R := by
 have hxl := hx.length
 have hyl := hy.length
 refine Try.s42 (br_ne (fun h => ?_) fun h => ?_)
 ·rw [decide_eq_false (fun hh => h (by rw [← hxl, ← hyl, hh]))] at hR; exact hR
 ·intro X hX
  have go : ∀ k, k ≤ l → xs.take k = ys.take k → X [.int .i64 (k : Nat)] H := by
   refine upto fun k hk ih ht => hX _ _ (br_dec (fun hlt => ?_) fun hge => ?_)
   ·have hk' : k < l := by omega
    have e1 := List.getElem?_eq_getElem (show k < xs.length by omega)
    have e2 := List.getElem?_eq_getElem (show k < ys.length by omega)
    refine IS.rd (i := (k : Int)) hx (by omega) hlt e1 (IS.rd (i := (k : Int)) hy (by omega) (by omega) e2 ?_)
    refine br_ne (fun hne => ?_) fun heq => ?_
    ·rw [decide_eq_false (ne_take (k := k + 1) fun hh => hne ((eq_take ht e1 e2).1 hh))] at hR; exact hR
    ·rw [wrap_id (by omega) (by omega)]
     exact ih hk' ((eq_take ht e1 e2).2 heq)
   ·have : k = l := by omega
    subst this
    rw [List.take_of_length_le (by omega), List.take_of_length_le (by omega)] at ht
    rw [decide_eq_true ht] at hR; exact hR
  exact go 0 (Nat.zero_le _) rfl
theorem c43 {p q : Option Addr} {l m c d : Nat} {xs ys : List Int} (hx : IS H p l (kints .u8 xs)) (hy : IS H q m (kints .u8 ys)) (hl : l ≤ 1000000000000) (hR : R (.bool (decide (xs = ys))) H) : CallsH Try.prog 43 #[.slice p l c, .slice q m d] H R := by
 have hxl := hx.length
 have hyl := hy.length
 refine Try.s43 (br_ne (fun h => ?_) fun h => ?_)
 ·rw [decide_eq_false (fun hh => h (by rw [← hxl, ← hyl, hh]))] at hR; exact hR
 ·intro X hX
  have go : ∀ k, k ≤ l → xs.take k = ys.take k → X [.int .i64 (k : Nat)] H := by
   refine upto fun k hk ih ht => hX _ _ (br_dec (fun hlt => ?_) fun hge => ?_)
   ·have hk' : k < l := by omega
    have e1 := List.getElem?_eq_getElem (show k < xs.length by omega)
    have e2 := List.getElem?_eq_getElem (show k < ys.length by omega)
    refine IS.rd (i := (k : Int)) hx (by omega) hlt e1 (IS.rd (i := (k : Int)) hy (by omega) (by omega) e2 ?_)
    refine br_ne (fun hne => ?_) fun heq => ?_
    ·rw [decide_eq_false (ne_take (k := k + 1) fun hh => hne ((eq_take ht e1 e2).1 hh))] at hR; exact hR
    ·rw [wrap_id (by omega) (by omega)]
     exact ih hk' ((eq_take ht e1 e2).2 heq)
   ·have : k = l := by omega
    subst this
    rw [List.take_of_length_le (by omega), List.take_of_length_le (by omega)] at ht
    rw [decide_eq_true ht] at hR; exact hR
  exact go 0 (Nat.zero_le _) rfl
def SameOk (t : T) : Prop := ∀ (u : T) {H : Heap} {R : Value → Heap → Prop}, rdT H t → rdT H u → okL (layT t) → (∀ H', Ext H H' → R (.bool (sameT (layT t) (layT u))) H') → CallsH Try.prog 26 #[.agg (cellsT t).toArray, .agg (cellsT u).toArray] H R
theorem equalFunc_of {ks : List T} (ih : ∀ t ∈ ks, SameOk t) {ls : List T} {K L : Sl3} (hg : grp H K ks) (hh : grp H L ls) (ho : okKs (layKs ks)) (hl : ks.length ≤ 1000000000) (hR : ∀ H', Ext H H' → R (.bool (sameKs (layKs ks) (layKs ls))) H') :
    CallsH Try.prog 25 #[.slice K.p K.l K.c, .slice L.p L.l L.c, .func (.func 26) #[] #[]] H R := by
  have hKl := hg.1.1
  have hLl := hh.1.1
  have no : ¬ (layKs ks = layKs ls) → ∀ {H'}, Ext H H' → R (.bool false) H' := fun hn {H'} he => by
    have := hR H' he
    rw [show sameKs (layKs ks) (layKs ls) = false from by rw [Bool.eq_false_iff]; exact fun hh => hn (sameKs_iff.1 hh)] at this
    exact this
  refine Try.s25 (br_ne (fun h => no (fun hh => h (by have := congrArg List.length hh; rw [layKs_len, layKs_len] at this; omega)) (Ext.refl H)) fun h => ?_)
  intro X hX
  have go : ∀ k, k ≤ ks.length → ∀ H1, Ext H H1 → (layKs ks).take k = (layKs ls).take k → X [.int .i64 (k : Nat)] H1 := by
    refine upto fun k hk ihk H1 he ht => hX _ _ (br_dec (fun hlt => ?_) fun hge => ?_)
    · have hk' : k < ks.length := by omega
      have e1 := List.getElem?_eq_getElem hk'
      have e2 := List.getElem?_eq_getElem (show k < ls.length by omega)
      have hm := List.getElem_mem hk'
      generalize ks[k] = t at e1 hm
      generalize ls[k]'(by omega) = u at e2
      obtain ⟨a, h1, h2, h3⟩ := (hg.ext he).get e1
      refine ⟨a, h1, by omega, hlt, (cellsT t).toArray, by simp [cellsT_len], h2, (St.nil H1).alc fun b9 H10 hs10 => ⟨by simp [cellsT_len], hs10.putAll 0 rfl (by simp [cellsT_len]) (by simpa using cellsT_one t) fun H11 hs11 => ?_⟩⟩
      obtain ⟨a', g1, g2, g3⟩ := (hh.ext (he.trans hs11.ext)).get e2
      refine ⟨a', g1, by omega, by omega, (cellsT u).toArray, by simp [cellsT_len], g2, hs11.alc fun b14 H15 hs15 => ⟨by simp [cellsT_len], hs15.putAll 0 rfl (by simp [cellsT_len]) (by simpa using cellsT_one u) fun H16 hs16 => ?_⟩⟩
      refine ⟨_, ?_, rowIn_whole (hs16.block 1 rfl), _, ?_, rowIn_whole (hs16.block 0 rfl), ?_⟩
      · simp [cellsT_len]
      · simp [cellsT_len]
      show CallsH Try.prog 26 #[.agg (cellsT t).toArray, .agg (cellsT u).toArray] H16 _
      refine ih t hm u (rdT.ext hs16.ext t h3) (rdT.ext ((he.trans hs16.ext)) u (rdKs_iff.1 hh.2 u (List.mem_of_getElem? e2))) (okKs_iff.1 ho _ (List.mem_of_getElem? (layKs_get e1))) fun H20 he20 => ⟨_, rfl, br_not (fun hf => ?_) fun htr => ?_⟩
      · refine no (ne_take (k := k + 1) fun hh => ?_) (he.trans (hs16.ext.trans he20))
        have := (eq_take ht (layKs_get e1) (layKs_get e2)).1 hh
        rw [(sameT_iff _ _).2 this] at hf; cases hf
      · rw [wrap_id (by omega) (by omega)]
        exact ihk hk' H20 (he.trans (hs16.ext.trans he20)) ((eq_take ht (layKs_get e1) (layKs_get e2)).2 ((sameT_iff _ _).1 htr))
    · have : k = ks.length := by omega
      subst this
      rw [List.take_of_length_le (by rw [layKs_len]; exact Nat.le_refl _), List.take_of_length_le (by rw [layKs_len]; omega)] at ht
      have := hR H1 he
      rw [sameKs_iff.2 ht] at this
      exact this
  exact go 0 (Nat.zero_le _) H (Ext.refl H) rfl
theorem M6_l {m n : M6} : m.l = n.l ↔ m = n := by
 cases m; cases n; simp [M6.l]
theorem c26 : ∀ t, SameOk t := by
 refine T.ind fun f P M A K ks ih => ?_
 intro u H R hr hu ho hR
 cases u with | mk g P2 M2 A2 K2 ks2 =>
 rw [rdT] at hr hu
 obtain ⟨hP, hM, hA, hK, hks⟩ := hr
 obtain ⟨hP2, hM2, hA2, hK2, hks2⟩ := hu
 rw [layT, okL] at ho
 obtain ⟨o1, o2, o3, o4, o5⟩ := ho
 rw [layKs_len] at o4
 have hPl := hP.length
 have hMl := hM.length
 have hAl := hA.length
 refine Try.s26 ?_
 unfold Try.S26
 refine (St.nil H).alc fun b3 H4 hs4 => hs4.alc fun b5 H6 hs6 => ?_
 have he6 := hs6.ext
 have hsame : sameT (layT (.mk f P M A K ks)) (layT (.mk g P2 M2 A2 K2 ks2)) = (decide (f = g) && sameKs (layKs ks) (layKs ks2)) := rfl
 rw [hsame] at hR
 have bad : f ≠ g → ∀ {H'}, Ext H H' → R (.bool false) H' := fun hn {H'} he => by
  have := hR H' he
  rw [decide_eq_false hn, Bool.false_and] at this; exact this
 intro J hJ
 have jbad : f ≠ g → J [.bool false] H6 := fun hn => hJ false H6 (br_f rfl (bad hn he6))
 refine ⟨_, hs6.get 1 rfl (j := 0) rfl, _, hs6.get 0 rfl (j := 0) rfl, br_eq (fun q0 => ?_) fun q0 => jbad fun hh => q0 (by rw [hh])⟩
 refine ⟨_, hs6.get 1 rfl (j := 1) rfl, _, hs6.get 0 rfl (j := 1) rfl, br_eq (fun q1 => ?_) fun q1 => jbad fun hh => q1 (by rw [hh])⟩
 refine ⟨_, hs6.get 1 rfl (j := 2) rfl, _, hs6.get 0 rfl (j := 2) rfl, br_i (fun q2 => ?_) fun q2 => jbad fun hh => by rw [hh] at q2; simp at q2⟩
 refine ⟨_, hs6.get 1 rfl (j := 3) rfl, _, hs6.get 0 rfl (j := 3) rfl, br_eq (fun q3 => ?_) fun q3 => jbad fun hh => q3 (by rw [hh])⟩
 refine ⟨_, hs6.get 1 rfl (j := 4) rfl, _, hs6.get 0 rfl (j := 4) rfl, br_eq (fun q4 => ?_) fun q4 => jbad fun hh => q4 (by rw [hh])⟩
 refine ⟨_, hs6.get 1 rfl (j := 5) rfl, _, hs6.get 0 rfl (j := 5) rfl, br_eq (fun q5 => ?_) fun q5 => jbad fun hh => q5 (by rw [hh])⟩
 refine ⟨_, hs6.get 1 rfl (j := 6) rfl, _, hs6.get 0 rfl (j := 6) rfl, br_eq (fun q6 => ?_) fun q6 => jbad fun hh => q6 (by rw [hh])⟩
 have rowMap : ∀ {b : Nat} {ff : LayF} {p m a k : Value}, H6[b]? = some (.cells (cellsL ff p m a k).toArray 70) → rowIn H6 ⟨b, 9, none⟩ (ints ff.map.l).toArray := fun hb =>
  rowIn_block hb fun j v hv => match j, hv with
   | 0, hv => hv
   | 1, hv => hv
   | 2, hv => hv
   | 3, hv => hv
   | 4, hv => hv
   | 5, hv => hv
   | j + 6, hv => by simp [ints, M6.l] at hv
 refine ⟨_, rfl, rowMap (hs6.block 1 rfl), _, rfl, rowMap (hs6.block 0 rfl), rfl, f.map.l, g.map.l, rfl, rfl, rfl, rfl, br_dec (fun q7 => ?_) fun q7 => jbad fun hh => q7 (by rw [hh])⟩
 refine ⟨_, hs6.get 1 rfl (j := 15) rfl, _, hs6.get 0 rfl (j := 15) rfl, br_i (fun q8 => ?_) fun q8 => jbad fun hh => by rw [hh] at q8; simp at q8⟩
 refine ⟨_, hs6.get 1 rfl (j := 16) rfl, _, hs6.get 0 rfl (j := 16) rfl, ?_⟩
 refine hJ _ _ (br_eq (fun q9 => ?_) fun q9 => bad (fun hh => q9 (by rw [hh])) he6)
 refine ⟨_, _, _, hs6.get 1 rfl (j := 7) rfl, _, _, _, hs6.get 0 rfl (j := 7) rfl, ?_⟩
 refine c42 (hP.ext he6) (hP2.ext he6) (by omega) ⟨_, rfl, br_dec (fun q10 => ?_) fun q10 => bad (fun hh => q10 (by rw [hh])) he6⟩
 refine ⟨_, _, _, hs6.get 1 rfl (j := 8) rfl, _, _, _, hs6.get 0 rfl (j := 8) rfl, ?_⟩
 refine c43 (hM.ext he6) (hM2.ext he6) (by omega) ⟨_, rfl, br_dec (fun q11 => ?_) fun q11 => bad (fun hh => q11 (by rw [hh])) he6⟩
 refine ⟨_, _, _, hs6.get 1 rfl (j := 17) rfl, _, _, _, hs6.get 0 rfl (j := 17) rfl, ?_⟩
 refine c42 (hA.ext he6) (hA2.ext he6) (by omega) ⟨_, rfl, br_dec (fun q12 => ?_) fun q12 => bad (fun hh => q12 (by rw [hh])) he6⟩
 refine ⟨_, _, _, hs6.get 1 rfl (j := 18) rfl, _, _, _, hs6.get 0 rfl (j := 18) rfl, ?_⟩
 have hfg : f = g := by
  have p2 : f.hidden = g.hidden := by simpa using q2
  have p8 : f.smooth = g.smooth := by simpa using q8
  have p7 := M6_l.1 q7
  clear q2 q7 q8
  cases f; cases g
  simp only at q0 q1 p2 q3 q4 q5 q6 p7 p8 q9 q10 q11 q12
  subst q0 q1 p2 q3 q4 q5 q6 p7 p8 q9 q10 q11 q12
  rfl
 refine equalFunc_of ih (K := K) (L := K2) (grp.ext ⟨hK, hks⟩ he6) (grp.ext ⟨hK2, hks2⟩ he6) o5 o4 fun H28 he28 => ⟨_, rfl, ?_⟩
 have := hR H28 (he6.trans he28)
 rw [decide_eq_true hfg, Bool.true_and] at this
 exact this
theorem c13 {A B : Array Value} {D E : DocL} (hd : DocR H A D) (he : DocR H B E) (hok : okKs D.ks) (hc : cntKs D.ks ≤ 1000000000) (hR : ∀ H', Ext H H' → R (.bool (sameD D E)) H') : CallsH Try.prog 13 #[.agg A, .agg B] H R := by
 obtain ⟨K, ks, rfl, hg, hl⟩ := hd
 obtain ⟨K2, ks2, rfl, hg2, hl2⟩ := he
 refine Try.s13 ?_
 unfold Try.S13
 refine (St.nil H).alc fun b3 H4 hs4 => hs4.alc fun b5 H6 hs6 => ?_
 have no : ¬ (D = E) → R (.bool false) H6 := fun hn => by
  have := hR H6 hs6.ext
  rw [show sameD D E = false from by rw [Bool.eq_false_iff]; exact fun hh => hn (sameD_iff.1 hh)] at this
  exact this
 refine ⟨_, hs6.get 1 rfl (j := 0) rfl, _, hs6.get 0 rfl (j := 0) rfl, br_eq (fun q0 => ?_) fun q0 => no fun hh => q0 (by rw [hh])⟩
 refine ⟨_, hs6.get 1 rfl (j := 1) rfl, _, hs6.get 0 rfl (j := 1) rfl, br_eq (fun q1 => ?_) fun q1 => no fun hh => q1 (by rw [hh])⟩
 refine ⟨_, hs6.get 1 rfl (j := 2) rfl, _, hs6.get 0 rfl (j := 2) rfl, br_eq (fun q2 => ?_) fun q2 => no fun hh => q2 (by rw [hh])⟩
 refine ⟨_, _, _, hs6.get 1 rfl (j := 3) rfl, _, _, _, hs6.get 0 rfl (j := 3) rfl, ?_⟩
 have hlk := len_cnt (layKs ks)
 rw [layKs_len, hl] at hlk
 refine equalFunc_of (fun t _ => c26 t) (K := K) (L := K2) (hg.ext hs6.ext) (hg2.ext hs6.ext) (by rw [hl]; exact hok) (by omega) fun H16 he16 => ⟨_, rfl, ?_⟩
 have := hR H16 (hs6.ext.trans he16)
 rw [show sameD D E = sameKs D.ks E.ks from by unfold sameD; rw [decide_eq_true q0, decide_eq_true q1, decide_eq_true q2]; rfl] at this
 rw [hl, hl2]
 exact this
end Go.Proofs
namespace Go.Proofs
open Go.Sh
variable {H0 H : Heap} {σ : List Rs} {R : Value → Heap → Prop}
def ed0 (kind id to at_ n m x y w h : Int) : Ed := ⟨kind, id, to, at_, n, m, x, y, w, h, [], [], zeroM, []⟩
def es0 : EdS := ⟨.nil, .nil, .nil⟩
theorem ed0_ok (H : Heap) (kind id to at_ n m x y w h : Int) : EdOk H (ed0 kind id to at_ n m x y w h) es0 :=
 ⟨⟨⟨rfl, fun i v h => by simp [ed0, ints] at h⟩, IS2.nil H, ⟨rfl, fun i v h => by simp [ed0, ints] at h⟩⟩, by simp [ed0], by simp [ed0]⟩
end Go.Proofs
namespace Go.Sh
variable {H0 H H' : Heap} {σ τ : List Rs}
def starAll : List Rs → Rs
 | [] => .emp
 | r :: l => .star r (starAll l)
theorem St.addEmp (hs : St H0 H σ) : St H0 H (.emp :: σ) := hs.new (Ext.refl H) (fp := []) rfl (by simp) (by simp)
theorem St.packAll : ∀ (l : List Rs) {σ : List Rs}, St H0 H (l ++ σ) → St H0 H (starAll l :: σ)
 | [], σ, hs => hs.addEmp
 | r :: l, σ, hs => by
  have h1 : St H0 H (l ++ (r :: σ)) := hs.perm List.perm_middle.symm
  exact (St.packAll l h1).swap.cat
theorem St.unpackAll : ∀ (l : List Rs) {σ : List Rs}, St H0 H (starAll l :: σ) → St H0 H (l ++ σ)
 | [], σ, hs => hs.tail
 | r :: l, σ, hs => by
  have h1 : St H0 H (l ++ (r :: σ)) := St.unpackAll l hs.cut.swap
  exact h1.perm List.perm_middle
end Go.Sh
namespace Go.Proofs
open Go.Sh
variable {H0 H : Heap} {σ : List Rs} {R : Value → Heap → Prop}
def docRs (A : Array Value) (D : DocL) : Rs := .ex fun (x : Sl3 × List T) => .pu (A = docA D.w D.h D.next x.1 ∧ layKs x.2 = D.ks) (starAll (resG x.1 x.2))
theorem St_docIn {A : Array Value} {D : DocL} {K : Sl3} {ks : List T} (hA : A = docA D.w D.h D.next K) (hl : layKs ks = D.ks) (hs : St H0 H (resG K ks ++ σ)) : St H0 H (docRs A D :: σ) :=
 St.inex (f := fun (x : Sl3 × List T) => .pu (A = docA D.w D.h D.next x.1 ∧ layKs x.2 = D.ks) (starAll (resG x.1 x.2))) (K, ks) (St.with ⟨hA, hl⟩ (St.packAll _ hs))
theorem St_docOut {A : Array Value} {D : DocL} (hs : St H0 H (docRs A D :: σ)) : ∃ K ks, A = docA D.w D.h D.next K ∧ layKs ks = D.ks ∧ St H0 H (resG K ks ++ σ) := by
 obtain ⟨⟨K, ks⟩, h1⟩ := St.unex hs
 obtain ⟨⟨h2, h3⟩, h4⟩ := St.fact h1
 exact ⟨K, ks, h2, h3, St.unpackAll _ h4⟩
theorem _root_.Go.Sh.St.doc (hs : St H0 H σ) (i : Nat) {A : Array Value} {D : DocL} (hi : σ[i]? = some (docRs A D)) : DocR H A D := by
 obtain ⟨K, ks, h1, h2, h3⟩ := St_docOut (hs.front i hi)
 exact ⟨K, ks, h1, h3.grp, h2⟩
theorem _root_.Go.Sh.St.docNil (hs : St H0 H σ) (w h next : Int) : St H0 H (docRs (docA w h next .nil) ⟨w, h, next, []⟩ :: σ) :=
 St_docIn (K := .nil) (ks := []) rfl rfl (hs.nilSl _ _)
theorem do_gen {A : Array Value} {D : DocL} {e : Ed} {s : EdS} (hs : St H0 H σ) (hd : DocR H A D) (hok : okKs D.ks) (hcn : cntKs D.ks ≤ 1000000000) (hnx : 0 ≤ D.next ∧ D.next ≤ 1000000000000000) (hsz : e.kind = 7 → sizedB D.w D.h = true) (hras : ∀ fr u ks', flK [] [] e.id D.ks = some (fr :: u, ks') → okRas fr.f) (hed : EdOk H e s)
    (hR : ∀ A' H', DocR H' A' (doD D e).2 → St H0 H' (docRs A' (doD D e).2 :: σ) → R (.tuple #[.agg A', .int .i64 (doD D e).1]) H') :
    CallsH Try.prog 22 #[.agg A, .agg (edL e s).toArray] H R := by
  obtain ⟨K, ks, rfl, hg, hl⟩ := hd
  rw [← hl] at hok hcn hras
  refine c22 hg hok hcn hnx hsz hed hras (fun H' hne he => ?_) fun K' ks' H' h0 hl' hs' => ?_
  · rw [hl] at hne ⊢
    have e1 : doD D e = ((doL D.w D.h D.next D.ks e).1, zeroD) := by unfold doD; rw [if_pos hne]
    have := hR (docA 0 0 0 .nil) H' (by rw [e1]; exact DocR.zero H') (by rw [e1]; exact (hs.step he).docNil 0 0 0)
    rw [e1] at this; exact this
  · rw [hl] at h0 hl' ⊢
    have e1 : doD D e = (0, ⟨D.w, D.h, (doL D.w D.h D.next D.ks e).2.1, (doL D.w D.h D.next D.ks e).2.2⟩) := by unfold doD; rw [if_neg (by rw [h0]; simp)]
    have hs2 : St H0 H' (docRs (docA D.w D.h (doL D.w D.h D.next D.ks e).2.1 K') ⟨D.w, D.h, (doL D.w D.h D.next D.ks e).2.1, (doL D.w D.h D.next D.ks e).2.2⟩ :: σ) := St_docIn rfl hl' (hs.call hs')
    have := hR (docA D.w D.h (doL D.w D.h D.next D.ks e).2.1 K') H' (by rw [e1]; exact hs2.doc 0 rfl) (by rw [e1]; exact hs2)
    rw [e1] at this; exact this
theorem do_st {A : Array Value} {D : DocL} {e : Ed} {s : EdS} (hs : St H0 H σ) (hd : DocR H A D) (hi : Inv D) (hnx : D.next ≤ 1000000000000000) (hed : EdOk H e s) (hR : ∀ A' H', DocR H' A' (doD D e).2 → St H0 H' (docRs A' (doD D e).2 :: σ) → R (.tuple #[.agg A', .int .i64 (doD D e).1]) H') :
    CallsH Try.prog 22 #[.agg A, .agg (edL e s).toArray] H R := by
  have h1 := hi.next
  have h2 := hi.cnt
  exact do_gen hs hd hi.ok (by omega) ⟨by omega, hnx⟩ (fun _ => hi.size) (fun fr u ks' hf => hi.ras hf) hed hR
end Go.Proofs
