/-
  OWN WORK. Several texts in one: HuffS, HuffT, HuffM, HuffIL, HuffML, HuffP, HuffU, JqF, JqG, JqH, JqI, JqJ, JqK, JpI.
-/
import Derived.Test.YtcggbdggpdcnjaaMgJpegNearF
import Derived.Test.YtcggbdggpdcnjaaMgJpegNearD
import Derived.Test.YtcggbdggpdcnjaaMgJpegNearE

set_option linter.unusedVariables false
set_option linter.unusedSimpArgs false
namespace Go.Proofs
open Go.Sh
def enc : Option Int → Int
 | none => -1
 | some v => v
structure Rows (H : Heap) (blk n : Nat) (D : Nat → Prop) (g : Nat → Nat → Int) (N : Nat) : Prop where
 ex : ∃ cs, H[blk]? = some (.cells cs 48) ∧ cs.size = n + 1 ∧ ∀ i, i ≤ n → D i → ∃ rb row, cs[i]? = some (.slice (some ⟨rb, 0, none⟩) (n + 1) (n + 1)) ∧ rb < N ∧ H[rb]? = some (.cells row 3) ∧ ∀ p, p ≤ n → row[p]? = some (.int .i64 (g i p))
theorem Rows.keep {H H' : Heap} {blk n N : Nat} {D : Nat → Prop} {g : Nat → Nat → Int} (h : Rows H blk n D g N) (hk : ∀ (b : Nat) (o : Obj), H[b]? = some o → (b < N ∨ b = blk) → H'[b]? = some o) : Rows H' blk n D g N := by
 obtain ⟨cs, h1, h2, h3⟩ := h.ex
 refine ⟨cs, hk _ _ h1 (.inr rfl), h2, fun i hi hd => ?_⟩
 obtain ⟨rb, row, a, b, c, d⟩ := h3 i hi hd
 exact ⟨rb, row, a, b, hk _ _ c (.inl b), d⟩
theorem Rows.ext {H H' : Heap} {blk n N : Nat} {D : Nat → Prop} {g : Nat → Nat → Int} (h : Rows H blk n D g N) (he : Ext H H') : Rows H' blk n D g N := h.keep fun b o hb _ => he b o hb
theorem Rows.get {H : Heap} {blk n N : Nat} {D : Nat → Prop} {g : Nat → Nat → Int} (h : Rows H blk n D g N) {i : Nat} (hi : i ≤ n) (hd : D i) : ∃ rb, cell H ⟨blk, i, none⟩ = some (.slice (some ⟨rb, 0, none⟩) (n + 1) (n + 1)) ∧ ∀ p, p ≤ n → cell H ⟨rb, p, none⟩ = some (.int .i64 (g i p)) := by
 obtain ⟨cs, h1, h2, h3⟩ := h.ex
 obtain ⟨rb, row, a, b, c, d⟩ := h3 i hi hd
 exact ⟨rb, cell_get h1 a, fun p hp => cell_get c (d p hp)⟩
theorem Rows.mono {H : Heap} {blk n N N' : Nat} {D D' : Nat → Prop} {g : Nat → Nat → Int} (h : Rows H blk n D g N) (hN : N ≤ N') (hD : ∀ i, i ≤ n → D' i → D i) : Rows H blk n D' g N' := by
 obtain ⟨cs, h1, h2, h3⟩ := h.ex
 refine ⟨cs, h1, h2, fun i hi hd => ?_⟩
 obtain ⟨rb, row, a, b, c, d⟩ := h3 i hi (hD i hi hd)
 exact ⟨rb, row, a, by omega, c, d⟩
theorem Rows.add {H : Heap} {blk n N nb i : Nat} {D : Nat → Prop} {g : Nat → Nat → Int} {vs : List Int} (h : Rows H blk n D g N) (hc : cell H ⟨blk, i, none⟩ = some (.slice (some ⟨nb, 0, none⟩) (n + 1) (n + 1))) (hf : FS 0 H (some ⟨nb, 0, none⟩) (n + 1) (n + 1) 3 1 (ints vs))
    (hv : ∀ p, p ≤ n → vs[p]? = some (g i p)) : Rows H blk n (fun j => D j ∨ j = i) g (max N (nb + 1)) := by
  obtain ⟨cs, h1, h2, h3⟩ := h.ex
  refine ⟨cs, h1, h2, fun j hj hd => ?_⟩
  by_cases hji : j = i
  · subst hji
    rcases hf.at_ with ⟨h0, _⟩ | ⟨blk', row, hq, _, hg, hsz, hgt⟩
    · cases h0
    · cases hq
      refine ⟨nb, row, ?_, by omega, hg, fun p hp => hgt p _ (ints_get (hv p hp))⟩
      rw [cell_block h1] at hc
      exact hc
  · have hd' : D j := hd.resolve_right hji
    obtain ⟨rb, row, a, b, c, d⟩ := h3 j hj hd'
    exact ⟨rb, row, a, by omega, c, d⟩
end Go.Proofs
namespace Go.Proofs
open Go.Sh
theorem Rows.ptr {H : Heap} {blk n N i nb : Nat} {D : Nat → Prop} {g : Nat → Nat → Int} {f : Heap → Prop} (h : Rows H blk n D g N) (hi : i ≤ n) (hD : ¬ D i) (hN : N ≤ blk)
    (hf : ∀ H', Rows H' blk n D g N → cell H' ⟨blk, i, none⟩ = some (.slice (some ⟨nb, 0, none⟩) (n + 1) (n + 1)) → (∀ (b : Nat) (o : Obj), H[b]? = some o → b ≠ blk → H'[b]? = some o) → H'.size = H.size → f H') :
    stAt H ⟨blk, i, none⟩ [Value.slice (some ⟨nb, 0, none⟩) (n + 1) (n + 1)] f := by
  obtain ⟨cs, h1, h2, h3⟩ := h.ex
  refine stAt_one h1 (by omega) rfl ?_
  refine hf _ ⟨_, get_set_self h1, by simpa using h2, fun j hj hd => ?_⟩ ?_ (fun b o hb hn => get_set_ne (Ne.symm hn) hb) (by simp)
  · obtain ⟨rb, row, a, b, c, d⟩ := h3 j hj hd
    refine ⟨rb, row, ?_, b, get_set_ne (by omega) c, d⟩
    rw [Array.getElem?_setIfInBounds, if_neg (fun hh => hD (by rw [hh]; exact hd))]
    exact a
  · refine cell_get (get_set_self h1) ?_
    rw [Array.getElem?_setIfInBounds, if_pos rfl, if_pos (by omega)]
end Go.Proofs
namespace Go.Proofs
open Go.Sh
end Go.Proofs
namespace Go.Proofs
open Go.Sh
end Go.Proofs
namespace Go.Proofs
open Go.Sh
end Go.Proofs
namespace Go.Proofs
open Go.Sh
end Go.Proofs
namespace Go.Proofs
open Go.Sh
theorem lv_place {cs : List Int} {LS : List Pk} (lv : Lv cs LS) {x : Pk} (hx : x ∈ LS) : ∃ k : Nat, sy x = (k : Int) ∧ cs[k]? = some x.c ∧ x.c > 0 ∧ k < cs.length := by
 obtain ⟨k, h1, h2, h3⟩ := lv.src x hx
 exact ⟨k, h3, h1, h2, (List.getElem?_eq_some_iff.1 h1).1⟩
theorem one_of {cs : List Int} {most : Nat} (h1 : (leavesM cs).length = 1) : ∃ x k, ssort (leavesM cs) = [x] ∧ sy x = ((k : Nat) : Int) ∧ cs[k]? = some x.c ∧ x.c > 0 ∧ lenM cs most = (List.replicate cs.length 0).set k 1 := by
 obtain ⟨x, hx⟩ := List.length_eq_one_iff.1 h1
 have hs : ssort (leavesM cs) = [x] := by
  have := ssort_perm (leavesM cs)
  rw [hx] at this ⊢
  exact List.perm_singleton.1 this
 have lv := lv_of cs
 rw [hs] at lv
 obtain ⟨k, e1, e2, e3, e4⟩ := lv_place lv List.mem_cons_self
 refine ⟨x, k, hs, e1, e2, e3, ?_⟩
 unfold lenM
 rw [if_pos h1, hx]
 have := lv.one x List.mem_cons_self
 simp only [List.headD_cons, this, e1, Int.toNat_natCast]
theorem lenM_zero {cs : List Int} {most : Int} (ok : OkL cs most) {i : Nat} {a u : Int} (ha : cs[i]? = some a) (hu : (lenM cs most.toNat)[i]? = some u) : (u = 0 ↔ a = 0) ∧ u ≤ most := by
 have m1 := ok.m1
 have hil := (List.getElem?_eq_some_iff.1 ha).1
 have ha0 := (ok.rng a (List.mem_of_getElem? ha)).1
 by_cases h2 : 2 ≤ (leavesM cs).length
 ·obtain ⟨X, t⟩ := two_of ok h2
  by_cases hp : a > 0
  ·obtain ⟨r, hr⟩ := t.lv.has i a ha hp
   obtain ⟨_, h3⟩ := t.leaf r _ i hr rfl
   rw [hu] at h3; cases h3
   have := t.pos r (List.getElem?_eq_some_iff.1 hr).1
   omega
  ·have := t.none i hil fun x hx hs => by
    obtain ⟨k, e1, e2, e3, _⟩ := lv_place t.lv hx
    have e : k = i := by omega
    rw [e, ha] at e2; cases e2; omega
   rw [hu] at this; cases this; omega
 ·by_cases h1 : (leavesM cs).length = 1
  ·obtain ⟨x, k, hs, e1, e2, e3, e4⟩ := one_of (most := most.toNat) h1
   rw [e4, List.getElem?_set] at hu
   by_cases hk : k = i
   ·subst hk
    rw [if_pos rfl, if_pos (by simpa using hil)] at hu
    rw [ha] at e2; cases e2; cases hu; omega
   ·rw [if_neg hk, List.getElem?_replicate, if_pos hil] at hu
    cases hu
    by_cases hp : a > 0
    ·obtain ⟨r, hr⟩ := (lv_of cs).has i a ha hp
     rw [hs] at hr
     have : r = 0 := by have := (List.getElem?_eq_some_iff.1 hr).1; simp at this; omega
     subst this
     simp at hr
     rw [hr] at e1
     simp [sy] at e1
     omega
    ·omega
  ·have h0 : (leavesM cs).length = 0 := by omega
   have e : lenM cs most.toNat = List.replicate cs.length 0 := by
    unfold lenM; rw [if_neg h1, h0]; simp
   rw [e, List.getElem?_replicate, if_pos hil] at hu
   cases hu
   by_cases hp : a > 0
   ·obtain ⟨r, hr⟩ := (lv_of cs).has i a ha hp
    have := (List.getElem?_eq_some_iff.1 hr).1
    rw [ssort_len] at this; omega
   ·omega
end Go.Proofs
namespace Go.Proofs
open Go.Sh
variable {H0 H : Heap} {σ : List Rs} {R : Value → Heap → Prop}
def dblL (cs : List Int) : List Int := cs.map (fun x => x * 2) ++ [1]
def lenC (cs : List Int) : List Int := lenM (dblL cs) 16
def lsC (cs : List Int) : List Int := (lenC cs).take 256
def mC (cs : List Int) : Int := (lenC cs).getD 256 0
structure CntOk (cs : List Int) : Prop where
 len : cs.length = 256
 rng : ∀ x ∈ cs, 0 ≤ x ∧ x ≤ 1000000000
theorem dbl_ok {cs : List Int} (h : CntOk cs) : OkL (dblL cs) 16 where
 m1 := by decide
 m2 := by decide
 len := by unfold dblL; rw [List.length_append, List.length_map, h.len]; decide
 rng n hn := by
  unfold dblL at hn
  rcases List.mem_append.1 hn with hn | hn
  ·obtain ⟨x, hx, rfl⟩ := List.mem_map.1 hn
   have := h.rng x hx; omega
  ·rw [List.mem_singleton.1 hn]; decide
 few := by
  have h1 := leavesFrom_len 0 (dblL cs)
  have h2 : (dblL cs).length = 257 := by unfold dblL; rw [List.length_append, List.length_map, h.len]; rfl
  unfold leavesM
  rw [h2] at h1
  exact Nat.le_trans h1 (by decide)
theorem dbl_get {cs : List Int} (h : CntOk cs) {i : Nat} (hi : i < 256) : (dblL cs)[i]? = some (cs.getD i 0 * 2) := by
 unfold dblL
 rw [List.getElem?_append_left (by rw [List.length_map, h.len]; exact hi), List.getElem?_map, get_gD cs 0 (by rw [h.len]; exact hi)]; rfl
theorem dbl_last {cs : List Int} (h : CntOk cs) : (dblL cs)[256]? = some 1 := by
 unfold dblL
 rw [List.getElem?_append_right (by rw [List.length_map, h.len]; exact Nat.le_refl _), List.length_map, h.len]; rfl
theorem lenC_len {cs : List Int} (h : CntOk cs) : (lenC cs).length = 257 := by
 have := (lenM_ok (dbl_ok h)).2
 unfold lenC
 rw [show (16 : Nat) = (16 : Int).toNat from rfl, this]
 unfold dblL; rw [List.length_append, List.length_map, h.len]; rfl
theorem lenC_okC {cs : List Int} (h : CntOk cs) : OkC (lenC cs) := (lenM_ok (dbl_ok h)).1
theorem lenC_split {cs : List Int} (h : CntOk cs) : lenC cs = lsC cs ++ [mC cs] := by
 unfold lsC mC
 conv => lhs; rw [← List.take_append_drop 256 (lenC cs)]
 congr 1
 rw [List.drop_eq_getElem_cons (by rw [lenC_len h]; decide), List.drop_eq_nil_of_le (by rw [lenC_len h]; decide)]
 congr 1
 exact (gD_get (List.getElem?_eq_getElem _)).symm
theorem lsC_get {cs : List Int} {i : Nat} (hi : i < 256) : (lsC cs).getD i 0 = (lenC cs).getD i 0 := by
 unfold lsC
 rw [List.getD_eq_getElem?_getD, List.getElem?_take, if_pos hi, ← List.getD_eq_getElem?_getD]
theorem lsC_zero {cs : List Int} (h : CntOk cs) {i : Nat} (hi : i < 256) : (lsC cs).getD i 0 = 0 ↔ cs.getD i 0 = 0 := by
 rw [lsC_get hi]
 have h1 := (lenM_zero (dbl_ok h) (dbl_get h hi) (get_gD (lenC cs) 0 (by rw [lenC_len h]; omega))).1
 rw [h1]; omega
theorem mC_le {cs : List Int} (h : CntOk cs) {i : Nat} (hi : i < 256) : (lenC cs).getD i 0 ≤ mC cs := by
 have hg := get_gD (lenC cs) 0 (i := i) (by rw [lenC_len h]; omega)
 have hm := get_gD (lenC cs) 0 (i := 256) (by rw [lenC_len h]; omega)
 have hr := (lenC_okC h).w.rng _ (List.mem_of_getElem? hm)
 have hc := h.rng _ (List.mem_of_getElem? (get_gD cs 0 (i := i) (by rw [h.len]; exact hi)))
 by_cases h0 : cs.getD i 0 = 0
 ·have := (lsC_zero h hi).2 h0
  rw [lsC_get hi] at this
  rw [this]; exact hr.1
 ·exact lenM_order (dbl_ok h) (dbl_get h hi) (dbl_last h) (by omega) (by decide) hg hm
theorem lsC_len {cs : List Int} (h : CntOk cs) : (lsC cs).length = 256 := by unfold lsC; rw [List.length_take, lenC_len h]; decide
theorem codeC_ok {cs : List Int} (h : CntOk cs) : CodeOk (lsC cs) (mC cs) := by
 refine ⟨lsC_len h, by rw [← lenC_split h]; exact lenC_okC h, fun x hx => ?_⟩
 obtain ⟨i, hi⟩ := List.getElem?_of_mem hx
 have hil := (List.getElem?_eq_some_iff.1 hi).1
 rw [lsC_len h] at hil
 rw [← gD_get (d := 0) hi, lsC_get hil]
 exact mC_le h hil
def cntP (ls : List Int) (n s : Nat) : List Int := (List.range 16).map fun j => if j + 1 < n then (rank ls ls.length (j + 1) : Int) else if j + 1 = n then (rank ls s n : Int) else 0
theorem cntP_len (ls : List Int) (n s : Nat) : (cntP ls n s).length = 16 := tab_len _ _
theorem cntP_get {ls : List Int} {n s j : Nat} (hj : j < 16) : (cntP ls n s)[j]? = some (if j + 1 < n then (rank ls ls.length (j + 1) : Int) else if j + 1 = n then (rank ls s n : Int) else 0) := tab_get hj
theorem cntP_first (ls : List Int) : cntP ls 1 0 = List.replicate 16 0 := by
 refine list_ext_getD (n := 16) (cntP_len _ _ _) (by simp) fun j hj => ?_
 rw [gD_get (cntP_get hj), if_neg (by omega)]
 have : (List.replicate 16 (0 : Int)).getD j 0 = 0 := by rw [List.getD_eq_getElem?_getD, List.getElem?_replicate]; split <;> rfl
 rw [this]
 split <;> simp [rank]
theorem cntP_next (ls : List Int) (n : Nat) : cntP ls n ls.length = cntP ls (n + 1) 0 := by
 refine list_ext_getD (n := 16) (cntP_len _ _ _) (cntP_len _ _ _) fun j hj => ?_
 rw [gD_get (cntP_get hj), gD_get (cntP_get hj)]
 by_cases h1 : j + 1 < n
 ·rw [if_pos h1, if_pos (by omega)]
 ·rw [if_neg h1]
  by_cases h2 : j + 1 = n
  ·rw [if_pos h2, if_pos (by omega), h2]
  ·rw [if_neg h2, if_neg (by omega)]
   split <;> simp [rank]
theorem cntP_last (ls : List Int) : cntP ls 17 0 = cntsL ls := by
 refine list_ext_getD (n := 16) (cntP_len _ _ _) (cntsL_len _) fun j hj => ?_
 rw [gD_get (cntP_get hj), if_pos (by omega)]
 exact (tab_getD (f := fun n => (rank ls ls.length (n + 1) : Int)) hj).symm
theorem cntP_set {ls : List Int} {n s : Nat} (hn : 1 ≤ n ∧ n ≤ 16) (hs : ls[s]? = some (n : Int)) : (cntP ls n s).set (n - 1) ((rank ls s n : Int) + 1) = cntP ls n (s + 1) := by
 refine list_ext_getD (n := 16) (by rw [List.length_set, cntP_len]) (cntP_len _ _ _) fun j hj => ?_
 rw [getD_set_ite _ _ _ _ _ (by rw [cntP_len]; omega), gD_get (cntP_get hj), gD_get (cntP_get hj)]
 by_cases h1 : n - 1 = j
 ·rw [if_pos h1, if_neg (by omega), if_pos (by omega), rank_snoc hs, if_pos rfl]; omega
 ·rw [if_neg h1]
  by_cases h2 : j + 1 < n
  ·rw [if_pos h2, if_pos h2]
  ·rw [if_neg h2, if_neg h2, if_neg (by omega), if_neg (by omega)]
theorem cntP_skip {ls : List Int} {n s : Nat} {v : Int} (hs : ls[s]? = some v) (hv : v ≠ (n : Int)) : cntP ls n s = cntP ls n (s + 1) := by
 refine list_ext_getD (n := 16) (cntP_len _ _ _) (cntP_len _ _ _) fun j hj => ?_
 rw [gD_get (cntP_get hj), gD_get (cntP_get hj), rank_snoc hs, if_neg hv]
 simp only [Nat.add_zero]
theorem rank_all (ls : List Int) (s n : Nat) : rank ls s n ≤ rank ls ls.length n := by
 unfold rank
 rw [List.take_of_length_le (Nat.le_refl _)]
 exact (List.take_sublist s ls).countP_le
def dataP (ls : List Int) (n s : Nat) : List Int := cntP ls n s ++ (srtS ls (n - 1) ++ fltK ls n s)
set_option maxHeartbeats 4000000 in
theorem c17 {cb c : Nat} {cs : List Int} (hs : St H0 H (.sl (some ⟨cb, 0, none⟩) 256 c 3 1 (ints cs) :: σ)) (hc : CntOk cs) (hfew : ∀ n, 1 ≤ n → rank (lsC cs) 256 n ≤ 255)
    (hR : ∀ H' q m b1 c1 b2 c2, 257 ≤ c1 → 257 ≤ c2 → St H0 H' (.sl q (dataM (lsC cs)).length m 5 1 (kints .u8 (dataM (lsC cs))) :: .sl (some ⟨b1, 0, none⟩) 257 c1 3 1 (ints (lenC cs)) :: .sl (some ⟨b2, 0, none⟩) 257 c2 3 1 (ints (codesM (lenC cs))) :: σ) →
      R (.tuple #[.slice q (dataM (lsC cs)).length m, .slice (some ⟨b1, 0, none⟩) 256 c1, .slice (some ⟨b2, 0, none⟩) 256 c2]) H') :
    CallsH Try.prog 17 #[.slice (some ⟨cb, 0, none⟩) 256 c] H R := by
  have hcl := hc.len
  have hLl := lenC_len hc
  have hok := codeC_ok hc
  have hll := lsC_len hc
  refine Try.s17 ?_
  unfold Try.S17
  intro X hX
  have dbl : ∀ i, i ≤ 256 → ∀ H1, St H0 H1 (.sl (some ⟨cb, 0, none⟩) 256 c 3 1 (ints ((cs.take i).map (fun x => x * 2) ++ cs.drop i)) :: σ) → X [.int .i64 (i : Nat)] H1 := upto fun i hi ih H1 hs1 => by
    refine hX _ H1 (br_dec (fun hlt => ?_) (fun hge => ?_))
    · have hlt : i < 256 := by omega
      have hg := get_gD cs 0 (i := i) (by omega)
      have hr := hc.rng _ (List.mem_of_getElem? hg)
      have hml : ((cs.take i).map (fun x => x * 2)).length = i := by rw [List.length_map, List.length_take]; omega
      have hgi : ((cs.take i).map (fun x => x * 2) ++ cs.drop i)[i]? = some (cs.getD i 0) := by
        rw [List.getElem?_append_right (by omega), hml, Nat.sub_self, List.getElem?_drop, Nat.add_zero]; exact hg
      refine (hs1.is 0 rfl).rd (ls := (cs.take i).map (fun x => x * 2) ++ cs.drop i) (by omega) (by omega) (by rw [Int.toNat_natCast]; exact hgi) ⟨_, rfl, by omega, by omega, ?_⟩
      rw [add_none, Nat.zero_add, Int.toNat_natCast, Nat.mul_one, wrap_id (n := cs.getD i 0 * 2) (by omega) (by omega), w1 (by omega)]
      refine hs1.slPut 0 rfl (by rw [ints_len, List.length_append, hml, List.length_drop]; omega) rfl fun H2 hs2 => ih hlt H2 ?_
      have e : ((cs.take i).map (fun x => x * 2) ++ cs.drop i).set i (cs.getD i 0 * 2) = (cs.take (i + 1)).map (fun x => x * 2) ++ cs.drop (i + 1) := by
        rw [List.set_append_right _ _ (by omega), hml, Nat.sub_self, List.drop_eq_getElem_cons (by omega), List.set_cons_zero, List.take_add_one, hg, List.map_append, List.append_assoc]; rfl
      rw [ints_set, e] at hs2
      exact hs2
    · have : i = 256 := by omega
      subst this
      rw [List.take_of_length_le (by omega), List.drop_eq_nil_of_le (by omega), List.append_nil] at hs1
      have hdl : (cs.map (fun x => x * 2)).length = 256 := by rw [List.length_map]; exact hcl
      refine c39 (xs := cs.map (fun x => x * 2)) (hs1.is 0 rfl) (by omega) fun q1 m1 H2 hs2 => ⟨_, _, _, rfl, ?_⟩
      have hs2 := hs1.call hs2
      refine hs2.alc fun b12 H3 hs3 => hs3.appC 1 0 rfl rfl rfl (fun v hv => by rw [List.mem_singleton.1 hv]; rfl) (by decide) rfl (by omega) (by omega) fun p' c' H4 hs4 => ?_
      have hs4 := hs4.tail
      have e : kints .i64 (cs.map (fun x => x * 2)) ++ [Value.int .i64 1] = ints (dblL cs) := by
        unfold dblL; rw [ints_append]; rfl
      simp only [List.set_cons_zero, List.set_cons_succ] at hs4
      have hs4 : St H0 H4 (.sl p' (256 + 1) c' 3 1 (ints (dblL cs)) :: .sl (some ⟨cb, 0, none⟩) 256 c 3 1 (ints (cs.map (fun x => x * 2))) :: σ) := by rw [← e]; exact hs4
      refine c38 (hs4.is 0 rfl) (by omega) (fun H5 e5 hno => absurd (dbl_ok hc) hno) (fun _ H5 b5 f5 e5 => ⟨_, _, _, _, rfl, by decide, by decide, ?_⟩)
      have hs5 := hs4.newSl e5 f5
      have hs5 : St H0 H5 (.sl (some ⟨b5, 0, none⟩) 257 257 3 1 (ints (lenC cs)) :: .sl (some ⟨cb, 0, none⟩) 256 c 3 1 (ints (cs.map (fun x => x * 2))) :: σ) := hs5.del 1
      clear hs1 hs2 hs3 hs4
      intro Y hY
      have eif : (if 256 + 1 = 0 then (some ⟨b5, 0, none⟩ : Option Addr) else Option.map (fun x => Addr.add x (0 * 1)) (some ⟨b5, 0, none⟩)) = some ⟨b5, 0, none⟩ := rfl
      have hm := get_gD (lenC cs) 0 (i := 256) (by omega)
      have hmr := (lenC_okC hc).w.rng _ (List.mem_of_getElem? hm)
      have look : ∀ i, i ≤ 256 → ∀ lo : Int, 0 ≤ lo ∧ lo ≤ mC cs → Y [.int .i64 lo, .int .i64 (i : Nat)] H5 := upto fun i hi ih lo hlo => by
        refine hY _ _ H5 (br_dec (fun hlt => ?_) (fun hge => ?_))
        · have hlt : i < 256 := by
            have : (i : Int) < ((256 - 0 : Nat) : Int) := hlt
            omega
          intro J hJ
          have nx : ∀ lo' : Int, 0 ≤ lo' ∧ lo' ≤ mC cs → J [.int .i64 lo'] H5 := fun lo' h' => hJ _ H5 (by rw [w1 (by omega)]; exact ih hlt lo' h')
          have hgl := get_gD (lenC cs) 0 (i := i) (by omega)
          have hlr := (lenC_okC hc).w.rng _ (List.mem_of_getElem? hgl)
          have hle := mC_le hc hlt
          have hg2 : (cs.map (fun x => x * 2))[i]? = some (cs.getD i 0 * 2) := by rw [List.getElem?_map, get_gD cs 0 (by omega)]; rfl
          rw [eif]
          refine ⟨_, rfl, by omega, by show (i : Int) < ((256 - 0 : Nat) : Int); omega, (lenC cs).getD i 0, ?_, ?_⟩
          · obtain ⟨a, ha, hcell⟩ := (hs5.is 0 rfl).cell (ints_get hgl)
            cases ha; rw [Int.toNat_natCast, Nat.mul_one]; exact hcell
          refine (hs5.is 1 rfl).rd (ls := cs.map (fun x => x * 2)) (by omega) (by omega) (by rw [Int.toNat_natCast]; exact hg2) ?_
          refine br_dec (fun hp => (hs5.is 0 rfl).rd (ls := lenC cs) (i := 256) (by decide) (by decide) hm (br_dec (fun hge => ?_) (fun hlt2 => nx lo hlo))) (fun hp => nx lo hlo)
          exact nx _ (by omega)
        · have : i = 256 := by
            have : ¬ (i : Int) < ((256 - 0 : Nat) : Int) := hge
            omega
          subst this
          refine (hs5.is 0 rfl).rd (ls := lenC cs) (i := 256) (by decide) (by decide) hm ⟨_, rfl, by decide, by decide, ?_⟩
          have hmax : max ((lenC cs).getD 256 0) lo = (lenC cs).getD 256 0 := by
            have : mC cs = (lenC cs).getD 256 0 := rfl
            omega
          rw [hmax]
          refine hs5.slPut 0 (j := 256) rfl (by rw [ints_len]; omega) rfl fun H6 hs6 => ?_
          have eset : (lenC cs).set 256 ((lenC cs).getD 256 0) = lenC cs := by
            refine list_ext_getD (n := 257) (by rw [List.length_set]; exact hLl) hLl fun j hj => ?_
            rw [getD_set_ite _ _ _ _ _ (by omega)]; split
            · rename_i h; rw [h]
            · rfl
          rw [ints_set, eset] at hs6
          have hs6 : St H0 H6 (.sl (some ⟨b5, 0, none⟩) 257 257 3 1 (ints (lenC cs)) :: .sl (some ⟨cb, 0, none⟩) 256 c 3 1 (ints (cs.map (fun x => x * 2))) :: σ) := hs6
          refine c40 (ls := lenC cs) (hs6.is 0 rfl) (fun hno => absurd (lenC_okC hc) hno) (fun _ H7 b7 f7 e7 => ⟨_, _, _, _, rfl, by decide, by decide, by decide, by decide, by decide, by decide, by decide, by decide, ?_⟩)
          have hs7 := (hs6.newSl e7 f7).del 2
          refine hs7.alc fun b41 H8 hs8 => ?_
          have er : (reps (Int.toNat 16) (Array.toList #[Value.int .u8 0])).toArray = (kints .u8 (List.replicate 16 0)).toArray := rfl
          rw [er] at hs8
          have hs8 := hs8.toSl 0 (l := 16) (k := 1) rfl (by rw [List.size_toArray, kints_len, List.length_replicate]) rfl (fun v hv => kints_one _ _ v hv)
          have hs8 : St H0 H8 (.sl (some ⟨b41, 0, none⟩) 16 16 5 1 (kints .u8 (List.replicate 16 0)) :: .sl (some ⟨b5, 0, none⟩) 257 257 3 1 (ints (lenC cs)) :: .sl (some ⟨b7, 0, none⟩) 257 257 3 1 (ints (codesM (lenC cs))) :: σ) := hs8.perm (List.Perm.cons _ (List.Perm.swap _ _ _))
          generalize hlsv : lsC cs = ls at *
          have hlc : ∀ i, i < 256 → (lenC cs)[i]? = some (ls.getD i 0) := fun i hi => by
            rw [← hlsv, lsC_get hi]; exact get_gD (lenC cs) 0 (by omega)
          have hrng := hok.rng
          intro V hV
          have outer : ∀ d n, d + n = 17 → 1 ≤ n → ∀ dp dc H9, St H0 H9 (.sl dp (dataP ls n 0).length dc 5 1 (kints .u8 (dataP ls n 0)) :: .sl (some ⟨b5, 0, none⟩) 257 257 3 1 (ints (lenC cs)) :: .sl (some ⟨b7, 0, none⟩) 257 257 3 1 (ints (codesM (lenC cs))) :: σ) → V [.slice dp (dataP ls n 0).length dc, .int .i64 (n : Nat)] H9 := by
            intro d
            induction d with
            | zero =>
              intro n hn h1 dp dc H9 hs9
              have : n = 17 := by omega
              subst this
              have e : dataP ls 17 0 = dataM ls := by
                unfold dataP dataM
                rw [cntP_last, show fltK ls 17 0 = [] from rfl, List.append_nil]
              rw [e] at hs9 ⊢
              exact hV _ _ _ _ H9 (br_n (by omega) (hR H9 dp dc b5 257 b7 257 (by omega) (by omega) hs9))
            | succ d ihd =>
              intro n hn h1 dp dc H9 hs9
              refine hV _ _ _ _ H9 (br_y (by omega) ?_)
              have wn : IntKind.wrap .i64 ((n : Int) - 1) = ((n - 1 : Nat) : Int) := by rw [wrap_id (by omega) (by omega)]; omega
              rw [wn, w1 (by omega)]
              intro U hU
              have inner : ∀ s, s ≤ 256 → ∀ dp dc H10, St H0 H10 (.sl dp (dataP ls n s).length dc 5 1 (kints .u8 (dataP ls n s)) :: .sl (some ⟨b5, 0, none⟩) 257 257 3 1 (ints (lenC cs)) :: .sl (some ⟨b7, 0, none⟩) 257 257 3 1 (ints (codesM (lenC cs))) :: σ) → U [.slice dp (dataP ls n s).length dc, .int .i64 (s : Nat)] H10 := upto fun s hsl ihs dp dc H10 hs10 => by
                refine hU _ _ _ _ H10 (br_dec (fun hlt => ?_) (fun hge => ?_))
                · have hlt : s < 256 := by
                    have : (s : Int) < ((256 - 0 : Nat) : Int) := hlt
                    omega
                  have hgs := get_gD ls 0 (i := s) (by omega)
                  rw [eif]
                  refine ⟨_, rfl, by omega, by show (s : Int) < ((256 - 0 : Nat) : Int); omega, ls.getD s 0, ?_, ?_⟩
                  · obtain ⟨a, ha, hcell⟩ := (hs10.is 1 rfl).cell (ints_get (hlc s hlt))
                    cases ha; rw [Int.toNat_natCast, Nat.mul_one]; exact hcell
                  rw [w1 (by omega)]
                  refine br_eq (fun heq => ?_) (fun hne => ?_)
                  · have hdl : 16 ≤ (dataP ls n s).length ∧ (dataP ls n s).length ≤ 1000 := by
                      have a1 := srtL_len ls (n - 1)
                      have a2 := lsum_le (ls := ls) (n - 1) ls.length (Nat.le_refl _)
                      have a3 := srt_len ls (n - 1)
                      have a4 := rank_le ls s n
                      unfold dataP
                      rw [List.length_append, List.length_append, cntP_len, fltK_len (by omega)]; omega
                    have hc0 : (dataP ls n s)[n - 1]? = some (rank ls s n : Int) := by
                      unfold dataP
                      rw [List.getElem?_append_left (by rw [cntP_len]; omega), cntP_get (by omega), if_neg (by omega), if_pos (by omega)]
                    have hrk : rank ls s n + 1 ≤ 255 := by
                      have h1 := rank_snoc hgs n
                      rw [if_pos heq] at h1
                      have h2 := rank_all ls (s + 1) n
                      have h3 := hfew n (by omega)
                      rw [← hll] at h3; omega
                    obtain ⟨bd, rfl⟩ := hs10.slSome 0 rfl (j := n - 1) (by rw [kints_len]; omega)
                    refine (hs10.is 0 rfl).rd (ls := dataP ls n s) (by omega) (by omega) (by rw [Int.toNat_natCast]; exact hc0) ⟨_, rfl, by omega, by omega, ?_⟩
                    rw [add_none, Nat.zero_add, Int.toNat_natCast, Nat.mul_one, wr8 (x := (rank ls s n : Int) + 1) (by omega), wr8 (x := (s : Int)) (by omega)]
                    refine hs10.slPut 0 rfl (by rw [kints_len]; omega) rfl fun H11 hs11 => ?_
                    rw [kints_set] at hs11
                    refine hs11.alc fun b57 H12 hs12 => hs12.appC 1 0 rfl rfl rfl (fun v hv => by rw [List.mem_singleton.1 hv]; rfl) (by decide) rfl (by omega) (by omega) fun p' c' H13 hs13 => ?_
                    have hs13 := hs13.tail
                    have e : (dataP ls n s).set (n - 1) ((rank ls s n : Int) + 1) ++ [(s : Int)] = dataP ls n (s + 1) := by
                      unfold dataP
                      rw [List.set_append_left _ _ (by rw [cntP_len]; omega), cntP_set (by omega) (by rw [hgs, heq]), fltK_succ, if_pos heq]
                      simp only [List.append_assoc]
                    have e' : (dataP ls n s).length + 1 = (dataP ls n (s + 1)).length := by rw [← e]; simp
                    simp only [List.set_cons_zero, List.set_cons_succ] at hs13
                    have hs13 : St H0 H13 (.sl p' ((dataP ls n s).length + 1) c' 5 1 (kints .u8 (dataP ls n (s + 1))) :: .sl (some ⟨b5, 0, none⟩) 257 257 3 1 (ints (lenC cs)) :: .sl (some ⟨b7, 0, none⟩) 257 257 3 1 (ints (codesM (lenC cs))) :: σ) := by
                      rw [← e, kints_append]; exact hs13
                    rw [e'] at hs13 ⊢
                    exact ihs hlt p' c' H13 hs13
                  · have e : dataP ls n s = dataP ls n (s + 1) := by
                      unfold dataP
                      rw [cntP_skip hgs hne, fltK_succ, if_neg hne, List.append_nil]
                    rw [e] at hs10 ⊢
                    exact ihs hlt dp dc H10 hs10
                · have : s = 256 := by
                    have : ¬ (s : Int) < ((256 - 0 : Nat) : Int) := hge
                    omega
                  subst this
                  have e : dataP ls n 256 = dataP ls (n + 1) 0 := by
                    unfold dataP
                    rw [← hll, cntP_next, show fltK ls (n + 1) 0 = [] from rfl, List.append_nil, Nat.add_sub_cancel]
                    have := srtS_succ ls (n - 1)
                    rw [show n - 1 + 1 = n by omega] at this
                    rw [this]
                  rw [e] at hs10 ⊢
                  exact ihd (n + 1) (by omega) (by omega) dp dc H10 hs10
              exact inner 0 (by omega) dp dc H9 hs9
          have e1 : dataP ls 1 0 = List.replicate 16 0 := by
            unfold dataP
            rw [cntP_first]; rfl
          refine outer 16 1 (by omega) (by omega) (some ⟨b41, 0, none⟩) 16 H8 ?_
          rw [e1, List.length_replicate]
          exact hs8
      exact look 0 (by omega) 0 (by have : mC cs = (lenC cs).getD 256 0 := rfl; omega)
  exact dbl 0 (by omega) H (by rw [List.take_zero, List.drop_zero]; exact hs)
end Go.Proofs
namespace Go.Proofs
open Go.Sh
def cntS (l : List Itm) (t : Nat) : List Int := (List.range 256).map fun (s : Nat) => ((l.countP fun x => x.t == t && x.s == (s : Int) : Nat) : Int)
theorem cntS_len (l : List Itm) (t : Nat) : (cntS l t).length = 256 := tab_len _ _
theorem cntS_get {l : List Itm} {t s : Nat} (hs : s < 256) : (cntS l t)[s]? = some ((l.countP fun x => x.t == t && x.s == (s : Int) : Nat) : Int) := tab_get hs
theorem cntS_snoc (l : List Itm) (x : Itm) (t : Nat) (hx : 0 ≤ x.s ∧ x.s < 256) : cntS (l ++ [x]) t = if t = x.t then (cntS l t).set x.s.toNat ((cntS l t).getD x.s.toNat 0 + 1) else cntS l t := by
 have step : ∀ s, s < 256 → (cntS (l ++ [x]) t).getD s 0 = (cntS l t).getD s 0 + if t = x.t ∧ s = x.s.toNat then 1 else 0 := fun s hs => by
  rw [gD_get (cntS_get hs), gD_get (cntS_get hs), List.countP_append]
  have : (List.countP (fun x => x.t == t && x.s == (s : Int)) [x]) = if t = x.t ∧ s = x.s.toNat then 1 else 0 := by
   rw [List.countP_cons, List.countP_nil, Nat.zero_add]
   by_cases h : t = x.t ∧ s = x.s.toNat
   ·rw [if_pos h, if_pos]
    rw [Bool.and_eq_true, beq_iff_eq, beq_iff_eq]; omega
   ·rw [if_neg h, if_neg]
    rw [Bool.and_eq_true, beq_iff_eq, beq_iff_eq]; omega
  rw [this]
  split <;> omega
 split
 ·rename_i ht
  refine list_ext_getD (n := 256) (cntS_len _ _) (by rw [List.length_set, cntS_len]) fun j hj => ?_
  rw [step j hj, getD_set_ite _ _ _ _ _ (by rw [cntS_len]; omega)]
  by_cases h : x.s.toNat = j
  ·subst h; rw [if_pos ⟨ht, rfl⟩, if_pos rfl]
  ·rw [if_neg (fun hh => h hh.2.symm), if_neg h]; omega
 ·rename_i ht
  refine list_ext_getD (n := 256) (cntS_len _ _) (cntS_len _ _) fun j hj => ?_
  rw [step j hj, if_neg (fun hh => ht hh.1)]; omega
theorem cntS_ok {l : List Itm} (h : l.length ≤ 1000000000) (t : Nat) : CntOk (cntS l t) := by
 refine ⟨cntS_len _ _, fun x hx => ?_⟩
 obtain ⟨s, hs, rfl⟩ := List.mem_map.1 hx
 have : l.countP (fun x => x.t == t && x.s == (s : Int)) ≤ l.length := List.countP_le_length
 omega
theorem cntS_pos {l : List Itm} {x : Itm} (hx : x ∈ l) (hs : 0 ≤ x.s ∧ x.s < 256) : 0 < (cntS l x.t).getD x.s.toNat 0 := by
 rw [gD_get (cntS_get (by omega))]
 have : 0 < l.countP (fun y => y.t == x.t && y.s == ((x.s.toNat : Nat) : Int)) := List.countP_pos_iff.2 ⟨x, hx, by rw [Bool.and_eq_true, beq_iff_eq, beq_iff_eq]; omega⟩
 omega
theorem cntS_has {l : List Itm} {t s : Nat} (hs : s < 256) (h : (cntS l t).getD s 0 ≠ 0) : ∃ x ∈ l, x.t = t ∧ x.s = (s : Int) := by
 rw [gD_get (cntS_get hs)] at h
 obtain ⟨x, hx, hp⟩ := List.countP_pos_iff.1 (show 0 < l.countP (fun y => y.t == t && y.s == (s : Int)) by omega)
 rw [Bool.and_eq_true, beq_iff_eq, beq_iff_eq] at hp
 exact ⟨x, hx, hp⟩
def SymOk (x : Itm) : Prop := x.t < 4 ∧ 0 ≤ x.s ∧ x.s < 256 ∧ x.s % 16 ≤ 11 ∧ 0 ≤ x.v ∧ x.v < 2 ^ x.n ∧ x.n ≤ 11
theorem acI_sym {t : Nat} {b : List Int} (ht : t ≤ 1) (hb : ∀ k, 1 ≤ k → k < 64 → ((b.getD (zig k) 0).natAbs : Int) < 1024) : ∀ (m k z : Nat), 64 - k ≤ m → 1 ≤ k → ∀ x ∈ acI t b k z, SymOk x := by
 intro m
 have h0 : SymOk ⟨t + 2, 0, 0, 0⟩ := ⟨show t + 2 < 4 by omega, show (0 : Int) ≤ 0 by decide, show (0 : Int) < 256 by decide, show (0 : Int) % 16 ≤ 11 by decide, show (0 : Int) ≤ 0 by decide, show (0 : Int) < 2 ^ 0 by decide, show 0 ≤ 11 by decide⟩
 have h240 : SymOk ⟨t + 2, 240, 0, 0⟩ := ⟨show t + 2 < 4 by omega, show (0 : Int) ≤ 240 by decide, show (240 : Int) < 256 by decide, show (240 : Int) % 16 ≤ 11 by decide, show (0 : Int) ≤ 0 by decide, show (0 : Int) < 2 ^ 0 by decide, show 0 ≤ 11 by decide⟩
 induction m with
 | zero =>
  intro k z hm hk x hx
  rw [acI, if_neg (by omega)] at hx
  split at hx
  ·rw [List.mem_singleton.1 hx]; exact h0
  ·cases hx
 | succ m ih =>
  intro k z hm hk x hx
  rw [acI] at hx
  split at hx
  ·rename_i hk64
   split at hx
   ·exact ih _ _ (by omega) (by omega) x hx
   ·rename_i hv0
    rcases List.mem_append.1 hx with h | h
    ·rw [(List.mem_replicate.1 h).2]; exact h240
    ·rcases List.mem_cons.1 h with h | h
     ·subst h
      have hs : sizeM (b.getD (zig k) 0) ≤ 10 := size_le (by have := hb k hk hk64; simpa using this)
      obtain ⟨s1, _, _⟩ := size_pow hv0
      obtain ⟨_, b1, b2⟩ := sign_bits (b.getD (zig k) 0)
      refine ⟨by show t + 2 < 4; omega, ?_, ?_, ?_, b1, b2, by show sizeM _ ≤ 11; omega⟩
      ·show (0 : Int) ≤ ((16 * (z % 16) + sizeM (b.getD (zig k) 0) : Nat) : Int); omega
      ·show ((16 * (z % 16) + sizeM (b.getD (zig k) 0) : Nat) : Int) < 256; omega
      ·show ((16 * (z % 16) + sizeM (b.getD (zig k) 0) : Nat) : Int) % 16 ≤ 11; omega
     ·exact ih _ _ (by omega) (by omega) x h
  ·split at hx
   ·rw [List.mem_singleton.1 hx]; exact h0
   ·cases hx
theorem items_sym : ∀ (O : List (Nat × Nat × Nat)) (bl : List (List Int)) (la : List Int), (∀ b ∈ bl, WBlk b) → la.length = 3 → (∀ j, j < 3 → -1024 ≤ la.getD j 0 ∧ la.getD j 0 < 1024) → (∀ u ∈ O, u.1 < 3) → ∀ x ∈ itemsM O bl la, SymOk x
 | [], bl, la, _, _, _, _, x, hx => by simp [itemsM] at hx
 | u :: O, [], la, _, _, _, _, x, hx => by simp [itemsM] at hx
 | u :: O, b :: bl, la, hw, hl, hlr, hu, x, hx => by
  rw [itemsM] at hx
  have hwb := hw b (List.mem_cons_self ..)
  have hu3 := hu u (List.mem_cons_self ..)
  have hlu := hlr u.1 hu3
  rcases List.mem_append.1 hx with h | h
  ·unfold blkI at h
   rcases List.mem_cons.1 h with h | h
   ·subst h
    have hdc := hwb.dc
    have hs : sizeM (b.getD 0 0 - la.getD u.1 0) ≤ 11 := size_le (by rw [show (2 : Int) ^ 11 = 2048 by decide]; omega)
    obtain ⟨_, b1, b2⟩ := sign_bits (b.getD 0 0 - la.getD u.1 0)
    refine ⟨by show min u.1 1 < 4; omega, ?_, ?_, ?_, b1, b2, hs⟩
    ·show (0 : Int) ≤ ((sizeM (b.getD 0 0 - la.getD u.1 0) : Nat) : Int); omega
    ·show ((sizeM (b.getD 0 0 - la.getD u.1 0) : Nat) : Int) < 256; omega
    ·show ((sizeM (b.getD 0 0 - la.getD u.1 0) : Nat) : Int) % 16 ≤ 11; omega
   ·exact acI_sym (by omega) hwb.ac 64 1 0 (by omega) (by omega) x h
  ·refine items_sym O bl (la.set u.1 (b.getD 0 0)) (fun y hy => hw y (List.mem_cons_of_mem _ hy)) (by rw [List.length_set]; exact hl) (fun j hj => ?_) (fun y hy => hu y (List.mem_cons_of_mem _ hy)) x h
   rw [getD_set_ite _ _ _ _ _ (by omega)]; split
   ·exact hwb.dc
   ·exact hlr j hj
def gCnt : Nat → Nat
 | 0 => 0
 | k + 1 => gCnt k + if k % 16 ≤ 11 then 1 else 0
theorem few_sym {l : List Itm} (hl : l.length ≤ 1000000000) (h : ∀ x ∈ l, SymOk x) (t n : Nat) (hn : 1 ≤ n) : rank (lsC (cntS l t)) 256 n ≤ 255 := by
 have hc := cntS_ok hl t
 have hll := lsC_len hc
 have : ∀ k, k ≤ 256 → rank (lsC (cntS l t)) k n ≤ gCnt k := by
  intro k
  induction k with
  | zero => intro _; simp [rank, gCnt]
  | succ k ih =>
   intro hk
   have ih := ih (by omega)
   have hg := get_gD (lsC (cntS l t)) 0 (i := k) (by omega)
   rw [rank_snoc hg, gCnt]
   split
   ·rename_i hv
    have h0 : (cntS l t).getD k 0 ≠ 0 := fun h0 => by
     have := (lsC_zero hc (i := k) (by omega)).2 h0
     omega
    obtain ⟨x, hx, _, hxs⟩ := cntS_has (by omega) h0
    have := (h x hx).2.2.2.1
    rw [if_pos (by omega)]; omega
   ·split <;> omega
 exact Nat.le_trans (this 256 (by omega)) (by decide +kernel)
def zzB (st : List Int) : List Int := (List.range 64).map fun i => st.getD (zig i) 0
def frameB (W Ht : Nat) (half : Bool) : List Int := [8, ((Ht / 256 : Nat) : Int), ((Ht % 256 : Nat) : Int), ((W / 256 : Nat) : Int), ((W % 256 : Nat) : Int), 3, 1, if half then 34 else 17, 0, 2, 17, 1, 3, 17, 1]
def tabB (A : List Itm) (t : Nat) : List Int := ((t % 2 + t / 2 * 16 : Nat) : Int) :: dataM (lsC (cntS A t))
def scanB : List Int := [3, 1, 0, 2, 17, 3, 17, 0, 63, 0]
def stuffB (B : List Int) : List Int := B.flatMap fun c => if c = 255 then [255, 0] else [c]
def headB (W Ht : Nat) (half : Bool) (st0 st1 : List Int) (A : List Itm) : List Int :=
 segB 219 (0 :: zzB st0) ++ (segB 219 (1 :: zzB st1) ++ (segB 192 (frameB W Ht half) ++ (segB 196 (tabB A 0) ++ (segB 196 (tabB A 1) ++ (segB 196 (tabB A 2) ++ (segB 196 (tabB A 3) ++ segB 218 scanB))))))
def encB (W Ht : Nat) (half : Bool) (st0 st1 : List Int) (A : List Itm) (B : List Int) : List Int := [255, 216] ++ (headB W Ht half st0 st1 A ++ (stuffB B ++ [255, 217]))
theorem headM_segB {mark : Int} {d rest : List Int} {s : Jst} (hl : d.length ≤ 60000) : headM (segB mark d ++ rest) s = markM mark d rest s := by
 have hb : segB mark d ++ rest = 255 :: mark :: (((d.length + 2) / 256 : Nat) : Int) :: (((d.length + 2) % 256 : Nat) : Int) :: (d ++ rest) := by unfold segB; simp
 have hseg : segM ((segB mark d ++ rest).drop 2) = some (d, rest) := by
  rw [hb]
  simp only [List.drop_succ_cons, List.drop_zero]
  unfold segM
  simp only [List.getD_cons_zero, List.getD_cons_succ, List.length_cons, List.length_append]
  have hn : (((d.length + 2) / 256 : Nat) : Int) * 256 + (((d.length + 2) % 256 : Nat) : Int) = ((d.length + 2 : Nat) : Int) := by omega
  rw [hn, if_neg (by omega), if_neg (by omega), Int.toNat_natCast]
  rw [show d.length + 2 = d.length + 1 + 1 from rfl]
  simp only [List.take_succ_cons, List.drop_succ_cons, List.drop_zero, List.take_left', List.drop_left']
 have h1 : ¬ ((segB mark d ++ rest).length < 2 ∨ (segB mark d ++ rest).getD 0 0 ≠ 255) := by
  rw [hb]
  simp only [List.length_cons, List.getD_cons_zero]
  omega
 rw [headM_seg h1 hseg, hb]
 rfl
theorem stuff_body : ∀ (B : List Int), bodyM (stuffB B ++ [255, 217]) = some B
 | [] => by simp [stuffB, bodyM]
 | c :: B => by
  have ih := stuff_body B
  by_cases hc : c = 255
  ·subst hc
   have : stuffB (255 :: B) ++ [255, 217] = 255 :: 0 :: (stuffB B ++ [255, 217]) := by simp [stuffB]
   rw [this, bodyM, if_neg (by decide), if_neg (by decide), ih]; rfl
  ·have : stuffB (c :: B) ++ [255, 217] = c :: (stuffB B ++ [255, 217]) := by simp [stuffB, hc]
   rw [this]
   cases hs : stuffB B ++ [255, 217] with
   | nil => simp at hs
   | cons x r =>
    rw [hs] at ih
    rw [bodyM, if_pos hc, ih]; rfl
end Go.Proofs
namespace Go.Proofs
open Go.Sh
theorem mark_db {d r : List Int} {s : Jst} : markM 219 d r s = (match stepsD d s.st with
 | none => none
 | some S => headM r { s with st := S }) := by unfold markM; rw [if_neg (by decide), if_pos rfl]; rfl
theorem mark_c0 {d r : List Int} {s : Jst} : markM 192 d r s = (match sizesM d s with
 | none => none
 | some s' => headM r s') := by unfold markM; rw [if_neg (by decide), if_neg (by decide), if_pos rfl]; rfl
theorem mark_c4 {d r : List Int} {s : Jst} : markM 196 d r s = (match codesD d s.cd with
 | none => none
 | some C => headM r { s with cd := C }) := by unfold markM; rw [if_neg (by decide), if_neg (by decide), if_neg (by decide), if_pos rfl]; rfl
theorem mark_da {d r : List Int} {s : Jst} : markM 218 d r s = (match scanM d s with
 | none => none
 | some t => some (s, t, r)) := by unfold markM; rw [if_neg (by decide), if_neg (by decide), if_neg (by decide), if_neg (by decide), if_pos rfl]; rfl
structure StOk (st : List Int) : Prop where
 len : st.length = 64
 rng : ∀ i, i < 64 → 1 ≤ st.getD i 0 ∧ st.getD i 0 ≤ 255
theorem zzB_len (st : List Int) : (zzB st).length = 64 := tab_len _ _
theorem zzB_get {st : List Int} {i : Nat} (hi : i < 64) : (zzB st).getD i 0 = st.getD (zig i) 0 := tab_getD hi
theorem stepsD_zz {st : List Int} (h : StOk st) {k : Nat} (hk : k ≤ 3) (S : StepsT) : stepsD ((k : Int) :: zzB st) S = some (S.set k (some st)) := by
 have hok : okT ((k : Int) :: zzB st) := by
  refine ⟨by rw [List.length_cons, zzB_len]; omega, by rw [List.getD_cons_zero]; omega, fun i hi => ?_⟩
  rw [Nat.add_comm, List.getD_cons_succ, zzB_get hi]
  have := h.rng _ (zig_lt hi); omega
 rw [stepsD, if_neg (by simp), dif_pos hok, List.drop_succ_cons, List.drop_succ_cons, List.drop_zero, List.drop_eq_nil_of_le (by rw [zzB_len]; omega), List.getD_cons_zero, Int.toNat_natCast, spread_zig h.len zeros64 (zzB st) zeros64_len (fun i hi => zzB_get hi), stepsD, if_pos rfl]
theorem sizesM_frame {W Ht : Nat} {half : Bool} {s : Jst} (hs : s.seen = false) (hz : SizedM W Ht) : sizesM (frameB W Ht half) s = some { s with W := W, Ht := Ht, seen := true, half := half, wh := [0, 1, 1] } := by
 obtain ⟨h1, h2, h3, h4, h5⟩ := hz
 have e1 : (((W / 256 : Nat) : Int)) * 256 + ((W % 256 : Nat) : Int) = W := by omega
 have e2 : (((Ht / 256 : Nat) : Int)) * 256 + ((Ht % 256 : Nat) : Int) = Ht := by omega
 unfold sizesM frameB
 simp only [List.getD_cons_zero, List.getD_cons_succ, List.length_cons, List.length_nil]
 rw [e1, e2, if_pos]
 ·congr 1
  cases half <;> rfl
 ·refine ⟨hs, rfl, rfl, rfl, fun k hk => ?_, ?_⟩
  rotate_left
  ·show SizedM (((W / 256 : Nat) : Int) * 256 + ((W % 256 : Nat) : Int)) (((Ht / 256 : Nat) : Int) * 256 + ((Ht % 256 : Nat) : Int))
   rw [e1, e2]; exact ⟨h1, h2, h3, h4, h5⟩
  obtain rfl | rfl | rfl : k = 0 ∨ k = 1 ∨ k = 2 := by omega
  ·cases half
   ·exact ⟨rfl, .inl rfl, show (0 : Int) ≤ 3 by decide⟩
   ·exact ⟨rfl, .inr ⟨rfl, rfl⟩, show (0 : Int) ≤ 3 by decide⟩
  ·exact ⟨rfl, .inl rfl, show (1 : Int) ≤ 3 by decide⟩
  ·exact ⟨rfl, .inl rfl, show (1 : Int) ≤ 3 by decide⟩
def TTb (A : List Itm) (t : Nat) : TabJ := (srtL (lsC (cntS A t)) 16, srtS (lsC (cntS A t)) 16)
def cdA (A : List Itm) (C : List (Option (List Int × List Int))) : List (Option (List Int × List Int)) := (((C.set 0 (some (TTb A 0))).set 1 (some (TTb A 1))).set 4 (some (TTb A 2))).set 5 (some (TTb A 3))
def stA (st0 st1 : List Int) (S : StepsT) : StepsT := (S.set 0 (some st0)).set 1 (some st1)
theorem tabB_len {A : List Itm} (hA : A.length ≤ 1000000000) (t : Nat) : (tabB A t).length ≤ 273 := by
 unfold tabB dataM
 rw [List.length_cons, List.length_append, cntsL_len, srt_len, srtL_len]
 have := lsum_le (ls := lsC (cntS A t)) 16 _ (Nat.le_refl _)
 rw [lsC_len (cntS_ok hA t)] at this
 rw [lsC_len (cntS_ok hA t)]
 omega
theorem codesD_tab {A : List Itm} (hA : A.length ≤ 1000000000) (t : Nat) (ht : t < 4) (C : List (Option (List Int × List Int))) : codesD (tabB A t) C = some (C.set (t % 2 + 4 * (t / 2)) (some (TTb A t))) := by
 unfold tabB
 rw [codesD_data (codeC_ok (cntS_ok hA t)) (by omega) (by omega) (by omega)]
 unfold TTb
 congr 2
 omega
theorem head_read {W Ht : Nat} {half : Bool} {st0 st1 : List Int} {A : List Itm} (hz : SizedM W Ht) (h0 : StOk st0) (h1 : StOk st1) (hA : A.length ≤ 1000000000) {s : Jst} (hs : s.seen = false) (hst : s.st.length = 4) (hcd : s.cd.length = 8) (r : List Int) :
    headM (headB W Ht half st0 st1 A ++ r) s = some ({ s with W := W, Ht := Ht, seen := true, half := half, wh := [0, 1, 1], st := stA st0 st1 s.st, cd := cdA A s.cd }, [(0, 4), (1, 5), (1, 5)], r) := by
  unfold headB
  simp only [List.append_assoc]
  rw [headM_segB (by rw [List.length_cons, zzB_len]; omega), mark_db, show (0 : Int) = ((0 : Nat) : Int) from rfl, stepsD_zz h0 (by omega)]
  simp only
  rw [headM_segB (by rw [List.length_cons, zzB_len]; omega), mark_db, show (1 : Int) = ((1 : Nat) : Int) from rfl, stepsD_zz h1 (by omega)]
  simp only
  rw [headM_segB (by unfold frameB; simp), mark_c0, sizesM_frame (by exact hs) hz]
  simp only
  rw [headM_segB (by have := tabB_len hA 0; omega), mark_c4, codesD_tab hA 0 (by omega)]
  simp only
  rw [headM_segB (by have := tabB_len hA 1; omega), mark_c4, codesD_tab hA 1 (by omega)]
  simp only
  rw [headM_segB (by have := tabB_len hA 2; omega), mark_c4, codesD_tab hA 2 (by omega)]
  simp only
  rw [headM_segB (by have := tabB_len hA 3; omega), mark_c4, codesD_tab hA 3 (by omega)]
  simp only
  rw [headM_segB (by decide), mark_da]
  have hsc : scanM scanB { s with W := (W : Int), Ht := (Ht : Int), seen := true, half := half, wh := [0, 1, 1], st := stA st0 st1 s.st, cd := cdA A s.cd } = some [(0, 4), (1, 5), (1, 5)] := by
    unfold scanM
    rw [if_pos]
    · rfl
    · refine ⟨rfl, rfl, rfl, rfl, rfl, rfl, fun k hk => ?_⟩
      match hS : s.st, hst with
      | [a0, a1, a2, a3], _ =>
        match hC : s.cd, hcd with
        | [c0, c1, c2, c3, c4, c5, c6, c7], _ =>
          obtain rfl | rfl | rfl : k = 0 ∨ k = 1 ∨ k = 2 := by omega
          all_goals exact ⟨rfl, by decide, by decide, rfl, rfl, rfl⟩
  have e : ((((s.cd.set (0 % 2 + 4 * (0 / 2)) (some (TTb A 0))).set (1 % 2 + 4 * (1 / 2)) (some (TTb A 1))).set (2 % 2 + 4 * (2 / 2)) (some (TTb A 2))).set (3 % 2 + 4 * (3 / 2)) (some (TTb A 3))) = cdA A s.cd := rfl
  rw [e]
  have e2 : (s.st.set 0 (some st0)).set 1 (some st1) = stA st0 st1 s.st := rfl
  rw [e2, hsc]
def eA (A : List Itm) (t : Nat) (c : Int) : List Int := eBits (lsC (cntS A t)) (mC (cntS A t)) c
theorem bits_of {ws B : List Int} (h : WOk true ws B) (h8 : ws.length % 8 = 0) : bitsH B = ws := by
 have hl := h.len
 refine list_ext_getD (n := ws.length) (by rw [bitsH_len]; omega) rfl fun j hj => ?_
 rw [gD_get (bitsH_get (by omega)), h.bit]
theorem fill_len (ws : List Int) (v : Int) : (fillM ws v).length % 8 = 0 := by unfold fillM; rw [List.length_append, List.length_replicate]; omega
theorem lsC_pos {A : List Itm} (hA : A.length ≤ 1000000000) {x : Itm} (hx : x ∈ A) (hs : 0 ≤ x.s ∧ x.s < 256) : 0 < (lsC (cntS A x.t)).getD x.s.toNat 0 := by
 have hc := cntS_ok hA x.t
 have h1 := cntS_pos hx hs
 have h2 := lsC_zero hc (i := x.s.toNat) (by omega)
 have h3 := (codeC_ok hc).rng _ (List.mem_of_getElem? (get_gD (lsC (cntS A x.t)) 0 (i := x.s.toNat) (by rw [lsC_len hc]; omega)))
 rcases Int.lt_or_eq_of_le h3.1 with h | h
 ·exact h
 ·exact absurd (h2.1 h.symm) (by omega)
theorem its_ge {A : List Itm} (hA : A.length ≤ 1000000000) : ∀ (l : List Itm), (∀ x ∈ l, x ∈ A ∧ 0 ≤ x.s ∧ x.s < 256) → l.length ≤ (itsBits (eA A) l).length
 | [], _ => by simp [itsBits]
 | x :: l, h => by
  rw [itsBits_cons, List.length_append, List.length_cons]
  have := its_ge hA l fun y hy => h y (List.mem_cons_of_mem _ hy)
  obtain ⟨h1, h2⟩ := h x (List.mem_cons_self ..)
  have h3 := lsC_pos hA h1 h2
  have : 0 < (itBits (eA A) x).length := by
   unfold itBits eA eBits
   rw [List.length_append, bitsOf_len]; omega
  omega
theorem its_cnt : ∀ (O : List (Nat × Nat × Nat)) (bl : List (List Int)) (la : List Int), O.length = bl.length → O.length ≤ (itemsM O bl la).length
 | [], bl, la, _ => by simp
 | u :: O, [], la, h => by simp at h
 | u :: O, b :: bl, la, h => by
  rw [itemsM, List.length_append, List.length_cons]
  have := its_cnt O bl (la.set u.1 (b.getD 0 0)) (by simpa using h)
  have : 0 < (blkI (min u.1 1) (la.getD u.1 0) b).length := by unfold blkI; simp
  omega
structure EncOk (W Ht : Nat) (half : Bool) (bl : List (List Int)) (st0 st1 : List Int) (B : List Int) : Prop where
 sz : SizedM W Ht
 W1000 : W ≤ 1000
 H1000 : Ht ≤ 1000
 bln : bl.length = (orderM W Ht half).length
 wb : ∀ b ∈ bl, WBlk b
 s0 : StOk st0
 s1 : StOk st1
 bits : WOk true (fillM (itsBits (eA (itemsM (orderM W Ht half) bl [0, 0, 0])) (itemsM (orderM W Ht half) bl [0, 0, 0])) 1) B
theorem EncOk.few {W Ht : Nat} {half : Bool} {bl : List (List Int)} {st0 st1 B : List Int} (h : EncOk W Ht half bl st0 st1 B) : (itemsM (orderM W Ht half) bl [0, 0, 0]).length ≤ 1000000000 := by
 have h1 := itemsM_len (orderM W Ht half) bl [0, 0, 0]
 have h2 := order_cnt W Ht half h.W1000 h.H1000
 omega
theorem la0 : ∀ j, j < 3 → -1024 ≤ ([0, 0, 0] : List Int).getD j 0 ∧ ([0, 0, 0] : List Int).getD j 0 < 1024 := fun j hj => by
 obtain rfl | rfl | rfl : j = 0 ∨ j = 1 ∨ j = 2 := by omega
 all_goals exact ⟨by decide, by decide⟩
theorem body_read {W Ht : Nat} {half : Bool} {bl : List (List Int)} {st0 st1 B : List Int} (h : EncOk W Ht half bl st0 st1 B) {s : Jst} (hs : s.seen = false) (hst : s.st.length = 4) (hcd : s.cd.length = 8) :
    bodyJ { s with W := W, Ht := Ht, seen := true, half := half, wh := [0, 1, 1], st := stA st0 st1 s.st, cd := cdA (itemsM (orderM W Ht half) bl [0, 0, 0]) s.cd } [(0, 4), (1, 5), (1, 5)] B = some ⟨W, Ht, half, bl, [st0, st1, st1]⟩ := by
  have hA := h.few
  have hsym := items_sym (orderM W Ht half) bl [0, 0, 0] h.wb rfl la0 (fun u hu => (order_in u hu).1)
  have hcnt := its_cnt (orderM W Ht half) bl [0, 0, 0] h.bln.symm
  have hB := bits_of h.bits (fill_len _ _)
  have hBl := bitsH_len B
  have hin := order_in (W := W) (Ht := Ht) (half := half)
  have hbits := h.bits
  generalize hO : orderM W Ht half = O at *
  generalize hAA : itemsM O bl [0, 0, 0] = A at *
  have hge := its_ge hA A fun x hx => ⟨hx, (hsym x hx).2.1, (hsym x hx).2.2.1⟩
  have hpad : (fillM (itsBits (eA A) A) 1) = itsBits (eA A) A ++ List.replicate ((8 - (itsBits (eA A) A).length % 8) % 8) (1 % 2) := rfl
  rw [hB] at hBl
  have hfl : (fillM (itsBits (eA A) A) 1).length = (itsBits (eA A) A).length + (8 - (itsBits (eA A) A).length % 8) % 8 := by rw [hpad, List.length_append, List.length_replicate]
  unfold bodyJ
  simp only [Int.toNat_natCast]
  rw [hO, if_neg (by omega), hB, hpad]
  have hT : ∀ u ∈ O, u.1 < 3 ∧ tabsJ { s with W := (W : Int), Ht := (Ht : Int), seen := true, half := half, wh := [0, 1, 1], st := stA st0 st1 s.st, cd := cdA A s.cd } [(0, 4), (1, 5), (1, 5)] u.1 = (TTb A (min u.1 1), TTb A (min u.1 1 + 2)) := fun u hu => by
    have h3 := (hin u hu).1
    refine ⟨h3, ?_⟩
    match hC : s.cd, hcd with
    | [c0, c1, c2, c3, c4, c5, c6, c7], _ =>
      generalize u.1 = k at *
      obtain rfl | rfl | rfl : k = 0 ∨ k = 1 ∨ k = 2 := by omega
      all_goals rfl
  have hr : ∀ x ∈ itemsM O bl [0, 0, 0], Reads (TTb A x.t) (eA A x.t) x.s := fun x hx => by
    rw [hAA] at hx
    obtain ⟨ht, s1, s2, _⟩ := hsym x hx
    have := codes_read (codeC_ok (cntS_ok hA x.t)) (s := x.s.toNat) (by omega) (lsC_pos hA hx ⟨s1, s2⟩)
    rwa [show ((x.s.toNat : Nat) : Int) = x.s by omega] at this
  have := items_read (T := tabsJ { s with W := (W : Int), Ht := (Ht : Int), seen := true, half := half, wh := [0, 1, 1], st := stA st0 st1 s.st, cd := cdA A s.cd } [(0, 4), (1, 5), (1, 5)]) (TT := TTb A) (E := eA A) (rest := List.replicate ((8 - (itsBits (eA A) A).length % 8) % 8) (1 % 2)) O bl [0, 0, 0] (by rw [h.bln, hO]) h.wb hT rfl la0 hr
  rw [hAA] at this
  rw [this]
  simp only
  rw [if_neg (by rw [List.length_replicate]; omega)]
  congr 2
  match hS : s.st, hst with
  | [a0, a1, a2, a3], _ => rfl
theorem dec_enc {W Ht : Nat} {half : Bool} {bl : List (List Int)} {st0 st1 B : List Int} (h : EncOk W Ht half bl st0 st1 B) : decJ (encB W Ht half st0 st1 (itemsM (orderM W Ht half) bl [0, 0, 0]) B) = some ⟨W, Ht, half, bl, [st0, st1, st1]⟩ := by
 unfold decJ encB
 rw [if_neg (by simp)]
 have hd : List.drop 2 (([255, 216] : List Int) ++ (headB W Ht half st0 st1 (itemsM (orderM W Ht half) bl [0, 0, 0]) ++ (stuffB B ++ [255, 217]))) = headB W Ht half st0 st1 (itemsM (orderM W Ht half) bl [0, 0, 0]) ++ (stuffB B ++ [255, 217]) := rfl
 rw [hd]
 rw [head_read h.sz h.s0 h.s1 h.few rfl rfl rfl]
 simp only
 rw [stuff_body]
 simp only
 exact body_read h (s := jst0) rfl rfl rfl
end Go.Proofs
namespace Go.Proofs
open Go.Sh
variable {H0 H : Heap} {σ : List Rs} {R : Value → Heap → Prop}
def four (q : Nat → Nat) (P : Nat → List Int) : List Rs := [.sl (some ⟨q 0, 0, none⟩) 256 256 3 1 (ints (P 0)), .sl (some ⟨q 1, 0, none⟩) 256 256 3 1 (ints (P 1)), .sl (some ⟨q 2, 0, none⟩) 256 256 3 1 (ints (P 2)), .sl (some ⟨q 3, 0, none⟩) 256 256 3 1 (ints (P 3))]
theorem four_get {q : Nat → Nat} {k : Nat} {P : Nat → List Int} {ρ : List Rs} (hk : k < 4) : (four q P ++ ρ)[k]? = some (.sl (some ⟨q k, 0, none⟩) 256 256 3 1 (ints (P k))) := by
 obtain rfl | rfl | rfl | rfl : k = 0 ∨ k = 1 ∨ k = 2 ∨ k = 3 := by omega
 all_goals rfl
theorem four_set {q : Nat → Nat} {k : Nat} {P : Nat → List Int} {ρ : List Rs} (hk : k < 4) (L : List Int) : (four q P ++ ρ).set k (.sl (some ⟨q k, 0, none⟩) 256 256 3 1 (ints L)) = four q (updP P k L) ++ ρ := by
 obtain rfl | rfl | rfl | rfl : k = 0 ∨ k = 1 ∨ k = 2 ∨ k = 3 := by omega
 all_goals rfl
theorem flat4_get : ∀ {l : List Itm} {i : Nat} {x : Itm}, l[i]? = some x → (flat4 l)[i * 4]? = some (x.t : Int) ∧ (flat4 l)[i * 4 + 1]? = some x.s ∧ (flat4 l)[i * 4 + 2]? = some x.v ∧ (flat4 l)[i * 4 + 3]? = some (x.n : Int)
 | y :: l, 0, x, h => by
  simp at h; subst h
  exact ⟨rfl, rfl, rfl, rfl⟩
 | y :: l, i + 1, x, h => by
  have h := flat4_get (l := l) (i := i) (by simpa using h)
  rw [show (i + 1) * 4 = i * 4 + 1 + 1 + 1 + 1 from by omega]
  exact h
theorem rowItems {p : Option Addr} {n : Nat} {el : TypeId} {A : List Itm} (h : RS H p n el 4 (ints (flat4 A))) {t : Nat} {x : Itm} (hx : A[t]? = some x) (ht : t < n) : ∃ blk, p = some ⟨blk, 0, none⟩ ∧ rowIn H ⟨blk, t * 4, none⟩ (itV x) :=
 h.row ht (by decide) fun j v hv => by
  obtain ⟨h1, h2, h3, h4⟩ := flat4_get hx
  have hj : j < 4 := (Array.getElem?_eq_some_iff.1 hv).1
  obtain rfl | rfl | rfl | rfl : j = 0 ∨ j = 1 ∨ j = 2 ∨ j = 3 := by omega
  ·cases hv; exact ints_get h1
  ·cases hv; exact ints_get h2
  ·cases hv; exact ints_get h3
  ·cases hv; exact ints_get h4
theorem itsBits_snoc (E : Nat → Int → List Int) (l : List Itm) (x : Itm) : itsBits E (l ++ [x]) = itsBits E l ++ itBits E x := by rw [itsBits_append]; simp [itsBits]
theorem its_le {A : List Itm} (hA : A.length ≤ 1000000000) : ∀ (l : List Itm), (∀ x ∈ l, SymOk x) → (itsBits (eA A) l).length ≤ 27 * l.length
 | [], _ => by simp [itsBits]
 | x :: l, h => by
  rw [itsBits_cons, List.length_append, List.length_cons]
  have := its_le hA l fun y hy => h y (List.mem_cons_of_mem _ hy)
  obtain ⟨h1, h2, h3, _, _, _, h7⟩ := h x (List.mem_cons_self ..)
  have hc := cntS_ok hA x.t
  have hr := (codeC_ok hc).rng _ (List.mem_of_getElem? (get_gD (lsC (cntS A x.t)) 0 (i := x.s.toNat) (by rw [lsC_len hc]; omega)))
  have : (itBits (eA A) x).length ≤ 27 := by
   unfold itBits eA eBits
   rw [List.length_append, bitsOf_len, bitsOf_len]; omega
  omega
theorem sym_code {A : List Itm} (hA : A.length ≤ 1000000000) {x : Itm} (hx : x ∈ A) (hs : SymOk x) : ∃ n : Nat, n ≤ 16 ∧ (lenC (cntS A x.t))[x.s.toNat]? = some (n : Int) ∧ ∃ c : Int, (codesM (lenC (cntS A x.t)))[x.s.toNat]? = some c ∧ 0 ≤ c ∧ c < 2 ^ n ∧ eA A x.t x.s = bitsOf true c n := by
 obtain ⟨h1, h2, h3, _, _, _, h7⟩ := hs
 have hc := cntS_ok hA x.t
 have hp := lsC_pos hA hx ⟨h2, h3⟩
 have hg := get_gD (lenC (cntS A x.t)) 0 (i := x.s.toNat) (by rw [lenC_len hc]; omega)
 have hr := (lenC_okC hc).w.rng _ (List.mem_of_getElem? hg)
 have e := lsC_get (cs := cntS A x.t) (i := x.s.toNat) (by omega)
 rw [e] at hp
 obtain ⟨n, hn⟩ := Int.eq_ofNat_of_zero_le hr.1
 rw [hn] at hg hr hp
 have hcr := code_rng (lenC_okC hc) hg (by omega)
 refine ⟨n, by omega, hg, codeM (lenC (cntS A x.t)) x.s.toNat, codesM_get (by rw [lenC_len hc]; omega), hcr.1, hcr.2, ?_⟩
 unfold eA eBits
 rw [← lenC_split hc, e, hn, Int.toNat_natCast]
end Go.Proofs
namespace Go.Proofs
open Go.Sh
variable {H0 H : Heap} {σ : List Rs} {R : Value → Heap → Prop}
theorem steps_ok {q : Int} (d : Bool) : StOk (stepsM q d) := ⟨stepsM_len q d, fun i hi => by
 rw [show (stepsM q d).getD i 0 = stepV q d i from tab_getD hi]
 unfold stepV; omega⟩
theorem appB {op q : Option Addr} {ol oc n : Nat} {out gs : List Int} (hs : St H0 H (.sl op ol oc 5 1 (kints .u8 out) :: σ)) (ho : out.length = ol) (hI : IS H q n (kints .u8 gs)) (hl : ol + n ≤ 1000000000) {K : Option Addr → Nat → Nat → Heap → Prop}
    (hK : ∀ p' c' H', St H0 H' (.sl p' (out ++ gs).length c' 5 1 (kints .u8 (out ++ gs)) :: σ) → K p' (out ++ gs).length c' H') : appQ 1 1 #[.int .u8 0] H op ol oc q n 5 K := by
  have hgl := hI.length
  refine hs.appI 0 rfl hI (kints_one _ _) rfl (by omega) (by omega) fun p' c' H' hs' => ?_
  have e : ol + n = (out ++ gs).length := by rw [List.length_append]; omega
  rw [← kints_append, e] at hs'
  rw [e]
  exact hK p' c' H' hs'
section
variable {op : Option Addr} {ol oc : Nat} {out : List Int}
theorem segOut (hs : St H0 H (.sl op ol oc 5 1 (kints .u8 out) :: σ)) (ho : out.length = ol) {mark : Int} {p : Option Addr} {l c : Nat} {d : List Int} (hI : IS H p l (kints .u8 d)) (hl : l ≤ 60000) (hol : ol ≤ 900000000) {K : Option Addr → Nat → Nat → Heap → Prop}
    (hK : ∀ p' c' H', St H0 H' (.sl p' (out ++ segB mark d).length c' 5 1 (kints .u8 (out ++ segB mark d)) :: σ) → K p' (out ++ segB mark d).length c' H') :
    CallsH Try.prog 15 #[.int .u8 mark, .slice p l c] H fun r H' => ∃ (sp : Option Addr) (sl sc : Nat), r = .slice sp sl sc ∧ appQ 1 1 #[.int .u8 0] H' op ol oc sp sl 5 K := by
  have hdl := hI.length
  refine c15 hI hl fun q m H1 hs1 => ⟨_, _, _, rfl, ?_⟩
  have hs2 := hs.call hs1
  have hs3 := hs2.swap
  exact appB hs3 ho (hs2.is 0 rfl) (by rw [segB_len]; omega) fun p' c' H' hs' => hK p' c' H' (hs'.del 1)
end
def outK (q : Int) (k : Nat) : List Int := [255, 216] ++ (List.range k).flatMap fun (j : Nat) => segB 219 ((j : Int) :: zzB (stepsM q (decide (j = 1))))
theorem outK_succ (q : Int) (k : Nat) : outK q (k + 1) = outK q k ++ segB 219 ((k : Int) :: zzB (stepsM q (decide (k = 1)))) := by
 unfold outK; rw [List.range_succ, List.flatMap_append, List.append_assoc]; simp
theorem outK_len (q : Int) : ∀ k, (outK q k).length = 2 + 69 * k
 | 0 => rfl
 | k + 1 => by rw [outK_succ, List.length_append, outK_len q k, segB_len, List.length_cons, zzB_len]; omega
def TQ (A : List Itm) (b1 b2 : Nat → Nat) (k : Nat) (H : Heap) : Prop := ∀ t, t < k → IS H (some ⟨b1 t, 0, none⟩) 257 (ints (lenC (cntS A t))) ∧ IS H (some ⟨b2 t, 0, none⟩) 257 (ints (codesM (lenC (cntS A t))))
def updN (f : Nat → Nat) (k v : Nat) : Nat → Nat := fun j => if j = k then v else f j
set_option maxHeartbeats 4000000 in
theorem c7 {w h q : Int} {l c : Nat} {p : Option Addr} {rgb : List Int} {half : Bool} (hi : IS H p l (kints .u8 rgb)) (hr : ∀ x ∈ rgb, 0 ≤ x ∧ x < 256) (hl : l ≤ 3000)
    (hwb : ∀ W Ht : Nat, 1 ≤ W → 1 ≤ Ht → W * Ht ≤ 1000 → ∀ b ∈ blocksL W Ht rgb q half, WBlk b)
    (h31 : ¬ SizedM w h → ∀ H', Ext H H' → R (.tuple #[.slice none 0 0, .int .i64 31]) H')
    (h25 : SizedM w h → (l : Int) ≠ 3 * w * h → ∀ H', Ext H H' → R (.tuple #[.slice none 0 0, .int .i64 25]) H')
    (h32 : SizedM w h → (l : Int) = 3 * w * h → ¬ (1 ≤ q ∧ q ≤ 100) → ∀ H', Ext H H' → R (.tuple #[.slice none 0 0, .int .i64 32]) H')
    (hR : ∀ (W Ht : Nat) (B : List Int), w = W → h = Ht → l = 3 * (W * Ht) → W * Ht ≤ 1000 → 1 ≤ q ∧ q ≤ 100 → EncOk W Ht half (blocksL W Ht rgb q half) (stepsM q false) (stepsM q true) B →
      ∀ H' b m, St H H' [.sl b (encB W Ht half (stepsM q false) (stepsM q true) (itemsM (orderM W Ht half) (blocksL W Ht rgb q half) [0, 0, 0]) B).length m 5 1 (kints .u8 (encB W Ht half (stepsM q false) (stepsM q true) (itemsM (orderM W Ht half) (blocksL W Ht rgb q half) [0, 0, 0]) B))] →
      R (.tuple #[.slice b (encB W Ht half (stepsM q false) (stepsM q true) (itemsM (orderM W Ht half) (blocksL W Ht rgb q half) [0, 0, 0]) B).length m, .int .i64 0]) H') :
    CallsH Try.prog 7 #[.int .i64 w, .int .i64 h, .slice p l c, .int .i64 q, .bool half] H R := by
  refine Try.s7 ?_
  unfold Try.S7
  refine c8 hi hr hl (fun hn H1 e1 => ⟨_, _, _, _, rfl, br_t rfl (h31 hn H1 e1)⟩) (fun hs hn H1 e1 => ⟨_, _, _, _, rfl, br_t rfl (h25 hs hn H1 e1)⟩) (fun hs hln hn H1 e1 => ⟨_, _, _, _, rfl, br_t rfl (h32 hs hln hn H1 e1)⟩)
    (fun W Ht hW hHt W1 H1' hlN hn hq H1 bb bm hs1 => ⟨_, _, _, _, rfl, br_f rfl ?_⟩)
  subst hW hHt
  obtain ⟨bW, bH⟩ := le_of_area W1 H1' hn
  have hR := fun B => hR W Ht B rfl rfl hlN hn hq
  have hwb := hwb W Ht W1 H1' hn
  clear h31 h25 h32
  have hbl := blocksL_len W Ht rgb q half
  have hst : ∀ d, stL q d = stepsM q d := fun d => by unfold stL; rw [if_pos hq]
  have hcnt := order_cnt W Ht half bW bH
  generalize hBL : blocksL W Ht rgb q half = bl at *
  rw [← hbl] at hs1 ⊢
  refine c13 fun H2 e2 => ⟨_, rfl, ((hs1.step e2).alc fun b13 H3 hs3 => ⟨by rw [intsA_size]; rfl, hs3.putAllA 0 rfl (by simp [zigI_len]) fun H4 hs4 => hs4.alc fun b16 H5 hs5 => ?_⟩)⟩
  have hs5 := hs5.toSl 0 (l := 2) (k := 1) rfl rfl rfl (by simp [Value.oneCell'])
  have hs5 : St H H5 (.sl (some ⟨b16, 0, none⟩) 2 2 5 1 (kints .u8 (outK q 0)) :: .cell b13 (ints zigI).toArray 40 :: .sl bb bl.length bm 40 64 (ints bl.flatten) :: []) := hs5
  clear hs1 hs3 hs4
  intro X hX
  have stp : ∀ (k : Nat) (op : Option Addr) (oc : Nat) (H6 : Heap), k < 2 → St H H6 (.sl op (outK q k).length oc 5 1 (kints .u8 (outK q k)) :: .cell b13 (ints zigI).toArray 40 :: .sl bb bl.length bm 40 64 (ints bl.flatten) :: []) →
      (∀ op' oc' H7, St H H7 (.sl op' (outK q (k + 1)).length oc' 5 1 (kints .u8 (outK q (k + 1))) :: .cell b13 (ints zigI).toArray 40 :: .sl bb bl.length bm 40 64 (ints bl.flatten) :: []) → X [.slice op' (outK q (k + 1)).length oc', .int .i64 ((k + 1 : Nat) : Int)] H7) → X [.slice op (outK q k).length oc, .int .i64 (k : Nat)] H6 := fun k op oc H6 hk hs6 hK => by
    refine hX _ _ _ _ H6 (br_y (by omega) ?_)
    have ek : ((k : Int) == 1) = decide (k = 1) := by
      obtain rfl | rfl : k = 0 ∨ k = 1 := by omega
      all_goals rfl
    rw [ek]
    refine stepsC fun H7 e7 => ⟨_, _, rfl, ?_⟩
    rw [hst]
    have hzl := stepsM_len q (decide (k = 1))
    have hzr := steps_ok (q := q) (decide (k = 1))
    generalize hS : stepsM q (decide (k = 1)) = S at *
    refine (hs6.step e7).alc fun b26 H8 hs8 => ⟨by rw [intsA_size]; exact hzl, hs8.putAllA 0 rfl (by rw [hzl]; simp) fun H9 hs9 => hs9.alc fun b29 H10 hs10 => ⟨_, by rw [intsA_size]; rfl, rowIn_whole (hs10.block 3 rfl), ?_⟩⟩
    rw [wr8 (x := (k : Int)) (by omega)] at hs10
    have hs10 := hs10.toSl 0 (l := 1) (k := 1) rfl rfl rfl (by simp [Value.oneCell'])
    have hs10 : St H H10 (.sl (some ⟨b29, 0, none⟩) 1 1 5 1 (kints .u8 ((k : Int) :: (zzB S).take 0)) :: .cell b26 (ints S).toArray 40 :: .sl op (outK q k).length oc 5 1 (kints .u8 (outK q k)) :: .cell b13 (ints zigI).toArray 40 :: .sl bb bl.length bm 40 64 (ints bl.flatten) :: []) := hs10
    intro Y hY
    have go : ∀ t, t ≤ 64 → ∀ dp dc H11, St H H11 (.sl dp (1 + t) dc 5 1 (kints .u8 ((k : Int) :: (zzB S).take t)) :: .cell b26 (ints S).toArray 40 :: .sl op (outK q k).length oc 5 1 (kints .u8 (outK q k)) :: .cell b13 (ints zigI).toArray 40 :: .sl bb bl.length bm 40 64 (ints bl.flatten) :: []) → Y [.slice dp (1 + t) dc, .int .i64 (t : Nat)] H11 := upto fun t ht ih dp dc H11 hs11 => by
      refine hY _ _ _ _ H11 (br_dec (fun hlt => ?_) (fun hge => ?_))
      · have hlt : t < 64 := by omega
        have hzt := zig_lt hlt
        have hsr := hzr.rng _ hzt
        refine ⟨by omega, by omega, ((zig t : Nat) : Int), by rw [Int.toNat_natCast, Nat.mul_one, List.getElem?_toArray]; exact ints_get (zigI_get hlt), by omega, by omega, S.getD (zig t) 0, ?_, ?_⟩
        · rw [add_none, Nat.zero_add, Int.toNat_natCast, Nat.mul_one]; exact hs11.rdA 1 rfl (get_gD S 0 (by omega))
        rw [wr8 (x := S.getD (zig t) 0) (by omega), w1 (by omega)]
        refine hs11.alc fun b38 H12 hs12 => hs12.appC 1 0 rfl rfl rfl (fun v hv => by rw [List.mem_singleton.1 hv]; rfl) (by decide) rfl (by omega) (by omega) fun p' c' H13 hs13 => ?_
        have hs13 := hs13.tail
        have e : kints .u8 ((k : Int) :: (zzB S).take t) ++ [Value.int .u8 (S.getD (zig t) 0)] = kints .u8 ((k : Int) :: (zzB S).take (t + 1)) := by
          have hg : (zzB S)[t]? = some (S.getD (zig t) 0) := by rw [get_gD (zzB S) 0 (by rw [zzB_len]; exact hlt), zzB_get hlt]
          rw [List.take_add_one, hg, ← List.cons_append, kints_append]; rfl
        simp only [List.set_cons_zero, List.set_cons_succ] at hs13
        have hs13 : St H H13 (.sl p' (1 + (t + 1)) c' 5 1 (kints .u8 ((k : Int) :: (zzB S).take (t + 1))) :: .cell b26 (ints S).toArray 40 :: .sl op (outK q k).length oc 5 1 (kints .u8 (outK q k)) :: .cell b13 (ints zigI).toArray 40 :: .sl bb bl.length bm 40 64 (ints bl.flatten) :: []) := by
          rw [← e]; exact hs13
        exact ih hlt p' c' H13 hs13
      · have : t = 64 := by omega
        subst this
        rw [List.take_of_length_le (by rw [zzB_len]; exact Nat.le_refl _)] at hs11
        rw [w1 (by omega)]
        have hol := outK_len q k
        refine (segOut (hs11.front 2 rfl) rfl (mark := 219) (hs11.is 0 rfl) (by omega) (by omega) (K := fun a b c H' => X [.slice a b c, .int .i64 ((k + 1 : Nat) : Int)] H') fun p' c' H' hs' => ?_).mono fun r H' ⟨sp, sl, sc, hr, hap⟩ => ⟨sp, sl, sc, hr, hap⟩
        have ho := outK_succ q k
        rw [hS] at ho
        rw [← ho] at hs' ⊢
        exact hK p' c' H' ((hs'.del 1).del 1)
    exact go 0 (by omega) _ _ H10 hs10
  refine stp 0 _ _ H5 (by omega) hs5 fun op1 oc1 H6 hs6 => stp 1 _ _ H6 (by omega) hs6 fun op oc H7 hs7 => hX _ _ _ _ H7 (br_n (by decide) ?_)
  clear stp hs5 hs6 hX X
  have hA1 := its_cnt (orderM W Ht half) bl [0, 0, 0] hbl.symm
  have hA2 := itemsM_len (orderM W Ht half) bl [0, 0, 0]
  have hsym := items_sym (orderM W Ht half) bl [0, 0, 0] hwb rfl la0 (fun u hu => (order_in u hu).1)
  have hAl : (itemsM (orderM W Ht half) bl [0, 0, 0]).length ≤ 128 * 95256 := by omega
  have hA : (itemsM (orderM W Ht half) bl [0, 0, 0]).length ≤ 1000000000 := by omega
  have ho2 := outK_len q (1 + 1)
  intro J hJ
  have frame : ∀ fi : Int, fi = (if half then 34 else 17) → J [.int .u8 fi] H7 := fun fi hfi => by
    refine hJ _ H7 ⟨by decide, by decide, hs7.alc fun b50 H8 hs8 => ?_⟩
    have hd : #[Value.int .u8 8, .int .u8 (IntKind.wrap .u8 (shrI .i64 (Ht : Int) 8)), .int .u8 (IntKind.wrap .u8 (Ht : Int)), .int .u8 (IntKind.wrap .u8 (shrI .i64 (W : Int) 8)), .int .u8 (IntKind.wrap .u8 (W : Int)), .int .u8 3, .int .u8 1, .int .u8 fi, .int .u8 0, .int .u8 2, .int .u8 17, .int .u8 1, .int .u8 3, .int .u8 17, .int .u8 1] = (kints .u8 (frameB W Ht half)).toArray := by
      rw [show (8 : Int) = ((8 : Nat) : Int) from rfl, shr_of _ (by omega), shr_of _ (by omega), show (2 : Int) ^ 8 = 256 by decide, wr8m, wr8m, wr8m, wr8m, hfi]
      have e1 : (Ht : Int) / 256 % 256 = ((Ht / 256 : Nat) : Int) := by omega
      have e2 : (W : Int) / 256 % 256 = ((W / 256 : Nat) : Int) := by omega
      have e3 : (Ht : Int) % 256 = ((Ht % 256 : Nat) : Int) := by omega
      have e4 : (W : Int) % 256 = ((W % 256 : Nat) : Int) := by omega
      rw [e1, e2, e3, e4]
      cases half <;> rfl
    rw [hd] at hs8
    refine (segOut (hs8.front 1 rfl) rfl (mark := 192) (is_block (l := 15) (hs8.block 0 rfl) rfl) (by omega) (by omega) fun p' c' H' hs' => ?_).mono fun r H' ⟨sp, sl, sc, hr, hap⟩ => ⟨sp, sl, sc, hr, hap⟩
    have hs9 := hs'.del 1
    clear hs8 hs'
    refine c16 bW bH (hs9.rs 2 rfl) rfl hbl hwb fun iq im H9 hs10 => ⟨_, _, _, rfl, ?_⟩
    have hs10 := hs9.call hs10
    have hs10 := (hs10.del 3).del 2
    generalize hAA : itemsM (orderM W Ht half) bl [0, 0, 0] = A at *
    have ho3 : (outK q (1 + 1) ++ segB 192 (frameB W Ht half)).length = 159 := by rw [List.length_append, ho2, segB_len]; rfl
    have ho3' : outK q (1 + 1) = [255, 216] ++ (segB 219 (0 :: zzB (stepsM q false)) ++ segB 219 (1 :: zzB (stepsM q true))) := by
      rw [outK_succ, outK_succ]; rfl
    generalize hout : outK q (1 + 1) ++ segB 192 (frameB W Ht half) = out3 at *
    refine hs10.alc fun b60 H10 hs11 => ?_
    have hs11 : St H H10 (.cell b60 (tabV 4 fun _ => .slice none 0 0) 49 :: .sl iq A.length im 51 4 (ints (flat4 A)) :: .sl p' out3.length c' 5 1 (kints .u8 out3) :: []) := hs11
    clear hs9 hs10
    intro X hX
    have mk : ∀ (k : Nat) (f : Nat → Value) (ρ : List Rs) (H' : Heap), k < 4 → St H H' (.cell b60 (tabV 4 f) 49 :: ρ) →
        (∀ b H2, St H H2 (.cell b60 (tabV 4 (updV f k (.slice (some ⟨b, 0, none⟩) 256 256))) 49 :: .sl (some ⟨b, 0, none⟩) 256 256 3 1 (ints (List.replicate 256 0)) :: ρ) → X [.int .i64 ((k + 1 : Nat) : Int)] H2) → X [.int .i64 (k : Nat)] H' := fun k f ρ H' hk hs' hK => by
      refine hX _ H' (br_y (by omega) ⟨by decide, by decide, by decide, by decide, hs'.alc fun b65 H2 hs2 => ⟨by omega, by omega, ?_⟩⟩)
      rw [repsA] at hs2
      rw [add_none, Nat.zero_add, Int.toNat_natCast, Nat.mul_one, w1 (by omega)]
      have hs3 := hs2.toSl 0 (l := 256) (k := 1) rfl (by rw [intsA_size, List.length_replicate]; rfl) rfl (fun v hv => ints_one _ v hv)
      refine putV hs3 1 rfl (by omega) rfl fun H3 hs4 => hK b65 H3 hs4.swap
    refine mk 0 _ _ H10 (by omega) hs11 fun a0 H11 hs12 => mk 1 _ _ H11 (by omega) hs12 fun a1 H12 hs13 => mk 2 _ _ H12 (by omega) hs13 fun a2 H13 hs14 => mk 3 _ _ H13 (by omega) hs14 fun a3 H14 hs15 => hX _ H14 (br_n (by decide) ?_)
    clear mk hs11 hs12 hs13 hs14 hX X
    obtain ⟨qa, hqa⟩ : ∃ f : Nat → Nat, f = fun k => if k = 0 then a0 else if k = 1 then a1 else if k = 2 then a2 else a3 := ⟨_, rfl⟩
    obtain ⟨fa, hfa⟩ : ∃ f : Nat → Value, f = updV (updV (updV (updV (fun _ => .slice none 0 0) 0 (.slice (some ⟨a0, 0, none⟩) 256 256)) 1 (.slice (some ⟨a1, 0, none⟩) 256 256)) 2 (.slice (some ⟨a2, 0, none⟩) 256 256)) 3 (.slice (some ⟨a3, 0, none⟩) 256 256) := ⟨_, rfl⟩
    have hfq : ∀ k, k < 4 → fa k = .slice (some ⟨qa k, 0, none⟩) 256 256 := fun k hk => by
      rw [hfa, hqa]
      obtain rfl | rfl | rfl | rfl : k = 0 ∨ k = 1 ∨ k = 2 ∨ k = 3 := by omega
      all_goals rfl
    have hc0 : ∀ t, cntS (A.take 0) t = List.replicate 256 0 := fun t => by
      refine list_ext_getD (n := 256) (cntS_len _ _) (by rw [List.length_replicate]) fun j hj => ?_
      rw [gD_get (cntS_get hj), List.getD_eq_getElem?_getD, List.getElem?_replicate, if_pos hj, List.take_zero]; rfl
    have hs16 : St H H14 (four qa (cntS (A.take 0)) ++ (.cell b60 (tabV 4 fa) 49 :: .sl iq A.length im 51 4 (ints (flat4 A)) :: .sl p' out3.length c' 5 1 (kints .u8 out3) :: [])) := by
      unfold four
      rw [hc0, hc0, hc0, hc0, hqa, hfa]
      refine hs15.perm ?_
      exact (List.reverse_perm [_, _, _, _, _]).append_right _
    clear hs15
    intro X hX
    have count : ∀ i, i ≤ A.length → ∀ H15, St H H15 (four qa (cntS (A.take i)) ++ (.cell b60 (tabV 4 fa) 49 :: .sl iq A.length im 51 4 (ints (flat4 A)) :: .sl p' out3.length c' 5 1 (kints .u8 out3) :: [])) → X [.int .i64 (i : Nat)] H15 := upto fun i hi ih H15 hs17 => by
      refine hX _ H15 (br_dec (fun hlt => ?_) (fun hge => ?_))
      · have hlt : i < A.length := by omega
        have hx := List.getElem?_eq_getElem hlt
        obtain ⟨hx4, hx0, hx256, _⟩ := hsym _ (List.mem_of_getElem? hx)
        generalize A[i] = x at *
        obtain ⟨blk, hiq, hrow⟩ := rowItems (hs17.rs 5 rfl) hx hlt
        refine ⟨_, hiq, by omega, by omega, itV x, rfl, by rw [add_none, Nat.zero_add, Int.toNat_natCast]; exact hrow, hs17.alc fun b73 H16 hs18 => ⟨rfl, hs18.putAll 0 rfl rfl (by simp [itV, Value.oneCell']) fun H17 hs19 => ?_⟩⟩
        have hs19 : St H H17 (.cell b73 (itV x) 51 :: (four qa (cntS (A.take i)) ++ (.cell b60 (tabV 4 fa) 49 :: .sl iq A.length im 51 4 (ints (flat4 A)) :: .sl p' out3.length c' 5 1 (kints .u8 out3) :: []))) := hs19
        have hg := get_gD (cntS (A.take i) x.t) 0 (i := x.s.toNat) (by rw [cntS_len]; omega)
        have hgr := (cntS_ok (l := A.take i) (by rw [List.length_take]; omega) x.t).rng _ (List.mem_of_getElem? hg)
        refine ⟨_, hs19.get 0 (j := 0) rfl rfl, by omega, by omega, some ⟨qa x.t, 0, none⟩, 256, 256, ?_, _, hs19.get 0 (j := 1) rfl rfl, ?_⟩
        · rw [add_none, Nat.zero_add, Int.toNat_natCast, Nat.mul_one, getV hs19 5 rfl hx4, hfq _ hx4]
        have hsl : (.cell b73 (itV x) 51 :: (four qa (cntS (A.take i)) ++ (.cell b60 (tabV 4 fa) 49 :: .sl iq A.length im 51 4 (ints (flat4 A)) :: .sl p' out3.length c' 5 1 (kints .u8 out3) :: [])))[x.t + 1]? = some (Rs.sl (some ⟨qa x.t, 0, none⟩) 256 256 3 1 (ints (cntS (A.take i) x.t))) := four_get hx4
        refine (hs19.is (x.t + 1) hsl).rd (ls := cntS (A.take i) x.t) hx0 (by omega) hg ⟨_, rfl, hx0, by omega, ?_⟩
        rw [add_none, Nat.zero_add, Nat.mul_one, wrap_id (n := (cntS (A.take i) x.t).getD x.s.toNat 0 + 1) (by omega) (by omega), w1 (by omega)]
        refine hs19.slPut (x.t + 1) hsl (by rw [ints_len, cntS_len]; omega) rfl fun H18 hs20 => ih hlt H18 ?_
        simp only [List.set_cons_succ] at hs20
        rw [ints_set, four_set hx4] at hs20
        have e : updP (cntS (A.take i)) x.t ((cntS (A.take i) x.t).set x.s.toNat ((cntS (A.take i) x.t).getD x.s.toNat 0 + 1)) = cntS (A.take (i + 1)) := by
          funext t
          rw [List.take_add_one, hx]
          simp only [Option.toList_some]
          rw [cntS_snoc _ _ _ ⟨hx0, hx256⟩]
          unfold updP
          split
          · rename_i h; subst h; rfl
          · rfl
        rw [e] at hs20
        exact hs20.tail
      · have : i = A.length := by omega
        subst this
        rw [List.take_of_length_le (Nat.le_refl _)] at hs17
        refine hs17.alc fun b83 H16 hs18 => hs18.alc fun b85 H17 hs19 => ?_
        have hs19 : St H H17 (.cell b85 (tabV 4 fun _ => .slice none 0 0) 49 :: .cell b83 (tabV 4 fun _ => .slice none 0 0) 49 :: (four qa (cntS A) ++ (.cell b60 (tabV 4 fa) 49 :: .sl iq A.length im 51 4 (ints (flat4 A)) :: .sl p' out3.length c' 5 1 (kints .u8 out3) :: []))) := hs19
        have hs20 := (St.persOf (τ := []) (Q := TQ A (fun _ => 0) (fun _ => 0) 0) hs19 fun _ _ t ht => by omega)
        clear hs16 hs17 hs18 hs19
        intro X hX
        have stp : ∀ (k : Nat) (op : Option Addr) (oc : Nat) (out : List Int) (g1 g2 : Nat → Value) (b1 b2 : Nat → Nat) (rem : List Rs) (H18 : Heap), k < 4 → out.length ≤ 10000 → (∀ t, t < k → (∃ c, g1 t = .slice (some ⟨b1 t, 0, none⟩) 256 c) ∧ ∃ c, g2 t = .slice (some ⟨b2 t, 0, none⟩) 256 c) →
            St H H18 (.sl (some ⟨qa k, 0, none⟩) 256 256 3 1 (ints (cntS A k)) :: .sl op out.length oc 5 1 (kints .u8 out) :: .cell b83 (tabV 4 g1) 49 :: .cell b85 (tabV 4 g2) 49 :: .cell b60 (tabV 4 fa) 49 :: .pers (TQ A b1 b2 k) :: .sl iq A.length im 51 4 (ints (flat4 A)) :: rem) →
            (∀ op' oc' g1' g2' b1' b2' H19, (∀ t, t < k + 1 → (∃ c, g1' t = .slice (some ⟨b1' t, 0, none⟩) 256 c) ∧ ∃ c, g2' t = .slice (some ⟨b2' t, 0, none⟩) 256 c) →
              St H H19 (.sl op' (out ++ segB 196 (tabB A k)).length oc' 5 1 (kints .u8 (out ++ segB 196 (tabB A k))) :: .cell b83 (tabV 4 g1') 49 :: .cell b85 (tabV 4 g2') 49 :: .cell b60 (tabV 4 fa) 49 :: .pers (TQ A b1' b2' (k + 1)) :: .sl iq A.length im 51 4 (ints (flat4 A)) :: rem) → X [.slice op' (out ++ segB 196 (tabB A k)).length oc', .int .i64 ((k + 1 : Nat) : Int)] H19) →
            X [.slice op out.length oc, .int .i64 (k : Nat)] H18 := fun k op oc out g1 g2 b1 b2 rem H18 hk hol hg hs' hK => by
          refine hX _ _ _ _ H18 (br_y (by omega) ⟨by omega, by omega, some ⟨qa k, 0, none⟩, 256, 256, ?_, ?_⟩)
          · rw [add_none, Nat.zero_add, Int.toNat_natCast, Nat.mul_one, getV hs' 4 rfl hk, hfq _ hk]
          refine c17 hs' (cntS_ok hA k) (fun n hn => few_sym hA hsym k n hn) fun H19 dq dm n1 c1 n2 c2 hc1 hc2 hs21 => ⟨_, _, _, _, _, _, _, _, _, rfl, by omega, by omega, ?_⟩
          rw [add_none, Nat.zero_add, Int.toNat_natCast, Nat.mul_one]
          refine putV hs21 4 rfl (by omega) rfl fun H20 hs22 => ⟨by omega, by omega, ?_⟩
          rw [add_none, Nat.zero_add]
          refine putV hs22 5 rfl (by omega) rfl fun H21 hs23 => ⟨by decide, by decide, hs23.alc fun b99 H22 hs24 => ?_⟩
          have ek : IntKind.wrap .u8 (IntKind.wrap .i64 (Int.tmod (k : Int) 2 + IntKind.wrap .i64 (IntKind.wrap .i64 (Int.tdiv (k : Int) 2) * 16))) = ((k % 2 + k / 2 * 16 : Nat) : Int) := by
            obtain rfl | rfl | rfl | rfl : k = 0 ∨ k = 1 ∨ k = 2 ∨ k = 3 := by omega
            all_goals decide
          rw [ek] at hs24
          have hs24 := hs24.toSl 0 (l := 1) (k := 1) rfl rfl rfl (by simp [Value.oneCell'])
          have hs24 : St H H22 (.sl (some ⟨b99, 0, none⟩) 1 1 5 1 (kints .u8 [((k % 2 + k / 2 * 16 : Nat) : Int)]) :: .sl dq (dataM (lsC (cntS A k))).length dm 5 1 (kints .u8 (dataM (lsC (cntS A k)))) :: .sl (some ⟨n1, 0, none⟩) 257 c1 3 1 (ints (lenC (cntS A k))) :: .sl (some ⟨n2, 0, none⟩) 257 c2 3 1 (ints (codesM (lenC (cntS A k)))) :: .sl op out.length oc 5 1 (kints .u8 out) :: .cell b83 (tabV 4 (updV g1 k (.slice (some ⟨n1, 0, none⟩) 256 c1))) 49 :: .cell b85 (tabV 4 (updV g2 k (.slice (some ⟨n2, 0, none⟩) 256 c2))) 49 :: .cell b60 (tabV 4 fa) 49 :: .pers (TQ A b1 b2 k) :: .sl iq A.length im 51 4 (ints (flat4 A)) :: rem) := hs24
          have htl := tabB_len hA k
          have htd : [((k % 2 + k / 2 * 16 : Nat) : Int)] ++ dataM (lsC (cntS A k)) = tabB A k := rfl
          refine appB hs24 rfl (hs24.is 1 rfl) (by rw [← htd, List.length_append] at htl; simp at htl ⊢; omega) fun p5 c5 H23 hs25 => ?_
          rw [htd] at hs25 ⊢
          refine (segOut (hs25.front 4 rfl) rfl (mark := 196) (hs25.is 0 rfl) (by omega) (by omega) (K := fun a b c H' => X [.slice a b c, .int .i64 (IntKind.wrap .i64 ((k : Int) + 1))] H') fun p6 c6 H24 hs26 => ?_).mono fun r H' ⟨sp, sl, sc, hr, hap⟩ => ⟨sp, sl, sc, hr, hap⟩
          rw [w1 (by omega)]
          have hs27 := (hs26.del 1).del 1
          have hs28 := (hs27.front 6 rfl).perm (List.Perm.cons _ ((List.Perm.swap _ _ _).trans (List.Perm.cons _ (List.Perm.swap _ _ _))))
          have hs29 := St.persOf (τ := [.pers (TQ A b1 b2 k), .sl (some ⟨n1, 0, none⟩) 257 c1 3 1 (ints (lenC (cntS A k))), .sl (some ⟨n2, 0, none⟩) 257 c2 3 1 (ints (codesM (lenC (cntS A k))))]) (Q := TQ A (updN b1 k n1) (updN b2 k n2) (k + 1)) hs28 fun H' hs' t ht => by
            unfold updN
            by_cases h : t = k
            · subst h
              rw [if_pos rfl, if_pos rfl]
              exact ⟨hs'.is 1 rfl, hs'.is 2 rfl⟩
            · rw [if_neg h, if_neg h]
              exact hs'.persGet 0 rfl t (by omega)
          refine hK p6 c6 _ _ (updN b1 k n1) (updN b2 k n2) H24 (fun t ht => ?_) (hs29.perm (List.perm_middle (l₁ := [_, _, _, _])).symm)
          unfold updN
          by_cases h : t = k
          · subst h
            rw [if_pos rfl, if_pos rfl, updV_at, updV_at]
            exact ⟨⟨_, rfl⟩, _, rfl⟩
          · rw [if_neg h, if_neg h, updV_ne h, updV_ne h]
            exact hg t (by omega)
        have hs21 := ((((((hs20.front 8 rfl).front 1 rfl).front 8 rfl).front 3 rfl).front 4 rfl).front 9 rfl).front 6 rfl
        have tl := fun t => tabB_len hA t
        have sl : ∀ (o : List Int) (t : Nat), (o ++ segB 196 (tabB A t)).length = o.length + (4 + (tabB A t).length) := fun o t => by rw [List.length_append, segB_len]
        refine stp 0 _ _ out3 _ _ _ _ _ H17 (by omega) (by omega) (fun t ht => by omega) hs21 fun op0 oc0 g10 g20 b10 b20 H18 hg0 hs22 => ?_
        have l0 := sl out3 0
        have t0 := tl 0
        refine stp 1 _ _ _ _ _ _ _ _ H18 (by omega) (by omega) hg0 (hs22.front 6 rfl) fun op1 oc1 g11 g21 b11 b21 H19 hg1 hs23 => ?_
        have l1 := sl (out3 ++ segB 196 (tabB A 0)) 1
        have t1 := tl 1
        refine stp 2 _ _ _ _ _ _ _ _ H19 (by omega) (by omega) hg1 (hs23.front 6 rfl) fun op2 oc2 g12 g22 b12 b22 H20 hg2 hs24 => ?_
        have l2 := sl (out3 ++ segB 196 (tabB A 0) ++ segB 196 (tabB A 1)) 2
        have t2 := tl 2
        refine stp 3 _ _ _ _ _ _ _ _ H20 (by omega) (by omega) hg2 (hs24.front 6 rfl) fun op3 oc3 g1 g2 b1 b2 H21 hg hs25 => ?_
        have l3 := sl (out3 ++ segB 196 (tabB A 0) ++ segB 196 (tabB A 1) ++ segB 196 (tabB A 2)) 3
        have t3 := tl 3
        clear stp hs20 hs21 hs22 hs23 hs24 hg0 hg1 hg2
        generalize hO7 : out3 ++ segB 196 (tabB A 0) ++ segB 196 (tabB A 1) ++ segB 196 (tabB A 2) ++ segB 196 (tabB A 3) = out7 at *
        refine hX _ _ _ _ H21 (br_n (by decide) (hs25.alc fun b108 H22 hs26 => ?_))
        refine (segOut (hs26.front 1 rfl) rfl (mark := 218) (is_block (l := 10) (fs := kints .u8 scanB) (hs26.block 0 rfl) rfl) (by omega) (by omega) fun p8 c8 H23 hs27 => ?_).mono fun r H' ⟨sp, sl, sc, hr, hap⟩ => ⟨sp, sl, sc, hr, hap⟩
        have hs27 := hs27.del 1
        have l8 : (out7 ++ segB 218 scanB).length = out7.length + 14 := by rw [List.length_append, segB_len]; rfl
        have hO8 : out7 ++ segB 218 scanB = [255, 216] ++ headB W Ht half (stepsM q false) (stepsM q true) A := by
          rw [← hO7, ← hout, ho3']
          unfold headB
          simp only [List.append_assoc]
        rw [hO8] at hs27 l8
        generalize hO9 : [255, 216] ++ headB W Ht half (stepsM q false) (stepsM q true) A = out9 at *
        clear hs25 hs26 hX X
        rw [hO8]
        refine c18 hs27 fun wb H24 hs28 => ⟨_, rfl, ?_⟩
        intro X hX
        have hsymA : ∀ i x, A[i]? = some x → SymOk x := fun i x hx => hsym x (List.mem_of_getElem? hx)
        have hitl : ∀ i, (itsBits (eA A) (A.take i)).length ≤ 27 * A.length := fun i => by
          have h1 := its_le hA (A.take i) fun x hx => hsym x (List.mem_of_mem_take hx)
          have h2 : (A.take i).length ≤ A.length := by rw [List.length_take]; omega
          omega
        have write : ∀ i, i ≤ A.length → ∀ H25, St H H25 (wrR wb true (itsBits (eA A) (A.take i)) :: .sl p8 out9.length c8 5 1 (kints .u8 out9) :: .cell b83 (tabV 4 g1) 49 :: .cell b85 (tabV 4 g2) 49 :: .cell b60 (tabV 4 fa) 49 :: .pers (TQ A b1 b2 (3 + 1)) :: .sl iq A.length im 51 4 (ints (flat4 A)) :: []) → X [.int .i64 (i : Nat)] H25 := upto fun i hi ih H25 hs29 => by
          refine hX _ H25 (br_dec (fun hlt => ?_) (fun hge => ?_))
          · have hlt : i < A.length := by omega
            have hx := List.getElem?_eq_getElem hlt
            have hxs := hsymA i _ hx
            have hxm := List.mem_of_getElem? hx
            generalize A[i] = x at *
            obtain ⟨hx4, hx0, hx256, _, hv0, hv1, hn11⟩ := hxs
            obtain ⟨nl, hnl, hlen, cc, hcode, hc0, hc1, heA⟩ := sym_code hA hxm (hsymA i x hx)
            obtain ⟨blk, hiq, hrow⟩ := rowItems (hs29.rs 6 rfl) hx hlt
            refine ⟨_, hiq, by omega, by omega, itV x, rfl, by rw [add_none, Nat.zero_add, Int.toNat_natCast]; exact hrow, hs29.alc fun b123 H26 hs30 => ⟨rfl, hs30.putAll 0 rfl rfl (by simp [itV, Value.oneCell']) fun H27 hs31 => ?_⟩⟩
            have hs31 : St H H27 (.cell b123 (itV x) 51 :: wrR wb true (itsBits (eA A) (A.take i)) :: .sl p8 out9.length c8 5 1 (kints .u8 out9) :: .cell b83 (tabV 4 g1) 49 :: .cell b85 (tabV 4 g2) 49 :: .cell b60 (tabV 4 fa) 49 :: .pers (TQ A b1 b2 (3 + 1)) :: .sl iq A.length im 51 4 (ints (flat4 A)) :: []) := hs31
            obtain ⟨⟨k1, hk1⟩, k2, hk2⟩ := hg x.t hx4
            obtain ⟨t1, t2⟩ := hs31.persGet 6 rfl x.t hx4
            obtain ⟨aa, haa, hca⟩ := t1.cell (ints_get hlen)
            obtain ⟨ab, hab, hcb⟩ := t2.cell (ints_get hcode)
            cases haa; cases hab
            refine ⟨_, hs31.get 0 (j := 0) rfl rfl, by omega, by omega, some ⟨b2 x.t, 0, none⟩, 256, k2, ?_, _, hs31.get 0 (j := 1) rfl rfl, _, rfl, hx0, by omega, cc, by rw [Nat.mul_one]; exact hcb, _, hs31.get 0 (j := 0) rfl rfl, by omega, by omega, some ⟨b1 x.t, 0, none⟩, 256, k1, ?_, _, hs31.get 0 (j := 1) rfl rfl, _, rfl, hx0, by omega, (nl : Int), by rw [Nat.mul_one]; exact hca, ?_⟩
            · rw [add_none, Nat.zero_add, Int.toNat_natCast, Nat.mul_one, getV hs31 4 rfl hx4, hk2]
            · rw [add_none, Nat.zero_add, Int.toNat_natCast, Nat.mul_one, getV hs31 3 rfl hx4, hk1]
            have hil := hitl i
            refine c19 hs31 (i := 1) rfl (by rw [Int.toNat_natCast]; omega) (fun hb => absurd ⟨by omega, by omega, hc0, by rw [Int.toNat_natCast]; exact hc1⟩ hb) (fun _ H28 hs32 => ⟨_, rfl, _, hs32.get 0 (j := 2) rfl rfl, _, hs32.get 0 (j := 3) rfl rfl, ?_⟩)
            rw [Int.toNat_natCast] at hs32
            refine c19 hs32 (i := 1) rfl (by rw [Int.toNat_natCast, List.length_append, bitsOf_len]; omega) (fun hb => absurd ⟨by omega, by omega, hv0, by rw [Int.toNat_natCast]; exact hv1⟩ hb) (fun _ H29 hs33 => ⟨_, rfl, ?_⟩)
            rw [Int.toNat_natCast] at hs33
            rw [w1 (by omega)]
            refine ih hlt H29 ?_
            have e : itsBits (eA A) (A.take i) ++ bitsOf true cc nl ++ bitsOf true x.v x.n = itsBits (eA A) (A.take (i + 1)) := by
              rw [List.take_add_one, hx]
              simp only [Option.toList_some]
              rw [itsBits_snoc, List.append_assoc]
              unfold itBits
              rw [heA]
            rw [← e]
            exact hs33.tail
          · have : i = A.length := by omega
            subst this
            have hil := hitl A.length
            rw [List.take_of_length_le (Nat.le_refl _)] at hs29 hil
            refine c20 hs29 (i := 0) rfl (by omega) fun H26 hs30 => ⟨rfl, ?_⟩
            refine c21 hs30 (i := 0) rfl fun bq bl2 bm2 B H27 hok hBl hs31 => ⟨_, _, _, rfl, ?_⟩
            subst hBl
            have hBlen := hok.len
            have hfl : (fillM (itsBits (eA A) A) 1).length ≤ 27 * A.length + 8 := by unfold fillM; rw [List.length_append, List.length_replicate]; omega
            have hs32 : St H H27 (.sl p8 out9.length c8 5 1 (kints .u8 (out9 ++ stuffB (B.take 0))) :: .sl bq B.length bm2 5 1 (kints .u8 B) :: []) := by
              have h1 := (hs31.front 2 rfl).take 2
              rw [List.take_zero, show stuffB [] = [] from rfl, List.append_nil]
              exact h1
            have hEnc : EncOk W Ht half bl (stepsM q false) (stepsM q true) B := by
              refine ⟨⟨by omega, by omega, by omega, by omega, by rw [← Int.natCast_mul]; omega⟩, bW, bH, hbl, hwb, steps_ok _, steps_ok _, ?_⟩
              rw [hAA]; exact hok
            have hR := hR B hEnc
            have hencB : encB W Ht half (stepsM q false) (stepsM q true) A B = out9 ++ stuffB B ++ [255, 217] := by
              unfold encB
              rw [← hO9]; simp only [List.append_assoc]
            rw [hencB] at hR
            clear hs28 hs29 hs30 hs31 ih hX X
            intro X hX
            have hsl : ∀ i, (stuffB (B.take i)).length ≤ 2 * B.length := fun i => by
              have : ∀ L : List Int, (stuffB L).length ≤ 2 * L.length := fun L => by
                induction L with
                | nil => simp [stuffB]
                | cons a L ih =>
                  unfold stuffB at *
                  rw [List.flatMap_cons, List.length_append, List.length_cons]
                  have h2 : (if a = 255 then [255, 0] else [a] : List Int).length ≤ 2 := by split <;> simp
                  omega
              have h1 := this (B.take i)
              have h2 : (B.take i).length ≤ B.length := by rw [List.length_take]; omega
              omega
            have stuff : ∀ i, i ≤ B.length → ∀ op oc H28, St H H28 (.sl op (out9 ++ stuffB (B.take i)).length oc 5 1 (kints .u8 (out9 ++ stuffB (B.take i))) :: .sl bq B.length bm2 5 1 (kints .u8 B) :: []) → X [.slice op (out9 ++ stuffB (B.take i)).length oc, .int .i64 (i : Nat)] H28 := upto fun i hi ih op oc H28 hs33 => by
              have hsli := hsl i
              have hol : (out9 ++ stuffB (B.take i)).length = out9.length + (stuffB (B.take i)).length := List.length_append
              refine hX _ _ _ _ H28 (br_dec (fun hlt => ?_) (fun hge => ?_))
              · have hlt : i < B.length := by omega
                have hg := get_gD B 0 hlt
                have hbr := hok.rng _ (List.mem_of_getElem? hg)
                refine (hs33.is 1 rfl).rd (ls := B) (by omega) (by omega) (by rw [Int.toNat_natCast]; exact hg) ?_
                rw [w1 (by omega)]
                have ht : stuffB (B.take (i + 1)) = stuffB (B.take i) ++ (if B.getD i 0 = 255 then [255, 0] else [B.getD i 0]) := by
                  rw [List.take_add_one, hg]
                  simp only [Option.toList_some]
                  unfold stuffB
                  rw [List.flatMap_append]; simp
                refine hs33.alc fun b155 H29 hs34 => appB hs34.swap rfl (is_block (l := 1) (fs := kints .u8 [B.getD i 0]) (hs34.block 0 rfl) rfl) (by omega) fun p' c' H30 hs35 => ?_
                have hs35 := hs35.del 1
                have ih := ih hlt
                rw [ht, ← List.append_assoc] at ih
                refine br_eq (fun h255 => ?_) (fun h255 => ?_)
                · rw [if_pos h255] at ih
                  refine hs35.alc fun b159 H31 hs36 => appB hs36.swap rfl (is_block (l := 1) (fs := kints .u8 [0]) (hs36.block 0 rfl) rfl) (by rw [List.length_append]; show _ + 1 + 1 ≤ _; omega) fun p2 c2 H32 hs37 => ?_
                  have hs37 := hs37.del 1
                  have e : out9 ++ stuffB (B.take i) ++ [B.getD i 0] ++ [0] = out9 ++ stuffB (B.take i) ++ [255, 0] := by rw [h255]; simp
                  rw [e] at hs37 ⊢
                  exact ih p2 c2 H32 hs37
                · rw [if_neg h255] at ih
                  exact ih p' c' H30 hs35
              · have : i = B.length := by omega
                subst this
                rw [List.take_of_length_le (Nat.le_refl _)] at hs33 hol hsli ⊢
                refine hs33.alc fun b163 H29 hs34 => appB hs34.swap rfl (is_block (l := 2) (fs := kints .u8 [255, 217]) (hs34.block 0 rfl) rfl) (by omega) fun p' c' H30 hs35 => ?_
                exact hR H30 p' c' ((hs35.del 1).take 1)
            have := stuff 0 (by omega) p8 c8 H27 (by rw [List.take_zero, show stuffB [] = [] from rfl, List.append_nil] at hs32 ⊢; exact hs32)
            rw [List.take_zero, show stuffB [] = [] from rfl, List.append_nil] at this
            exact this
        exact write 0 (by omega) H24 hs28
    exact count 0 (by omega) H14 hs16
  cases half with
  | true => exact br_t rfl (frame _ rfl)
  | false => exact br_f rfl (frame _ rfl)
end Go.Proofs
namespace Go.Proofs
open Go.Sh
def absC (u : Nat) : Int := sumN 8 fun x => ((cM u x).natAbs : Int)
def zC (u : Nat) : Int := sumN 8 fun x => cM u x
theorem absC_le : ∀ u : Fin 8, absC u.val ≤ 23168 := by decide +kernel
theorem zC_eq : ∀ u : Fin 8, zC u.val = if u.val = 0 then 23168 else 0 := by decide +kernel
theorem sumN_abs {f : Nat → Int} {M : Int} (hM : 0 ≤ M) (c : Nat → Int) : ∀ n, (∀ x, x < n → -M ≤ f x ∧ f x ≤ M) → -(M * sumN n fun x => ((c x).natAbs : Int)) ≤ sumN n (fun x => f x * c x) ∧ sumN n (fun x => f x * c x) ≤ M * sumN n fun x => ((c x).natAbs : Int)
 | 0, _ => by simp [sumN]
 | n + 1, h => by
  have ih := sumN_abs hM c n fun x hx => h x (by omega)
  have hx := h n (by omega)
  have hb := mul_bd hx (show -((c n).natAbs : Int) ≤ c n ∧ c n ≤ ((c n).natAbs : Int) by omega)
  simp only [sumN, Int.mul_add]
  omega
theorem fwd_lin (s : List Int) (v u : Nat) : sumN 8 (fun y => (sumN 8 fun x => (2 * s.getD (y * 8 + x) 0 + 1) * cM u x) * cM v y) = 2 * fwdV s v u + zC u * zC v := by
 have h1 : ∀ y, (sumN 8 fun x => (2 * s.getD (y * 8 + x) 0 + 1) * cM u x) = 2 * halfV s y u + zC u := fun y => by
  have : ∀ n, (sumN n fun x => (2 * s.getD (y * 8 + x) 0 + 1) * cM u x) = 2 * sumN n (fun x => s.getD (y * 8 + x) 0 * cM u x) + sumN n fun x => cM u x := fun n => by
   induction n with
   | zero => simp [sumN]
   | succ n ih => simp only [sumN]; rw [ih, Int.add_mul, Int.mul_add, Int.mul_assoc, Int.one_mul]; omega
  exact this 8
 have h2 : sumN 8 (fun y => (sumN 8 fun x => (2 * s.getD (y * 8 + x) 0 + 1) * cM u x) * cM v y) = sumN 8 fun y => (2 * halfV s y u + zC u) * cM v y := sumN_congr fun y _ => by rw [h1]
 rw [h2]
 have h3 : ∀ n, sumN n (fun y => (2 * halfV s y u + zC u) * cM v y) = 2 * sumN n (fun y => halfV s y u * cM v y) + zC u * sumN n (fun y => cM v y) := fun n => by
  induction n with
  | zero => simp [sumN]
  | succ n ih => simp only [sumN]; rw [ih, Int.add_mul, Int.mul_add, Int.mul_add, Int.mul_assoc]; omega
 exact h3 8
theorem fwd_bound {s : List Int} (hs : ∀ i, -128 ≤ s.getD i 0 ∧ s.getD i 0 ≤ 127) {v u : Nat} (hv : v < 8) (hu : u < 8) : -136872837120 ≤ 2 * fwdV s v u + zC u * zC v ∧ 2 * fwdV s v u + zC u * zC v ≤ 136872837120 := by
 rw [← fwd_lin]
 have a1 := absC_le ⟨u, hu⟩
 have a2 := absC_le ⟨v, hv⟩
 simp only at a1 a2
 unfold absC at a1 a2
 have h1 : ∀ y, -5907840 ≤ (sumN 8 fun x => (2 * s.getD (y * 8 + x) 0 + 1) * cM u x) ∧ (sumN 8 fun x => (2 * s.getD (y * 8 + x) 0 + 1) * cM u x) ≤ 5907840 := fun y => by
  have := sumN_abs (f := fun x => 2 * s.getD (y * 8 + x) 0 + 1) (M := 255) (by decide) (cM u) 8 fun x _ => by have := hs (y * 8 + x); omega
  omega
 have := sumN_abs (f := fun y => sumN 8 fun x => (2 * s.getD (y * 8 + x) 0 + 1) * cM u x) (M := 5907840) (by decide) (cM v) 8 fun y _ => h1 y
 omega
theorem in_small {f t : Int} (ht : 1 ≤ t) : (0 ≤ f → 0 ≤ inStepsM f t ∧ inStepsM f t ≤ f) ∧ (f < 0 → f ≤ inStepsM f t ∧ inStepsM f t ≤ 0) := by
 have key : ∀ g : Int, 0 ≤ g → 0 ≤ (g + t / 2) / t ∧ (g + t / 2) / t ≤ g := fun g hg => by
  refine ⟨Int.ediv_nonneg (by omega) (by omega), ?_⟩
  have h1 : (g + t / 2) / t < g + 1 := by
   rw [Int.ediv_lt_iff_lt_mul (by omega), Int.add_mul, Int.one_mul]
   have : g * 1 ≤ g * t := Int.mul_le_mul_of_nonneg_left ht hg
   omega
  omega
 refine ⟨fun h => ?_, fun h => ?_⟩
 ·unfold inStepsM; rw [if_neg (by omega)]; exact key f h
 ·unfold inStepsM; rw [if_pos h]; have := key (-f) (by omega); omega
theorem smp_rng (W Ht : Nat) (rgb : List Int) (half : Bool) (u : Nat × Nat × Nat) (i : Nat) : -128 ≤ (smpL W Ht rgb half u).getD i 0 ∧ (smpL W Ht rgb half u).getD i 0 ≤ 127 := by
 rcases Nat.lt_or_ge i 64 with h | h
 ·rw [show (smpL W Ht rgb half u).getD i 0 = sampM W Ht rgb half u.1 (u.2.1 + i % 8) (u.2.2 + i / 8) - 128 from tab_getD h]
  have := sampM_rng W Ht rgb half u.1 (u.2.1 + i % 8) (u.2.2 + i / 8)
  omega
 ·rw [gD_none _ _ (by rw [smpL_len]; exact h)]; omega
theorem blocks_ok {W Ht : Nat} {rgb : List Int} {q : Int} {half : Bool} : ∀ b ∈ blocksL W Ht rgb q half, WBlk b := fun b hb => by
 obtain ⟨u, _, rfl⟩ := List.mem_map.1 hb
 have hget : ∀ i, i < 64 → (blockV W Ht rgb q half u).getD i 0 = inStepsM (nearM (fwdV (smpL W Ht rgb half u) (i / 8) (i % 8))) (stepV q (decide (0 < u.1)) i) := fun i hi => by
  rw [show (blockV W Ht rgb q half u).getD i 0 = inStepsM ((fwdM (smpL W Ht rgb half u)).getD i 0) (stepV q (decide (0 < u.1)) i) from tab_getD hi]
  congr 1
  exact tab_getD hi
 have hst : ∀ i, 1 ≤ stepV q (decide (0 < u.1)) i := fun i => by unfold stepV; omega
 refine ⟨blockV_len _ _ _ _ _ _, fun k hk1 hk => ?_, ?_⟩
 ·have hz := zig_lt hk
  have hz0 : zig k ≠ 0 := fun h => by
   have := zag_zig hk
   rw [h] at this
   have z0 : zag 0 = 0 := by decide
   omega
  rw [hget _ hz]
  have hb := fwd_bound (smp_rng W Ht rgb half u) (v := zig k / 8) (u := zig k % 8) (by omega) (by omega)
  have z1 := zC_eq ⟨zig k % 8, by omega⟩
  have z2 := zC_eq ⟨zig k / 8, by omega⟩
  simp only at z1 z2
  have hzz : zC (zig k % 8) * zC (zig k / 8) = 0 := by
   rw [z1, z2]
   by_cases h1 : zig k % 8 = 0
   ·rw [if_neg (show ¬ zig k / 8 = 0 by omega), Int.mul_zero]
   ·rw [if_neg h1, Int.zero_mul]
  rw [hzz] at hb
  generalize fwdV (smpL W Ht rgb half u) (zig k / 8) (zig k % 8) = F at *
  have hn : -1020 ≤ nearM F ∧ nearM F ≤ 1020 := by unfold nearM; omega
  obtain ⟨i1, i2⟩ := in_small (f := nearM F) (hst (zig k))
  rcases Int.lt_or_le (nearM F) 0 with h | h
  ·have := i2 h; omega
  ·have := i1 h; omega
 ·rw [hget 0 (by omega)]
  have hb := fwd_bound (smp_rng W Ht rgb half u) (v := 0 / 8) (u := 0 % 8) (by omega) (by omega)
  have z1 := zC_eq ⟨0, by omega⟩
  simp only at z1
  rw [show (0 : Nat) % 8 = 0 from rfl, show (0 : Nat) / 8 = 0 from rfl] at hb ⊢
  rw [if_pos trivial] at z1
  rw [z1] at hb
  generalize fwdV (smpL W Ht rgb half u) 0 0 = F at *
  have hn : -1024 ≤ nearM F ∧ nearM F ≤ 1016 := by unfold nearM; omega
  obtain ⟨i1, i2⟩ := in_small (f := nearM F) (hst 0)
  rcases Int.lt_or_le (nearM F) 0 with h | h
  ·have := i2 h; omega
  ·have := i1 h; omega
end Go.Proofs
namespace Go.Proofs
open Go.Sh
variable {H0 H : Heap} {σ : List Rs} {R : Value → Heap → Prop}
end Go.Proofs
