/-
  OWN WORK. Several texts in one: JpJ, JqL, JqM, JqN, JqO, FlI, FlJ, FlCoP, FlK, LzA, LzB, FlM, JqP, OpBytes.
-/
import Derived.Test.YtcggbdggpdcnjaaMgJpegCutsG
import Derived.Test.YtcggbdggpdcnjaaMgJpegCutsE
import Derived.Test.YtcggbdggpdcnjaaMgJpegCutsD
import Derived.Test.YtcggbdggpdcnjaaMgJpegCutsC
import Derived.Test.YtcggbdggpdcnjaaRows
import Derived.Test.YtcggbdggpdcnjaaMgJpegCutsB
import Derived.ChangeSlices

set_option linter.unusedVariables false
set_option linter.unusedSimpArgs false
namespace Go.Proofs
open Go.Sh
variable {H0 H : Heap} {σ : List Rs} {R : Value → Heap → Prop}
theorem c10 {i j n1 n2 m1 m2 : Nat} {p1 p2 : Option Addr} {e1 e2 : TypeId} {l1 l2 : List (List Int)} (hs : St H0 H σ) (hi : σ[i]? = some (.sl p1 n1 m1 e1 64 (ints l1.flatten))) (hj : σ[j]? = some (.sl p2 n2 m2 e2 64 (ints l2.flatten)))
    (h1 : ∀ b ∈ l1, b.length = 64) (hn1 : l1.length = n1) (hn2 : l2.length = n2) (hn : n1 ≤ 1000000) (he : l1 = l2) (hR : ∀ H', Ext H H' → R (.bool true) H') :
    CallsH Try.prog 10 #[.slice p1 n1 m1, .slice p2 n2 m2] H R := by
  subst he
  subst hn1 hn2
  refine Try.s10 (br_ne (fun hne => absurd rfl hne) (fun _ => ?_))
  intro X hX
  have go : ∀ t, t ≤ l1.length → ∀ H1, Ext H H1 → X [.int .i64 (t : Nat)] H1 := upto fun t ht ih H1 e1 => by
    refine hX _ H1 (br_dec (fun hlt => ?_) (fun hge => hR H1 e1))
    have hlt : t < l1.length := by omega
    obtain ⟨b, hb⟩ : ∃ b, l1[t]? = some b := ⟨_, List.getElem?_eq_getElem hlt⟩
    have hbl := h1 b (List.mem_of_getElem? hb)
    obtain ⟨k1, hp1, r1⟩ := St.row64 (hs.step e1) i hi h1 hb hlt
    refine ⟨_, hp1, by omega, by omega, _, by rw [intsA_size]; exact hbl, by rw [add_none, Nat.zero_add, Int.toNat_natCast]; exact r1, ?_⟩
    refine (St.of_ext e1).alc fun b8 H2 hs2 => ⟨by rw [intsA_size]; exact hbl, hs2.putAllA 0 rfl (by rw [hbl]; simp) fun H3 hs3 => ?_⟩
    have e3 := hs3.ext
    obtain ⟨k2, hp2, r2⟩ := St.row64 (hs.step e3) j hj h1 hb hlt
    refine ⟨_, by rw [intsA_size]; exact hbl, rowIn_whole (hs3.block 0 rfl), _, hp2, by omega, by omega, _, by simpa using hbl, by rw [add_none, Nat.zero_add, Int.toNat_natCast]; exact r2, rfl, b, b, hbl, hbl, rfl, rfl, ?_⟩
    rw [decide_eq_true rfl, w1 (by omega)]
    exact br_f rfl (ih hlt H3 e3)
  exact go 0 (by omega) H (Ext.refl _)
theorem decodeNil (hR : ∀ H', Ext H H' → R (.tuple #[.agg #[.int .i64 0, .int .i64 0, .slice none 0 0, .bool false, .slice none 0 0], .int .i64 51]) H') : CallsH Try.prog 9 #[.slice none 0 0] H R := by
 refine Try.s9 ?_
 unfold Try.S9
 refine (St.nil H).alc fun b2 H1 hs1 => ?_
 intro J hJ
 refine br_y (by decide) ⟨rfl, hs1.putAll 0 rfl rfl (by simp [Value.oneCell']) fun H2 hs2 => ?_⟩
 exact ⟨_, rfl, rowIn_whole (hs2.block 0 rfl), hR H2 hs2.ext⟩
theorem anc_order : orderM 1 1 false = [(0, 0, 0), (1, 0, 0), (2, 0, 0)] := by decide +kernel
theorem anc_vals : (blockV 1 1 [255, 255, 255] 100 false (0, 0, 0)).getD 0 0 = 1016 ∧ (blockV 1 1 [255, 255, 255] 100 false (0, 0, 0)).getD 1 0 = 0 ∧ (blockV 1 1 [255, 255, 255] 100 false (1, 0, 0)).getD 0 0 = 0 := by decide +kernel
theorem c6 (hR : ∀ H', Ext H H' → R (.bool true) H') : CallsH Try.prog 6 #[] H R := by
 refine Try.s6 (_u := ()) ?_
 unfold Try.S6
 refine (St.nil H).alc fun b1 H1 hs1 => ?_
 have i1 : IS H1 (some ⟨b1, 0, none⟩) 3 (kints .u8 [255, 255, 255]) := ⟨rfl, fun i v hv => ⟨_, rfl, by
  rw [add_none, Nat.zero_add]
  exact cell_get (hs1.block 0 rfl) (by
   have : (#[Value.int .u8 255, Value.int .u8 255, Value.int .u8 255] : Array Value) = (kints .u8 [255, 255, 255]).toArray := rfl
   rw [this, List.getElem?_toArray]; exact hv)⟩⟩
 have s1 : SizedM 1 1 := by decide
 refine c8 i1 (by decide) (by decide) (fun hn => absurd s1 hn) (fun _ hn => absurd (by decide) hn) (fun _ _ hn => absurd (by decide) hn) (fun W Ht hw' hh hW hH hl hn hq H2 b m hs2 => ⟨_, _, _, _, rfl, ?_⟩)
 have e1 : W = 1 := by omega
 have e2 : Ht = 1 := by omega
 subst e1 e2
 have hol : (orderM 1 1 false).length = 3 := by rw [anc_order]; rfl
 have hbs : blocksL 1 1 [255, 255, 255] 100 false = [blockV 1 1 [255, 255, 255] 100 false (0, 0, 0), blockV 1 1 [255, 255, 255] 100 false (1, 0, 0), blockV 1 1 [255, 255, 255] 100 false (2, 0, 0)] := by unfold blocksL; rw [anc_order]; rfl
 obtain ⟨v0, v1, v2⟩ := anc_vals
 have h64 := blocksL_64 1 1 [255, 255, 255] 100 false
 have bl0 := blockV_len 1 1 [255, 255, 255] 100 false (0, 0, 0)
 have bl1 := blockV_len 1 1 [255, 255, 255] 100 false (1, 0, 0)
 rw [hbs] at hs2 h64
 generalize blockV 1 1 [255, 255, 255] 100 false (0, 0, 0) = B0 at *
 generalize blockV 1 1 [255, 255, 255] 100 false (1, 0, 0) = B1 at *
 generalize blockV 1 1 [255, 255, 255] 100 false (2, 0, 0) = B2 at *
 rw [hol] at hs2 ⊢
 have hs2 := hs1.call hs2
 refine decodeNil fun H3 e3 => ⟨_, _, rfl, ?_⟩
 have hs3 := hs2.step e3
 refine hs3.alc fun b11 H4 hs4 => ⟨rfl, hs4.putAll 0 rfl rfl (by simp [Value.oneCell']) fun H5 hs5 => ?_⟩
 obtain ⟨k0, hp0, r0⟩ := St.row64 hs5 1 rfl h64 (t := 0) (b := B0) rfl (by decide)
 obtain ⟨k1, hp1, r1⟩ := St.row64 hs5 1 rfl h64 (t := 1) (b := B1) rfl (by decide)
 have c0 := r0 0 (.int .i64 1016) (by rw [List.getElem?_toArray, ← v0]; exact ints_get (getD_some B0 0 (by omega)))
 have c1 := r0 1 (.int .i64 0) (by rw [List.getElem?_toArray, ← v1]; exact ints_get (getD_some B0 0 (by omega)))
 have c2 := r1 0 (.int .i64 0) (by rw [List.getElem?_toArray, ← v2]; exact ints_get (getD_some B1 0 (by omega)))
 refine br_t rfl (br_t rfl ⟨_, hp0, by decide, by decide, by decide, by decide, _, c0, br_t rfl ⟨_, hp0, by decide, by decide, by decide, by decide, _, c1, br_t rfl ⟨_, hp1, by decide, by decide, by decide, by decide, _, c2, br_t rfl ?_⟩⟩⟩)
 exact hR H5 hs5.ext
end Go.Proofs
namespace Go.Proofs
open Go.Sh
variable {H0 H : Heap} {σ : List Rs} {R : Value → Heap → Prop}
theorem stuffB_len : ∀ L : List Int, (stuffB L).length ≤ 2 * L.length
 | [] => by simp [stuffB]
 | a :: L => by
  have ih := stuffB_len L
  unfold stuffB at *
  rw [List.flatMap_cons, List.length_append, List.length_cons]
  have h2 : (if a = 255 then [255, 0] else [a] : List Int).length ≤ 2 := by split <;> simp
  omega
section
variable {W Ht : Nat} {half : Bool} {bl : List (List Int)} {st0 st1 B : List Int}
theorem enc_len (h : EncOk W Ht half bl st0 st1 B) : (encB W Ht half st0 st1 (itemsM (orderM W Ht half) bl [0, 0, 0]) B).length ≤ 200000000 := by
 have hA := h.few
 have hsym := items_sym (orderM W Ht half) bl [0, 0, 0] h.wb rfl la0 (fun u hu => (order_in u hu).1)
 have hA2 := itemsM_len (orderM W Ht half) bl [0, 0, 0]
 have hcnt := order_cnt W Ht half h.W1000 h.H1000
 have h1 := its_le hA _ hsym
 have h2 := h.bits.len
 have h3 := stuffB_len B
 generalize itemsM (orderM W Ht half) bl [0, 0, 0] = A at *
 have hfl : (fillM (itsBits (eA A) A) 1).length ≤ 27 * A.length + 8 := by unfold fillM; rw [List.length_append, List.length_replicate]; omega
 have t0 := tabB_len hA 0
 have t1 := tabB_len hA 1
 have t2 := tabB_len hA 2
 have t3 := tabB_len hA 3
 unfold encB headB
 simp only [List.length_append, segB_len, List.length_cons, zzB_len, List.length_nil]
 have e1 : (frameB W Ht half).length = 15 := rfl
 have e2 : scanB.length = 10 := rfl
 omega
theorem enc_rng (h : EncOk W Ht half bl st0 st1 B) : ∀ x ∈ encB W Ht half st0 st1 (itemsM (orderM W Ht half) bl [0, 0, 0]) B, 0 ≤ x ∧ x < 256 := by
 have hA := h.few
 have hsym := items_sym (orderM W Ht half) bl [0, 0, 0] h.wb rfl la0 (fun u hu => (order_in u hu).1)
 generalize itemsM (orderM W Ht half) bl [0, 0, 0] = A at *
 have seg : ∀ (mark : Int) (d : List Int), 0 ≤ mark ∧ mark < 256 → d.length ≤ 60000 → (∀ x ∈ d, 0 ≤ x ∧ x < 256) → ∀ x ∈ segB mark d, 0 ≤ x ∧ x < 256 := fun mark d hm hl hd x hx => by
  unfold segB at hx
  rcases List.mem_append.1 hx with hx | hx
  ·simp at hx; rcases hx with rfl | rfl | rfl | rfl <;> omega
  ·exact hd x hx
 have zz : ∀ (k : Int) (st : List Int), StOk st → 0 ≤ k ∧ k < 256 → ∀ x ∈ k :: zzB st, 0 ≤ x ∧ x < 256 := fun k st hs hk x hx => by
  rcases List.mem_cons.1 hx with rfl | hx
  ·exact hk
  ·obtain ⟨i, hi, rfl⟩ := List.mem_map.1 hx
   have := hs.rng _ (zig_lt (List.mem_range.1 hi)); omega
 have hll := fun t => lsC_len (cntS_ok hA t)
 have tab : ∀ t, t < 4 → ∀ x ∈ tabB A t, 0 ≤ x ∧ x < 256 := fun t ht x hx => by
  unfold tabB dataM at hx
  rcases List.mem_cons.1 hx with rfl | hx
  ·omega
  ·rcases List.mem_append.1 hx with hx | hx
   ·obtain ⟨n, hn, rfl⟩ := List.mem_map.1 hx
    have := few_sym hA hsym t (n + 1) (by omega)
    rw [hll t]; omega
   ·have := srtS_rng (lsC (cntS A t)) 16 x hx
    rw [hll t] at this; omega
 have hfr : ∀ x ∈ frameB W Ht half, 0 ≤ x ∧ x < 256 := fun x hx => by
  have := h.W1000
  have := h.H1000
  unfold frameB at hx
  simp at hx
  rcases hx with rfl | rfl | rfl | rfl | rfl | rfl | rfl | rfl | rfl | rfl | rfl | rfl | rfl | rfl | rfl <;> first | omega | (split <;> omega)
 have hst : ∀ x ∈ stuffB B, 0 ≤ x ∧ x < 256 := fun x hx => by
  obtain ⟨c, hc, hx⟩ := List.mem_flatMap.1 hx
  have := h.bits.rng c hc
  split at hx
  ·simp at hx; rcases hx with rfl | rfl <;> omega
  ·rw [List.mem_singleton.1 hx]; exact this
 intro x hx
 unfold encB headB at hx
 simp only [List.mem_append] at hx
 rcases hx with hx | (hx | hx | hx | hx | hx | hx | hx | hx) | hx | hx
 ·simp at hx; rcases hx with rfl | rfl <;> omega
 ·exact seg _ _ (by omega) (by rw [List.length_cons, zzB_len]; omega) (zz 0 st0 h.s0 (by omega)) x hx
 ·exact seg _ _ (by omega) (by rw [List.length_cons, zzB_len]; omega) (zz 1 st1 h.s1 (by omega)) x hx
 ·exact seg _ _ (by omega) (by show 15 ≤ 60000; omega) hfr x hx
 ·exact seg _ _ (by omega) (by have := tabB_len hA 0; omega) (tab 0 (by omega)) x hx
 ·exact seg _ _ (by omega) (by have := tabB_len hA 1; omega) (tab 1 (by omega)) x hx
 ·exact seg _ _ (by omega) (by have := tabB_len hA 2; omega) (tab 2 (by omega)) x hx
 ·exact seg _ _ (by omega) (by have := tabB_len hA 3; omega) (tab 3 (by omega)) x hx
 ·exact seg _ _ (by omega) (by decide) (by decide) x hx
 ·exact hst x hx
 ·simp at hx; rcases hx with rfl | rfl <;> omega
end
end Go.Proofs
namespace Go.Proofs
open Go.Sh
theorem gD_take {l : List Int} {k i : Nat} (h : i < k) : (l.take k).getD i 0 = l.getD i 0 := by
 rw [List.getD_eq_getElem?_getD, List.getElem?_take, if_pos h, ← List.getD_eq_getElem?_getD]
theorem gD_app {l m : List Int} {i : Nat} (h : i < l.length) : (l ++ m).getD i 0 = l.getD i 0 := by
 rw [List.getD_eq_getElem?_getD, List.getElem?_append_left h, ← List.getD_eq_getElem?_getD]
theorem seg_cut {b d r : List Int} (h : segM b = some (d, r)) (k : Nat) (hk : k < b.length) : segM (b.take k) = none ∨ ∃ j, j < r.length ∧ segM (b.take k) = some (d, r.take j) := by
 unfold segM at h
 split at h
 ·cases h
 split at h
 ·cases h
 rename_i h1 h2
 cases h
 rcases Nat.lt_or_ge k 2 with h3 | h3
 ·left; unfold segM; rw [if_pos (by rw [List.length_take]; omega)]
 have hl : (b.take k).length = k := by rw [List.length_take]; omega
 unfold segM
 rw [if_neg (by omega), gD_take (by omega), gD_take (by omega)]
 generalize hN : b.getD 0 0 * 256 + b.getD 1 0 = N at *
 obtain ⟨n, rfl⟩ := Int.eq_ofNat_of_zero_le (show 0 ≤ N by omega)
 rw [Int.toNat_natCast]
 rcases Nat.lt_or_ge k n with h4 | h4
 ·left; rw [if_pos (by omega)]
 ·right
  rw [if_neg (by omega)]
  refine ⟨k - n, by rw [List.length_drop]; omega, ?_⟩
  rw [List.take_take, Nat.min_eq_left h4, show (b.take k).drop n = (b.drop n).take (k - n) from List.drop_take ..]
theorem seg_more {b d r : List Int} (h : segM b = some (d, r)) (m : List Int) : segM (b ++ m) = some (d, r ++ m) := by
 unfold segM at h
 split at h
 ·cases h
 split at h
 ·cases h
 rename_i h1 h2
 cases h
 unfold segM
 rw [if_neg (by rw [List.length_append]; omega), gD_app (by omega), gD_app (by omega), if_neg (by rw [List.length_append]; omega)]
 rw [List.take_append_of_le_length (by omega), List.drop_append_of_le_length (by omega)]
theorem markM_cut {x : Int} {d r r' : List Int} {s s' : Jst} {t : List (Nat × Nat)} {q : List Int} (P : List Int → Prop)
    (hrec : ∀ s2, headM r s2 = some (s', t, q) → headM r' s2 = none ∨ ∃ q', P q' ∧ headM r' s2 = some (s', t, q'))
    (hend : r = q → P r')
    (h : markM x d r s = some (s', t, q)) : markM x d r' s = none ∨ ∃ q', P q' ∧ markM x d r' s = some (s', t, q') := by
  unfold markM at h ⊢
  split at h
  · rw [if_pos (by assumption)]; exact hrec _ h
  rw [if_neg (by assumption)]
  split at h
  · rw [if_pos (by assumption)]
    cases hS : stepsD d s.st with
    | none => left; rfl
    | some S => rw [hS] at h; exact hrec _ h
  rw [if_neg (by assumption)]
  split at h
  · rw [if_pos (by assumption)]
    cases hS : sizesM d s with
    | none => left; rfl
    | some S => rw [hS] at h; exact hrec _ h
  rw [if_neg (by assumption)]
  split at h
  · rw [if_pos (by assumption)]
    cases hS : codesD d s.cd with
    | none => left; rfl
    | some S => rw [hS] at h; exact hrec _ h
  rw [if_neg (by assumption)]
  split at h
  · rw [if_pos (by assumption)]
    cases hS : scanM d s with
    | none => left; rfl
    | some S =>
      rw [hS] at h
      cases h
      right; exact ⟨r', hend rfl, rfl⟩
  · cases h
theorem head_cut : ∀ (m : Nat) {b : List Int} {s s' : Jst} {t : List (Nat × Nat)} {r : List Int}, b.length ≤ m → headM b s = some (s', t, r) → ∀ k, k < b.length → headM (b.take k) s = none ∨ ∃ q, (∃ j, j < r.length ∧ q = r.take j) ∧ headM (b.take k) s = some (s', t, q) := by
 intro m
 induction m with
 | zero => intro b s s' t r hm h; rw [headM_no (.inl (by omega))] at h; cases h
 | succ m ih =>
  intro b s s' t r hm h k hk
  by_cases hok : b.length < 2 ∨ b.getD 0 0 ≠ 255
  ·rw [headM_no hok] at h; cases h
  cases hseg : segM (b.drop 2) with
  | none => rw [headM_noseg hseg] at h; cases h
  | some dr =>
   obtain ⟨d, rest⟩ := dr
   rw [headM_seg hok hseg] at h
   have hl := segM_len hseg
   rw [List.length_drop] at hl
   rcases Nat.lt_or_ge k 2 with h3 | h3
   ·left; exact headM_no (.inl (by rw [List.length_take]; omega))
   have hlk : (b.take k).length = k := by rw [List.length_take]; omega
   have hdt : (b.take k).drop 2 = (b.drop 2).take (k - 2) := by rw [List.drop_take]
   have hok' : ¬ ((b.take k).length < 2 ∨ (b.take k).getD 0 0 ≠ 255) := by rw [gD_take (by omega)]; omega
   rcases seg_cut hseg (k - 2) (by rw [List.length_drop]; omega) with hs | ⟨j, hj, hs⟩
   ·left; exact headM_noseg (by rw [hdt]; exact hs)
   ·rw [headM_seg hok' (by rw [hdt]; exact hs), gD_take (by omega)]
    refine markM_cut (fun q => ∃ j, j < r.length ∧ q = r.take j) (fun s2 h2 => ih (by omega) h2 j hj) (fun he => ?_) h
    subst he
    exact ⟨j, hj, rfl⟩
theorem head_more : ∀ (m : Nat) {b : List Int} {s s' : Jst} {t : List (Nat × Nat)} {r : List Int}, b.length ≤ m → headM b s = some (s', t, r) → ∀ x, headM (b ++ x) s = none ∨ ∃ q, q = r ++ x ∧ headM (b ++ x) s = some (s', t, q) := by
 intro m
 induction m with
 | zero => intro b s s' t r hm h; rw [headM_no (.inl (by omega))] at h; cases h
 | succ m ih =>
  intro b s s' t r hm h x
  by_cases hok : b.length < 2 ∨ b.getD 0 0 ≠ 255
  ·rw [headM_no hok] at h; cases h
  cases hseg : segM (b.drop 2) with
  | none => rw [headM_noseg hseg] at h; cases h
  | some dr =>
   obtain ⟨d, rest⟩ := dr
   rw [headM_seg hok hseg] at h
   have hl := segM_len hseg
   rw [List.length_drop] at hl
   have hok' : ¬ ((b ++ x).length < 2 ∨ (b ++ x).getD 0 0 ≠ 255) := by rw [gD_app (by omega), List.length_append]; omega
   rw [headM_seg hok' (by rw [List.drop_append_of_le_length (by omega)]; exact seg_more hseg x), gD_app (by omega)]
   refine markM_cut (fun q => q = r ++ x) (fun s2 h2 => ih (by omega) h2 x) (fun he => ?_) h
   rw [he]
theorem body_cut : ∀ (m : Nat) {L p : List Int}, L.length ≤ m → bodyM L = some p → ∀ j, j < L.length → bodyM (L.take j) = none := by
 intro m
 induction m with
 | zero => intro L p hm h j hj; omega
 | succ m ih =>
  intro L p hm h j hj
  match L, h with
  | c :: d :: r, h =>
   match j with
   | 0 => rfl
   | 1 => rfl
   | j + 2 =>
    simp only [List.length_cons] at hm hj
    rw [List.take_succ_cons, List.take_succ_cons, bodyM]
    rw [bodyM] at h
    split at h
    ·rw [if_pos (by assumption)]
     cases hb : bodyM (d :: r) with
     | none => rw [hb] at h; cases h
     | some q =>
      have := ih (by simp only [List.length_cons]; omega) hb (j + 1) (by simp only [List.length_cons]; omega)
      rw [List.take_succ_cons] at this
      rw [this]; rfl
    rw [if_neg (by assumption)]
    split at h
    ·rw [if_pos (by assumption)]
     split at h
     ·rename_i hr
      have := hr.2
      subst this
      simp only [List.length_nil] at hj
      omega
     ·cases h
    rw [if_neg (by assumption)]
    cases hb : bodyM r with
    | none => rw [hb] at h; cases h
    | some q =>
     rw [ih (by omega) hb j (by omega)]; rfl
theorem body_more : ∀ (m : Nat) {L p x : List Int}, L.length ≤ m → bodyM L = some p → x ≠ [] → bodyM (L ++ x) = none := by
 intro m
 induction m with
 | zero =>
  intro L p x hm h hx
  rw [List.length_eq_zero_iff.1 (by omega : L.length = 0)] at h; cases h
 | succ m ih =>
  intro L p x hm h hx
  match L, h with
  | c :: d :: r, h =>
   simp only [List.length_cons] at hm
   rw [List.cons_append, List.cons_append, bodyM]
   rw [bodyM] at h
   split at h
   ·rw [if_pos (by assumption)]
    cases hb : bodyM (d :: r) with
    | none => rw [hb] at h; cases h
    | some q =>
     have := ih (x := x) (by simp only [List.length_cons]; omega) hb hx
     rw [List.cons_append] at this
     rw [this]; rfl
   rw [if_neg (by assumption)]
   split at h
   ·rw [if_pos (by assumption), if_neg (fun hh => hx (List.append_eq_nil_iff.1 hh.2).2)]
   rw [if_neg (by assumption)]
   cases hb : bodyM r with
   | none => rw [hb] at h; cases h
   | some q => rw [ih (by omega) hb hx]; rfl
theorem dec_no {b : List Int} (h : b.length < 2 ∨ b.getD 0 0 ≠ 255 ∨ b.getD 1 0 ≠ 216) : decJ b = none := by unfold decJ; rw [if_pos h]
theorem dec_some {b : List Int} {m : Jim} (h : decJ b = some m) : ¬ (b.length < 2 ∨ b.getD 0 0 ≠ 255 ∨ b.getD 1 0 ≠ 216) ∧ ∃ s t r p, headM (b.drop 2) jst0 = some (s, t, r) ∧ bodyM r = some p := by
 unfold decJ at h
 split at h
 ·cases h
 ·refine ⟨by assumption, ?_⟩
  split at h
  ·cases h
  ·rename_i s t r hh
   split at h
   ·cases h
   ·rename_i p hp
    exact ⟨s, t, r, p, hh, hp⟩
theorem dec_none {b : List Int} (h : headM (b.drop 2) jst0 = none ∨ ∃ s t q, headM (b.drop 2) jst0 = some (s, t, q) ∧ bodyM q = none) : decJ b = none := by
 unfold decJ
 split
 ·rfl
 ·rcases h with h | ⟨s, t, q, h, hb⟩
  ·rw [h]
  ·rw [h]; simp only; rw [hb]
theorem dec_cut {b : List Int} {m : Jim} (h : decJ b = some m) {k : Nat} (hk : k < b.length) : decJ (b.take k) = none := by
 obtain ⟨h1, s, t, r, p, hh, hb⟩ := dec_some h
 rcases Nat.lt_or_ge k 2 with h3 | h3
 ·exact dec_no (.inl (by rw [List.length_take]; omega))
 ·refine dec_none ?_
  rw [List.drop_take]
  rcases head_cut _ (Nat.le_refl _) hh (k - 2) (by rw [List.length_drop]; omega) with h4 | ⟨q, ⟨j, hj, rfl⟩, h4⟩
  ·exact .inl h4
  ·exact .inr ⟨s, t, _, h4, body_cut _ (Nat.le_refl _) hb j hj⟩
theorem dec_more {b x : List Int} {m : Jim} (h : decJ b = some m) (hx : x ≠ []) : decJ (b ++ x) = none := by
 obtain ⟨h1, s, t, r, p, hh, hb⟩ := dec_some h
 refine dec_none ?_
 rw [List.drop_append_of_le_length (by omega)]
 rcases head_more _ (Nat.le_refl _) hh x with h4 | ⟨q, rfl, h4⟩
 ·exact .inl h4
 ·exact .inr ⟨s, t, _, h4, body_more _ (Nat.le_refl _) hb hx⟩
end Go.Proofs
namespace Go.Proofs
open Go.Sh
theorem pick (v : Nat → Int) (x : Nat) : ∀ n, x < n → (sumN n fun a => v a * if a = x then 67108864 else 0) = 67108864 * v x := by
 have zero : ∀ n, n ≤ x → (sumN n fun a => v a * if a = x then 67108864 else 0) = 0 := fun n => by
  induction n with
  | zero => intro _; rfl
  | succ n ih => intro h; simp only [sumN]; rw [ih (by omega), if_neg (by omega)]; omega
 intro n
 induction n with
 | zero => intro h; omega
 | succ n ih =>
  intro h
  simp only [sumN]
  by_cases e : n = x
  ·subst e; rw [zero n (Nat.le_refl _), if_pos rfl]; omega
  ·rw [ih (by omega), if_neg e]; omega
end Go.Proofs
namespace Go.Proofs
open Go.Sh
def Gd (S : Nat → Nat → Int) (w : Nat) (L : List Int) (j : Nat) : Prop := -4 ≤ L.getD j 0 - S (j % w) (j / w) ∧ L.getD j 0 - S (j % w) (j / w) ≤ 4
section
variable {W Ht : Nat} {rgb : List Int}
end
end Go.Proofs
namespace Go.Proofs
open Go.Sh
variable {H0 H : Heap} {σ : List Rs} {R : Value → Heap → Prop}
section
variable {f a most : Nat} {B out : List Int}
end
end Go.Proofs
namespace Go.Proofs
open Go.Sh
variable {H0 H : Heap} {σ : List Rs} {R : Value → Heap → Prop}
section
variable {f a most : Nat} {B out : List Int}
end
end Go.Proofs
namespace Go.Proofs
open Go.Sh
end Go.Proofs
namespace Go.Proofs
open Go.Sh
end Go.Proofs
namespace Go.Proofs
open Go.Sh
structure Tok where
 n : Nat
 d : Nat
 c : Int
def hashM (b : List Int) (a : Nat) : Int := (xorI .i64 (xorI .i64 (shlI .i64 (b.getD a 0) (8 : Int)) (shlI .i64 (b.getD (a + 1) 0) (4 : Int))) (b.getD (a + 2) 0)) % 4096
def addF (b F : List Int) (a : Nat) : List Int := if a + 3 ≤ b.length then F.set (hashM b a).toNat ((a : Int) + 1) else F
def addA (b F A : List Int) (a : Nat) : List Int := if a + 3 ≤ b.length then A.set a (F.getD (hashM b a).toNat 0) else A
def TokOk (out : List Int) (t : Tok) : Prop := (t.n = 0 ∧ t.d = 0 ∧ 0 ≤ t.c ∧ t.c < 256) ∨ (3 ≤ t.n ∧ t.n ≤ 258 ∧ 1 ≤ t.d ∧ t.d ≤ 32768 ∧ t.d ≤ out.length ∧ t.c = 0)
def expT (out : List Int) (t : Tok) : List Int := if t.n = 0 then out ++ [t.c] else copyM t.d t.n out
def Runs : List Int → List Tok → List Int → Prop
 | out, [], b => out = b
 | out, t :: r, b => TokOk out t ∧ Runs (expT out t) r b
theorem expT_len (out : List Int) (t : Tok) : (expT out t).length = out.length + max t.n 1 := by
 unfold expT
 split
 ·rename_i h; rw [h, List.length_append]; rfl
 ·rw [copyM_len]; omega
theorem Runs.len : ∀ {out : List Int} {l : List Tok} {b : List Int}, Runs out l b → out.length + l.length ≤ b.length
 | out, [], b, h => by cases h; simp
 | out, t :: r, b, h => by
  have := h.2.len
  rw [expT_len] at this
  simp only [List.length_cons]
  omega
structure Chains (b F A : List Int) (a : Nat) : Prop where
 fl : F.length = 4096
 al : A.length = b.length
 fr : ∀ x ∈ F, 0 ≤ x ∧ x ≤ a
 ar : ∀ (i : Nat) x, A[i]? = some x → 0 ≤ x ∧ x ≤ i
theorem getD_mem_or {l : List Int} (i : Nat) : l.getD i 0 ∈ l ∨ l.getD i 0 = 0 := by
 rw [List.getD_eq_getElem?_getD]
 cases h : l[i]? with
 | none => right; rfl
 | some x => left; exact List.mem_of_getElem? h
theorem Chains.fget {b F A : List Int} {a : Nat} (h : Chains b F A a) (i : Nat) : 0 ≤ F.getD i 0 ∧ F.getD i 0 ≤ a := by
 rcases getD_mem_or (l := F) i with h1 | h1
 ·exact h.fr _ h1
 ·rw [h1]; omega
theorem Chains.add {b F A : List Int} {a : Nat} (h : Chains b F A a) : Chains b (addF b F a) (addA b F A a) (a + 1) := by
 have hf := h.fget (hashM b a).toNat
 unfold addF addA
 split
 ·refine ⟨by rw [List.length_set]; exact h.fl, by rw [List.length_set]; exact h.al, fun x hx => ?_, fun i x hx => ?_⟩
  ·rcases List.mem_or_eq_of_mem_set hx with hx | rfl
   ·have := h.fr x hx; omega
   ·omega
  ·rw [List.getElem?_set] at hx
   split at hx
   ·split at hx
    ·cases hx; omega
    ·cases hx
   ·exact h.ar i x hx
 ·exact ⟨h.fl, h.al, fun x hx => by have := h.fr x hx; omega, h.ar⟩
end Go.Proofs
namespace Go.Proofs
open Go.Sh
variable {H0 H : Heap} {σ : List Rs} {R : Value → Heap → Prop}
theorem kints_take (k : IntKind) (l : List Int) (i : Nat) : (kints k l).take i = kints k (l.take i) := by simp [kints]
section
variable {f l c bf ba a : Nat} {p : Option Addr} {b F A : List Int}
end
end Go.Proofs
namespace Go.Proofs
open Go.Sh
variable {H0 H : Heap} {σ : List Rs} {R : Value → Heap → Prop}
theorem is_till {p : Option Addr} {l c n : Nat} {fs : List Value} (h : IS H p l fs) (hn : n ≤ l) : IS H (if c = 0 then p else Option.map (fun x => Addr.add x (0 * 1)) p) (n - 0) (fs.take n) := by
 refine ⟨by rw [List.length_take, h.len]; omega, fun i v hv => ?_⟩
 rw [List.getElem?_take] at hv
 split at hv
 ·obtain ⟨x, h1, h2⟩ := h.get _ _ hv
  subst h1
  split
  ·exact ⟨x, rfl, h2⟩
  ·exact ⟨_, rfl, by rw [add_add]; simpa using h2⟩
 ·cases hv
section
variable {f a most : Nat} {B out : List Int} {e : Int}
end
end Go.Proofs
namespace Go.Proofs
open Go.Sh
variable {H0 H : Heap} {σ : List Rs} {R : Value → Heap → Prop}
theorem jlawCuts {w h q at_ : Int} {l c lm cm : Nat} {p pm : Option Addr} {rgb mo : List Int} {half : Bool} (hi : IS H p l (kints .u8 rgb)) (hr : ∀ x ∈ rgb, 0 ≤ x ∧ x < 256) (hm : IS H pm lm (kints .u8 mo)) (hmr : ∀ x ∈ mo, 0 ≤ x ∧ x < 256) :
    CallsH Try.prog 5 #[.int .i64 w, .int .i64 h, .slice p l c, .int .i64 q, .bool half, .int .i64 at_, .slice pm lm cm] H (fun u H' => u = .bool true ∧ Ext H H') := by
  refine Try.s5 ?_
  generalize hRd : (fun (u : Value) (H' : Heap) => u = Value.bool true ∧ Ext H H') = R
  have R1 : ∀ H', Ext H H' → R (.bool true) H' := fun H' e => by subst hRd; exact ⟨rfl, e⟩
  clear hRd
  unfold Try.S5
  have hml := hm.length
  refine c6 fun H1 e1 => ⟨_, rfl, br_f rfl ?_⟩
  intro J11 hJ11
  refine br_dec (fun _ => R1 H1 e1) (fun hl => br_dec (fun _ => R1 H1 e1) (fun ha => br_dec (fun _ => R1 H1 e1) (fun hm1 => br_dec (fun _ => R1 H1 e1) (fun hm2 => hJ11 H1 ?_))))
  have hl : l ≤ 3000 := by omega
  have i1 := hi.ext e1
  refine c7 i1 hr hl (fun W Ht _ _ _ => blocks_ok) (fun hn H2 e2 => ⟨_, _, _, _, rfl, ?_⟩) (fun hz hn H2 e2 => ⟨_, _, _, _, rfl, ?_⟩) (fun hz he hn H2 e2 => ⟨_, _, _, _, rfl, ?_⟩) (fun W Ht B hw' hh hlN hn hq hok H2 eb em hs2 => ⟨_, _, _, _, rfl, ?_⟩)
  · intro J hJ; exact br_t rfl (R1 H2 (e1.trans e2))
  · intro J hJ; exact br_t rfl (R1 H2 (e1.trans e2))
  · intro J hJ; exact br_t rfl (R1 H2 (e1.trans e2))
  · have hs2 := (St.of_ext e1).call hs2
    have hdec := dec_enc hok
    have hlen := enc_len hok
    have hrng := enc_rng hok
    have hpos : 2 ≤ (encB W Ht half (stepsM q false) (stepsM q true) (itemsM (orderM W Ht half) (blocksL W Ht rgb q half) [0, 0, 0]) B).length := by unfold encB; rw [List.length_append]; simp
    generalize encB W Ht half (stepsM q false) (stepsM q true) (itemsM (orderM W Ht half) (blocksL W Ht rgb q half) [0, 0, 0]) B = E at *
    intro J17 hJ17
    refine br_f rfl (br_f (by rw [beq_eq_false_iff_ne]; omega) (hJ17 H2 ?_))
    obtain ⟨A, rfl⟩ := Int.eq_ofNat_of_zero_le (show 0 ≤ at_ by omega)
    have et : Int.tmod (A : Int) ((E.length : Nat) : Int) = ((A % E.length : Nat) : Int) := by rw [Int.tmod_eq_emod_of_nonneg (by omega)]; omega
    have hk : A % E.length < E.length := Nat.mod_lt _ (by omega)
    rw [et, Int.toNat_natCast]
    generalize A % E.length = k at hk
    have hcap := (hs2.fs 0 rfl).le
    refine ⟨by omega, by omega, by omega, ?_⟩
    have hit := is_till (hs2.is 0 rfl) (c := em) (n := k) (by omega)
    rw [kints_take] at hit
    have bad : ∀ (b : List Int) (p' : Option Addr) (l' c' : Nat) (H' : Heap) (R' : Value → Heap → Prop), SlB H' p' l' c' b → l' ≤ 900000000 → decJ b = none → (∀ H'', Ext H' H'' → R' (.tuple #[.agg img0, .int .i64 51]) H'') → CallsH Try.prog 9 #[.slice p' l' c'] H' R' := fun b p' l' c' H' R' hb hl' hno hR' =>
      c9 hb hl' (fun _ => hR') (fun m hm => by rw [hno] at hm; cases hm)
    refine bad _ _ _ _ _ _ ⟨hit, by omega, fun x hx => hrng x (List.mem_of_mem_take hx)⟩ (by omega) (dec_cut hdec hk) fun H3 e3 => ⟨_, _, rfl, ?_⟩
    have hs3 := hs2.step e3
    refine hs3.alc fun b23 H4 hs4 => ⟨rfl, hs4.putAll 0 rfl rfl (by simp [Value.oneCell', img0]) fun H5 hs5 => ?_⟩
    have hs5 := hs5.tail
    refine c12 (hs5.is 0 rfl) (hm.ext hs5.ext) (by omega) fun q6 c6 H6 hs6 => ⟨_, _, _, rfl, ?_⟩
    have hs6 := hs5.call hs6
    have hmo : mo ≠ [] := fun h0 => by rw [h0] at hml; simp at hml; omega
    have hjl : (E ++ mo).length ≤ 900000000 := by rw [List.length_append]; omega
    refine bad _ _ _ _ _ _ ⟨hs6.is 0 rfl, (hs6.fs 0 rfl).le, fun x hx => (List.mem_append.1 hx).elim (hrng x) (hmr x)⟩ hjl (dec_more hdec hmo) fun H7 e7 => ⟨_, _, rfl, ?_⟩
    have hs7 := hs6.step e7
    refine hs7.alc fun b33 H8 hs8 => ⟨rfl, hs8.putAll 0 rfl rfl (by simp [Value.oneCell', img0]) fun H9 hs9 => ?_⟩
    have hs9 := hs9.tail
    refine c12 (hm.ext hs9.ext) (hs9.is 1 rfl) (by omega) fun q10 c10 H10 hs10 => ⟨_, _, _, rfl, ?_⟩
    have hs10 := hs9.call hs10
    have hjl2 : (mo ++ E).length ≤ 900000000 := by rw [List.length_append]; omega
    refine c9 ⟨hs10.is 0 rfl, (hs10.fs 0 rfl).le, fun x hx => (List.mem_append.1 hx).elim (hmr x) (hrng x)⟩ hjl2 (fun _ H11 e11 => ⟨_, _, rfl, ?_⟩) (fun m hm' W' Ht' _ _ _ H11 q11 k11 bq11 bk11 hs11 => ⟨_, _, rfl, ?_⟩)
    · have hs11 := hs10.step e11
      refine hs11.alc fun b43 H12 hs12 => ⟨rfl, hs12.putAll 0 rfl rfl (by simp [Value.oneCell', img0]) fun H13 hs13 => ?_⟩
      exact br_t rfl (br_t rfl (br_t rfl (R1 H13 hs13.ext)))
    · have hs11 := hs10.call hs11
      refine hs11.alc fun b43 H12 hs12 => ⟨rfl, hs12.putAll 0 rfl rfl (by simp [Value.oneCell']) fun H13 hs13 => ?_⟩
      refine br_t rfl (br_t rfl (br_f rfl ?_))
      have h255 : mo.getD 0 0 = 255 := by
        have := (dec_some hm').1
        rw [gD_app (by omega)] at this
        omega
      obtain ⟨a, ha, hc⟩ := (hm.ext hs13.ext).get 0 _ (kints_get (get_gD mo 0 (by omega)))
      refine ⟨a, ha, by omega, by omega, mo.getD 0 0, ?_, ?_⟩
      · simpa using hc
      · rw [h255]; exact R1 H13 hs13.ext
end Go.Proofs
namespace Go.Proofs
open Go.Sh Go.RowKit Go.ChangeShapes Go.WideShapes Go.ChangeAt
theorem wf_range8 {a : Int} (h : (Lit.int .u8 a).wf = true) : 0 ≤ a ∧ a < 256 := by
 have : 0 ≤ a ∧ a ≤ 255 := by simpa [Lit.wf, IntKind.min, IntKind.max, IntKind.signed, IntKind.bits] using h
 omega
theorem bytesAt {H : Type} {enc : TypeId × Value → H} {W : World} {fuel : Nat} {a0 : Option Addr} {len cap : Nat} {x : DataW H × List MemPlace} (hf : DataW.trod enc Try.prog W 0 (fun _ => true) true fuel 22 [.slice a0 len cap] = some x) :
    ∃ ls, len ≤ cap ∧ IS W.heap a0 len (kints .u8 ls) ∧ ∀ n ∈ ls, 0 ≤ n ∧ n < 256 := by
  rcases open_ints Try.underlying22 Try.underlying5 (by kernel_rfl) hf with ⟨hcs, _⟩ | ⟨a, len2, cap2, zs, hcs, _, hl, _, hz, _, hc, hw⟩
  · simp at hcs
    obtain ⟨rfl, rfl, rfl⟩ := hcs
    exact ⟨[], Nat.le_refl _, ⟨rfl, fun i v hv => by simp [kints] at hv⟩, fun n hn => by simp at hn⟩
  · simp at hcs
    obtain ⟨rfl, rfl, rfl⟩ := hcs
    have hzl : len ≤ zs.length := by rw [hz]; simp; omega
    refine ⟨zs.take len, hl, ⟨by rw [kints_len]; simp; omega, fun i v hv => ⟨a, rfl, ?_⟩⟩, fun n hn => wf_range8 (hw n (List.mem_of_mem_take hn))⟩
    have hi : i < len := by have := (List.getElem?_eq_some_iff.1 hv).1; rw [kints_len] at this; simp at this; omega
    have := hc i (by omega)
    rw [cell_eq] at this
    rw [this]
    have hg : (zs.take len)[i]? = some (zs.getD i 0) := by
      rw [List.getElem?_take_of_lt hi, List.getD_eq_getElem?_getD, List.getElem?_eq_getElem (by omega)]; rfl
    rw [kints_get hg] at hv
    exact hv
set_option maxRecDepth 100000 in
theorem bytesIn_of {H : Type} {enc : TypeId × Value → H} {W : World} {v : Value} {d : DataW H} {ps : List MemPlace} {base : Nat} (hv : Value.okWide Try.prog W .any base 22 v) (h : DataW.Trod enc Try.prog W 0 (fun _ => true) true 22 v d ps) :
    ∃ a l c ls, v = .slice a l c ∧ l ≤ c ∧ IS W.heap a l (kints .u8 ls) ∧ ∀ n ∈ ls, 0 ≤ n ∧ n < 256 := by
  obtain ⟨a0, len, cap, rfl⟩ := okWide_slice Try.underlying22 hv
  obtain ⟨fuel, hf⟩ := h
  obtain ⟨ls, h1, h2, h3⟩ := bytesAt hf
  exact ⟨a0, len, cap, ls, rfl, h1, h2, h3⟩
end Go.Proofs
