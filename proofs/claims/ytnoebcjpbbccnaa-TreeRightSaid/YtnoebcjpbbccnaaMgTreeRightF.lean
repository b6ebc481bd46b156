/-
  OWN WORK. Several texts in one: TtD, TtE, TtF, TtG, TtH, TtI, TtJ, TtK, TtL, TtS, TtM, TtPlays, TtRight, OpBytes.
-/
import Derived.Test.YtnoebcjpbbccnaaMgTreeRightE
import Derived.Test.YtnoebcjpbbccnaaRows
import Derived.Test.YtnoebcjpbbccnaaMgTreeRightB
import Derived.ChangeSlices

/-
  OWN WORK. A layer is put into the document's list; layers are left out.
-/
set_option linter.unusedVariables false
set_option linter.unusedSimpArgs false
set_option maxRecDepth 10000
namespace Go.Proofs
open Go.Sh
variable {H0 H : Heap} {σ : List Rs} {R : Value → Heap → Prop}

theorem rowOf_nil (H : Heap) (p : Option Addr) : Go.Sh.rowOf H p 0 #[] := by
  cases p with
  | none => rfl
  | some a => exact ⟨rfl, fun j v hv => by simp at hv⟩
theorem _root_.Go.Sh.RS.cutRow {H : Heap} {p : Option Addr} {l c k : Nat} {el : TypeId} {fs : List Value} (h : RS H p l el k fs) {lo hi : Nat} (h1 : lo ≤ hi) (h2 : hi ≤ l) (h3 : l ≤ c) :
    Go.Sh.rowOf H (if c = lo then p else Option.map (fun x => Addr.add x (lo * k)) p) ((hi - lo) * k) ((fs.drop (lo * k)).take ((hi - lo) * k)).toArray := by
  by_cases he : hi = lo
  · subst he
    rw [Nat.sub_self, Nat.zero_mul, List.take_zero]
    exact rowOf_nil _ _
  · rcases h.at_ with h4 | ⟨blk, cs, h4, h5, h6⟩
    · omega
    · subst h4
      rw [if_neg (by omega)]
      have hm : lo * k + (hi - lo) * k ≤ fs.length := by rw [h.len, ← Nat.add_mul]; exact Nat.mul_le_mul_right k (by omega)
      have := h.rowPart (lo * k) ((hi - lo) * k) hm
      simp only [Option.map_some, add_none, Nat.zero_add]
      exact this
theorem cellsRs_take (rs : List RT) (i : Nat) : cellsRs (rs.take i) = (cellsRs rs).take (i * 19) ∧ cellsRs (rs.drop i) = (cellsRs rs).drop (i * 19) := by
  have h := cellsRs_app (rs.take i) (rs.drop i)
  rw [List.take_append_drop] at h
  rcases Nat.lt_or_ge i rs.length with hi | hi
  · have hl : (cellsRs (rs.take i)).length = i * 19 := by rw [cellsRs_len, List.length_take]; congr 1; omega
    rw [h, ← hl, List.take_left, List.drop_left]
    exact ⟨rfl, rfl⟩
  · have h19 : (cellsRs rs).length ≤ i * 19 := by rw [cellsRs_len]; omega
    rw [List.take_of_length_le hi, List.drop_eq_nil_of_le hi, List.take_of_length_le h19, List.drop_eq_nil_of_le h19]
    exact ⟨rfl, rfl⟩
theorem RL.cut {H : Heap} {K : Sl3} {rs : List RT} (h : RL H K rs) {lo hi : Nat} (h1 : lo ≤ hi) (h2 : hi ≤ rs.length) :
    Go.Sh.rowOf H (if K.c = lo then K.p else Option.map (fun x => Addr.add x (lo * 19)) K.p) ((hi - lo) * 19) (cellsRs ((rs.drop lo).take (hi - lo))).toArray := by
  have := h.sl.cutRow (c := K.c) h1 (h.len ▸ h2) h.cap
  rw [(cellsRs_take _ _).1, (cellsRs_take _ _).2]
  exact this

end Go.Proofs

/-
  OWN WORK. The document's pixels, shapes, tables (which are right).
-/
set_option linter.unusedVariables false
set_option linter.unusedSimpArgs false
set_option maxRecDepth 10000
namespace Go.Proofs
open Go.Sh
variable {H0 H : Heap} {σ : List Rs} {R : Value → Heap → Prop}

def partL (v : Int) (d : Int) : Int := (v / d).tmod 256
theorem partL_nn {v d : Int} (hv : 0 ≤ v) (hd : 0 < d) : partL v d = v / d % 256 := Int.tmod_eq_emod_of_nonneg (Int.ediv_nonneg hv (by omega))
def partD (c : Int) : Int := if c = 0 then 16777216 else if c = 1 then 65536 else if c = 2 then 256 else 1
theorem c106 {v c : Int} (hc : 0 ≤ c ∧ c ≤ 3) (hR : R (.int .i64 (partL v (partD c))) H) : CallsH Try.prog 106 #[.int .i64 v, .int .i64 c] H R := by
  refine Try.s106 ?_
  unfold Try.S106
  obtain rfl | rfl | rfl | rfl : c = 0 ∨ c = 1 ∨ c = 2 ∨ c = 3 := by omega
  · refine ⟨by decide, by decide, ?_⟩
    rw [show (IntKind.wrap .i64 ((24 : Int) - (IntKind.wrap .i64 ((8 : Int) * 0)))) = 24 from by decide, shr24]; exact hR
  · refine ⟨by decide, by decide, ?_⟩
    rw [show (IntKind.wrap .i64 ((24 : Int) - (IntKind.wrap .i64 ((8 : Int) * 1)))) = 16 from by decide, shr16']; exact hR
  · refine ⟨by decide, by decide, ?_⟩
    rw [show (IntKind.wrap .i64 ((24 : Int) - (IntKind.wrap .i64 ((8 : Int) * 2)))) = 8 from by decide, shr8']; exact hR
  · refine ⟨by decide, by decide, ?_⟩
    rw [show (IntKind.wrap .i64 ((24 : Int) - (IntKind.wrap .i64 ((8 : Int) * 3)))) = 0 from by decide, shr0']
    have e : partL v (partD 3) = Int.tmod v 256 := by unfold partL partD; rw [if_neg (by decide), if_neg (by decide), if_neg (by decide), Int.ediv_one]
    rw [e] at hR; exact hR
theorem c89 {v : Int} (hR : R (.bool (pixelB v)) H) : CallsH Try.prog 89 #[.int .i64 v] H R := by
  refine Try.s89 ?_
  unfold Try.S89
  intro X hX
  have bad : (0 ≤ v → pixelB v = false) → R (.bool false) H := fun h => by
    by_cases hv : 0 ≤ v
    · rw [h hv] at hR; exact hR
    · rw [show pixelB v = false from decide_eq_false fun hh => hv hh.1] at hR; exact hR
  have e3 : 0 ≤ v → partL v (partD 3) = v % 256 := fun hv => by rw [partL_nn hv (by decide)]; unfold partD; rw [if_neg (by decide), if_neg (by decide), if_neg (by decide), Int.ediv_one]
  have step : ∀ k : Nat, k < 3 → (0 ≤ v → pixelB v = true → partL v (partD k) ≤ partL v (partD 3)) → (partL v (partD k) ≤ partL v (partD 3) → X [.int .i64 ((k : Int) + 1)] H) → X [.int .i64 k] H := fun k hk hp hn => hX _ _ (br_y (by omega) (c106 (by omega) ⟨_, rfl, c106 (by decide) ⟨_, rfl, br_dec (fun hgt => bad fun hv => Bool.eq_false_iff.2 fun hb => by have := hp hv hb; omega) fun hle => by
    rw [wrap_id (n := (k : Int) + 1) (by omega) (by omega)]; exact hn (by omega)⟩⟩))
  have hpx : ∀ {v}, pixelB v = true → v / 16777216 % 256 ≤ v % 256 ∧ v / 65536 % 256 ≤ v % 256 ∧ v / 256 % 256 ≤ v % 256 := fun h => (of_decide_eq_true h).2.2
  refine step 0 (by decide) (fun hv hb => ?_) fun h0 => step 1 (by decide) (fun hv hb => ?_) fun h1 => step 2 (by decide) (fun hv hb => ?_) fun h2 => hX _ _ (br_n (by decide) (br_dec (fun hv => ?_) fun hv => bad fun h => absurd h hv))
  · rw [e3 hv, partL_nn hv (by decide)]; exact (hpx hb).1
  · rw [e3 hv, partL_nn hv (by decide)]; exact (hpx hb).2.1
  · rw [e3 hv, partL_nn hv (by decide)]; exact (hpx hb).2.2
  · have hv : 0 ≤ v := hv
    rw [e3 hv, partL_nn hv (by decide)] at h0 h1 h2
    have h0 : v / 16777216 % 256 ≤ v % 256 := h0
    have h1 : v / 65536 % 256 ≤ v % 256 := h1
    have h2 : v / 256 % 256 ≤ v % 256 := h2
    rw [show pixelB v = decide (v < 4294967296) from decide_eq_decide.2 ⟨fun h => h.2.1, fun h => ⟨hv, h, h0, h1, h2⟩⟩] at hR
    exact hR

theorem c95 {p : Option Addr} {n c : Nat} {ps : List Int} {v : Int} (h : IS H p n (ints ps)) (hok : CrvOk ps) (hv : 0 ≤ v ∧ v ≤ 255) (hR : ∀ x : Int, R (.int .i64 x) H) : CallsH Try.prog 95 #[.slice p n c, .int .i64 v] H R := by
  refine Try.s95 ?_
  unfold Try.S95
  have hlen := h.length
  obtain ⟨l1, l2, l3⟩ := hok.len
  refine rdG (i := 0) h (by omega) (by omega) (br_dec (fun h1 => rdG (i := 1) h (by omega) (by omega) (hR _)) fun h1 => ?_)
  intro X hX
  have go : ∀ k, k ≤ n → 2 ≤ k → k % 2 = 0 → X [.int .i64 (k : Nat)] H := by
    have : ∀ m k, n - k ≤ m → k ≤ n → 2 ≤ k → k % 2 = 0 → X [.int .i64 (k : Nat)] H := by
      intro m
      induction m with
      | zero =>
        intro k hm hk h2 he
        refine hX _ _ (br_n (by omega) ?_)
        rw [wrap_id (by omega) (by omega)]
        exact rdG (i := (n : Int) - 1) h (by omega) (by omega) (hR _)
      | succ m ih =>
        intro k hm hk h2 he
        refine hX _ _ (br_dec (fun hlt => ?_) fun hge => ?_)
        · have hk' : k < n := by omega
          rw [wrap_id (n := (k : Int) - 1) (by omega) (by omega), wrap_id (n := (k : Int) + 1) (by omega) (by omega), wrap_id (n := (k : Int) - 2) (by omega) (by omega), wrap_id (n := (k : Int) + 2) (by omega) (by omega)]
          refine rdG (i := (k : Int)) h (by omega) (by omega) (br_dec (fun hv => ?_) fun hv => ?_)
          · refine rdG (i := (k : Int) - 1) h (by omega) (by omega) (rdG (i := (k : Int) + 1) h (by omega) (by omega) (rdG (i := (k : Int) - 1) h (by omega) (by omega) (rdG (i := (k : Int) - 2) h (by omega) (by omega) (rdG (i := (k : Int)) h (by omega) (by omega) (rdG (i := (k : Int) - 2) h (by omega) (by omega) ⟨?_, hR _⟩)))))
            have := hok.inc k h2 (by omega) he
            have r1 := hok.rng k
            have r2 := hok.rng (k - 2)
            rw [Int.toNat_natCast, show Int.toNat ((k : Int) - 2) = k - 2 from by omega, wrap_id (by omega) (by omega)]
            omega
          · exact ih (k + 2) (by omega) (by omega) (by omega) (by omega)
        · rw [wrap_id (by omega) (by omega)]
          exact rdG (i := (n : Int) - 1) h (by omega) (by omega) (hR _)
    exact fun k => this (n - k) k (Nat.le_refl _)
  exact go 2 (by omega) (by omega) (by omega)
/-- Numbers are written into a table, one by one. -/
theorem tab_fill {b : Nat} {H1 : Heap} {L : List Int} {k : Nat} {v : Int} {f : Heap → Prop} (hs : St H0 H1 (.cell b (ints L).toArray 3 :: σ)) (hL : L.length = 256) (hk : k < 256) (hf : ∀ H2 L2, L2.length = 256 → St H0 H2 (.cell b (ints L2).toArray 3 :: σ) → f H2) :
    ∃ a11 : Addr, (some ⟨b, 0, none⟩) = some a11 ∧ 0 ≤ (k : Int) ∧ (k : Int) < (((Int.toNat (256 : Int)) : Nat) : Int) ∧ stAt H1 (Addr.add a11 (Int.toNat (k : Int) * 1)) [Value.int .i64 v] f := by
  refine ⟨_, rfl, by omega, by show (k : Int) < 256; omega, ?_⟩
  rw [show Int.toNat (k : Int) * 1 = k from Nat.mul_one k, add_none, Nat.zero_add]
  exact hs.putA 0 rfl (by omega) fun H2 hs2 => hf H2 (L.set k v) (by rw [List.length_set]; exact hL) hs2
theorem c70 {kind : Int} {p : Option Addr} {n c : Nat} {ps : List Int} (h : IS H p n (ints ps)) (hn : n ≤ 1000000000000)
    (hR : ∀ (q : Sl3) H', Ext H H' → R (.tuple #[.slice q.p q.l q.c, .bool (tabB kind ps)]) H') : CallsH Try.prog 70 #[.int .i64 kind, .slice p n c] H R := by
  refine Try.s70 ?_
  unfold Try.S70
  have hlen := h.length
  have bad : tabB kind ps = false → ∀ {H' : Heap}, Ext H H' → R (.tuple #[.slice none 0 0, .bool false]) H' := fun hb H' he => by
    have := hR .nil H' he; rw [hb] at this; exact this
  have fin : ∀ {t : Bool}, tabB kind ps = t → ∀ {b : Nat} {H' : Heap}, Ext H H' → R (.tuple #[.slice (some ⟨b, 0, none⟩) 256 256, .bool t]) H' := fun {t} hb b H' he => by
    have := hR ⟨some ⟨b, 0, none⟩, 256, 256⟩ H' he; rw [hb] at this; exact this
  intro X hX
  have go : ∀ k, k ≤ n → (List.range k).all (inP ps) = true → X [.int .i64 (k : Nat)] H := by
    refine upto fun k hk ih h1 => hX _ _ (br_dec (fun hlt => ?_) fun hge => ?_)
    · have hk' : k < n := by omega
      refine rdG (i := (k : Int)) h (by omega) hlt (br_dec (fun h3 => bad (tabB_in (k := k) (by omega) ?_) (Ext.refl H)) fun h3 => rdG (i := (k : Int)) h (by omega) hlt (br_dec (fun h4 => bad (tabB_in (k := k) (by omega) ?_) (Ext.refl H)) fun h4 => ?_))
      · exact decide_eq_false fun hh => by have := hh.1; rw [Int.toNat_natCast] at h3; omega
      · exact decide_eq_false fun hh => by have := hh.2; rw [Int.toNat_natCast] at h4; omega
      · rw [Int.toNat_natCast] at h3 h4
        rw [wrap_id (by omega) (by omega)]
        exact ih hk' (all_more h1 (decide_eq_true ⟨by omega, by omega⟩))
    · have hkn : k = n := by omega
      have hall : (List.range ps.length).all (inP ps) = true := by rw [hlen, ← hkn]; exact h1
      have hrng : ∀ i, 0 ≤ ps.getD i 0 ∧ ps.getD i 0 ≤ 255 := fun i => by
        by_cases hi : i < ps.length
        · exact of_decide_eq_true (all_at hall hi)
        · rw [List.getD_eq_getElem?_getD, List.getElem?_eq_none (by omega)]; decide
      refine ⟨by decide, by decide, by decide, by decide, ?_⟩
      rw [repsA256]
      refine (St.nil H).alc fun b10 H11 hs11 => ?_
      have g0 := h.ext hs11.ext
      have tb : kind ≠ 1 → tabB kind ps = kindP kind ps := fun hk1 => tabB_of hall fun h => absurd h hk1
      refine br_eq (fun k0 => ?_) fun k0 => br_eq (fun k1 => ?_) fun k1 => br_eq (fun k2 => ?_) fun k2 => br_eq (fun k3 => ?_) fun k3 => ?_
      · have tk : tabB kind ps = decide (ps.length = 2 ∧ ps.getD 0 0 < ps.getD 1 0) := by rw [tb (by omega)]; unfold kindP; rw [if_pos k0]
        intro J12 hJ12
        refine br_ne (fun hne => bad (by rw [tk]; exact decide_eq_false (by omega)) hs11.ext) fun he => rdG (i := 0) g0 (by omega) (by omega) (rdG (i := 1) g0 (by omega) (by omega) (br_dec (fun hge => bad (by rw [tk]; exact decide_eq_false fun hh => by have := hh.2; have : ps.getD 0 0 ≥ ps.getD 1 0 := hge; omega) hs11.ext) fun hlt => hJ12 _ ?_))
        have hlt : ¬ ps.getD 0 0 ≥ ps.getD 1 0 := hlt
        intro X14 hX14
        have r0 := hrng 0
        have r1 := hrng 1
        have go2 : ∀ k, k ≤ 256 → ∀ H1 (L : List Int), L.length = 256 → St H H1 [.cell b10 (ints L).toArray 3] → X14 [.int .i64 (k : Nat)] H1 := by
          refine upto fun k hk ih H1 L hL hs1 => hX14 _ _ (br_dec (fun hlt => ?_) fun hge => ?_)
          · have hk' : k < 256 := by have : (k : Int) < 256 := hlt; omega
            have g1 := h.ext hs1.ext
            have nx : ∀ H2 L2, L2.length = 256 → St H H2 [.cell b10 (ints L2).toArray 3] → X14 [.int .i64 (IntKind.wrap .i64 ((k : Int) + 1))] H2 := fun H2 L2 h2 hs2 => by
              rw [wrap_id (by omega) (by omega)]
              exact ih hk' H2 L2 h2 hs2
            refine rdG (i := 1) g1 (by omega) (by omega) (br_dec (fun _ => tab_fill hs1 hL hk' nx) fun _ => rdG (i := 0) g1 (by omega) (by omega) (br_dec (fun _ => rdG (i := 0) g1 (by omega) (by omega) (rdG (i := 1) g1 (by omega) (by omega) (rdG (i := 0) g1 (by omega) (by omega) ⟨by decide, rdG (i := 1) g1 (by omega) (by omega) (rdG (i := 0) g1 (by omega) (by omega) ⟨?_, tab_fill hs1 hL hk' nx⟩)⟩))) fun _ => nx H1 L hL hs1))
            show IntKind.wrap .i64 (ps.getD 1 0 - ps.getD 0 0) ≠ 0
            rw [wrap_id (by omega) (by omega)]; omega
          · exact fin (by rw [tk]; exact decide_eq_true ⟨by omega, by omega⟩) hs1.ext
        exact go2 0 (by omega) H11 _ (by simp) hs11
      · subst k1
        have tk : tabB 1 ps = ((List.range ps.length).all (incP ps) && decide (2 ≤ ps.length ∧ ps.length ≤ 32 ∧ ps.length % 2 = 0)) := by unfold tabB; rw [hall]; simp [kindP]
        intro J39 hJ39
        refine br_dec (fun hh => bad (by rw [tk, Bool.and_eq_false_iff]; right; exact decide_eq_false (by omega)) hs11.ext) fun l1 => br_dec (fun hh => bad (by rw [tk, Bool.and_eq_false_iff]; right; exact decide_eq_false (by omega)) hs11.ext) fun l2 => ⟨by decide, br_eq (fun hh => bad (by rw [tk, Bool.and_eq_false_iff]; right; exact decide_eq_false (by rw [Int.tmod_eq_emod_of_nonneg (by omega)] at hh; omega)) hs11.ext) fun l3 => hJ39 _ ?_⟩
        rw [Int.tmod_eq_emod_of_nonneg (by omega)] at l3
        have hlen2 : decide (2 ≤ ps.length ∧ ps.length ≤ 32 ∧ ps.length % 2 = 0) = true := decide_eq_true (by omega)
        rw [hlen2, Bool.and_true] at tk
        intro X41 hX41
        have go3 : ∀ m k, n - k ≤ m → k ≤ n → 2 ≤ k → k % 2 = 0 → (List.range k).all (incP ps) = true → X41 [.int .i64 (k : Nat)] H11 := by
          have done : (List.range n).all (incP ps) = true → ∀ X48 : List Value → Heap → Prop, (∀ v49 : Int, ∀ H_50 : Heap, (br (decide ((v49 : Int) < (256 : Int)))
              (CallsH Try.prog 95 #[Value.slice p n c, Value.int .i64 v49] H_50 fun r51 H_52 => ∃ r53 : Int, r51 = Value.int .i64 r53 ∧ ∃ a54 : Addr, (some ⟨b10, 0, none⟩) = some a54 ∧ 0 ≤ v49 ∧ v49 < (((Int.toNat (256 : Int)) : Nat) : Int) ∧ stAt H_52 (Addr.add a54 (Int.toNat v49 * 1)) [Value.int .i64 r53] fun H_55 => X48 [Value.int .i64 (IntKind.wrap .i64 (v49 + (1 : Int)))] H_55)
              (R (Value.tuple #[Value.slice (some ⟨b10, 0, none⟩) (Int.toNat (256 : Int)) (Int.toNat (256 : Int)), Value.bool true]) H_50)) → X48 [Value.int .i64 v49] H_50) → X48 [Value.int .i64 (0 : Int)] H11 := fun hinc X48 hX48 => by
            have htb : tabB 1 ps = true := by rw [tk, hlen]; exact hinc
            have go4 : ∀ k, k ≤ 256 → ∀ H1 (L : List Int), L.length = 256 → St H H1 [.cell b10 (ints L).toArray 3] → X48 [.int .i64 (k : Nat)] H1 := by
              refine upto fun k hk ih H1 L hL hs1 => hX48 _ _ (br_dec (fun hlt => ?_) fun hge => fin htb hs1.ext)
              have hk' : k < 256 := by have : (k : Int) < 256 := hlt; omega
              refine c95 (h.ext hs1.ext) (tabB_crv htb) (by omega) fun x => ⟨_, rfl, tab_fill hs1 hL hk' fun H2 L2 h2 hs2 => ?_⟩
              rw [wrap_id (by omega) (by omega)]
              exact ih hk' H2 L2 h2 hs2
            exact go4 0 (by omega) H11 _ (by simp) hs11
          intro m
          induction m with
          | zero =>
            intro k hm hk h2 he hinc
            have hkn : k = n := by omega
            subst hkn
            exact hX41 _ _ (br_n (by omega) (done hinc))
          | succ m ih3 =>
            intro k hm hk h2 he hinc
            refine hX41 _ _ (br_dec (fun hlt => ?_) fun hge => ?_)
            · have hk' : k < n := by omega
              rw [wrap_id (n := (k : Int) - 2) (by omega) (by omega), wrap_id (n := (k : Int) + 2) (by omega) (by omega)]
              refine rdG (i := (k : Int)) g0 (by omega) (by omega) (rdG (i := (k : Int) - 2) g0 (by omega) (by omega) (br_dec (fun hle => bad (tabB_inc (k := k) (by omega) (decide_eq_false ?_)) hs11.ext) fun hgt => ?_))
              · rw [Int.toNat_natCast, show Int.toNat ((k : Int) - 2) = k - 2 from by omega] at hle
                omega
              · rw [Int.toNat_natCast, show Int.toNat ((k : Int) - 2) = k - 2 from by omega] at hgt
                refine ih3 (k + 2) (by omega) (by omega) (by omega) (by omega) (all_more (all_more hinc (decide_eq_true (.inr (.inr (by omega))))) (decide_eq_true (.inl (by omega))))
            · have hkn : k = n := by omega
              subst hkn
              exact done hinc
        exact go3 n 2 (by omega) (by omega) (by omega) (by omega) (by rw [show List.range 2 = [0, 1] from rfl]; simp [incP])
      · have tk : tabB kind ps = decide (ps.length = 0) := by rw [tb k1]; unfold kindP; rw [if_neg k0, if_neg k1, if_pos k2]
        intro X56 hX56
        have go2 : ∀ k, k ≤ 256 → ∀ H1 (L : List Int), L.length = 256 → St H H1 [.cell b10 (ints L).toArray 3] → X56 [.int .i64 (k : Nat)] H1 := by
          refine upto fun k hk ih H1 L hL hs1 => hX56 _ _ (br_dec (fun hlt => ?_) fun hge => ?_)
          · have hk' : k < 256 := by have : (k : Int) < 256 := hlt; omega
            refine tab_fill hs1 hL hk' fun H2 L2 h2 hs2 => ?_
            rw [wrap_id (by omega) (by omega)]
            exact ih hk' H2 L2 h2 hs2
          · refine fin (t := ((n : Nat) : Int) == 0) ?_ hs1.ext
            rw [tk, Bool.eq_iff_iff, decide_eq_true_iff, beq_iff_eq]; omega
        exact go2 0 (by omega) H11 _ (by simp) hs11
      · have tk : tabB kind ps = decide (ps.length = 1) := by rw [tb k1]; unfold kindP; rw [if_neg k0, if_neg k1, if_neg k2, if_pos k3]
        refine br_ne (fun hne => bad (by rw [tk]; exact decide_eq_false (by omega)) hs11.ext) fun he => rdG (i := 0) g0 (by omega) (by omega) ?_
        have r0 := hrng 0
        rw [show Int.toNat 0 = 0 from rfl]
        generalize ps.getD 0 0 = q at r0
        obtain ⟨m, rfl⟩ : ∃ m : Nat, q = m := ⟨q.toNat, by omega⟩
        intro X63 hX63
        have go2 : ∀ k, k ≤ 256 → ∀ H1 (L : List Int), L.length = 256 → St H H1 [.cell b10 (ints L).toArray 3] → X63 [.int .i64 (k : Nat)] H1 := by
          refine upto fun k hk ih H1 L hL hs1 => hX63 _ _ (br_dec (fun hlt => ?_) fun hge => ?_)
          · have hk' : k < 256 := by have : (k : Int) < 256 := hlt; omega
            refine tab_fill hs1 hL hk' fun H2 L2 h2 hs2 => ?_
            rw [wrap_id (by omega) (by omega)]
            exact ih hk' H2 L2 h2 hs2
          · exact fin (by rw [tk]; exact decide_eq_true (by omega)) hs1.ext
        exact go2 m (by omega) H11 _ (by simp) hs11
      · exact bad (by rw [tb k1]; unfold kindP; rw [if_neg k0, if_neg k1, if_neg k2, if_neg k3]) hs11.ext
  exact go 0 (by omega) rfl

end Go.Proofs

/-
  OWN WORK. A layer of the document's list is changed: painted, masked, and so on.
-/
set_option linter.unusedVariables false
set_option linter.unusedSimpArgs false
set_option maxRecDepth 10000
namespace Go.Proofs
open Go.Sh
variable {H0 H : Heap} {σ : List Rs} {R : Value → Heap → Prop}

/-- What a change of a layer answers. -/
structure ChgR (g : Int × LayF) (H : Heap) (r : RT) (R : Value → Heap → Prop) : Prop where
  bad : g.1 ≠ 0 → ∀ H', Ext H H' → R (.tuple #[.agg (cellsR r).toArray, .int .i64 g.1]) H'
  ok : g.1 = 0 → ∀ (r' : RT) H' τ, r'.f = g.2 → r'.to = r.to → St H H' τ → (∀ H'' fps, rdR H'' r → Lie H'' τ fps → rdR H'' r') → R (.tuple #[.agg (cellsR r').toArray, .int .i64 0]) H'

theorem ChgR.err {g : Int × LayF} {r : RT} (hc : ChgR g H r R) {v : Int} {x : LayF} (hg : g = (v, x)) (hv : v ≠ 0) {H' : Heap} (he : Ext H H') : R (.tuple #[.agg (cellsR r).toArray, .int .i64 v]) H' := by
  have := hc.bad (by rw [hg]; exact hv) H' he
  rw [hg] at this; exact this

end Go.Proofs

/-
  OWN WORK. A layer of the document's list is masked, or changed otherwise.
-/
set_option linter.unusedVariables false
set_option linter.unusedSimpArgs false
set_option maxRecDepth 10000
namespace Go.Proofs
open Go.Sh
variable {H0 H : Heap} {σ : List Rs} {R : Value → Heap → Prop}

theorem IS.nil (H : Heap) : IS H none 0 [] := ⟨rfl, fun i v h => by simp at h⟩

end Go.Proofs

/-
  OWN WORK. The document's edits: a layer is added, moved; any edit.
-/
set_option linter.unusedVariables false
set_option linter.unusedSimpArgs false
set_option maxRecDepth 10000
namespace Go.Proofs
open Go.Sh
variable {H0 H : Heap} {σ : List Rs} {R : Value → Heap → Prop}

/-- What an edit of the list answers: the error; else what comes next, and the layers. -/
structure DoR (g : Int × Int × List Lay) (H : Heap) (w h next : Int) (K : Sl3) (rs : List RT) (R : Value → Heap → Prop) : Prop where
  bad : g.1 ≠ 0 → ∀ H', Ext H H' → R (.tuple #[.agg (docA w h next K), .int .i64 g.1]) H'
  ok : g.1 = 0 → ∀ (q : Sl3) (rs' : List RT) H' τ, Rel g.2.2 (rwS rs') → St H H' (.sl q.p q.l q.c 66 19 (cellsRs rs') :: τ) → (∀ H'' fps, (∀ r ∈ rs, rdR H'' r) → Lie H'' τ fps → ∀ r ∈ rs', rdR H'' r) → R (.tuple #[.agg (docA w h g.2.1 q), .int .i64 0]) H'
theorem DoR.err {g : Int × Int × List Lay} {w h next : Int} {K : Sl3} {rs : List RT} (hc : DoR g H w h next K rs R) {v : Int} (hg : g.1 = v) (hv : v ≠ 0) {H' : Heap} (he : Ext H H') : R (.tuple #[.agg (docA w h next K), .int .i64 v]) H' := by
  have := hc.bad (by rw [hg]; exact hv) H' he
  rw [hg] at this; exact this

end Go.Proofs

/-
  OWN WORK. The document's edits: a layer is moved.
-/
set_option linter.unusedVariables false
set_option linter.unusedSimpArgs false
set_option maxRecDepth 10000
namespace Go.Proofs
open Go.Sh
variable {H0 H : Heap} {σ : List Rs} {R : Value → Heap → Prop}

end Go.Proofs

/-
  OWN WORK. The document's edits: any.
-/
set_option linter.unusedVariables false
set_option linter.unusedSimpArgs false
set_option maxRecDepth 10000
namespace Go.Proofs
open Go.Sh
variable {H0 H : Heap} {σ : List Rs} {R : Value → Heap → Prop}

theorem doL_step {w h next : Int} {D : List Lay} {e : Ed} (hk : 1 ≤ e.kind ∧ e.kind ≤ 9) : (doL w h next D e).1 = (stepL w h next D e).1 ∧ ((stepL w h next D e).1 = 0 → (doL w h next D e).2 = (nextL next e, (stepL w h next D e).2)) := by
  unfold doL
  rw [if_neg (by omega)]
  by_cases h0 : (stepL w h next D e).1 = 0
  · rw [if_neg (fun hh => hh h0)]
    exact ⟨h0.symm, fun _ => rfl⟩
  · rw [if_pos h0]
    exact ⟨rfl, fun hh => absurd hh h0⟩
/-- As the program's step says. -/
theorem DoR.step {w h next : Int} {D : List Lay} {e : Ed} {K : Sl3} {rs : List RT} (hk : 1 ≤ e.kind ∧ e.kind ≤ 9) (hR : DoR (doL w h next D e) H w h next K rs R) : DoR ((stepL w h next D e).1, nextL next e, (stepL w h next D e).2) H w h next K rs R := by
  obtain ⟨h1, h2⟩ := doL_step (w := w) (h := h) (next := next) (D := D) hk
  refine ⟨fun hb => ?_, fun h0 => ?_⟩
  · have := hR.bad (by rw [h1]; exact hb)
    rw [h1] at this; exact this
  · have := hR.ok (by rw [h1]; exact h0)
    rw [h2 h0] at this; exact this
end Go.Proofs

/-
  OWN WORK. Edits made the document's; edits that are small; documents that are alike.
-/
set_option linter.unusedVariables false
set_option linter.unusedSimpArgs false
set_option maxRecDepth 10000
namespace Go.Proofs
open Go.Sh
variable {H0 H : Heap} {σ : List Rs} {R : Value → Heap → Prop}

theorem IS.bs {H : Heap} {p : Option Addr} {l : Nat} {xs : List Int} (h : IS H p l (kints .u8 xs)) : bsOf H p l xs := by
  cases p with
  | none =>
    exact List.eq_nil_iff_forall_not_mem.2 fun v hv => by
      obtain ⟨i, hi⟩ := List.getElem?_of_mem hv
      obtain ⟨a, h1, _⟩ := h.get i _ (kints_get hi)
      cases h1
  | some a =>
    refine ⟨h.length, fun j v hv => ?_⟩
    obtain ⟨a', h1, h2⟩ := h.get j v (by simpa [kints] using hv)
    cases h1; exact h2

/-- Edits that came in. -/
structure EdsR (H : Heap) (p : Option Addr) (l : Nat) (es : List (Ed × EdS)) : Prop where
  len : es.length = l
  get : ∀ (i : Nat) e s, es[i]? = some (e, s) → ∃ a, p = some a ∧ rowIn H (a.add (i * 19)) (edL e s).toArray ∧ rdEd H e s
theorem EdsR.ext {H H' : Heap} {p : Option Addr} {l : Nat} {es : List (Ed × EdS)} (h : EdsR H p l es) (he : Ext H H') : EdsR H' p l es := ⟨h.len, fun i e s hi => let ⟨a, h1, h2, h3⟩ := h.get i e s hi; ⟨a, h1, rowAt_ext he h2, h3.ext he⟩⟩
end Go.Proofs

/-
  OWN WORK. A document is compared with the document's list.
-/
set_option linter.unusedVariables false
set_option linter.unusedSimpArgs false
set_option maxRecDepth 10000
namespace Go.Proofs
open Go.Sh
variable {H0 H : Heap} {σ : List Rs} {R : Value → Heap → Prop}

end Go.Proofs

/-
  OWN WORK. The document's Right: the same as the program's.
-/
set_option linter.unusedVariables false
set_option linter.unusedSimpArgs false
set_option maxRecDepth 10000
namespace Go.Proofs
open Go.Sh
variable {H0 H : Heap} {σ : List Rs} {R : Value → Heap → Prop}

structure PlainP (f : LayF) : Prop where
  bare : f.kind ≠ 0 → f.w = 0 ∧ f.h = 0 ∧ f.p = [] ∧ f.map = oneM ∧ f.smooth = false
  plain : f.kind ≠ 2 → f.table = 2 ∧ f.params = []
  adj : f.kind = 2 → f.mode = 0
  ras : f.kind = 0 → sizedB f.w f.h = true ∧ (f.p.length : Int) = f.w * f.h ∧ f.p.all pixelB = true ∧ (backM f.map).1 = 0
  tab : tabB f.table f.params = true
theorem goodF.pl {w h next : Int} {f : LayF} (g : goodF w h next f) : PlainP f := ⟨g.bare, g.plain, g.adj, g.ras, g.tab⟩

theorem cellMapR {r : RT} {b : Nat} {ty : TypeId} (hb : H[b]? = some (.cells (cellsR r).toArray ty)) : rowIn H (Addr.add ⟨b, 0, none⟩ 10) (ints r.f.map.l).toArray := by
  intro j v hv
  rw [List.getElem?_toArray] at hv
  have hj : j < 6 := (List.getElem?_eq_some_iff.1 hv).1
  rw [add_none, add_none]
  refine cell_get hb ?_
  obtain rfl | rfl | rfl | rfl | rfl | rfl : j = 0 ∨ j = 1 ∨ j = 2 ∨ j = 3 ∨ j = 4 ∨ j = 5 := by omega
  all_goals (rw [← hv]; rfl)

theorem c63 {w h next : Int} {K : Sl3} {r : RT} (hrd : rdR H r) (hP : r.P.l ≤ 1000000000) (hA : r.A.l ≤ 1000000000) (h1 : PlainP r.f → ∀ H', Ext H H' → R (.bool true) H') (h0 : ¬ PlainP r.f → ∀ H', Ext H H' → R (.bool false) H') :
    CallsH Try.prog 63 #[.agg (docA w h next K), .agg (cellsR r).toArray] H R := by
  obtain ⟨f, to, P, M, A⟩ := r
  obtain ⟨hrp, hrm, hra⟩ := hrd
  dsimp only at hrp hrm hra hP hA h1 h0
  have hpl := hrp.length
  have hal := hra.length
  refine Try.s63 ?_
  unfold Try.S63
  have bad : ∀ {c : Prop}, (PlainP f → ¬ c) → c → ∀ {H'}, Ext H H' → R (.bool false) H' := fun hh c H' he => h0 (fun g => hh g c) H' he
  refine (St.nil H).alc fun b3 H4 hs4 => hs4.alc fun b5 H6 hs6 => hs6.alc fun b7 H8 hs8 => ⟨rfl, hs8.putAll 0 rfl rfl (ints_one oneM.l) fun H9 hs9 => ?_⟩
  have hs9 : St H H9 [.cell b7 (ints oneM.l).toArray 46, .cell b5 (cellsR ⟨f, to, P, M, A⟩).toArray 66, .cell b3 (docA w h next K) 32] := hs9
  intro J10 hJ10
  have s10 : (f.kind ≠ 0 → f.w = 0 ∧ f.h = 0 ∧ f.p = [] ∧ f.map = oneM ∧ f.smooth = false) → J10 [] H9 := fun g1 => by
    refine hJ10 _ ?_
    intro J12 hJ12
    have s12 : (f.kind ≠ 2 → f.table = 2 ∧ f.params = []) → J12 [] H9 := fun g2 => by
      refine hJ12 _ ?_
      intro J14 hJ14
      have s14 : (f.kind = 2 → f.mode = 0) → J14 [] H9 := fun g3 => by
        refine hJ14 _ ?_
        intro J16 hJ16
        have s16 : ∀ {H1 : Heap}, St H H1 [.cell b7 (ints oneM.l).toArray 46, .cell b5 (cellsR ⟨f, to, P, M, A⟩).toArray 66, .cell b3 (docA w h next K) 32] → (f.kind = 0 → sizedB f.w f.h = true ∧ (f.p.length : Int) = f.w * f.h ∧ f.p.all pixelB = true ∧ (backM f.map).1 = 0) → J16 [] H1 := fun {H1} hs1 g4 => by
          refine hJ16 _ ⟨f.table, hs1.get 1 rfl (j := 17) rfl, A.p, A.l, A.c, hs1.get 1 rfl (j := 18) rfl, c70 (hra.ext hs1.ext) (by omega) fun q H21 he21 => ⟨q.p, q.l, q.c, _, rfl, ?_⟩⟩
          have hs21 := hs1.step he21
          cases ht : tabB f.table f.params with
          | true => exact h1 ⟨g1, g2, g3, g4, ht⟩ H21 hs21.ext
          | false => exact bad (c := tabB f.table f.params = false) (fun g => by rw [g.tab]; decide) ht hs21.ext
        refine ⟨f.kind, hs9.get 1 rfl (j := 1) rfl, br_eq (fun k0 => ?_) fun k0 => s16 hs9 fun hk => absurd hk k0⟩
        refine ⟨(ints f.map.l).toArray, rfl, cellMapR (r := ⟨f, to, P, M, A⟩) (hs9.block 1 rfl), c69 fun H27 he27 => ⟨_, _, rfl, ?_⟩⟩
        refine (hs9.step he27).alc fun b30 H31 hs31 => ⟨rfl, hs31.putAllA 0 rfl rfl fun H32 hs32 => ?_⟩
        have hs32' := hs32.tail
        intro J33 hJ33
        refine br_ne (fun hne => bad (c := (backM f.map).1 ≠ 0) (fun g hh => hh (g.ras k0).2.2.2) hne hs32.ext) fun hbk => ?_
        refine ⟨f.w, hs32'.get 1 rfl (j := 6) rfl, f.h, hs32'.get 1 rfl (j := 7) rfl, c34 ⟨_, rfl, br_not (fun hz => bad (c := sizedB f.w f.h = false) (fun g => by rw [(g.ras k0).1]; decide) hz hs32'.ext) fun hsf => ?_⟩⟩
        obtain ⟨y1, y2, y3, y4, y5⟩ := of_decide_eq_true hsf
        refine ⟨P.p, P.l, P.c, hs32'.get 1 rfl (j := 8) rfl, f.w, hs32'.get 1 rfl (j := 6) rfl, f.h, hs32'.get 1 rfl (j := 7) rfl, ?_⟩
        rw [wrap_area y1 y2 y3 y4]
        refine br_ne (fun hne => bad (c := ((P.l : Nat) : Int) ≠ f.w * f.h) (fun g hh => hh (by rw [← hpl]; exact (g.ras k0).2.1)) hne hs32'.ext) fun hpe => hJ33 _ ?_
        intro X35 hX35
        have hpi := hrp.ext hs32'.ext
        have go : ∀ k, k ≤ f.p.length → (∀ v ∈ f.p.take k, pixelB v = true) → X35 [.int .i64 (k : Nat)] H32 := by
          refine upto fun k hk ihk hall => hX35 _ _ ⟨P.p, P.l, P.c, hs32'.get 1 rfl (j := 8) rfl, br_dec (fun hlt => ?_) fun hge => ?_⟩
          · have hk' : k < f.p.length := by omega
            have hx := List.getElem?_eq_getElem hk'
            refine ⟨P.p, P.l, P.c, hs32'.get 1 rfl (j := 8) rfl, hpi.rd (i := (k : Int)) (x := f.p[k]) (by omega) hlt (by rw [Int.toNat_natCast]; exact hx) (c89 ⟨_, rfl, br_not (fun hz => bad (c := pixelB f.p[k] = false) (fun g => by rw [List.all_eq_true.1 (g.ras k0).2.2.1 _ (List.getElem_mem hk')]; decide) hz hs32'.ext) fun hpx => ?_⟩)⟩
            rw [wrap_id (by omega) (by omega)]
            refine ihk hk' fun v hv => ?_
            rw [take_succ hx] at hv
            rcases List.mem_append.1 hv with hv | hv
            · exact hall v hv
            · rw [List.mem_singleton] at hv; subst hv; exact hpx
          · rw [List.take_of_length_le (by omega)] at hall
            exact s16 hs32' fun _ => ⟨hsf, by rw [hpl]; exact hpe, List.all_eq_true.2 hall, hbk⟩
        exact go 0 (by omega) fun v hv => by simp at hv
      refine ⟨f.kind, hs9.get 1 rfl (j := 1) rfl, br_eq (fun k2 => ⟨f.mode, hs9.get 1 rfl (j := 5) rfl, br_ne (fun c => bad (fun g hh => hh (g.adj k2)) c hs9.ext) fun c => s14 fun _ => c⟩) fun k2 => s14 fun hk => absurd hk k2⟩
    refine ⟨f.kind, hs9.get 1 rfl (j := 1) rfl, br_ne (fun k2 => ⟨f.table, hs9.get 1 rfl (j := 17) rfl, br_ne (fun c => bad (fun g hh => hh (g.plain k2).1) c hs9.ext) fun c1 => ⟨A.p, A.l, A.c, hs9.get 1 rfl (j := 18) rfl, br_ne (fun c => bad (fun g hh => hh (by have := (g.plain k2).2; rw [this] at hal; rw [← hal]; rfl)) c hs9.ext) fun c2 => s12 fun _ => ⟨c1, List.length_eq_zero_iff.1 (by omega)⟩⟩⟩) fun k2 => s12 fun hk => absurd k2 hk⟩
  refine ⟨f.kind, hs9.get 1 rfl (j := 1) rfl, br_ne (fun k0 => ?_) fun k0 => s10 fun hk => absurd k0 hk⟩
  refine ⟨f.w, hs9.get 1 rfl (j := 6) rfl, br_ne (fun c => bad (fun g hh => hh (g.bare k0).1) c hs9.ext) fun d1 => ?_⟩
  refine ⟨f.h, hs9.get 1 rfl (j := 7) rfl, br_ne (fun c => bad (fun g hh => hh (g.bare k0).2.1) c hs9.ext) fun d2 => ?_⟩
  refine ⟨P.p, P.l, P.c, hs9.get 1 rfl (j := 8) rfl, br_ne (fun c => bad (fun g hh => hh (by have := (g.bare k0).2.2.1; rw [this] at hpl; rw [← hpl]; rfl)) c hs9.ext) fun d3 => ?_⟩
  refine ⟨(ints f.map.l).toArray, rfl, cellMapR (r := ⟨f, to, P, M, A⟩) (hs9.block 1 rfl), (ints oneM.l).toArray, rfl, rowIn_whole (hs9.block 0 rfl), rfl, f.map.l, oneM.l, rfl, rfl, rfl, rfl, br_not (fun c => bad (c := f.map.l ≠ oneM.l) (fun g hh => hh (by rw [(g.bare k0).2.2.2.1])) (of_decide_eq_false c) hs9.ext) fun d4 => ?_⟩
  have d4 := M6_l.1 (of_decide_eq_true d4)
  refine ⟨f.smooth, hs9.get 1 rfl (j := 16) rfl, br_i (fun c => bad (c := f.smooth = true) (fun g hh => by rw [(g.bare k0).2.2.2.2] at hh; cases hh) c hs9.ext) fun d5 => ?_⟩
  exact s10 fun _ => ⟨d1, d2, List.length_eq_zero_iff.1 (by omega), d4, d5⟩

/-- Who stands in a group: the group is one. -/
def KidsIn (L : List Rw) : Prop := ∀ x ∈ L, x.to ≠ 0 → ∀ y ∈ L, y.f.id = x.to → y.f.kind = 1
theorem gT_of {G : LayF → Prop} {L : List Rw} (hG : ∀ x ∈ L, G x.f) (hk : KidsIn L) (hz : ∀ x ∈ L, x.f.id ≠ 0) : ∀ t g, (∀ x ∈ flatT g t, x ∈ L) → gT G t := Lay.ind fun f ks ih g hL => by
  rw [flatT] at hL
  have hf := hL _ List.mem_cons_self
  have hks : ∀ us : List Lay, (∀ u ∈ us, u ∈ ks) → (∀ x ∈ flatKs f.id us, x ∈ L) → gKs G us := by
    intro us
    induction us with
    | nil => intro _ _; exact trivial
    | cons u us ihu =>
      intro h1 h2
      rw [flatKs] at h2
      exact ⟨ih u (h1 u List.mem_cons_self) f.id fun x hx => h2 x (List.mem_append_left _ hx), ihu (fun v hv => h1 v (List.mem_cons_of_mem _ hv)) fun x hx => h2 x (List.mem_append_right _ hx)⟩
  refine ⟨hG _ hf, ?_, hks ks (fun _ h => h) fun x hx => hL x (List.mem_cons_of_mem _ hx)⟩
  cases ks with
  | nil => exact .inr rfl
  | cons u us =>
    left
    obtain ⟨fu, ku⟩ := u
    have hu : (⟨fu, f.id⟩ : Rw) ∈ L := hL _ (List.mem_cons_of_mem _ (by rw [flatKs_cons]; exact List.mem_cons_self))
    exact hk _ hu (hz _ hf) _ hf rfl
theorem gKs_of {G : LayF → Prop} {L : List Rw} (hG : ∀ x ∈ L, G x.f) (hk : KidsIn L) (hz : ∀ x ∈ L, x.f.id ≠ 0) (g : Int) : ∀ ts, (∀ x ∈ flatKs g ts, x ∈ L) → gKs G ts
  | [], _ => trivial
  | t :: ts, h => by
    rw [flatKs] at h
    exact ⟨gT_of hG hk hz t g fun x hx => h x (List.mem_append_left _ hx), gKs_of hG hk hz g ts fun x hx => h x (List.mem_append_right _ hx)⟩
theorem gT_to {G : LayF → Prop} : ∀ t g, gT G t → ∀ x ∈ flatT g t, G x.f ∧ (x.to = g ∨ ∃ y ∈ flatT g t, y.f.id = x.to ∧ y.f.kind = 1) := Lay.ind fun f ks ih g hg x hx => by
  obtain ⟨h1, h2, h3⟩ := hg
  rw [flatT] at hx ⊢
  rcases List.mem_cons.1 hx with rfl | hx
  · exact ⟨h1, .inl rfl⟩
  · have hk1 : f.kind = 1 := by
      rcases h2 with h2 | h2
      · exact h2
      · subst h2; rw [flatKs] at hx; cases hx
    have sub : ∀ us : List Lay, (∀ u ∈ us, u ∈ ks) → (∀ z ∈ flatKs f.id us, z ∈ flatKs f.id ks) → gKs G us → ∀ x ∈ flatKs f.id us, G x.f ∧ (x.to = f.id ∨ ∃ y ∈ flatKs f.id ks, y.f.id = x.to ∧ y.f.kind = 1) := by
      intro us
      induction us with
      | nil => intro _ _ _ x hx; rw [flatKs] at hx; cases hx
      | cons u us ihu =>
        intro m1 m2 m3 x hx
        rw [flatKs] at hx m2
        rcases List.mem_append.1 hx with hx | hx
        · obtain ⟨e1, e2⟩ := ih u (m1 u List.mem_cons_self) f.id m3.1 x hx
          refine ⟨e1, e2.imp_right ?_⟩
          rintro ⟨y, hy, hy2⟩
          exact ⟨y, m2 y (List.mem_append_left _ hy), hy2⟩
        · exact ihu (fun v hv => m1 v (List.mem_cons_of_mem _ hv)) (fun z hz => m2 z (List.mem_append_right _ hz)) m3.2 x hx
    obtain ⟨e1, e2⟩ := sub ks (fun _ h => h) (fun _ h => h) h3 x hx
    refine ⟨e1, .inr ?_⟩
    rcases e2 with e2 | ⟨y, hy, hy2⟩
    · exact ⟨_, List.mem_cons_self, e2.symm, hk1⟩
    · exact ⟨y, List.mem_cons_of_mem _ hy, hy2⟩
theorem gKs_to {G : LayF → Prop} {g : Int} : ∀ ts, gKs G ts → ∀ x ∈ flatKs g ts, G x.f ∧ (x.to = g ∨ ∃ y ∈ flatKs g ts, y.f.id = x.to ∧ y.f.kind = 1)
  | [], _, x, hx => by rw [flatKs] at hx; cases hx
  | t :: ts, h, x, hx => by
    rw [flatKs] at hx ⊢
    rcases List.mem_append.1 hx with hx | hx
    · obtain ⟨e1, e2⟩ := gT_to t g h.1 x hx
      refine ⟨e1, e2.imp_right ?_⟩
      rintro ⟨y, hy, hy2⟩
      exact ⟨y, List.mem_append_left _ hy, hy2⟩
    · obtain ⟨e1, e2⟩ := gKs_to ts h.2 x hx
      refine ⟨e1, e2.imp_right ?_⟩
      rintro ⟨y, hy, hy2⟩
      exact ⟨y, List.mem_append_right _ hy, hy2⟩
theorem inv_iff {D : DocL} (hi : Ids D.ks) (hc : cntKs D.ks ≤ 4096) : Inv D ↔ sizedB D.w D.h = true ∧ 1 ≤ D.next ∧ depKs D.ks ≤ 64 ∧ (∀ x ∈ flatKs 0 D.ks, goodF D.w D.h D.next x.f) ∧ KidsIn (flatKs 0 D.ks) := by
  have hn : (idsR (flatKs 0 D.ks)).Nodup := by rw [flatKs_ids]; exact hi.nodup
  have hz : ∀ x ∈ flatKs 0 D.ks, x.f.id ≠ 0 := fun x hx => hi.pos _ (by rw [← flatKs_ids D.ks 0]; exact List.mem_map.2 ⟨x, hx, rfl⟩)
  constructor
  · rintro ⟨h1, h2, h3, h4, h5, h6⟩
    refine ⟨h1, h2, h4, fun x hx => (gKs_to _ h6 x hx).1, fun x hx hx0 y hy hyx => ?_⟩
    rcases (gKs_to _ h6 x hx).2 with he | ⟨y2, hy2, e1, e2⟩
    · exact absurd he hx0
    · rw [ids_inj hn hy hy2 (hyx.trans e1.symm)]; exact e2
  · rintro ⟨h1, h2, h3, h4, h5⟩
    exact ⟨h1, h2, hc, h3, hi.nodup, gKs_of h4 h5 hz 0 _ fun _ h => h⟩

theorem c33 {D : DocL} {K : Sl3} {rs : List RT} (hd : RD H K rs) (he : rwS rs = flatKs 0 D.ks) (hi : Ids D.ks) (hc : cntKs D.ks ≤ 300) (hln : ∀ r ∈ rs, r.f.p.length ≤ 1000000000 ∧ r.f.mask.length ≤ 1000000000 ∧ r.f.params.length ≤ 1000000000)
    (h1 : Inv D → ∀ H', Ext H H' → R (.bool true) H') (h0 : ¬ Inv D → ∀ H', Ext H H' → R (.bool false) H') : CallsH Try.prog 33 #[.agg (docA D.w D.h D.next K)] H R := by
  have hl := hd.l
  have hrel : Rel D.ks (rwS rs) := fun to => by rw [he]
  have hn := hrel.nodup hi
  have hlen := hl.len
  have hcnt : rs.length = cntKs D.ks := by have := hrel.len; rwa [rwS_len] at this
  have hiff := inv_iff hi (by omega : cntKs D.ks ≤ 4096)
  rw [← he] at hiff
  have hz : ∀ x ∈ rwS rs, x.f.id ≠ 0 := fun x hx => hi.pos _ (by rw [← flatKs_ids D.ks 0, ← he]; exact List.mem_map.2 ⟨x, hx, rfl⟩)
  refine Try.s33 ?_
  unfold Try.S33
  have bad : ∀ {c : Prop}, (Inv D → ¬ c) → c → ∀ {H'}, Ext H H' → R (.bool false) H' := fun hh c H' he => h0 (fun g => hh g c) H' he
  refine (St.nil H).alc fun b2 H3 hs3 => ?_
  intro J4 hJ4
  refine ⟨D.w, hs3.get 0 rfl (j := 0) rfl, D.h, hs3.get 0 rfl (j := 1) rfl, c34 ⟨_, rfl, br_not (fun hz => bad (c := sizedB D.w D.h = false) (fun g => by rw [g.size]; decide) hz hs3.ext) fun hsf => ?_⟩⟩
  obtain ⟨z1, z2, z3, z4, z5⟩ := of_decide_eq_true hsf
  have hwh : IntKind.wrap .i64 (D.w * D.h) = D.w * D.h := wrap_area z1 z2 z3 z4
  refine ⟨D.next, hs3.get 0 rfl (j := 2) rfl, br_dec (fun c => bad (fun g => by have := g.next; omega) c hs3.ext) fun hnx => ⟨_, _, _, hs3.get 0 rfl (docA_3 _ _ _ K), br_dec (fun c => by omega) fun _ => hJ4 _ ?_⟩⟩
  intro X6 hX6
  have go : ∀ k, k ≤ rs.length → ∀ H1, (∀ x ∈ (rwS rs).take k, goodF D.w D.h D.next x.f ∧ (x.to ≠ 0 → ∀ y ∈ rwS rs, y.f.id = x.to → y.f.kind = 1)) → St H H1 [.cell b2 (docA D.w D.h D.next K) 32] → X6 [.int .i64 (k : Nat)] H1 := by
    refine upto fun k hk ihk H1 hall hs1 => hX6 _ _ ⟨_, _, _, hs1.get 0 rfl (docA_3 _ _ _ K), br_dec (fun hlt => ?_) fun hge => ?_⟩
    · have hk' : k < rs.length := by omega
      have hr := List.getElem?_eq_getElem hk'
      have hrm := List.getElem_mem hk'
      generalize rs[k] = r at hr hrm
      obtain ⟨blk, hp, hrow⟩ := (hl.ext hs1.ext).row hr
      have hrw := rws_get hr
      have hrwm : r.rw ∈ rwS rs := List.mem_of_getElem? hrw
      obtain ⟨l1, l2, l3⟩ := hln r hrm
      have hrd := hd.rd r hrm
      have hfind : findI r.f.id 0 (rwS rs) = ((0 + k : Nat) : Int) := findI_some (r := r.rw) hn hrw
      rw [Nat.zero_add] at hfind
      have hml := hrd.mask.length
      have badr : ∀ {c : Prop}, (goodF D.w D.h D.next r.f → ¬ c) → c → ∀ {H'}, Ext H H' → R (.bool false) H' := fun hh c H' he => bad (fun g => hh ((hiff.1 g).2.2.2.1 _ hrwm)) c he
      refine ⟨_, _, _, hs1.get 0 rfl (docA_3 _ _ _ K), _, hp, by omega, hlt, (cellsR r).toArray, rfl, by rw [Int.toNat_natCast]; exact rowR0 hrow, hs1.alc fun b13 H14 hs14 => ⟨rfl, hs14.putAll 0 rfl rfl (cellsR_one r) fun H15 hs15 => ?_⟩⟩
      have hs15 : St H H15 [.cell b13 (cellsR r).toArray 66, .cell b2 (docA D.w D.h D.next K) 32] := hs15
      intro J16 hJ16
      refine ⟨r.f.id, hs15.get 0 rfl (j := 0) rfl, br_dec (fun c => badr (fun g => by have := g.id; omega) c hs15.ext) fun c1 => ?_⟩
      refine ⟨r.f.id, hs15.get 0 rfl (j := 0) rfl, D.next, hs15.get 1 rfl (j := 2) rfl, br_dec (fun c => badr (fun g => by have := g.id; omega) c hs15.ext) fun c2 => ?_⟩
      refine ⟨docA D.w D.h D.next K, rfl, rowIn_whole (hs15.block 1 rfl), r.f.id, hs15.get 0 rfl (j := 0) rfl, c24 (hl.ext hs15.ext) fun H50 he50 => ⟨_, rfl, br_ne (fun c => absurd hfind c) fun _ => ?_⟩⟩
      have hs50 := hs15.step he50
      refine ⟨r.f.kind, hs50.get 0 rfl (j := 1) rfl, br_dec (fun c => badr (fun g => by have := g.kind; omega) c hs50.ext) fun c3 => ?_⟩
      refine ⟨r.f.kind, hs50.get 0 rfl (j := 1) rfl, br_dec (fun c => badr (fun g => by have := g.kind; omega) c hs50.ext) fun c4 => ?_⟩
      refine ⟨r.f.opacity, hs50.get 0 rfl (j := 4) rfl, br_dec (fun c => badr (fun g => by have := g.opacity; omega) c hs50.ext) fun c5 => ?_⟩
      refine ⟨r.f.opacity, hs50.get 0 rfl (j := 4) rfl, br_dec (fun c => badr (fun g => by have := g.opacity; omega) c hs50.ext) fun c6 => ?_⟩
      refine ⟨r.f.mode, hs50.get 0 rfl (j := 5) rfl, br_dec (fun c => badr (fun g => by have := g.mode; omega) c hs50.ext) fun c7 => ?_⟩
      refine ⟨r.f.mode, hs50.get 0 rfl (j := 5) rfl, br_dec (fun c => badr (fun g => by have := g.mode; omega) c hs50.ext) fun c8 => ?_⟩
      refine ⟨docA D.w D.h D.next K, rfl, rowIn_whole (hs50.block 1 rfl), (cellsR r).toArray, rfl, rowIn_whole (hs50.block 0 rfl), c63 (hrd.ext hs50.ext) (by have := hrd.p.length; omega) (by have := hrd.params.length; omega) (fun hpl H61 he61 => ⟨_, rfl, br_f rfl (hJ16 _ ?_)⟩) fun hpl H61 he61 => ⟨_, rfl, br_t rfl (badr (c := ¬ PlainP r.f) (fun g hh => hh g.pl) hpl (hs50.step he61).ext)⟩⟩
      have hs61 := hs50.step he61
      intro J18 hJ18
      have body : (r.f.mask = [] ∨ (r.f.mask.length : Int) = D.w * D.h) → J18 [] H61 := fun hmask => by
        refine hJ18 _ ?_
        intro X20 hX20
        have hmi := hrd.mask.ext hs61.ext
        have go2 : ∀ j, j ≤ r.f.mask.length → (∀ c ∈ r.f.mask.take j, c = 0 ∨ c = 255) → X20 [.int .i64 (j : Nat)] H61 := by
          refine upto fun j hj ihj hallm => hX20 _ _ ⟨_, _, _, hs61.get 0 rfl (j := 9) rfl, br_dec (fun hlt2 => ?_) fun hge2 => ?_⟩
          · have hj' : j < r.f.mask.length := by omega
            have hx := List.getElem?_eq_getElem hj'
            have next' : (r.f.mask[j] = 0 ∨ r.f.mask[j] = 255) → X20 [.int .i64 (IntKind.wrap .i64 ((j : Int) + 1))] H61 := fun hcv => by
              rw [wrap_id (by omega) (by omega)]
              refine ihj hj' fun c hcm => ?_
              rw [take_succ hx] at hcm
              rcases List.mem_append.1 hcm with hcm | hcm
              · exact hallm c hcm
              · rw [List.mem_singleton] at hcm; subst hcm; exact hcv
            refine ⟨_, _, _, hs61.get 0 rfl (j := 9) rfl, hmi.rd (i := (j : Int)) (x := r.f.mask[j]) (by omega) hlt2 (by rw [Int.toNat_natCast]; exact hx) (br_ne (fun n0 => ⟨_, _, _, hs61.get 0 rfl (j := 9) rfl, hmi.rd (i := (j : Int)) (x := r.f.mask[j]) (by omega) hlt2 (by rw [Int.toNat_natCast]; exact hx) (br_ne (fun n255 => badr (c := r.f.mask[j] ≠ 0 ∧ r.f.mask[j] ≠ 255) (fun g hh => by rcases g.maskV _ (List.getElem_mem hj') with h | h; exact hh.1 h; exact hh.2 h) ⟨n0, n255⟩ hs61.ext) fun e255 => next' (.inr e255))⟩) fun e0 => next' (.inl e0))⟩
          · rw [List.take_of_length_le (by omega)] at hallm
            have hgood : goodF D.w D.h D.next r.f := ⟨⟨by omega, by omega⟩, ⟨by omega, by omega⟩, ⟨by omega, by omega⟩, ⟨by omega, by omega⟩, hmask, hallm, hpl.bare, hpl.plain, hpl.adj, hpl.ras, hpl.tab⟩
            have next : (r.to ≠ 0 → ∀ y ∈ rwS rs, y.f.id = r.to → y.f.kind = 1) → ∀ {H2 : Heap}, St H H2 [.cell b13 (cellsR r).toArray 66, .cell b2 (docA D.w D.h D.next K) 32] → X6 [.int .i64 (IntKind.wrap .i64 ((k : Int) + 1))] H2 := fun hto {H2} hs2 => by
              rw [wrap_id (by omega) (by omega)]
              refine ihk hk' H2 (fun x hx => ?_) hs2.tail
              rw [take_succ hrw] at hx
              rcases List.mem_append.1 hx with hx | hx
              · exact hall x hx
              · rw [List.mem_singleton] at hx; subst hx; exact ⟨hgood, hto⟩
            refine ⟨r.to, hs61.get 0 rfl (j := 2) rfl, br_ne (fun hto => ?_) fun hto => next (fun h => absurd hto h) hs61⟩
            have hmem : r.to ∈ idsKs D.ks := by
              have := to_mem (g := 0) r.rw (by rw [← he]; exact hrwm)
              rcases this with h | h
              · exact absurd h hto
              · exact h
            rw [← flatKs_ids D.ks 0, ← he] at hmem
            obtain ⟨y0, hy0, hyid⟩ := List.mem_map.1 hmem
            obtain ⟨y, hym, rfl⟩ := List.mem_map.1 hy0
            obtain ⟨m, hm⟩ := List.getElem?_of_mem hym
            have hmlt := (List.getElem?_eq_some_iff.1 hm).1
            have hf2 : findI y.rw.f.id 0 (rwS rs) = ((0 + m : Nat) : Int) := findI_some hn (rws_get hm)
            rw [Nat.zero_add, hyid] at hf2
            refine ⟨_, _, _, hs61.get 1 rfl (docA_3 _ _ _ K), docA D.w D.h D.next K, rfl, rowIn_whole (hs61.block 1 rfl), r.to, hs61.get 0 rfl (j := 2) rfl, c24 (hl.ext hs61.ext) fun H35 he35 => ?_⟩
            have hs35 := hs61.step he35
            obtain ⟨blk2, hp2, hrow2⟩ := (hl.ext hs35.ext).row hm
            rw [hf2]
            refine ⟨_, rfl, .inl he35, _, hp2, by omega, by omega, y.f.kind, rowR hrow2 rfl, br_ne (fun hne => bad (c := y.f.kind ≠ 1) (fun g hh => hh ((hiff.1 g).2.2.2.2 _ hrwm hto _ hy0 hyid)) hne hs35.ext) fun hk1 => next (fun _ y' hy' hyid' => ?_) hs35⟩
            rw [ids_inj hn hy' hy0 (hyid'.trans hyid.symm)]; exact hk1
        exact go2 0 (by omega) fun c hc => by simp at hc
      refine ⟨_, _, _, hs61.get 0 rfl (j := 9) rfl, br_ne (fun hm0 => ?_) fun hm0 => body (.inl (List.length_eq_zero_iff.1 (by omega)))⟩
      refine ⟨_, _, _, hs61.get 0 rfl (j := 9) rfl, D.w, hs61.get 1 rfl (j := 0) rfl, D.h, hs61.get 1 rfl (j := 1) rfl, ?_⟩
      rw [hwh]
      refine br_ne (fun c => badr (c := ((r.M.l : Nat) : Int) ≠ D.w * D.h) (fun g hh => ?_) c hs61.ext) fun c => body (.inr (by rw [hml]; exact c))
      rcases g.maskLen with h4 | h4
      · rw [h4] at hml; exact hm0 (by rw [← hml]; rfl)
      · exact hh (by rw [← hml]; exact h4)
    · have hkn : k = rs.length := by omega
      subst hkn
      rw [List.take_of_length_le (by rw [rwS_len]; exact Nat.le_refl _)] at hall
      have hdc := dep_cnt D.ks
      obtain ⟨q1, q2⟩ := rel_paths hrel hi
      refine ⟨docA D.w D.h D.next K, rfl, rowIn_whole (hs1.block 0 rfl), c27 (B := depKs D.ks) (hl.ext hs1.ext) hn (by omega) (fun r hr => let ⟨c, h1, _, h2⟩ := q1 r hr; ⟨c, h1, h2⟩) (q2.imp_left fun h => ⟨?_, by rw [h]; rfl⟩) fun H65 he65 => ⟨_, rfl, ?_⟩⟩
      · have := rwS_len rs; rw [he, h] at this; exact List.length_eq_zero_iff.1 this.symm
      · have hs65 := hs1.step he65
        by_cases hdp : depKs D.ks ≤ 64
        · rw [show decide (((depKs D.ks : Nat) : Int) ≤ (64 : Int)) = true from decide_eq_true (by omega)]
          exact h1 (hiff.2 ⟨hsf, by omega, hdp, fun x hx => (hall x hx).1, fun x hx => (hall x hx).2⟩) H65 hs65.ext
        · rw [show decide (((depKs D.ks : Nat) : Int) ≤ (64 : Int)) = false from decide_eq_false (by omega)]
          exact bad (c := ¬ depKs D.ks ≤ 64) (fun g hh => hh g.dep) hdp hs65.ext
  exact go 0 (by omega) H3 (fun x hx => by simp at hx) hs3

end Go.Proofs

/-
  OWN WORK. The document's lists as a resource; plays of edits.
-/
set_option linter.unusedVariables false
set_option linter.unusedSimpArgs false
set_option maxRecDepth 10000
namespace Go.Proofs
open Go.Sh
variable {H0 H : Heap} {σ : List Rs} {R : Value → Heap → Prop}

end Go.Proofs

/-
  OWN WORK. The law TreePlays, over heaps.
-/
set_option linter.unusedVariables false
set_option linter.unusedSimpArgs false
set_option maxRecDepth 10000
namespace Go.Proofs
open Go.Sh
variable {H0 H : Heap} {σ : List Rs} {R : Value → Heap → Prop}

end Go.Proofs

/-
  OWN WORK. The law TreeRight, over heaps.
-/
set_option linter.unusedVariables false
set_option linter.unusedSimpArgs false
set_option maxRecDepth 10000
namespace Go.Proofs
open Go.Sh
variable {H0 H : Heap} {σ : List Rs} {R : Value → Heap → Prop}

theorem right_law {A : Array Value} {D : DocL} (hd : DocR H A D) (hR : ∀ H', Ext H H' → R (.bool true) H') : CallsH Try.prog 8 #[.agg A] H R := by
  have hsz : A.size = 4 ∧ ∀ v ∈ A.toList, v.oneCell' = true := by
    obtain ⟨K, ks, rfl, _, _⟩ := hd
    exact ⟨rfl, docA_one _ _ _ _⟩
  refine Try.s8 ?_
  unfold Try.S8
  refine (St.nil H).alc fun b2 H3 hs3 => c12 fun H5 he5 => ⟨_, rfl, br_f rfl ?_⟩
  have hs5 := hs3.step he5
  refine ⟨A, hsz.1, rowIn_whole (hs5.block 0 rfl), ?_⟩
  have hd' : ∀ {H' : Heap}, Ext H H' → DocR H' A D := fun he => by
    obtain ⟨K, ks, rfl, hg, hl⟩ := hd
    exact ⟨K, ks, rfl, hg.ext he, hl⟩
  refine c31 (hd' hs5.ext) (fun K rs H9 hrd hln hrw hids hcnt hok he9 => ⟨_, _, rfl, ?_⟩) fun H9 he9 => ⟨_, _, rfl, ?_⟩
  · refine (St.nil H9).alc fun b12 H13 hs13 => ⟨rfl, hs13.putAll 0 rfl rfl (docA_one D.w D.h D.next K) fun H14 hs14' => br_f rfl ?_⟩
    have hx : Ext H9 H14 := hs14'.ext
    have hs14 := (hs5.step he9).call hs14'
    refine ⟨A, hsz.1, rowIn_whole (hs14.block 1 rfl), docA D.w D.h D.next K, rfl, rowIn_whole (hs14.block 0 rfl), ?_⟩
    refine c32 (hd' hs14.ext) hok (by omega) (fun hinv H18 he18 => ⟨_, rfl, .inl he18, ?_⟩) fun hinv H18 he18 => ⟨_, rfl, .inl he18, ?_⟩
    · refine c33 ((hrd.ext hx).ext he18) hrw hids hcnt (fun r hr => by have := hln r hr; omega) (fun _ H21 he21 => ⟨_, rfl, hR _ (((hs14.step he18).step he21).ext)⟩) fun hni => absurd hinv hni
    · refine c33 ((hrd.ext hx).ext he18) hrw hids hcnt (fun r hr => by have := hln r hr; omega) (fun hi => absurd hi hinv) fun _ H21 he21 => ⟨_, rfl, hR _ (((hs14.step he18).step he21).ext)⟩
  · refine (hs5.step he9).alc fun b12 H13 hs13 => ⟨rfl, hs13.putAll 0 rfl rfl (docA_one D.w D.h D.next .nil) fun H14 hs14 => br_t rfl (hR _ hs14.ext)⟩

end Go.Proofs

/-
  OWN WORK. A slice of bytes that comes in, opened.
-/
set_option linter.unusedVariables false
set_option linter.unusedSimpArgs false
namespace Go.Proofs
open Go.Sh Go.RowKit Go.ChangeShapes Go.WideShapes Go.ChangeAt

theorem wf_range8 {a : Int} (h : (Lit.int .u8 a).wf = true) : 0 ≤ a ∧ a < 256 := by
  have : 0 ≤ a ∧ a ≤ 255 := by simpa [Lit.wf, IntKind.min, IntKind.max, IntKind.signed, IntKind.bits] using h
  omega

theorem bytesAt {H : Type} {enc : TypeId × Value → H} {W : World} {fuel : Nat} {a0 : Option Addr} {len cap : Nat} {x : DataW H × List MemPlace} (hf : DataW.trod enc Try.prog W 0 (fun _ => true) true fuel 56 [.slice a0 len cap] = some x) :
    ∃ ls, len ≤ cap ∧ IS W.heap a0 len (kints .u8 ls) ∧ ∀ n ∈ ls, 0 ≤ n ∧ n < 256 := by
  rcases open_ints Try.underlying56 Try.underlying5 (by kernel_rfl) hf with ⟨hcs, _⟩ | ⟨a, len2, cap2, zs, hcs, _, hl, _, hz, _, hc, hw⟩
  · simp at hcs
    obtain ⟨rfl, rfl, rfl⟩ := hcs
    exact ⟨[], Nat.le_refl _, ⟨rfl, fun i v hv => by simp [kints] at hv⟩, fun n hn => by simp at hn⟩
  · simp at hcs
    obtain ⟨rfl, rfl, rfl⟩ := hcs
    have hzl : len ≤ zs.length := by rw [hz]; simp; omega
    refine ⟨zs.take len, hl, ⟨by rw [kints_len]; simp; omega, fun i v hv => ⟨a, rfl, ?_⟩⟩, fun n hn => wf_range8 (hw n (List.mem_of_mem_take hn))⟩
    have hi : i < len := by have := (List.getElem?_eq_some_iff.1 hv).1; rw [kints_len] at this; simp at this; omega
    have := hc i (by omega)
    rw [cell_eq] at this
    rw [this]
    have hg : (zs.take len)[i]? = some (zs.getD i 0) := by
      rw [List.getElem?_take_of_lt hi, List.getD_eq_getElem?_getD, List.getElem?_eq_getElem (by omega)]; rfl
    rw [kints_get hg] at hv
    exact hv

end Go.Proofs
