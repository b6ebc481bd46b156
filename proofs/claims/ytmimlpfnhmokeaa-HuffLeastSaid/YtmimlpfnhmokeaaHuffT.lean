/-
  OWN WORK. The document's 'Least' over heaps.
-/
import Derived.Test.YtmimlpfnhmokeaaHuffS
set_option linter.unusedVariables false
set_option linter.unusedSimpArgs false
namespace Go.Proofs
open Go.Sh

/-- A row's place in the table is laid. -/
theorem Rows.ptr {H : Heap} {blk n N i nb : Nat} {D : Nat → Prop} {g : Nat → Nat → Int} {f : Heap → Prop} (h : Rows H blk n D g N) (hi : i ≤ n) (hD : ¬ D i) (hN : N ≤ blk)
    (hf : ∀ H', Rows H' blk n D g N → cell H' ⟨blk, i, none⟩ = some (.slice (some ⟨nb, 0, none⟩) (n + 1) (n + 1)) → (∀ (b : Nat) (o : Obj), H[b]? = some o → b ≠ blk → H'[b]? = some o) → H'.size = H.size → f H') :
    stAt H ⟨blk, i, none⟩ [Value.slice (some ⟨nb, 0, none⟩) (n + 1) (n + 1)] f := by
  obtain ⟨cs, h1, h2, h3⟩ := h.ex
  refine stAt_one h1 (by omega) rfl ?_
  refine hf _ ⟨_, get_set_self h1, by simpa using h2, fun j hj hd => ?_⟩ ?_ (fun b o hb hn => get_set_ne (Ne.symm hn) hb) (by simp)
  · obtain ⟨rb, row, a, b, c, d⟩ := h3 j hj hd
    refine ⟨rb, row, ?_, b, get_set_ne (by omega) c, d⟩
    rw [Array.getElem?_setIfInBounds, if_neg (fun hh => hD (by rw [hh]; exact hd))]
    exact a
  · refine cell_get (get_set_self h1) ?_
    rw [Array.getElem?_setIfInBounds, if_pos rfl, if_pos (by omega)]

theorem sl_get (n : Nat) (F : Nat → Int) {k : Nat} (h : k ≤ n) : ((List.range (n + 1)).map F)[k]? = some (F k) := by
  rw [List.getElem?_map, List.getElem?_range (by omega)]; rfl

theorem sl_set (n : Nat) (F : Nat → Int) (k : Nat) (v : Int) : ((List.range (n + 1)).map F).set k v = (List.range (n + 1)).map fun j => if j = k then v else F j := by
  apply List.ext_getElem?
  intro i
  rw [List.getElem?_set]
  by_cases hi : i ≤ n
  · rw [sl_get n F hi, sl_get n _ hi]
    by_cases h : k = i
    · subst h; rw [if_pos rfl, if_pos (by simp; omega), if_pos rfl]
    · rw [if_neg h, if_neg (fun hh => h hh.symm)]
  · rw [List.getElem?_eq_none_iff.2 (by simp; omega), List.getElem?_eq_none_iff.2 (by simp; omega)]
    split
    · rw [if_neg (by simp; omega)]
    · rfl

theorem sl_congr (n : Nat) {F G : Nat → Int} (h : ∀ k, k ≤ n → F k = G k) : (List.range (n + 1)).map F = (List.range (n + 1)).map G := List.map_congr_left fun k hk => h k (by have := List.mem_range.1 hk; omega)

theorem sl_zero (n : Nat) : List.replicate (n + 1) (0 : Int) = (List.range (n + 1)).map fun _ => 0 := by
  apply List.ext_getElem?
  intro i
  by_cases hi : i ≤ n
  · rw [sl_get n _ hi, List.getElem?_replicate, if_pos (by omega)]
  · rw [List.getElem?_eq_none_iff.2 (by simp; omega), List.getElem?_eq_none_iff.2 (by simp; omega)]

set_option maxHeartbeats 4000000 in
theorem c13 {H : Heap} {p : Option Addr} {l c m : Nat} {D : List Int} {S : Nat → Int} (h : IS H p l (ints D)) (hl : l ≤ 1000) (hm1 : 1 ≤ m) (hm : m ≤ 16) (h0 : S 0 = 0) (hS : ∀ k, 0 ≤ S k ∧ S k ≤ 1000000000000000) (hsum : ∀ j, j ≤ l → (D.drop j).sum = S (l - j)) {R : Value → Heap → Prop}
    (hz : l = 0 → R (.int .i64 0) H) (hone : ∀ v, l = 1 → D[0]? = some v → R (.int .i64 v) H) (hR : ∀ v, 2 ≤ l → val l S (m - 1) l 2 = some v → ∀ H', Ext H H' → R (.int .i64 (v + S l)) H') (hsome : 2 ≤ l → ∃ v, val l S (m - 1) l 2 = some v) :
    CallsH Try.prog 13 #[.slice p l c, .int .i64 m] H R := by
  have hDl : D.length = l := by have := h.len; rw [ints_len] at this; omega
  refine Try.s13 ?_
  unfold Try.S13 alc
  refine br_eq (fun he => hz (by omega)) (fun hne0 => br_eq (fun he => ?_) (fun hne1 => ?_))
  · have hv : D[0]? = some D[0] := List.getElem?_eq_getElem (by omega)
    obtain ⟨a, q1, v1⟩ := h.cell (ints_get hv)
    exact ⟨_, q1, by omega, by omega, _, by simpa using v1, hone _ (by omega) hv⟩
  have hl2 : 2 ≤ l := by omega
  have w1 : IntKind.wrap .i64 (((l : Nat) : Int) + 1) = ((l + 1 : Nat) : Int) := by rw [wrap_id (by omega) (by omega)]; omega
  have w0 : IntKind.wrap .i64 (((l : Nat) : Int) - 1) = ((l : Nat) : Int) - 1 := wrap_id (by omega) (by omega)
  rw [w1, w0]
  simp only [Int.toNat_natCast]
  refine ⟨by omega, by omega, by omega, by omega, ?_⟩
  have hb1 := get_push_self H (.cells (List.toArray (reps (l + 1) [Value.int .i64 0])) 3)
  have e1 : Ext H (H.push (.cells (List.toArray (reps (l + 1) [Value.int .i64 0])) 3)) := Ext.push _ _
  have hs1 : (H.push (.cells (List.toArray (reps (l + 1) [Value.int .i64 0])) 3)).size = H.size + 1 := by simp
  have f1 : FS H.size (H.push (.cells (List.toArray (reps (l + 1) [Value.int .i64 0])) 3)) (some ⟨H.size, 0, none⟩) (l + 1) (l + 1) 3 1 (ints ((List.range (l + 1)).map fun k => if l ≤ k then S (l - k) else 0)) := by
    have := zeros_FS (n0 := H.size) (Nat.le_refl _) hb1
    rw [sl_zero] at this
    rw [sl_congr l (G := fun _ => 0) fun k hk => by
      split
      · have : l - k = 0 := by omega
        rw [this, h0]
      · rfl]
    exact this
  generalize H.push (.cells (List.toArray (reps (l + 1) [Value.int .i64 0])) 3) = H1 at hb1 e1 hs1 f1
  intro X hX
  have sums : ∀ (j : Nat) (H2 : Heap), j ≤ l → Ext H H2 → FS H.size H2 (some ⟨H.size, 0, none⟩) (l + 1) (l + 1) 3 1 (ints ((List.range (l + 1)).map fun k => if j ≤ k then S (l - k) else 0)) → X [.int .i64 ((j : Int) - 1)] H2 := by
    intro j
    induction j with
    | succ j ih =>
      intro H2 hj e2 f2
      have ej : ((j + 1 : Nat) : Int) - 1 = (j : Int) := by omega
      rw [ej]
      have wj : IntKind.wrap .i64 ((j : Int) + 1) = ((j + 1 : Nat) : Int) := by rw [wrap_id (by omega) (by omega)]; omega
      have wj2 : IntKind.wrap .i64 ((j : Int) - 1) = (j : Int) - 1 := wrap_id (by omega) (by omega)
      have hv : D[j]? = some D[j] := List.getElem?_eq_getElem (by omega)
      have hdrop : S (l - j) = D[j] + S (l - (j + 1)) := by
        rw [← hsum j (by omega), ← hsum (j + 1) (by omega), List.drop_eq_getElem_cons (show j < D.length by omega), List.sum_cons]
      obtain ⟨a, q1, v1⟩ := (h.ext e2).cell (ints_get hv)
      have hg := sl_get l (fun k => if j + 1 ≤ k then S (l - k) else 0) (k := j + 1) (by omega)
      simp only [Nat.le_refl, if_true] at hg
      obtain ⟨blk, q2, v2⟩ := f2.rs.cell (ints_get hg)
      cases q2
      have r1 := hS (l - (j + 1))
      have r2 := hS (l - j)
      refine hX _ H2 (br_y (by omega) ?_)
      rw [wj, wj2]
      refine ⟨_, rfl, by omega, by omega, S (l - (j + 1)), by simpa using v2, _, q1, by omega, by omega, D[j], by simpa using v1, _, rfl, by omega, by omega, ?_⟩
      have hw : IntKind.wrap .i64 (S (l - (j + 1)) + D[j]) = S (l - j) := by rw [wrap_id (by omega) (by omega)]; omega
      rw [hw]
      simp only [add_none, Nat.zero_add, Nat.mul_one, Int.toNat_natCast]
      refine f2.set (by rw [ints_len]; simp; omega) rfl fun H3 f3 hk3 hs3 => ?_
      rw [ints_set, sl_set] at f3
      refine ih H3 (by omega) (fun b o hb => hk3 b o (e2 b o hb) (by have := lt_of_get hb; omega)) ?_
      rw [sl_congr l (G := fun k => if k = j then S (l - j) else if j + 1 ≤ k then S (l - k) else 0) fun k hk => by
        by_cases hkj : k = j
        · subst hkj; rw [if_pos (Nat.le_refl _), if_pos rfl]
        · rw [if_neg hkj]
          by_cases h1 : j ≤ k
          · rw [if_pos h1, if_pos (by omega)]
          · rw [if_neg h1, if_neg (by omega)]]
      exact f3
    | zero =>
      intro H2 hj e2 f2
      have fs : RS H2 (some ⟨H.size, 0, none⟩) (l + 1) 3 1 (ints ((List.range (l + 1)).map fun k => S (l - k))) := by
        rw [sl_congr l (F := fun k => S (l - k)) (G := fun k => if 0 ≤ k then S (l - k) else 0) fun k hk => by rw [if_pos (Nat.zero_le _)]]
        exact f2.rs
      have hslg : ∀ j, j ≤ l → ((List.range (l + 1)).map fun k => S (l - k))[j]? = some (S (l - j)) := fun j hj => sl_get l _ hj
      generalize (List.range (l + 1)).map (fun k => S (l - k)) = sl at fs hslg
      have hlt2 : H.size < H2.size := by
        rcases f2.at_ with ⟨h1, _⟩ | ⟨blk, cs, h1, _, h3, _⟩
        · cases h1
        · cases h1; exact lt_of_get h3
      refine hX _ H2 (br_n (by omega) ⟨by omega, by omega, by omega, by omega, ?_⟩)
      have hb3 := get_push_self H2 (.cells (List.toArray (reps (l + 1) [Value.slice none 0 0])) 22)
      have e3 : Ext H2 (H2.push (.cells (List.toArray (reps (l + 1) [Value.slice none 0 0])) 22)) := Ext.push _ _
      have hs3 : (H2.push (.cells (List.toArray (reps (l + 1) [Value.slice none 0 0])) 22)).size = H2.size + 1 := by simp
      have rows3 : Rows (H2.push (.cells (List.toArray (reps (l + 1) [Value.slice none 0 0])) 22)) H2.size l (fun _ => False) (fun _ _ => 0) 0 := ⟨_, hb3, by simp [reps_length], fun i _ hd => hd.elim⟩
      generalize H2.push (.cells (List.toArray (reps (l + 1) [Value.slice none 0 0])) 22) = H3 at hb3 e3 hs3 rows3
      have fs3 := fs.ext e3
      have e03 := e2.trans e3
      -- the table, depth by depth
      have tables : ∀ (Hs : Heap), Ext H Hs → RS Hs (some ⟨H.size, 0, none⟩) (l + 1) 3 1 (ints sl) → H2.size < Hs.size → ∀ Y : List Value → Heap → Prop, (∀ best33p : Option Addr, ∀ best33l : Nat, ∀ best33c : Nat, ∀ d34 : Int, ∀ H_35 : Heap, (br (decide ((d34 : Int) ≥ (1 : Int)))
 (0 ≤ ((l + 1 : Nat) : Int) ∧ ((l + 1 : Nat) : Int) ≤ ((l + 1 : Nat) : Int) ∧ ((24 : Nat) : Int) * ((l + 1 : Nat) : Int) ≤ 281474976710656 ∧ ((l + 1 : Nat) : Int) ≤ 281474976710656 ∧ (∀ X_38 : List Value → Heap → Prop, (∀ i39 : Int, ∀ H_40 : Heap, (br (decide ((i39 : Int) ≥ (0 : Int)))
 (0 ≤ ((l + 1 : Nat) : Int) ∧ ((l + 1 : Nat) : Int) ≤ ((l + 1 : Nat) : Int) ∧ ((8 : Nat) : Int) * ((l + 1 : Nat) : Int) ≤ 281474976710656 ∧ ((l + 1 : Nat) : Int) ≤ 281474976710656 ∧ (∃ a43 : Addr, (some ⟨H_35.size, 0, none⟩ : Option Addr) = some a43 ∧ 0 ≤ i39 ∧ i39 < (((l + 1) : Nat) : Int) ∧ stAt (H_40.push (.cells (List.toArray (reps (l + 1) [Value.int .i64 0])) 3)) (Addr.add a43 (Int.toNat i39 * 1)) [Value.slice (some ⟨H_40.size, 0, none⟩) (l + 1) (l + 1)] fun H_44 => ∀ X_45 : List Value → Heap → Prop, (∀ p46 : Int, ∀ H_47 : Heap, (br (decide ((p46 : Int) ≤ ((l : Nat) : Int)))
 (∃ a48 : Addr, (some ⟨H_35.size, 0, none⟩ : Option Addr) = some a48 ∧ 0 ≤ i39 ∧ i39 < (((l + 1) : Nat) : Int) ∧ ∃ v49p : Option Addr, ∃ v49l : Nat, ∃ v49c : Nat, cell H_47 (Addr.add a48 (Int.toNat i39 * 1)) = some (Value.slice v49p v49l v49c) ∧ CallsH Try.prog 26 #[Value.slice best33p best33l best33c, Value.slice (some ⟨H_35.size, 0, none⟩) (l + 1) (l + 1), Value.slice (some ⟨H.size, 0, none⟩) (l + 1) (l + 1), Value.agg #[Value.int .i64 i39, Value.int .i64 p46, Value.int .i64 d34], Value.int .i64 (m : Int)] H_47 fun r50 H_51 => ∃ r52 : Int, r50 = Value.int .i64 r52 ∧ Ext H_47 H_51 ∧ ∃ a53 : Addr, v49p = some a53 ∧ 0 ≤ p46 ∧ p46 < ((v49l : Nat) : Int) ∧ stAt H_51 (Addr.add a53 (Int.toNat p46 * 1)) [Value.int .i64 r52] fun H_54 => X_45 [Value.int .i64 (IntKind.wrap .i64 (p46 + (1 : Int)))] H_54)
 (X_38 [Value.int .i64 (IntKind.wrap .i64 (i39 - (1 : Int)))] H_47)) → X_45 [Value.int .i64 p46] H_47) → X_45 [Value.int .i64 (0 : Int)] H_44))
 (Y [Value.slice (some ⟨H_35.size, 0, none⟩) (l + 1) (l + 1), Value.int .i64 (IntKind.wrap .i64 (d34 - (1 : Int)))] H_40)) → X_38 [Value.int .i64 i39] H_40) → X_38 [Value.int .i64 ((l : Nat) : Int)] (H_35.push (.cells (List.toArray (reps (l + 1) [Value.slice none 0 0])) 22))))
 (∃ a55 : Addr, best33p = some a55 ∧ 0 ≤ (0 : Int) ∧ (0 : Int) < ((best33l : Nat) : Int) ∧ ∃ v56p : Option Addr, ∃ v56l : Nat, ∃ v56c : Nat, cell H_35 (Addr.add a55 (Int.toNat (0 : Int) * 1)) = some (Value.slice v56p v56l v56c) ∧ ∃ a57 : Addr, v56p = some a57 ∧ 0 ≤ (2 : Int) ∧ (2 : Int) < ((v56l : Nat) : Int) ∧ ∃ v58 : Int, cell H_35 (Addr.add a57 (Int.toNat (2 : Int) * 1)) = some (Value.int .i64 v58) ∧ ∃ a59 : Addr, (some ⟨H.size, 0, none⟩ : Option Addr) = some a59 ∧ 0 ≤ (0 : Int) ∧ (0 : Int) < (((l + 1) : Nat) : Int) ∧ ∃ v60 : Int, cell H_35 (Addr.add a59 (Int.toNat (0 : Int) * 1)) = some (Value.int .i64 v60) ∧ R (Value.int .i64 (IntKind.wrap .i64 (v58 + v60))) H_35)) → Y [Value.slice best33p best33l best33c, Value.int .i64 d34] H_35) → Y [.slice (some ⟨H2.size, 0, none⟩) (l + 1) (l + 1), .int .i64 m] Hs := by
        intro Hs es rs hsz Y hY
        have depth : ∀ (d : Nat) (H4 : Heap) (bd N : Nat), d ≤ m → Ext H H4 → RS H4 (some ⟨H.size, 0, none⟩) (l + 1) 3 1 (ints sl) → bd < H4.size → N ≤ H4.size → (d < m → Rows H4 bd l (fun _ => True) (gE l S (m - d - 1)) N) → Y [.slice (some ⟨bd, 0, none⟩) (l + 1) (l + 1), .int .i64 d] H4 := by
          intro d
          induction d with
          | zero =>
            intro H4 bd N hd e4 rs4 hbd hN hrows
            obtain ⟨v, hv⟩ := hsome hl2
            obtain ⟨rb, g1, g2⟩ := (hrows (by omega)).get (i := 0) (by omega) trivial
            have g2 := g2 2 (by omega)
            have hge : gE l S (m - 0 - 1) 0 2 = v := by
              unfold gE
              rw [Nat.sub_zero, Nat.sub_zero, hv]; rfl
            rw [hge] at g2
            obtain ⟨blk, q1, v1⟩ := rs4.cell (ints_get (hslg 0 (by omega)))
            cases q1
            rw [Nat.sub_zero] at v1
            have rv := val_rng h0 hS hv (by omega)
            have rS := hS l
            refine hY _ _ _ _ H4 (br_n (by omega) ⟨_, rfl, by omega, by omega, some ⟨rb, 0, none⟩, l + 1, l + 1, by simpa using g1, _, rfl, by omega, by omega, v, by simpa using g2, _, rfl, by omega, by omega, S l, by simpa using v1, ?_⟩)
            rw [wrap_id (n := v + S l) (by omega) (by omega)]
            exact hR v hl2 hv H4 e4
          | succ d ihd =>
            intro H4 bd N hd e4 rs4 hbd hN hrows
            have wd : IntKind.wrap .i64 (((d + 1 : Nat) : Int) - 1) = (d : Int) := by rw [wrap_id (by omega) (by omega)]; omega
            refine hY _ _ _ _ H4 (br_y (by omega) ⟨by omega, by omega, by omega, by omega, ?_⟩)
            rw [wd]
            have hb5 := get_push_self H4 (.cells (List.toArray (reps (l + 1) [Value.slice none 0 0])) 22)
            have e5 : Ext H4 (H4.push (.cells (List.toArray (reps (l + 1) [Value.slice none 0 0])) 22)) := Ext.push _ _
            have hs5 : (H4.push (.cells (List.toArray (reps (l + 1) [Value.slice none 0 0])) 22)).size = H4.size + 1 := by simp
            have rows5 : Rows (H4.push (.cells (List.toArray (reps (l + 1) [Value.slice none 0 0])) 22)) H4.size l (fun j => l < j) (gE l S (m - (d + 1))) H4.size := ⟨_, hb5, by simp [reps_length], fun i hi hd => by omega⟩
            generalize H4.push (.cells (List.toArray (reps (l + 1) [Value.slice none 0 0])) 22) = H5 at hb5 e5 hs5 rows5
            intro Z hZ
            have rowsL : ∀ (i : Nat) (H6 : Heap) (N6 : Nat), i ≤ l + 1 → Ext H H6 → RS H6 (some ⟨H.size, 0, none⟩) (l + 1) 3 1 (ints sl) → H4.size < H6.size → N6 ≤ H6.size → Rows H6 H4.size l (fun j => i ≤ j) (gE l S (m - (d + 1))) N6 → (d + 1 < m → Rows H6 bd l (fun _ => True) (gE l S (m - (d + 1) - 1)) N) → Z [.int .i64 ((i : Int) - 1)] H6 := by
              intro i
              induction i with
              | zero =>
                intro H6 N6 hi e6 rs6 h46 hN6 rw6 rb6
                refine hZ _ H6 (br_n (by omega) ?_)
                refine ihd H6 H4.size N6 (by omega) e6 rs6 h46 hN6 fun _ => ?_
                have : m - d - 1 = m - (d + 1) := by omega
                rw [this]
                exact rw6.mono (Nat.le_refl _) fun _ _ _ => Nat.zero_le _
              | succ i ihi =>
                intro H6 N6 hi e6 rs6 h46 hN6 rw6 rb6
                have ei : ((i + 1 : Nat) : Int) - 1 = (i : Int) := by omega
                rw [ei]
                have wi : IntKind.wrap .i64 ((i : Int) - 1) = (i : Int) - 1 := wrap_id (by omega) (by omega)
                refine hZ _ H6 (br_y (by omega) ⟨by omega, by omega, by omega, by omega, _, rfl, by omega, by omega, ?_⟩)
                rw [wi]
                have hb7 := get_push_self H6 (.cells (List.toArray (reps (l + 1) [Value.int .i64 0])) 3)
                have e7 : Ext H6 (H6.push (.cells (List.toArray (reps (l + 1) [Value.int .i64 0])) 3)) := Ext.push _ _
                have hs7 : (H6.push (.cells (List.toArray (reps (l + 1) [Value.int .i64 0])) 3)).size = H6.size + 1 := by simp
                have f7 : FS 0 (H6.push (.cells (List.toArray (reps (l + 1) [Value.int .i64 0])) 3)) (some ⟨H6.size, 0, none⟩) (l + 1) (l + 1) 3 1 (ints ((List.range (l + 1)).map fun p => if p < 0 then gE l S (m - (d + 1)) i p else 0)) := by
                  have := zeros_FS (n0 := 0) (Nat.zero_le _) hb7
                  rw [sl_zero] at this
                  rw [sl_congr l (G := fun _ => 0) fun k hk => by rw [if_neg (by omega)]]
                  exact this
                generalize H6.push (.cells (List.toArray (reps (l + 1) [Value.int .i64 0])) 3) = H7 at hb7 e7 hs7 f7
                simp only [add_none, Nat.zero_add, Nat.mul_one, Int.toNat_natCast]
                have rw7 := rw6.ext e7
                -- the table's own block lies ahead of the rows that stand in it
                obtain ⟨cs7, c71, c72, c73⟩ := rw7.ex
                refine stAt_one c71 (by omega) rfl ?_
                have hk8 : ∀ (b : Nat) (o : Obj), H7[b]? = some o → b ≠ H4.size → (H7.setIfInBounds H4.size (.cells (cs7.setIfInBounds i (.slice (some ⟨H6.size, 0, none⟩) (l + 1) (l + 1))) 22 (0, 0)))[b]? = some o := fun b o hb hn => get_set_ne (Ne.symm hn) hb
                have g8 := get_set_self (o := Obj.cells (cs7.setIfInBounds i (.slice (some ⟨H6.size, 0, none⟩) (l + 1) (l + 1))) 22 (0, 0)) c71
                have hs8 : (H7.setIfInBounds H4.size (.cells (cs7.setIfInBounds i (.slice (some ⟨H6.size, 0, none⟩) (l + 1) (l + 1))) 22 (0, 0))).size = H7.size := by simp
                have rw8 : Rows (H7.setIfInBounds H4.size (.cells (cs7.setIfInBounds i (.slice (some ⟨H6.size, 0, none⟩) (l + 1) (l + 1))) 22 (0, 0))) H4.size l (fun j => i + 1 ≤ j) (gE l S (m - (d + 1))) N6 := by
                  refine ⟨_, g8, by simpa using c72, fun j hj hdj => ?_⟩
                  obtain ⟨rb, row, a, b, c, d'⟩ := c73 j hj hdj
                  refine ⟨rb, row, ?_, b, hk8 _ _ c (fun hh => by rw [hh, c71] at c; cases c), d'⟩
                  rw [Array.getElem?_setIfInBounds, if_neg (by omega)]
                  exact a
                have cp8 : cell (H7.setIfInBounds H4.size (.cells (cs7.setIfInBounds i (.slice (some ⟨H6.size, 0, none⟩) (l + 1) (l + 1))) 22 (0, 0))) ⟨H4.size, i, none⟩ = some (.slice (some ⟨H6.size, 0, none⟩) (l + 1) (l + 1)) := by
                  refine cell_get g8 ?_
                  rw [Array.getElem?_setIfInBounds, if_pos rfl, if_pos (by omega)]
                generalize H7.setIfInBounds H4.size (.cells (cs7.setIfInBounds i (.slice (some ⟨H6.size, 0, none⟩) (l + 1) (l + 1))) 22 (0, 0)) = H8 at hk8 g8 hs8 rw8 cp8
                have k68 : ∀ (b : Nat) (o : Obj), H6[b]? = some o → b ≠ H4.size → H8[b]? = some o := fun b o hb hn => hk8 b o (e7 b o hb) hn
                have e8 : Ext H H8 := fun b o hb => k68 b o (e6 b o hb) (by have := lt_of_get hb; have := e4.size; omega)
                have rs8 : RS H8 (some ⟨H.size, 0, none⟩) (l + 1) 3 1 (ints sl) := rs6.keep fun b cs hb hg => k68 b _ hg fun hh => by rw [hh] at hg; rw [e7 _ _ hg] at c71; cases c71
                have f8 := f7.keep (H' := H8) fun b cs hb hg => hk8 b _ hg fun hh => by rw [hh, c71] at hg; cases hg
                have rb8 : d + 1 < m → Rows H8 bd l (fun _ => True) (gE l S (m - (d + 1) - 1)) N := fun hd1 => (rb6 hd1).keep fun b o hb hbb => k68 b o hb (by rcases hbb with h | h <;> omega)
                have hsz8 : H6.size < H8.size := by omega
                intro V hV
                have cols : ∀ (m2 p : Nat) (H9 : Heap), l + 1 - p = m2 → p ≤ l + 1 → Ext H H9 → RS H9 (some ⟨H.size, 0, none⟩) (l + 1) 3 1 (ints sl) → H6.size < H9.size → Rows H9 H4.size l (fun j => i + 1 ≤ j) (gE l S (m - (d + 1))) N6 → cell H9 ⟨H4.size, i, none⟩ = some (.slice (some ⟨H6.size, 0, none⟩) (l + 1) (l + 1)) → (d + 1 < m → Rows H9 bd l (fun _ => True) (gE l S (m - (d + 1) - 1)) N) →
                    FS 0 H9 (some ⟨H6.size, 0, none⟩) (l + 1) (l + 1) 3 1 (ints ((List.range (l + 1)).map fun p' => if p' < p then gE l S (m - (d + 1)) i p' else 0)) → V [.int .i64 p] H9 := by
                  intro m2
                  induction m2 with
                  | zero =>
                    intro p H9 hm2 hp e9 rs9 h69 rw9 cp9 rb9 f9
                    have hpl : p = l + 1 := by omega
                    refine hV _ H9 (br_n (by omega) ?_)
                    have := (rw9.add cp9 f9 fun p' hp' => by
                      rw [sl_get l _ hp', if_pos (by omega)]).mono (N' := max N6 (H6.size + 1)) (Nat.le_refl _) (D' := fun j => i ≤ j) fun j hj hij => by omega
                    exact ihi H9 _ (by omega) e9 rs9 (by omega) (by omega) this rb9
                  | succ m2 ih2 =>
                    intro p H9 hm2 hp e9 rs9 h69 rw9 cp9 rb9 f9
                    have wp : IntKind.wrap .i64 ((p : Int) + 1) = ((p + 1 : Nat) : Int) := by rw [wrap_id (by omega) (by omega)]; omega
                    refine hV _ H9 (br_y (by omega) ⟨_, rfl, by omega, by omega, some ⟨H6.size, 0, none⟩, l + 1, l + 1, by simpa using cp9, ?_⟩)
                    rw [wp]
                    have hdm : ((d + 1 : Nat) : Int) = ((m - (m - (d + 1)) : Nat) : Int) := by omega
                    rw [hdm]
                    refine c26 (S := S) (sl := sl) (e := m - (d + 1)) (Nh := N6) (Nd := N) h0 hS hl (by omega) hm (by omega) (by omega) (rw9.mono (Nat.le_refl _) fun j hj hij => by omega) (fun he => rb9 (by omega)) rs9 hslg fun HA eA => ⟨_, rfl, eA, _, rfl, by omega, by omega, ?_⟩
                    simp only [add_none, Nat.zero_add, Nat.mul_one, Int.toNat_natCast]
                    refine (f9.ext eA).set (by rw [ints_len]; simp; omega) rfl fun HB fB hkB hsB => ?_
                    rw [ints_set, sl_set] at fB
                    have k9B : ∀ (b : Nat) (o : Obj), H9[b]? = some o → b ≠ H6.size → HB[b]? = some o := fun b o hb hn => hkB b o (eA b o hb) hn
                    have hrow9 : ∃ cs, H9[H6.size]? = some (.cells cs 3) := by
                      rcases f9.at_ with ⟨h1, _⟩ | ⟨blk, cs, h1, _, h3, _⟩
                      · cases h1
                      · cases h1; exact ⟨cs, h3⟩
                    have htab9 : ∃ cs, H9[H4.size]? = some (.cells cs 22) := by obtain ⟨cs, a, _⟩ := rw9.ex; exact ⟨cs, a⟩
                    have hsz6 : H.size < H6.size := by
                      have := e4.size; omega
                    refine ih2 (p + 1) HB (by omega) (by omega) (fun b o hb => k9B b o (e9 b o hb) (by have := lt_of_get hb; have := e6.size; omega)) (rs9.keep fun b cs hb hg => k9B b _ hg fun hh => by cases hb; omega) (by have := eA.size; omega)
                      (rw9.keep fun b o hb hbb => k9B b o hb (by rcases hbb with h | h <;> omega)) ?_ (fun hd1 => (rb9 hd1).keep fun b o hb hbb => k9B b o hb (by rcases hbb with h | h <;> omega)) ?_
                    · obtain ⟨cs, hcs⟩ := htab9
                      have := k9B _ _ hcs (by omega)
                      rw [cell_block hcs] at cp9
                      rw [cell_block this]; exact cp9
                    · rw [sl_congr l (G := fun j => if j = p then gE l S (m - (d + 1)) i p else if j < p then gE l S (m - (d + 1)) i j else 0) fun k hk => by
                        by_cases hkp : k = p
                        · subst hkp; rw [if_pos (by omega), if_pos rfl]
                        · rw [if_neg hkp]
                          by_cases h1 : k < p
                          · rw [if_pos (by omega), if_pos h1]
                          · rw [if_neg (by omega), if_neg h1]]
                      exact fB
                exact cols _ 0 H8 rfl (by omega) e8 rs8 (by omega) rw8 cp8 rb8 f8
            have hstart := rowsL (l + 1) H5 H4.size (Nat.le_refl _) (e4.trans e5) (rs4.ext e5) (by omega) (by omega) (rows5.mono (Nat.le_refl _) fun j hj hh => by omega) (fun hd1 => (hrows hd1).ext e5)
            have ez : ((l + 1 : Nat) : Int) - 1 = (l : Int) := by omega
            rw [ez] at hstart
            exact hstart
        exact depth m Hs H2.size 0 (Nat.le_refl _) es rs (by omega) (by omega) fun h => by omega
      intro Y hY
      -- the first table
      have firsts : ∀ (m2 i : Nat) (H4 : Heap), l + 1 - i = m2 → i ≤ l + 1 → Ext H H4 → RS H4 (some ⟨H.size, 0, none⟩) (l + 1) 3 1 (ints sl) → H2.size < H4.size → (∃ cs, H4[H2.size]? = some (.cells cs 22) ∧ cs.size = l + 1) → Y [.int .i64 i] H4 := by
        intro m2
        induction m2 with
        | zero =>
          intro i H4 hm2 hi e4 rs4 h24 ht
          refine hY _ H4 (br_n (by omega) ?_)
          intro Z hZ
          exact tables H4 e4 rs4 h24 Z hZ
        | succ m2 ih2 =>
          intro i H4 hm2 hi e4 rs4 h24 ht
          obtain ⟨cs, t1, t2⟩ := ht
          have wi : IntKind.wrap .i64 ((i : Int) + 1) = ((i + 1 : Nat) : Int) := by rw [wrap_id (by omega) (by omega)]; omega
          refine hY _ H4 (br_y (by omega) ⟨by omega, by omega, by omega, by omega, _, rfl, by omega, by omega, ?_⟩)
          rw [wi]
          have hb5 := get_push_self H4 (.cells (List.toArray (reps (l + 1) [Value.int .i64 0])) 3)
          have e5 : Ext H4 (H4.push (.cells (List.toArray (reps (l + 1) [Value.int .i64 0])) 3)) := Ext.push _ _
          have f5 : FS 0 (H4.push (.cells (List.toArray (reps (l + 1) [Value.int .i64 0])) 3)) (some ⟨H4.size, 0, none⟩) (l + 1) (l + 1) 3 1 (ints (List.replicate (l + 1) 0)) := zeros_FS (Nat.zero_le _) hb5
          have hs5 : (H4.push (.cells (List.toArray (reps (l + 1) [Value.int .i64 0])) 3)).size = H4.size + 1 := by simp
          generalize H4.push (.cells (List.toArray (reps (l + 1) [Value.int .i64 0])) 3) = H5 at hb5 e5 f5 hs5
          simp only [add_none, Nat.zero_add, Nat.mul_one, Int.toNat_natCast]
          have t5 := e5 _ _ t1
          refine stAt_one t5 (by omega) rfl ?_
          have hk6 : ∀ (b : Nat) (o : Obj), H5[b]? = some o → b ≠ H2.size → (H5.setIfInBounds H2.size (.cells (cs.setIfInBounds i (.slice (some ⟨H4.size, 0, none⟩) (l + 1) (l + 1))) 22 (0, 0)))[b]? = some o := fun b o hb hn => get_set_ne (Ne.symm hn) hb
          have g6 := get_set_self (o := Obj.cells (cs.setIfInBounds i (.slice (some ⟨H4.size, 0, none⟩) (l + 1) (l + 1))) 22 (0, 0)) t5
          have hs6 : (H5.setIfInBounds H2.size (.cells (cs.setIfInBounds i (.slice (some ⟨H4.size, 0, none⟩) (l + 1) (l + 1))) 22 (0, 0))).size = H5.size := by simp
          have c6 : (cs.setIfInBounds i (Value.slice (some ⟨H4.size, 0, none⟩) (l + 1) (l + 1)))[i]? = some (.slice (some ⟨H4.size, 0, none⟩) (l + 1) (l + 1)) := by rw [Array.getElem?_setIfInBounds, if_pos rfl, if_pos (by omega)]
          have z6 : (cs.setIfInBounds i (Value.slice (some ⟨H4.size, 0, none⟩) (l + 1) (l + 1))).size = l + 1 := by simpa using t2
          generalize cs.setIfInBounds i (Value.slice (some ⟨H4.size, 0, none⟩) (l + 1) (l + 1)) = cs6 at hk6 g6 hs6 c6 z6
          generalize H5.setIfInBounds H2.size (.cells cs6 22 (0, 0)) = H6 at hk6 g6 hs6
          have k46 : ∀ (b : Nat) (o : Obj), H4[b]? = some o → b ≠ H2.size → H6[b]? = some o := fun b o hb hn => hk6 b o (e5 b o hb) hn
          have hH2 := e2.size
          have e6 : Ext H H6 := fun b o hb => k46 b o (e4 b o hb) (by have := lt_of_get hb; omega)
          have rs6 : RS H6 (some ⟨H.size, 0, none⟩) (l + 1) 3 1 (ints sl) := rs4.keep fun b cs' hb hg => k46 b _ hg fun hh => by rw [hh, t1] at hg; cases hg
          have f6 := f5.keep (H' := H6) fun b cs' hb hg => hk6 b _ hg fun hh => by cases hb; omega
          intro V hV
          have cols : ∀ (m3 p : Nat) (H7 : Heap) (vs : List Int), l + 1 - p = m3 → p ≤ l + 1 → Ext H H7 → RS H7 (some ⟨H.size, 0, none⟩) (l + 1) 3 1 (ints sl) → H4.size < H7.size → H7[H2.size]? = some (.cells cs6 22) → FS 0 H7 (some ⟨H4.size, 0, none⟩) (l + 1) (l + 1) 3 1 (ints vs) → V [.int .i64 p] H7 := by
            intro m3
            induction m3 with
            | zero =>
              intro p H7 vs hm3 hp e7 rs7 h47 t7 f7
              refine hV _ H7 (br_n (by omega) ?_)
              exact ih2 (i + 1) H7 (by omega) (by omega) e7 rs7 (by omega) ⟨cs6, t7, z6⟩
            | succ m3 ih3 =>
              intro p H7 vs hm3 hp e7 rs7 h47 t7 f7
              have wp : IntKind.wrap .i64 ((p : Int) + 1) = ((p + 1 : Nat) : Int) := by rw [wrap_id (by omega) (by omega)]; omega
              refine hV _ H7 (br_y (by omega) ?_)
              rw [wp]
              refine br_dec (fun hil => ?_) (fun hil => ih3 (p + 1) H7 vs (by omega) (by omega) e7 rs7 h47 t7 f7)
              have hc7 : cell H7 ⟨H2.size, i, none⟩ = some (.slice (some ⟨H4.size, 0, none⟩) (l + 1) (l + 1)) := cell_get t7 c6
              refine ⟨_, rfl, by omega, by omega, some ⟨H4.size, 0, none⟩, l + 1, l + 1, by simpa using hc7, _, rfl, by omega, by omega, ?_⟩
              simp only [add_none, Nat.zero_add, Nat.mul_one, Int.toNat_natCast]
              have hvl : (ints vs).length = l + 1 := by have := f7.len; omega
              refine f7.set (by omega) rfl fun H8 f8 hk8 hs8 => ?_
              rw [ints_set] at f8
              have h04 : H.size < H4.size := by omega
              exact ih3 (p + 1) H8 _ (by omega) (by omega) (fun b o hb => hk8 b o (e7 b o hb) (by have := lt_of_get hb; omega)) (rs7.keep fun b cs' hb hg => hk8 b _ hg fun hh => by cases hb; omega) (by omega) (hk8 _ _ t7 (by omega)) f8
          exact cols _ 0 H6 _ rfl (by omega) e6 rs6 (by omega) g6 f6
      exact firsts _ 0 H3 rfl (by omega) e03 fs3 (by omega) ⟨_, hb3, by simp [reps_length]⟩
  exact sums l H1 (Nat.le_refl _) e1 f1

end Go.Proofs
