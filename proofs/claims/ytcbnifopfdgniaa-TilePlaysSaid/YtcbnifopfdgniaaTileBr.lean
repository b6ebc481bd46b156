/-
  OWN WORK. The book's 'rect': the places of a rectangle.
-/
import Derived.Test.YtcbnifopfdgniaaTileBu
set_option linter.unusedVariables false
set_option linter.unusedSimpArgs false
namespace Go.Proofs
open Go.Sh Go.Tile

def inRect (o : OpV) (X Y : Int) : Prop := o.x ≤ X ∧ X < o.x + o.w ∧ o.y ≤ Y ∧ Y < o.y + o.h

set_option maxHeartbeats 1000000 in
theorem c30 {H : Heap} {k : Bk} (h : BIn H k) (w0 : 1 ≤ k.w) (w1 : k.w ≤ 60) (h0 : 0 ≤ k.h) (h1 : k.h ≤ 60) {o : OpV} (ho : o.ok) {R : Value → Heap → Prop}
    (hR : ∀ H' q l c (L : List Int), Ext H H' → SL H.size H' q l c 3 (ints L) → L.Nodup → (∀ i, i ∈ L ↔ 0 ≤ i ∧ i < k.w * k.h ∧ inRect o (i % k.w) (i / k.w)) → R (.slice q l c) H') :
    CallsH Try.prog 30 #[.pointer (some ⟨k.B, 0, none⟩), .agg o.cells] H R := by
  refine Try.s30 ?_
  unfold Try.S30 alc
  obtain ⟨on, ox, oy, ow, oh⟩ := ho
  unfold i64 at ox oy ow oh
  generalize hH1 : H.push _ = H1
  have e1 : Ext H H1 := by subst hH1; exact Ext.push _ _
  have s1 : H1[H.size]? = some (.cells o.cells 31) := by subst hH1; exact get_push_self _ _
  have rd : ∀ {H' : Heap} {i : Nat} {z : Int}, H'[H.size]? = some (.cells o.cells 31) → o.cells[i]? = some (Value.int .i64 z) → cell H' (Addr.add ⟨H.size, 0, none⟩ i) = some (Value.int .i64 z) := fun hs hz => by rw [add_none, Nat.zero_add]; exact cell_get hs hz
  have hWH : 0 ≤ k.w * k.h ∧ k.w * k.h ≤ 3600 := by
    have a1 : 0 ≤ k.w * k.h := Int.mul_nonneg (by omega) (by omega)
    have a2 : k.w * k.h ≤ 60 * 60 := Int.mul_le_mul (by omega) (by omega) (by omega) (by omega)
    omega
  have ewh : IntKind.wrap .i64 (k.w * k.h) = k.w * k.h := wrap_id (by omega) (by omega)
  intro X hX
  have loop : ∀ (m : Nat) (i : Int) (H2 : Heap) (q : Option Addr) (c : Nat) (L : List Int), (k.w * k.h - i).toNat = m → 0 ≤ i → i ≤ k.w * k.h → L.length ≤ i → Ext H H2 → H2[H.size]? = some (.cells o.cells 31) → SL H.size H2 q L.length c 3 (ints L) → L.Nodup →
      (∀ j, j ∈ L ↔ 0 ≤ j ∧ j < i ∧ inRect o (j % k.w) (j / k.w)) → X [.slice q L.length c, .int .i64 i] H2 := by
    intro m
    induction m using Nat.strongRecOn with
    | _ m ih =>
      intro i H2 q c L hm hi hile hLi e2 s2 sl hL hLm
      have h2 := h.ext e2
      obtain ⟨b0, b1, _, _, _, _⟩ := h2.cells
      refine hX q L.length c i H2 ⟨_, rfl, k.w, by simpa using b0, _, rfl, k.h, by simpa using b1, ?_⟩
      rw [ewh]
      refine br_dec (fun hlt => ?_) (fun hge => ?_)
      · intro J hJ
        have et : Int.tmod i k.w = i % k.w := Int.tmod_eq_emod_of_nonneg hi
        have ed : Int.tdiv i k.w = i / k.w := Int.tdiv_eq_ediv_of_nonneg hi
        have d1 : 0 ≤ i / k.w := Int.ediv_nonneg hi (by omega)
        have d2 : i / k.w < k.h := Int.ediv_lt_of_lt_mul (by omega) (by rw [Int.mul_comm]; exact hlt)
        have d3 : 0 ≤ i % k.w := Int.emod_nonneg i (by omega)
        have d4 : i % k.w < k.w := Int.emod_lt_of_pos i (by omega)
        have ew : IntKind.wrap .i64 (i + 1) = i + 1 := wrap_id (by omega) (by omega)
        refine ⟨_, rfl, k.w, by simpa using b0, by omega, _, rfl, k.w, by simpa using b0, by omega, ?_⟩
        rw [et, ed, wrap_id (n := i / k.w) (by omega) (by omega)]
        have no : ∀ H', Ext H2 H' → ¬ inRect o (i % k.w) (i / k.w) → J [.slice q L.length c] H' := fun H' e hn => by
          refine hJ _ _ _ H' ?_
          rw [ew]
          refine ih _ (by omega) (i + 1) H' q c L rfl (by omega) (by omega) (by omega) (e2.trans e) (e _ _ s2) (sl.ext e) hL fun j => ?_
          rw [hLm]
          constructor
          · rintro ⟨a, b, c⟩; exact ⟨a, by omega, c⟩
          · rintro ⟨a, b, c⟩
            by_cases hji : j = i
            · rw [hji] at c; exact absurd c hn
            · exact ⟨a, by omega, c⟩
        have rf := fun {j : Nat} {z : Int} (hz : o.cells[j]? = some (Value.int .i64 z)) => rd s2 hz
        refine ⟨o.x, rf rfl, br_dec (fun gx => ⟨o.y, rf rfl, br_dec (fun gy => ⟨o.w, rf rfl, br_dec (fun gw => ⟨o.h, rf rfl, br_dec (fun gh => ?_) (fun hn => no H2 (Ext.refl _) (fun hc => by unfold inRect at hc; omega))⟩) (fun hn => no H2 (Ext.refl _) (fun hc => by unfold inRect at hc; omega))⟩)
          (fun hn => no H2 (Ext.refl _) (fun hc => by unfold inRect at hc; omega))⟩) (fun hn => no H2 (Ext.refl _) (fun hc => by unfold inRect at hc; omega))⟩
        have k1 : IntKind.wrap .i64 (i % k.w - max o.x 0) = i % k.w - max o.x 0 := wrap_id (by omega) (by omega)
        have k2 : IntKind.wrap .i64 (i / k.w - max o.y 0) = i / k.w - max o.y 0 := wrap_id (by omega) (by omega)
        have k3 : (if 0 ≤ o.x then o.w else IntKind.wrap .i64 (o.w + o.x)) = (if 0 ≤ o.x then o.w else o.w + o.x) := by
          split
          · rfl
          · exact wrap_id (by omega) (by omega)
        have k4 : (if 0 ≤ o.y then o.h else IntKind.wrap .i64 (o.h + o.y)) = (if 0 ≤ o.y then o.h else o.h + o.y) := by
          split
          · rfl
          · exact wrap_id (by omega) (by omega)
        refine ⟨o.x, rf rfl, o.x, rf rfl, o.w, rf rfl, c33 ⟨_, rfl, Ext.refl _, ?_⟩⟩
        rw [k1, k3]
        refine br_dec (fun gx2 => ?_) (fun hn => no H2 (Ext.refl _) (fun hc => by unfold inRect at hc; split at hn <;> omega))
        refine ⟨o.y, rf rfl, o.y, rf rfl, o.h, rf rfl, c33 ⟨_, rfl, Ext.refl _, ?_⟩⟩
        rw [k2, k4]
        refine br_dec (fun gy2 => ?_) (fun hn => no H2 (Ext.refl _) (fun hc => by unfold inRect at hc; split at hn <;> omega))
        have hin : inRect o (i % k.w) (i / k.w) := by
          unfold inRect
          split at gx2 <;> split at gy2 <;> omega
        have e3 : Ext H2 (H2.push (.cells #[Value.int .i64 i] 3)) := Ext.push _ _
        refine (sl.ext e3).app (by have := e2.size; simp; omega) (get_push_self _ _) rfl (by omega) fun p' c' H4 slN hk hsz => ?_
        refine hJ _ _ _ H4 ?_
        rw [ew]
        have hlen : (L ++ [i]).length = L.length + 1 := by simp
        rw [← hlen]
        have hin' : ints (L ++ [i]) = ints L ++ [Value.int .i64 i] := by simp [ints]
        refine ih _ (by omega) (i + 1) H4 p' c' (L ++ [i]) rfl (by omega) (by omega) (by simp; omega) (fun b u hb => hk b u (e3 _ _ (e2 _ _ hb)) fun cs hle => ?_) (hk _ _ (e3 _ _ s2) fun cs hle hh => by cases hh) (by rw [hin', hlen]; exact slN) ?_ fun j => ?_
        · have := lt_of_get hb; omega
        · rw [List.nodup_append]
          refine ⟨hL, by simp, fun a ha b hb hab => ?_⟩
          simp at hb; subst hb; subst hab
          have := (hLm a).1 ha
          omega
        · rw [List.mem_append, hLm, List.mem_singleton]
          constructor
          · rintro (⟨a, b, c⟩ | rfl)
            · exact ⟨a, by omega, c⟩
            · exact ⟨hi, by omega, hin⟩
          · rintro ⟨a, b, c⟩
            by_cases hji : j = i
            · exact .inr hji
            · exact .inl ⟨a, by omega, c⟩
      · have : i = k.w * k.h := by omega
        rw [this] at hLm
        exact hR H2 q L.length c L e2 sl hL hLm
  exact loop _ 0 H1 none 0 [] rfl (Int.le_refl _) hWH.1 (by simp) e1 s1 (SL.nil _ _ _) List.nodup_nil (fun j => ⟨fun hh => (by cases hh), fun hh => by omega⟩)

end Go.Proofs
