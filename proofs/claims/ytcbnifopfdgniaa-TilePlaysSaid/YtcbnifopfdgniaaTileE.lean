/-
  OWN WORK. The contracts of the package tile, over heaps: own, Set.
-/
import Derived.Test.YtcbnifopfdgniaaTileD
set_option linter.unusedVariables false
set_option linter.unusedSimpArgs false
namespace Go.Proofs
open Go.Sh Go.Tile

theorem zeros_len : zeros.length = 256 := List.length_replicate

theorem zero_tile : Obj.cells (List.toArray (List.set (Array.toList ((Array.replicate 256 (Value.int .u32 0) ++ #[Value.int .i64 0]))) 256 (Value.int .i64 1))) 72 = tileO zeros 1 := by
  have h : (Array.toList ((Array.replicate 256 (Value.int .u32 0) ++ #[Value.int .i64 0]))) = zeros.map (Value.int .u32) ++ [Value.int .i64 0] := by
    rw [Array.toList_append, Array.toList_replicate]
    unfold zeros
    rw [List.map_replicate]
  rw [h, List.set_append_right _ _ (by rw [List.length_map, zeros_len]; exact Nat.le_refl _)]
  simp only [List.length_map, zeros_len, Nat.sub_self, List.set_cons_zero]
  rfl

set_option maxHeartbeats 1000000 in
theorem c27 {cap : Int} {H : Heap} {s : St} (hin : In H s) (hok : Ok cap s) {k : Nat} {p : Pl} (hk : s.pls[k]? = some p) (x y : Int) {R : Value → Heap → Prop}
    (hyes : needs s p x y = false → ∀ H', Ext H H' → R (.bool true) H') (hno : needs s p x y = true → s.free = 0 → ∀ H', Ext H H' → R (.bool false) H')
    (hnew : needs s p x y = true → s.free ≠ 0 → ∀ H' n, H.size ≤ n → Goes cap H s H' (ownS s k p x y n) → R (.bool true) H') :
    CallsH Try.prog 27 #[.pointer (some ⟨p.b, 0, none⟩), .agg #[.int .i64 x, .int .i64 y]] H R := by
  have hp : p ∈ s.pls := List.mem_of_getElem? hk
  refine Try.s27 ?_
  unfold Try.S27 alc
  generalize hH4 : H.push _ = H4
  have e4 : Ext H H4 := by subst hH4; exact Ext.push _ _
  have hkey : H4[H.size]? = some (.cells #[Value.int .i64 x, Value.int .i64 y] 65) := by subst hH4; exact get_push_self _ _
  have s4 : H4.size = H.size + 1 := by subst hH4; simp
  have hin4 := hin.ext e4
  refine ⟨_, rfl, some p.m, cell_get (hin4.plane p hp) rfl, _, rfl, rowIn_whole hkey, p.m, rfl, _, _, hin4.map p hp, kf _ _, kfs _, _, lookV_enc _ _ _, ?_⟩
  intro J hJ
  -- behind the first test
  have hJ' : needs s p x y = true → J [] H4 := by
    intro hneed
    refine hJ H4 ⟨_, rfl, _, cell_get (hin4.plane p hp) rfl, _, rfl, s.free, cell_get hin4.arena rfl, ?_⟩
    refine br_eq (fun h0 => hno hneed h0 H4 e4) (fun h0 => ?_)
    refine ⟨_, rfl, _, cell_get (hin4.plane p hp) rfl, _, rfl, s.free, cell_get hin4.arena rfl, _, rfl, ?_⟩
    have hfree := hok.free
    have hcount := hok.count
    have hcapb := hok.capb
    rw [wrap_id (by omega) (by omega)]
    refine stAt_one hin4.arena (by simp) rfl ?_
    simp only [zero_tile]
    generalize hH5 : H4.setIfInBounds s.A _ = H5
    have s5 : H5.size = H4.size := by subst hH5; simp
    have ha5 : H5[s.A]? = some (arenaO (s.free - 1)) := by subst hH5; exact get_set_self hin4.arena
    have he5 : ∀ b o, H4[b]? = some o → b ≠ s.A → H5[b]? = some o := fun b o hb hne => by subst hH5; exact get_set_ne (Ne.symm hne) hb
    generalize hH6 : H5.push (tileO zeros 1) = H6
    have hn6 : H6[H5.size]? = some (tileO zeros 1) := by subst hH6; exact get_push_self _ _
    have e6 : Ext H5 H6 := by subst hH6; exact Ext.push _ _
    have hn : H4.size ≤ H5.size := by omega
    intro J2 hJ2
    -- the end: the map
    have fin : ∀ H7 : Heap, H7[s.A]? = some (arenaO (s.free - 1)) → H7[H5.size]? = some (tileO (oldPx s p x y) 1) → (∀ t l, tileOf p.en x y = some t → (t, l) ∈ s.ts → H7[t]? = some (tileO l (refs s.pls t - 1))) →
        (∀ b o, H4[b]? = some o → b ≠ s.A → (∀ t, tileOf p.en x y = some t → b ≠ t) → H7[b]? = some o) → H4.size ≤ H7.size → J2 [] H7 := by
      intro H7 ha7 hb7 hc7 he7 hs7
      have hnot : ∀ b o, H4[b]? = some o → (∀ c, o ≠ .cells c 72) → ∀ t, tileOf p.en x y = some t → b ≠ t := fun b o hb ho t ht => by
        obtain ⟨l, _, hm, _⟩ := hok.px_of hp ht
        have htile := hin4.tile _ hm
        exact ne_of_get hb htile (ho _)
      have hpl : H7[p.b]? = some (planeO s.A p) := he7 _ _ (hin4.plane p hp) (ne_of_ty (hin4.plane p hp) hin4.arena (by decide)) (hnot _ _ (hin4.plane p hp) (fun c h => by cases h))
      have hmp : H7[p.m]? = some (mapO p) := he7 _ _ (hin4.map p hp) (ne_of_map' (hin4.map p hp) hin4.arena) (hnot _ _ (hin4.map p hp) (fun c h => by cases h))
      have hk7 : H7[H.size]? = some (.cells #[Value.int .i64 x, Value.int .i64 y] 65) := he7 _ _ hkey (ne_of_ty hkey hin4.arena (by decide)) (hnot _ _ hkey (fun c h => by cases h))
      refine hJ2 H7 ⟨_, rfl, some p.m, cell_get hpl rfl, _, rfl, rowIn_whole hk7, updQ_enc hmp ?_⟩
      have hb8 : ∀ b o, H7[b]? = some o → b ≠ p.m → (H7.setIfInBounds p.m (mapO (p.own x y H5.size)))[b]? = some o := fun b o hb hne => get_set_ne (Ne.symm hne) hb
      have hin8 := in_own (H' := H7.setIfInBounds p.m (mapO (p.own x y H5.size))) hin4 hok hk (x := x) (y := y) (n := H5.size) hn
        (hb8 _ _ ha7 (ne_of_map ha7 hmp)) (hb8 _ _ hb7 (ne_of_map hb7 hmp)) (fun t l ht hm => hb8 _ _ (hc7 t l ht hm) (ne_of_map (hc7 t l ht hm) hmp)) (get_set_self hmp)
        (fun b o hb h1 h2 h3 => hb8 _ _ (he7 b o hb h1 h3) h2)
      have hnn : H5.size ∉ s.ts.map (·.1) := fun hh => by
        obtain ⟨z, hz, hzn⟩ := List.mem_map.1 hh
        have := lt_of_get (hin4.tile z hz)
        omega
      refine hnew hneed h0 _ H5.size (by omega) ⟨hin8, ownS_ok hok hk hneed h0 hnn, fun b o hb hno => ?_, fun b hb => ?_, by simp; omega⟩
      · refine hb8 _ _ (he7 b o (e4 _ _ hb) (fun h => hno (.inl h)) fun t ht h => hno (.inr (.inr ?_))) (fun h => hno (.inr (.inl ⟨p, hp, h⟩)))
        rw [h]; exact (refs_of_tile hok hp ht).2
      · rcases own_owned hk x y _ b hb with hb | rfl
        · exact .inl hb
        · exact .inr (by omega)
    cases ht : tileOf p.en x y with
    | none =>
      refine br_false (fin H6 (e6 _ _ ha5) ?_ (fun t l h => by rw [ht] at h; cases h) (fun b o hb h1 _ => e6 _ _ (he5 b o hb h1)) (by have := e6.size; omega))
      have : oldPx s p x y = zeros := by simp [oldPx, ht]
      rw [this]; exact hn6
    | some t =>
      obtain ⟨l, hl, hm, hlen, _⟩ := hok.px_of hp ht
      have htile := hin4.tile _ hm
      have htA : t ≠ s.A := ne_of_ty htile hin4.arena (by decide)
      have ht6 : H6[t]? = some (tileO l (refs s.pls t)) := e6 _ _ (he5 t _ htile htA)
      have htn : t ≠ H5.size := fun h => by have := lt_of_get htile; omega
      have hr := refs_le hok.one t
      have hlen' := hok.len
      have hrp := (refs_of_tile hok hp ht).1
      refine br_true ⟨_, rfl, _, by simp [hlen], row_tile ht6, _, rfl, by simp [hlen], ?_⟩
      simp only [add_none, Nat.zero_add]
      refine stAt_copy hn6 zeros_len hlen ?_
      generalize hH7 : H6.setIfInBounds H5.size (tileO l 1) = H7
      have ht7 : H7[t]? = some (tileO l (refs s.pls t)) := by subst hH7; exact get_set_ne (Ne.symm htn) ht6
      refine ⟨_, rfl, _, tile_users ht7 hlen, _, rfl, ?_⟩
      rw [wrap_id (by omega) (by omega)]
      refine stAt_users ht7 hlen ?_
      have hA7 : H7[s.A]? = some (arenaO (s.free - 1)) := by subst hH7; exact get_set_ne (fun h => by have := lt_of_get ha5; omega) (e6 _ _ ha5)
      refine fin _ (get_set_ne htA hA7) ?_ (fun t' l' h hm' => ?_) (fun b o hb h1 h2 => ?_) (by subst hH7; have := e6.size; simp; omega)
      · have : oldPx s p x y = l := by simp [oldPx, ht, hl]
        rw [this]
        refine get_set_ne htn ?_
        subst hH7; exact get_set_self hn6
      · rw [ht] at h; cases h
        have : l' = l := by
          have h1 : pxOf s.ts t = some l' := by
            have := hok.ts
            obtain ⟨i, hi⟩ := List.getElem?_of_mem hm
            obtain ⟨j, hj⟩ := List.getElem?_of_mem hm'
            have hij : i = j := (List.getElem?_inj (l := s.ts.map (·.1)) (by simp; exact (List.getElem?_eq_some_iff.1 hi).1) this).1 (by simp [hi, hj])
            subst hij
            rw [hi] at hj; cases hj
            exact hl
          rw [hl] at h1; exact (Option.some.inj h1).symm
        subst this
        exact get_set_self ht7
      · refine get_set_ne (Ne.symm (h2 t ht)) ?_
        subst hH7
        exact get_set_ne (fun h => by have := lt_of_get hb; omega) (e6 _ _ (he5 b o hb h1))
  cases ht : tileOf p.en x y with
  | none => exact br_false (hJ' (by simp [needs, ht]))
  | some t =>
    obtain ⟨l, hl, hm, hlen, _⟩ := hok.px_of hp ht
    refine br_true ⟨_, rfl, _, tile_users (hin4.tile _ hm) hlen, br_eq (fun h1 => ?_) (fun h1 => ?_)⟩
    · refine hyes ?_ H4 e4
      have h1' : ((refs s.pls t : Nat) : Int) = 1 := h1
      have : refs s.pls t = 1 := by omega
      simp [needs, ht, this]
    · refine hJ' ?_
      have h1' : ¬ ((refs s.pls t : Nat) : Int) = 1 := h1
      have : ¬ refs s.pls t = 1 := by omega
      simp [needs, ht, this]

end Go.Proofs
