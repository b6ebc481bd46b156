/-
  OWN WORK. The contracts of the package tile, over heaps: Snap.
-/
import Derived.Test.YtcbnifopfdgniaaTileT
import Derived.Test.YtcbnifopfdgniaaTileE
set_option linter.unusedVariables false
set_option linter.unusedSimpArgs false
namespace Go.Proofs
open Go.Sh Go.Tile

def snapPl (p : Pl) (b m : Nat) (done : List En) : Pl := ⟨b, m, p.w, p.h, cp done, done.length⟩
def snapS (s : St) (q : Pl) : St := { s with pls := s.pls ++ [q] }

theorem refs_snap (s : St) (p : Pl) (b m : Nat) (done : List En) (t : Nat) : refs (snapS s (snapPl p b m done)).pls t = refs s.pls t + done.countP (·.t == t) := by
  show refs (s.pls ++ [snapPl p b m done]) t = _
  rw [refs_append]
  show refs s.pls t + ((cp done).countP (·.t == t) + 0) = _
  rw [cp_count]; omega

theorem snap_ok {cap : Int} {s : St} {p : Pl} {b m : Nat} {done : List En} (hok : Ok cap s) (hp : p ∈ s.pls) (hs : Same done p.en) (hb : b ∉ s.pls.map (·.b)) (hm : m ∉ s.pls.map (·.m)) (hlen : s.pls.length < 1000000) :
    Ok cap (snapS s (snapPl p b m done)) := by
  have pok := hok.pl p hp
  refine ⟨fun q hq => ?_, ?_, ?_, hok.ts, hok.px, fun t => ?_, hok.count, hok.free, fun q hq t => ?_, ?_, hok.capb⟩
  · rcases List.mem_append.1 hq with hq | hq
    · exact hok.pl q hq
    · rw [List.mem_singleton] at hq; subst hq
      refine ⟨?_, ?_, fun e he => ?_, pok.w0, pok.w1, pok.h0, pok.h1⟩
      · show ((cp done).map fun e => (e.x, e.y)).Nodup
        rw [cp_map (fun x y _ => (x, y))]
        exact map_nodup_of pok.keys hs.sub hs.nd
      · show ((cp done).map (·.born)).Nodup
        rw [cp_born]; exact List.nodup_range'
      · have : e.born ∈ (cp done).map (·.born) := List.mem_map.2 ⟨e, he, rfl⟩
        rw [cp_born, List.mem_range'] at this
        obtain ⟨i, hi, h⟩ := this
        show e.born < done.length
        omega
  · show ((s.pls ++ [snapPl p b m done]).map (·.b)).Nodup
    rw [List.map_append, List.nodup_append]
    refine ⟨hok.bs, by simp, fun a ha c hc hac => ?_⟩
    simp [snapPl] at hc
    subst hc; subst hac; exact hb ha
  · show ((s.pls ++ [snapPl p b m done]).map (·.m)).Nodup
    rw [List.map_append, List.nodup_append]
    refine ⟨hok.ms, by simp, fun a ha c hc hac => ?_⟩
    simp [snapPl] at hc
    subst hc; subst hac; exact hm ha
  · show 0 < refs (snapS s (snapPl p b m done)).pls t ↔ t ∈ s.ts.map (·.1)
    rw [refs_snap, ← hok.live t]
    refine ⟨fun h => ?_, fun h => by omega⟩
    rcases Nat.eq_zero_or_pos (refs s.pls t) with h0 | h0
    · have hc : 0 < done.countP (·.t == t) := by omega
      obtain ⟨e, he, het⟩ := List.countP_pos_iff.1 hc
      have := refs_pos hp (hs.sub e he)
      have het' : e.t = t := by simpa using het
      rw [het'] at this
      exact this
    · exact h0
  · rcases List.mem_append.1 hq with hq | hq
    · exact hok.one q hq t
    · rw [List.mem_singleton] at hq; subst hq
      show (cp done).countP (·.t == t) ≤ 1
      rw [cp_count]
      exact Nat.le_trans (sub_count hs.sub hs.nd t) (hok.one p hp t)
  · show (s.pls ++ [snapPl p b m done]).length ≤ 1000000
    simp; omega

theorem same_tileOf {done en : List En} (hs : Same done en) (hk : (en.map fun e => (e.x, e.y)).Nodup) (X Y : Int) : tileOf done X Y = tileOf en X Y := by
  have hkd := map_nodup_of hk hs.sub hs.nd
  cases h : tileOf en X Y with
  | none =>
    rw [tileOf_none_iff] at h ⊢
    intro hm
    obtain ⟨e, he, heq⟩ := List.mem_map.1 hm
    exact h (List.mem_map.2 ⟨e, hs.sub e he, heq⟩)
  | some t =>
    obtain ⟨e, he, ha, rfl⟩ := tileOf_mem h
    have := at_iff.1 ha
    rw [this.1, this.2]
    exact tileOf_of_mem hkd (hs.all e he)

set_option maxHeartbeats 2000000 in
theorem c14 {cap : Int} {H : Heap} {s : St} (hin : In H s) (hok : Ok cap s) {p : Pl} (hp : p ∈ s.pls) (hlen : s.pls.length < 1000000) {R : Value → Heap → Prop}
    (hR : ∀ H' b m done, H.size ≤ b → Same done p.en → Goes cap H s H' (snapS s (snapPl p b m done)) → R (.pointer (some ⟨b, 0, none⟩)) H') :
    CallsH Try.prog 14 #[.pointer (some ⟨p.b, 0, none⟩)] H R := by
  have pok := hok.pl p hp
  refine Try.s14 ?_
  unfold Try.S14 alc
  refine ⟨_, rfl, _, cell_get (hin.plane p hp) rfl, _, rfl, p.w, cell_get (hin.plane p hp) rfl, _, rfl, p.h, cell_get (hin.plane p hp) rfl, Ext.push _ _, ?_⟩
  have hsz1 : (H.push (.map #[] 0)).size = H.size + 1 := by simp
  rw [hsz1]
  generalize hH2 : (H.push (.map #[] 0)).push _ = H2
  have e2 : Ext H H2 := by subst hH2; exact (Ext.push _ _).trans (Ext.push _ _)
  have hm2 : H2[H.size]? = some (.map #[] 0) := by subst hH2; exact get_push (get_push_self _ _)
  have hb2 : H2[H.size + 1]? = some (planeO s.A (snapPl p (H.size + 1) H.size [])) := by subst hH2; rw [← hsz1]; exact get_push_self _ _
  have s2 : H2.size = H.size + 2 := by subst hH2; simp
  have hin2 := hin.ext e2
  refine ⟨_, rfl, _, cell_get (hin2.plane p hp) rfl, p.m, rfl, _, _, hin2.map p hp, ?_⟩
  rw [s2]
  generalize hH3 : H2.push _ = H3
  have e3 : Ext H2 H3 := by subst hH3; exact Ext.push _ _
  have hr3 : H3[H.size + 2]? = some (.mapIter (some p.m) p.clk (seenOf []) p.clk) := by subst hH3; rw [← s2]; exact get_push_self _ _
  have s3 : H3.size = H.size + 3 := by subst hH3; simp [s2]
  intro X hX
  have hnew : ∀ z ∈ s.ts, z.1 < H.size := fun z hz => lt_of_get (hin.tile z hz)
  have loop : ∀ (n : Nat) (done : List En) (H4 : Heap), p.en.length - done.length = n → (∀ e ∈ done, e ∈ p.en) → done.Nodup → In H4 (snapS s (snapPl p (H.size + 1) H.size done)) →
      H4[H.size + 2]? = some (.mapIter (some p.m) p.clk (seenOf done) p.clk) → (∀ b o, H[b]? = some o → ¬ owned s b → H4[b]? = some o) → H.size + 3 ≤ H4.size → X [] H4 := by
    intro n
    induction n using Nat.strongRecOn with
    | _ n ih =>
      intro done H4 hn hsub hnd hin4 hr4 hfr hs4
      have hpq : p ∈ (snapS s (snapPl p (H.size + 1) H.size done)).pls := List.mem_append_left _ hp
      have hmp : H4[p.m]? = some (.map (p.en.map enc).toArray p.clk) := hin4.map p hpq
      refine hX H4 (nextQ_en hr4 hmp pok.clk (fun hall => br_false ?_) (fun e he hne => br_true ?_))
      · -- all were seen
        have hs : Same done p.en := ⟨hsub, fun e he => by
          obtain ⟨f, hf, hfb⟩ := List.mem_map.1 (hall e he)
          rw [← nodup_map_of pok.born (hsub f hf) he hfb]; exact hf, hnd⟩
        refine hR H4 (H.size + 1) H.size done (by omega) hs ⟨hin4, snap_ok hok hp hs (fun h => ?_) (fun h => ?_) hlen, hfr, fun b hb => ?_, by omega⟩
        · obtain ⟨q, hq, hqb⟩ := List.mem_map.1 h
          have := lt_of_get (hin.plane q hq); omega
        · obtain ⟨q, hq, hqb⟩ := List.mem_map.1 h
          have := lt_of_get (hin.map q hq); omega
        · rcases hb with hb | ⟨q, hq, hb⟩ | hb
          · exact .inl (.inl hb)
          · rcases List.mem_append.1 hq with hq | hq
            · exact .inl (.inr (.inl ⟨q, hq, hb⟩))
            · rw [List.mem_singleton] at hq; subst hq
              right; rw [hb]; exact Nat.le_refl _
          · exact .inl (.inr (.inr hb))
      · -- an entry
        have hnd' : (done ++ [e]).Nodup := by
          rw [List.nodup_append]
          refine ⟨hnd, by simp, fun a ha b hb hab => ?_⟩
          simp at hb
          exact hne (List.mem_map.2 ⟨a, ha, by rw [hab, hb]⟩)
        have hsub' : ∀ f ∈ done ++ [e], f ∈ p.en := fun f hf => by
          rcases List.mem_append.1 hf with hf | hf
          · exact hsub f hf
          · simp at hf; subst hf; exact he
        have hlt : done.length < p.en.length := by
          haveI : DecidableEq En := fun a b => Classical.propDecidable _
          have := nodup_length_le hnd' hsub'
          simp at this; omega
        have htile : tileOf p.en e.x e.y = some e.t := tileOf_of_mem pok.keys he
        obtain ⟨l, _, hm, hl, _⟩ := hok.px_of hp htile
        have ht4 : H4[e.t]? = some (tileO l ((refs (snapS s (snapPl p (H.size + 1) H.size done)).pls e.t : Nat) : Int)) := hin4.tile _ hm
        have hb4 := hin4.plane _ (show snapPl p (H.size + 1) H.size done ∈ (snapS s (snapPl p (H.size + 1) H.size done)).pls from List.mem_append_right _ (List.mem_singleton.2 rfl))
        have hm4 := hin4.map _ (show snapPl p (H.size + 1) H.size done ∈ (snapS s (snapPl p (H.size + 1) H.size done)).pls from List.mem_append_right _ (List.mem_singleton.2 rfl))
        generalize hH5 : H4.setIfInBounds (H.size + 2) _ = H5
        have hr5 : H5[H.size + 2]? = some (.mapIter (some p.m) p.clk (seenOf (done ++ [e])) p.clk) := by subst hH5; exact get_set_self hr4
        have f5 : ∀ b o, H4[b]? = some o → b ≠ H.size + 2 → H5[b]? = some o := fun b o hb hne => by subst hH5; exact get_set_ne (Ne.symm hne) hb
        have s5 : H5.size = H4.size := by subst hH5; simp
        have hm5 : H5[p.m]? = some (.map (p.en.map enc).toArray p.clk) := f5 _ _ hmp (ne_of_get hmp hr4 (fun h => by cases h))
        refine ⟨p.m, _, _, _, e.born, _, enc e, hr5, seen_back done e, hm5, find_born pok.born he, #[.int .i64 e.x, .int .i64 e.y], rfl, some ⟨e.t, 0, none⟩, rfl, ?_⟩
        refine ⟨rfl, stAt_whole (get_push_self _ _) rfl (by simp [Value.oneCell']) ?_⟩
        generalize hH6 : Array.setIfInBounds _ _ _ = H6
        have e6 : Ext H5 H6 := by
          subst hH6
          exact fun b o hb => get_set_ne (Nat.ne_of_gt (lt_of_get hb)) (get_push hb)
        have hk6 : H6[H5.size]? = some (.cells #[Value.int .i64 e.x, Value.int .i64 e.y] 65) := by
          subst hH6
          exact get_set_self (get_push_self _ _)
        have ht6 := e6 _ _ (f5 _ _ ht4 (ne_of_get ht4 hr4 (fun h => by cases h)))
        refine ⟨_, rfl, _, tile_users ht6 hl, _, rfl, ?_⟩
        have hc1 : refs s.pls e.t ≤ s.pls.length := refs_le hok.one e.t
        have hc2 : done.countP (·.t == e.t) ≤ 1 := Nat.le_trans (sub_count hsub hnd e.t) (hok.one p hp e.t)
        have hru := refs_snap s p (H.size + 1) H.size done e.t
        rw [wrap_id (by omega) (by omega)]
        simp only [add_none, Nat.zero_add]
        refine stAt_users ht6 hl ?_
        generalize hH7 : Array.setIfInBounds _ _ _ = H7
        have ht7 : H7[e.t]? = some (tileO l ((refs (snapS s (snapPl p (H.size + 1) H.size done)).pls e.t : Nat) + 1)) := by subst hH7; exact get_set_self ht6
        have f7 : ∀ b o, H6[b]? = some o → b ≠ e.t → H7[b]? = some o := fun b o hb hne => by subst hH7; exact get_set_ne (Ne.symm hne) hb
        have f47 : ∀ b o, H4[b]? = some o → b ≠ H.size + 2 → b ≠ e.t → H7[b]? = some o := fun b o hb h1 h2 => f7 _ _ (e6 _ _ (f5 _ _ hb h1)) h2
        have hb7 := f47 _ _ hb4 (ne_of_get hb4 hr4 (fun h => by cases h)) (ne_of_ty hb4 ht4 (by decide))
        have hm7 := f47 _ _ hm4 (ne_of_get hm4 hr4 (fun h => by cases h)) (ne_of_map' hm4 ht4)
        have hk7 := f7 _ _ hk6 (ne_of_ty hk6 ht6 (by decide))
        refine ⟨_, rfl, some H.size, cell_get hb7 rfl, _, rfl, rowIn_whole hk7, updQ_enc (en := cp done) (clk := done.length) hm7 ?_⟩
        have hnone : tileOf (cp done) e.x e.y = none := by
          rw [tileOf_cp, tileOf_none_iff]
          intro hm
          obtain ⟨f, hf, hfk⟩ := List.mem_map.1 hm
          have := nodup_map_of pok.keys (hsub f hf) he hfk
          rw [this] at hf
          exact hne (List.mem_map.2 ⟨e, hf, rfl⟩)
        have hset : setEn e.x e.y e.t done.length (cp done) = cp (done ++ [e]) := by rw [set_none _ _ hnone, cp_append]
        have hclk : setClk (cp done) e.x e.y done.length = (done ++ [e]).length := by simp [setClk, hnone]
        rw [hset, hclk]
        generalize hH8 : Array.setIfInBounds _ _ _ = H8
        have f8 : ∀ b o, H7[b]? = some o → b ≠ H.size → H8[b]? = some o := fun b o hb hne => by subst hH8; exact get_set_ne (Ne.symm hne) hb
        have hm8 : H8[H.size]? = some (mapO (snapPl p (H.size + 1) H.size (done ++ [e]))) := by subst hH8; exact get_set_self hm7
        have f48 : ∀ b o, H4[b]? = some o → b ≠ H.size + 2 → b ≠ e.t → b ≠ H.size → H8[b]? = some o := fun b o hb h1 h2 h3 => f8 _ _ (f47 b o hb h1 h2) h3
        have hr8 : H8[H.size + 2]? = some (.mapIter (some p.m) p.clk (seenOf (done ++ [e])) p.clk) :=
          f8 _ _ (f7 _ _ (e6 _ _ hr5) (ne_of_get (e6 _ _ hr5) ht6 (fun h => by cases h))) (by omega)
        have s8 : H4.size ≤ H8.size := by
          subst hH8 hH7
          have := e6.size
          simp; omega
        refine ih (p.en.length - (done ++ [e]).length) (by simp; omega) (done ++ [e]) H8 rfl hsub' hnd' ⟨?_, fun q hq => ?_, fun q hq => ?_, fun z hz => ?_⟩ hr8 (fun b o hb hno => ?_) (by omega)
        · exact f48 _ _ hin4.arena (ne_of_get hin4.arena hr4 (fun h => by cases h)) (ne_of_ty hin4.arena ht4 (by decide)) (ne_of_map hin4.arena hm4)
        · have key : ∀ q', H4[q'.b]? = some (planeO s.A q') → H8[q'.b]? = some (planeO s.A q') := fun q' h =>
            f48 _ _ h (ne_of_get h hr4 (fun h => by cases h)) (ne_of_ty h ht4 (by decide)) (ne_of_map h hm4)
          rcases List.mem_append.1 hq with hq | hq
          · exact key q (hin4.plane q (List.mem_append_left _ hq))
          · rw [List.mem_singleton] at hq; subst hq
            exact f48 _ _ hb4 (ne_of_get hb4 hr4 (fun h => by cases h)) (ne_of_ty hb4 ht4 (by decide)) (ne_of_map hb4 hm4)
        · rcases List.mem_append.1 hq with hq | hq
          · have h := hin4.map q (List.mem_append_left _ hq)
            have := lt_of_get (hin.map q hq)
            exact f48 _ _ h (ne_of_get h hr4 (fun h => by cases h)) (ne_of_map' h ht4) (by omega)
          · rw [List.mem_singleton] at hq; subst hq
            exact hm8
        · show H8[z.1]? = some (tileO z.2 ((refs (snapS s (snapPl p (H.size + 1) H.size (done ++ [e]))).pls z.1 : Nat) : Int))
          rw [refs_snap, List.countP_append]
          by_cases hze : z.1 = e.t
          · have hz2 : z.2 = l := by
              have := nodup_map_of hok.ts hz hm (by exact hze)
              rw [this]
            rw [hze, hz2]
            have h8 := f8 _ _ ht7 (ne_of_map ht7 hm7)
            rw [h8, refs_snap]
            simp only [List.countP_cons, List.countP_nil, beq_self_eq_true, if_true]
            congr 2
          · have hc : [e].countP (·.t == z.1) = 0 := by
              simp only [List.countP_cons, List.countP_nil]
              rw [if_neg (by simpa using fun h => hze h.symm)]
            rw [hc, Nat.add_zero]
            have h := hin4.tile z hz
            have h' := refs_snap s p (H.size + 1) H.size done z.1
            rw [h'] at h
            exact f48 _ _ h (ne_of_get h hr4 (fun h => by cases h)) hze (ne_of_map h hm4)
        · have hlt := lt_of_get hb
          refine f48 b o (hfr b o hb hno) (by omega) (fun h => hno (.inr (.inr ?_))) (by omega)
          rw [h]; exact List.mem_map.2 ⟨_, hm, rfl⟩
  refine loop _ [] H3 rfl (fun e he => by cases he) List.nodup_nil ⟨e3 _ _ hin2.arena, fun q hq => ?_, fun q hq => ?_, fun z hz => ?_⟩ hr3 (fun b o hb _ => e3 _ _ (e2 _ _ hb)) (by omega)
  · rcases List.mem_append.1 hq with hq | hq
    · exact e3 _ _ (hin2.plane q hq)
    · rw [List.mem_singleton] at hq; subst hq
      exact e3 _ _ hb2
  · rcases List.mem_append.1 hq with hq | hq
    · exact e3 _ _ (hin2.map q hq)
    · rw [List.mem_singleton] at hq; subst hq
      exact e3 _ _ hm2
  · show H3[z.1]? = some (tileO z.2 ((refs (snapS s (snapPl p (H.size + 1) H.size [])).pls z.1 : Nat) : Int))
    rw [refs_snap]
    exact e3 _ _ (hin2.tile z hz)

end Go.Proofs
