/-
  OWN WORK. The contracts of the package tile, over heaps: Drop.
-/
import Derived.Test.YtcbnifopfdgniaaTileU
set_option linter.unusedVariables false
set_option linter.unusedSimpArgs false
namespace Go.Proofs
open Go.Sh Go.Tile

def bare (p : Pl) : Pl := { p with en := [] }
def dropL (s : St) (k : Nat) (p : Pl) : List Pl := s.pls.set k (bare p)
def dropS (s : St) (k : Nat) (p : Pl) : St :=
  { s with free := s.free + (s.ts.countP fun z => refs (dropL s k p) z.1 == 0), pls := dropL s k p, ts := s.ts.filter fun z => !(refs (dropL s k p) z.1 == 0) }

theorem map_set_same {α β : Type} {f : α → β} {l : List α} {k : Nat} {a b : α} (hk : l[k]? = some a) (h : f b = f a) : (l.set k b).map f = l.map f := by
  apply List.ext_getElem?
  intro i
  rw [List.map_set, List.getElem?_set]
  split
  · rename_i hi
    subst hi
    rw [List.getElem?_map, hk]
    have := (List.getElem?_eq_some_iff.1 hk).1
    simp [this, h]
  · rfl

theorem refs_drop {s : St} {k : Nat} {p : Pl} (hk : s.pls[k]? = some p) (t : Nat) : refs (dropL s k p) t + p.en.countP (·.t == t) = refs s.pls t := by
  have := refs_set (p' := bare p) hk t
  simpa [dropL, bare] using this

theorem drop_ok {cap : Int} {s : St} (hok : Ok cap s) {k : Nat} {p : Pl} (hk : s.pls[k]? = some p) : Ok cap (dropS s k p) := by
  have hp : p ∈ s.pls := List.mem_of_getElem? hk
  have pok := hok.pl p hp
  refine ⟨fun q hq => ?_, ?_, ?_, ?_, fun z hz => hok.px z (List.mem_filter.1 hz).1, fun t => ?_, ?_, ?_, fun q hq t => ?_, ?_, hok.capb⟩
  · rcases List.mem_or_eq_of_mem_set hq with hq | rfl
    · exact hok.pl q hq
    · exact ⟨List.nodup_nil, List.nodup_nil, (fun e he => by cases he), pok.w0, pok.w1, pok.h0, pok.h1⟩
  · show ((dropL s k p).map (·.b)).Nodup
    rw [dropL, map_set_same (f := fun q : Pl => q.b) (b := bare p) hk rfl]; exact hok.bs
  · show ((dropL s k p).map (·.m)).Nodup
    rw [dropL, map_set_same (f := fun q : Pl => q.m) (b := bare p) hk rfl]; exact hok.ms
  · show ((s.ts.filter fun z => !(refs (dropL s k p) z.1 == 0)).map (·.1)).Nodup
    exact map_nodup_of hok.ts (fun z hz => (List.mem_filter.1 hz).1) (List.Pairwise.filter _ (nodup_of_map hok.ts))
  · show 0 < refs (dropL s k p) t ↔ t ∈ (s.ts.filter fun z => !(refs (dropL s k p) z.1 == 0)).map (·.1)
    constructor
    · intro h
      have h1 := refs_drop hk t
      obtain ⟨z, hz, rfl⟩ := List.mem_map.1 ((hok.live t).1 (by omega))
      refine List.mem_map.2 ⟨z, List.mem_filter.2 ⟨hz, ?_⟩, rfl⟩
      have : refs (dropL s k p) z.1 ≠ 0 := by omega
      simp [this]
    · intro h
      obtain ⟨z, hz, rfl⟩ := List.mem_map.1 h
      have := (List.mem_filter.1 hz).2
      simp at this
      omega
  · show (s.free + ((s.ts.countP fun z => refs (dropL s k p) z.1 == 0) : Nat)) + ((s.ts.filter fun z => !(refs (dropL s k p) z.1 == 0)).length : Nat) = cap
    have h1 := hok.count
    have h2 := List.length_eq_countP_add_countP (fun z : Nat × List Int => refs (dropL s k p) z.1 == 0) (l := s.ts)
    rw [← List.countP_eq_length_filter]
    have h3 : (s.ts.countP fun z => !(refs (dropL s k p) z.1 == 0)) = s.ts.countP (fun a => decide ¬ (refs (dropL s k p) a.1 == 0) = true) := by
      apply List.countP_congr
      intro z _
      simp
    rw [h3]
    omega
  · show 0 ≤ s.free + ((s.ts.countP fun z => refs (dropL s k p) z.1 == 0) : Nat)
    have := hok.free
    omega
  · rcases List.mem_or_eq_of_mem_set hq with hq | rfl
    · exact hok.one q hq t
    · simp [bare]
  · show (dropL s k p).length ≤ 1000000
    rw [dropL, List.length_set]; exact hok.len

theorem countP_point {z0 : Nat × List Int} {f g : Nat → Bool} : ∀ {ts : List (Nat × List Int)}, (ts.map (·.1)).Nodup → z0 ∈ ts → (∀ t, t ≠ z0.1 → f t = g t) → f z0.1 = false →
    (ts.countP fun z => g z.1) = (ts.countP fun z => f z.1) + (if g z0.1 = true then 1 else 0)
  | [], _, h, _, _ => by cases h
  | z :: r, hn, h, hfg, h0 => by
    rw [List.map_cons, List.nodup_cons] at hn
    rw [List.countP_cons, List.countP_cons]
    rcases List.mem_cons.1 h with rfl | h
    · have : (r.countP fun z => g z.1) = r.countP fun z => f z.1 := List.countP_congr fun y hy => by
        rw [hfg y.1 fun hh => hn.1 (by rw [← hh]; exact List.mem_map.2 ⟨y, hy, rfl⟩)]
      rw [this, h0]
      simp
    · have hz : z.1 ≠ z0.1 := fun hh => hn.1 (by rw [hh]; exact List.mem_map.2 ⟨z0, h, rfl⟩)
      rw [countP_point hn.2 h hfg h0, hfg z.1 hz]
      omega

def gone (s : St) (done : List En) : Nat := s.ts.countP fun z => refs s.pls z.1 - done.countP (·.t == z.1) == 0

set_option maxHeartbeats 2000000 in
theorem c17 {cap : Int} {H : Heap} {s : St} (hin : In H s) (hok : Ok cap s) {k : Nat} {p : Pl} (hk : s.pls[k]? = some p) {R : Value → Heap → Prop}
    (hR : ∀ H', Goes cap H s H' (dropS s k p) → R (.tuple #[]) H') :
    CallsH Try.prog 17 #[.pointer (some ⟨p.b, 0, none⟩)] H R := by
  have hp : p ∈ s.pls := List.mem_of_getElem? hk
  have pok := hok.pl p hp
  refine Try.s17 ?_
  unfold Try.S17 alc
  intro J hJ
  refine ⟨_, rfl, _, cell_get (hin.plane p hp) rfl, p.m, rfl, _, _, hin.map p hp, ?_⟩
  generalize hH3 : H.push _ = H3
  have e3 : Ext H H3 := by subst hH3; exact Ext.push _ _
  have hr3 : H3[H.size]? = some (.mapIter (some p.m) p.clk (seenOf []) p.clk) := by subst hH3; exact get_push_self _ _
  have s3 : H3.size = H.size + 1 := by subst hH3; simp
  intro X hX
  have loop : ∀ (n : Nat) (done : List En) (H4 : Heap), p.en.length - done.length = n → (∀ e ∈ done, e ∈ p.en) → done.Nodup → H4[s.A]? = some (arenaO (s.free + gone s done)) →
      (∀ q ∈ s.pls, H4[q.b]? = some (planeO s.A q)) → (∀ q ∈ s.pls, H4[q.m]? = some (mapO q)) → (∀ z ∈ s.ts, H4[z.1]? = some (tileO z.2 ((refs s.pls z.1 : Int) - (done.countP (·.t == z.1) : Nat)))) →
      H4[H.size]? = some (.mapIter (some p.m) p.clk (seenOf done) p.clk) → (∀ b o, H[b]? = some o → ¬ owned s b → H4[b]? = some o) → H.size + 1 ≤ H4.size → X [] H4 := by
    intro n
    induction n using Nat.strongRecOn with
    | _ n ih =>
      intro done H4 hn hsub hnd ha4 hb4 hm4 ht4 hr4 hfr hs4
      have hmp : H4[p.m]? = some (.map (p.en.map enc).toArray p.clk) := hm4 p hp
      have hcle : ∀ (d : List En), (∀ e ∈ d, e ∈ p.en) → d.Nodup → ∀ t, d.countP (·.t == t) ≤ refs s.pls t := fun d h1 h2 t => Nat.le_trans (sub_count h1 h2 t) (refs_ge hp t)
      refine hX H4 (nextQ_en hr4 hmp pok.clk (fun hall => br_false ?_) (fun e he hne => br_true ?_))
      · -- all were seen
        have hs : Same done p.en := ⟨hsub, fun e he => by
          obtain ⟨f, hf, hfb⟩ := List.mem_map.1 (hall e he)
          rw [← nodup_map_of pok.born (hsub f hf) he hfb]; exact hf, hnd⟩
        have hperm := hs.perm (nodup_of_map pok.born)
        have hcnt : ∀ t, done.countP (·.t == t) = p.en.countP (·.t == t) := fun t => hperm.countP_eq _
        refine hJ H4 ⟨_, rfl, _, cell_get (hb4 p hp) rfl, _, rfl, _, _, hmp, ?_⟩
        unfold sto
        generalize hH5 : H4.setIfInBounds p.m _ = H5
        have f5 : ∀ b o, H4[b]? = some o → b ≠ p.m → H5[b]? = some o := fun b o hb hne => by subst hH5; exact get_set_ne (Ne.symm hne) hb
        have hm5 : H5[p.m]? = some (mapO (bare p)) := by subst hH5; exact get_set_self hmp
        have s5 : H5.size = H4.size := by subst hH5; simp
        have hrd := refs_drop hk
        have hgone : gone s done = s.ts.countP fun z => refs (dropL s k p) z.1 == 0 := by
          unfold gone
          apply List.countP_congr
          intro z _
          rw [hcnt z.1]
          have := hrd z.1
          rw [show refs s.pls z.1 - p.en.countP (·.t == z.1) = refs (dropL s k p) z.1 by omega]
        refine hR H5 ⟨⟨?_, fun q hq => ?_, fun q hq => ?_, fun z hz => ?_⟩, drop_ok hok hk, fun b o hb hno => ?_, fun b hb => ?_, by omega⟩
        · rw [hgone] at ha4
          exact f5 _ _ ha4 (ne_of_map ha4 hmp)
        · rcases List.mem_or_eq_of_mem_set hq with hq | rfl
          · exact f5 _ _ (hb4 q hq) (ne_of_map (hb4 q hq) hmp)
          · exact f5 _ _ (hb4 p hp) (ne_of_map (hb4 p hp) hmp)
        · obtain ⟨j, hj⟩ := List.getElem?_of_mem hq
          have hj' : (s.pls.set k (bare p))[j]? = some q := hj
          rw [List.getElem?_set] at hj'
          split at hj'
          · rename_i hkj
            split at hj'
            · cases hj'; exact hm5
            · cases hj'
          · rename_i hkj
            have hqm : q ∈ s.pls := List.mem_of_getElem? hj'
            refine f5 _ _ (hm4 q hqm) (fun heq => hkj ?_)
            have h1 : (s.pls.map (·.m))[j]? = some q.m := by rw [List.getElem?_map, hj']; rfl
            have h2 : (s.pls.map (·.m))[k]? = some q.m := by rw [List.getElem?_map, hk, heq]; rfl
            exact ((List.getElem?_inj (List.getElem?_eq_some_iff.1 h1).1 hok.ms).1 (by rw [h1, h2])).symm
        · have hz' := (List.mem_filter.1 hz).1
          have h := ht4 z hz'
          have h2 := hrd z.1
          rw [hcnt z.1] at h
          show H5[z.1]? = some (tileO z.2 ((refs (dropL s k p) z.1 : Nat) : Int))
          rw [show ((refs (dropL s k p) z.1 : Nat) : Int) = (refs s.pls z.1 : Int) - (p.en.countP (·.t == z.1) : Nat) by omega]
          exact f5 _ _ h (ne_of_map h hmp)
        · exact f5 _ _ (hfr b o hb hno) (fun h => hno (.inr (.inl ⟨p, hp, h⟩)))
        · left
          rcases hb with hb | ⟨q, hq, hb⟩ | hb
          · exact .inl hb
          · rcases List.mem_or_eq_of_mem_set hq with hq | rfl
            · exact .inr (.inl ⟨q, hq, hb⟩)
            · exact .inr (.inl ⟨p, hp, hb⟩)
          · obtain ⟨z, hz, hzb⟩ := List.mem_map.1 hb
            exact .inr (.inr (List.mem_map.2 ⟨z, (List.mem_filter.1 hz).1, hzb⟩))
      · -- an entry
        have hnd' : (done ++ [e]).Nodup := by
          rw [List.nodup_append]
          refine ⟨hnd, by simp, fun a ha b hb hab => ?_⟩
          simp at hb
          exact hne (List.mem_map.2 ⟨a, ha, by rw [hab, hb]⟩)
        have hsub' : ∀ f ∈ done ++ [e], f ∈ p.en := fun f hf => by
          rcases List.mem_append.1 hf with hf | hf
          · exact hsub f hf
          · simp at hf; subst hf; exact he
        have hlt : done.length < p.en.length := by
          haveI : DecidableEq En := fun a b => Classical.propDecidable _
          have := nodup_length_le hnd' hsub'
          simp at this; omega
        have htile : tileOf p.en e.x e.y = some e.t := tileOf_of_mem pok.keys he
        obtain ⟨l, _, hm, hl, _⟩ := hok.px_of hp htile
        have ht : H4[e.t]? = some (tileO l ((refs s.pls e.t : Int) - (done.countP (·.t == e.t) : Nat))) := ht4 _ hm
        have hcount1 : ∀ t, (done ++ [e]).countP (·.t == t) = done.countP (·.t == t) + (if e.t = t then 1 else 0) := fun t => by
          rw [List.countP_append, List.countP_cons, List.countP_nil]
          by_cases h : e.t = t <;> simp [h]
        have hle' := hcle _ hsub' hnd'
        have hlee := hle' e.t
        have hce := hcount1 e.t
        rw [if_pos rfl] at hce
        have hc1 : refs s.pls e.t ≤ s.pls.length := refs_le hok.one e.t
        have hlen := hok.len
        generalize hH5 : H4.setIfInBounds H.size _ = H5
        have hr5 : H5[H.size]? = some (.mapIter (some p.m) p.clk (seenOf (done ++ [e])) p.clk) := by subst hH5; exact get_set_self hr4
        have f5 : ∀ b o, H4[b]? = some o → b ≠ H.size → H5[b]? = some o := fun b o hb hne => by subst hH5; exact get_set_ne (Ne.symm hne) hb
        have s5 : H5.size = H4.size := by subst hH5; simp
        have hm5 : H5[p.m]? = some (.map (p.en.map enc).toArray p.clk) := f5 _ _ hmp (ne_of_get hmp hr4 (fun h => by cases h))
        have ht5 := f5 _ _ ht (ne_of_get ht hr4 (fun h => by cases h))
        refine ⟨p.m, _, _, _, e.born, _, enc e, hr5, seen_back done e, hm5, find_born pok.born he, _, rfl, some ⟨e.t, 0, none⟩, rfl, _, rfl, _, tile_users ht5 hl, _, rfl, ?_⟩
        rw [wrap_id (by omega) (by omega)]
        simp only [add_none, Nat.zero_add]
        refine stAt_users ht5 hl ?_
        generalize hH7 : Array.setIfInBounds _ _ _ = H7
        have ht7 : H7[e.t]? = some (tileO l ((refs s.pls e.t : Int) - (done.countP (·.t == e.t) : Nat) - 1)) := by subst hH7; exact get_set_self ht5
        have f7 : ∀ b o, H5[b]? = some o → b ≠ e.t → H7[b]? = some o := fun b o hb hne => by subst hH7; exact get_set_ne (Ne.symm hne) hb
        have f47 : ∀ b o, H4[b]? = some o → b ≠ H.size → b ≠ e.t → H7[b]? = some o := fun b o hb h1 h2 => f7 _ _ (f5 _ _ hb h1) h2
        have s7 : H7.size = H4.size := by subst hH7; simp [s5]
        have ha7 := f47 _ _ ha4 (ne_of_get ha4 hr4 (fun h => by cases h)) (ne_of_ty ha4 ht (by decide))
        have hb7 : ∀ q ∈ s.pls, H7[q.b]? = some (planeO s.A q) := fun q hq => f47 _ _ (hb4 q hq) (ne_of_get (hb4 q hq) hr4 (fun h => by cases h)) (ne_of_ty (hb4 q hq) ht (by decide))
        have hm7 : ∀ q ∈ s.pls, H7[q.m]? = some (mapO q) := fun q hq => f47 _ _ (hm4 q hq) (ne_of_get (hm4 q hq) hr4 (fun h => by cases h)) (ne_of_map' (hm4 q hq) ht)
        have hr7 := f7 _ _ hr5 (ne_of_get hr5 ht5 (fun h => by cases h))
        have ht7' : ∀ z ∈ s.ts, H7[z.1]? = some (tileO z.2 ((refs s.pls z.1 : Int) - ((done ++ [e]).countP (·.t == z.1) : Nat))) := fun z hz => by
          by_cases hze : z.1 = e.t
          · have hz2 : z.2 = l := by
              have := nodup_map_of hok.ts hz hm (by exact hze)
              rw [this]
            rw [hze, hz2, hce, ht7]
            congr 2
            omega
          · have hc := hcount1 z.1
            rw [if_neg (fun h => hze h.symm), Nat.add_zero] at hc
            rw [hc]
            exact f47 _ _ (ht4 z hz) (ne_of_get (ht4 z hz) hr4 (fun h => by cases h)) hze
        have hfr7 : ∀ b o, H[b]? = some o → ¬ owned s b → H7[b]? = some o := fun b o hb hno => by
          have := lt_of_get hb
          refine f47 b o (hfr b o hb hno) (by omega) (fun h => hno (.inr (.inr ?_)))
          rw [h]; exact List.mem_map.2 ⟨_, hm, rfl⟩
        have hpoint := countP_point (f := fun t => refs s.pls t - done.countP (·.t == t) == 0) (g := fun t => refs s.pls t - (done ++ [e]).countP (·.t == t) == 0) hok.ts hm
          (fun t ht => by
            have := hcount1 t
            rw [if_neg (fun h => ht h.symm), Nat.add_zero] at this
            show (_ == 0) = (_ == 0)
            rw [this])
          (by
            show (refs s.pls e.t - done.countP (·.t == e.t) == 0) = false
            simp; omega)
        have hgone : gone s (done ++ [e]) = gone s done + (if (refs s.pls e.t - (done ++ [e]).countP (·.t == e.t) == 0) = true then 1 else 0) := hpoint
        refine ⟨_, rfl, _, tile_users ht7 hl, br_eq (fun h0 => ?_) (fun h0 => ?_)⟩
        · have hg1 : gone s (done ++ [e]) = gone s done + 1 := by rw [hgone, if_pos (by simp; omega)]
          have hgle : gone s (done ++ [e]) ≤ s.ts.length := List.countP_le_length
          have hcount := hok.count
          have hcapb := hok.capb
          have hfree := hok.free
          refine ⟨_, rfl, _, cell_get (hb7 p hp) rfl, _, rfl, _, cell_get ha7 rfl, _, rfl, ?_⟩
          rw [wrap_id (by omega) (by omega)]
          refine stAt_one ha7 (by simp) rfl ?_
          generalize hH9 : H7.setIfInBounds s.A _ = H9
          have ha9 : H9[s.A]? = some (arenaO (s.free + gone s (done ++ [e]))) := by
            subst hH9
            rw [hg1, Int.natCast_add, ← Int.add_assoc]
            exact get_set_self ha7
          have f9 : ∀ b o, H7[b]? = some o → b ≠ s.A → H9[b]? = some o := fun b o hb hne => by subst hH9; exact get_set_ne (Ne.symm hne) hb
          have s9 : H9.size = H7.size := by subst hH9; simp
          refine ih (p.en.length - (done ++ [e]).length) (by simp; omega) (done ++ [e]) H9 rfl hsub' hnd' ha9 (fun q hq => f9 _ _ (hb7 q hq) (ne_of_ty (hb7 q hq) ha7 (by decide)))
            (fun q hq => f9 _ _ (hm7 q hq) (ne_of_map' (hm7 q hq) ha7)) (fun z hz => f9 _ _ (ht7' z hz) (ne_of_ty (ht7' z hz) ha7 (by decide))) (f9 _ _ hr7 (ne_of_get hr7 ha7 (fun h => by cases h)))
            (fun b o hb hno => f9 _ _ (hfr7 b o hb hno) (fun h => hno (.inl h))) (by omega)
        · have hg0 : gone s (done ++ [e]) = gone s done := by rw [hgone, if_neg (by simp; omega)]; rfl
          rw [← hg0] at ha7
          exact ih (p.en.length - (done ++ [e]).length) (by simp; omega) (done ++ [e]) H7 rfl hsub' hnd' ha7 hb7 hm7 ht7' hr7 hfr7 (by omega)
  have hg : gone s [] = 0 := by
    unfold gone
    rw [List.countP_eq_zero]
    intro z hz
    have := (hok.live z.1).2 (List.mem_map.2 ⟨z, hz, rfl⟩)
    simp; omega
  refine loop _ [] H3 rfl (fun e he => by cases he) List.nodup_nil ?_ (fun q hq => e3 _ _ (hin.plane q hq)) (fun q hq => e3 _ _ (hin.map q hq)) (fun z hz => ?_) hr3 (fun b o hb _ => e3 _ _ hb) (by omega)
  · rw [hg]
    have := e3 _ _ hin.arena
    simpa using this
  · have := e3 _ _ (hin.tile z hz)
    simpa using this

end Go.Proofs
