/-
  OWN WORK. The book's 'write': its last loop.
-/
import Derived.Test.YtcbnifopfdgniaaTileBw
set_option linter.unusedVariables false
set_option linter.unusedSimpArgs false
namespace Go.Proofs
open Go.Sh Go.Tile

def pxAll (L : List Int) (v : Int) (px : List Int) : List Int := L.foldl (fun l p => l.set p.toNat v) px

theorem pxAll_len (v : Int) : ∀ (L px : List Int), (pxAll L v px).length = px.length
  | [], _ => rfl
  | p :: r, px => by
    show (pxAll r v (px.set p.toNat v)).length = _
    rw [pxAll_len v r]; simp

theorem pxAll_get (v : Int) : ∀ (L px : List Int) (i : Nat), i < px.length → (∀ p ∈ L, 0 ≤ p) → (pxAll L v px)[i]? = if (i : Int) ∈ L then some v else px[i]?
  | [], px, i, _, _ => by simp [pxAll]
  | p :: r, px, i, hi, h0 => by
    show (pxAll r v (px.set p.toNat v))[i]? = _
    rw [pxAll_get v r _ i (by simpa using hi) (fun q hq => h0 q (List.mem_cons_of_mem _ hq))]
    have hp := h0 p List.mem_cons_self
    by_cases hr : (i : Int) ∈ r
    · rw [if_pos hr, if_pos (List.mem_cons_of_mem _ hr)]
    · rw [if_neg hr, List.getElem?_set]
      by_cases hpi : p.toNat = i
      · have : (i : Int) = p := by omega
        rw [if_pos hpi, if_pos (by omega), if_pos (by rw [this]; exact List.mem_cons_self)]
      · rw [if_neg hpi, if_neg]
        rw [List.mem_cons]
        rintro (hh | hh)
        · omega
        · exact hr hh

theorem pxAll_snoc (v p : Int) (L px : List Int) : pxAll (L ++ [p]) v px = (pxAll L v px).set p.toNat v := by simp [pxAll]

theorem set_map {α β : Type} {f : α → β} {l : List α} {k : Nat} {a b : α} (hk : l[k]? = some a) (h : f b = f a) : (l.set k b).map f = l.map f := map_set_same hk h

theorem Apart.put {k : Bk} {i : Nat} {q q' : BPl} (h : Apart k) (hq : k.pl[i]? = some q) (h1 : q'.pb = q.pb) (h2 : q'.tb = q.tb) : Apart { k with pl := k.pl.set i q' } := by
  have hqm := List.mem_of_getElem? hq
  have hm : ∀ p ∈ k.pl.set i q', ∃ p0 ∈ k.pl, p.pb = p0.pb ∧ p.tb = p0.tb := fun p hp => by
    rcases List.mem_or_eq_of_mem_set hp with hp | rfl
    · exact ⟨p, hp, rfl, rfl⟩
    · exact ⟨q, hqm, h1, h2⟩
  refine ⟨h.head, ?_, ?_, fun p hp r hr => ?_, fun p hp => ?_⟩
  · show ((k.pl.set i q').map (fun p : BPl => p.pb)).Nodup
    rw [map_set_same (f := fun p : BPl => p.pb) hq h1]; exact h.px
  · show ((k.pl.set i q').map (fun p : BPl => p.tb)).Nodup
    rw [map_set_same (f := fun p : BPl => p.tb) hq h2]; exact h.tl
  · obtain ⟨p0, a, b, _⟩ := hm p hp
    obtain ⟨r0, c, _, d⟩ := hm r hr
    rw [b, d]; exact h.pt p0 a r0 c
  · obtain ⟨p0, a, b, c⟩ := hm p hp
    rw [b, c]; exact h.hd p0 a

theorem phase4 {H : Heap} {k : Bk} {i : Nat} {q : BPl} (h : BIn H k) (hap : Apart k) (hq : k.pl[i]? = some q) {pp : Option Addr} {pc : Nat} {L : List Int} {v : Int} (sl : SL 0 H pp L.length pc 3 (ints L))
    (hne : ∀ b, pp = some ⟨b, 0, none⟩ → b ≠ q.pb) (hL : ∀ p ∈ L, 0 ≤ p ∧ p < q.px.length) (hlen : L.length ≤ 1000000) {K : Heap → Prop}
    (hK : ∀ H', BIn H' { k with pl := k.pl.set i { q with px := pxAll L v q.px } } → (∀ (b : Nat) (o : Obj), H[b]? = some o → b ≠ q.pb → H'[b]? = some o) → K H') {X : List Value → Heap → Prop}
    (hX : ∀ t62 : Int, ∀ H_63 : Heap, (br (decide ((t62 : Int) < ((L.length : Nat) : Int)))
      (∃ a64 : Addr, pp = some a64 ∧ 0 ≤ t62 ∧ t62 < ((L.length : Nat) : Int) ∧ ∃ i65 : Int, cell H_63 (Addr.add a64 (Int.toNat t62 * 1)) = some (Value.int .i64 i65) ∧ ∃ a66 : Addr, (some ⟨k.B, 0, none⟩ : Option Addr) = some a66 ∧ ∃ l67p : Option Addr, ∃ l67l : Nat, ∃ l67c : Nat, cell H_63 (Addr.add a66 5) = some (Value.slice l67p l67l l67c) ∧ ∃ a68 : Addr, l67p = some a68 ∧ 0 ≤ (i : Int) ∧ (i : Int) < ((l67l : Nat) : Int) ∧ ∃ pixels69p : Option Addr, ∃ pixels69l : Nat, ∃ pixels69c : Nat, cell H_63 (Addr.add (Addr.add a68 (Int.toNat (i : Int) * 2)) 0) = some (Value.slice pixels69p pixels69l pixels69c) ∧ ∃ a70 : Addr, pixels69p = some a70 ∧ 0 ≤ i65 ∧ i65 < ((pixels69l : Nat) : Int) ∧ stAt H_63 (Addr.add a70 (Int.toNat i65 * 1)) [Value.int .i64 v] fun H_71 => X [Value.int .i64 (IntKind.wrap .i64 (t62 + 1))] H_71)
      (K H_63)) → X [Value.int .i64 t62] H_63) : X [.int .i64 0] H := by
  have hil := (List.getElem?_eq_some_iff.1 hq).1
  have loop : ∀ (m t : Nat) (H1 : Heap), L.length - t = m → t ≤ L.length → BIn H1 { k with pl := k.pl.set i { q with px := pxAll (L.take t) v q.px } } → (∀ (b : Nat) (o : Obj), H[b]? = some o → b ≠ q.pb → H1[b]? = some o) → X [.int .i64 t] H1 := by
    intro m
    induction m with
    | zero =>
      intro t H1 hm ht h1 hf
      rw [List.take_of_length_le (by omega)] at h1
      exact hX _ H1 (br_n (by omega) (hK H1 h1 hf))
    | succ m ih =>
      intro t H1 hm ht h1 hf
      have htl : t < L.length := by omega
      have hv : L[t]? = some L[t] := List.getElem?_eq_getElem htl
      have hLt := hL _ (List.getElem_mem htl)
      have htake : L.take (t + 1) = L.take t ++ [L[t]] := List.take_succ_eq_append_getElem htl
      generalize L[t] = z at hv hLt htake
      obtain ⟨blk, hpp, hcell0⟩ := sl.cell (ints_get hv)
      subst hpp
      have hcell := ((sl.keep1 fun o ho => hf _ _ ho (hne blk rfl))).cell' (ints_get hv)
      obtain ⟨_, _, _, _, _, b5⟩ := h1.cells
      have hget : (k.pl.set i { q with px := pxAll (L.take t) v q.px })[i]? = some { q with px := pxAll (L.take t) v q.px } := by rw [List.getElem?_set_self hil]
      obtain ⟨hp, _, _⟩ := h1.plane (k := { k with pl := k.pl.set i { q with px := pxAll (L.take t) v q.px } }) hget
      have ew : IntKind.wrap .i64 ((t : Int) + 1) = ((t + 1 : Nat) : Int) := by rw [wrap_id (by omega) (by omega)]; omega
      refine hX _ H1 (br_y (by omega) ⟨_, rfl, by omega, by omega, z, by simpa using hcell, _, rfl, some ⟨k.lb, 0, none⟩, _, k.lc, by simpa using b5, _, rfl, by omega, by simp; omega, some ⟨q.pb, 0, none⟩, _, q.pc, by simpa [BPl.pxV] using hp, _, rfl, by omega, by rw [pxAll_len]; omega, ?_⟩)
      rw [ew]
      have slp := h1.px _ (List.mem_of_getElem? hget)
      have slt := h1.tl _ (List.mem_of_getElem? hget)
      simp only [add_none, Nat.zero_add, Nat.mul_one]
      refine slp.set (by rw [pxAll_len]; omega) rfl fun H2 sl2 hk2 hs2 => ?_
      refine ih (t + 1) H2 (by omega) (by omega) ?_ (fun b o hb hne' => hk2 _ _ (hf b o hb hne') hne')
      rw [htake, pxAll_snoc]
      have hap1 := hap.put (q' := { q with px := pxAll (L.take t) v q.px }) hq rfl rfl
      have := h1.put (q' := { q with px := (pxAll (L.take t) v q.px).set z.toNat v }) hap1 hget (by simp [BPl.pxV]) rfl (by rw [ints_set] at sl2; simpa using sl2)
        (slt.keep1 fun o ho => hk2 _ _ ho (fun hh => hap.pt q (List.mem_of_getElem? hq) q (List.mem_of_getElem? hq) hh.symm)) (fun b o hb hb1 _ => hk2 _ _ hb hb1)
      simpa [List.set_set] using this
  refine loop _ 0 H rfl (by omega) ?_ (fun b o hb _ => hb)
  have : k.pl.set i { q with px := pxAll (L.take 0) v q.px } = k.pl := by
    apply List.ext_getElem?
    intro j
    rw [List.getElem?_set]
    by_cases hij : i = j
    · subst hij; rw [if_pos rfl, if_pos hil, hq]; rfl
    · rw [if_neg hij]
  rw [this]
  exact h

end Go.Proofs
