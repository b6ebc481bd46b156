/-
  OWN WORK. The book's 'write': numbers given to the places that are taken.
-/
import Derived.Test.YtcbnifopfdgniaaTileBx
set_option linter.unusedVariables false
set_option linter.unusedSimpArgs false
namespace Go.Proofs
open Go.Sh Go.Tile

/-- The first places gone through: the number given last, the tiles. -/
def fillT (C : List Int) : Nat → Int × List Int → Int × List Int
  | 0, z => z
  | j + 1, z => if (j : Int) ∈ C then ((fillT C j z).1 + 1, (fillT C j z).2.set j ((fillT C j z).1 + 1)) else fillT C j z

structure FillOk (C : List Int) (next : Int) (tl : List Int) (j : Nat) (r : Int × List Int) : Prop where
  len : r.2.length = tl.length
  lo : next ≤ r.1
  hi : r.1 ≤ next + j
  new : ∀ a : Nat, a < j → (a : Int) ∈ C → ∃ m, r.2[a]? = some m ∧ next < m ∧ m ≤ r.1
  old : ∀ a : Nat, ¬ (a < j ∧ (a : Int) ∈ C) → r.2[a]? = tl[a]?
  inj : ∀ a b : Nat, a < j → b < j → (a : Int) ∈ C → (b : Int) ∈ C → r.2[a]? = r.2[b]? → a = b

theorem fillT_ok (C : List Int) (next : Int) (tl : List Int) : ∀ j : Nat, j ≤ tl.length → FillOk C next tl j (fillT C j (next, tl))
  | 0, _ => ⟨rfl, Int.le_refl _, by simp [fillT], fun a h => absurd h (by omega), fun _ _ => rfl, fun a b h => absurd h (by omega)⟩
  | j + 1, hj => by
    have ih := fillT_ok C next tl j (by omega)
    unfold fillT
    by_cases hc : (j : Int) ∈ C
    · rw [if_pos hc]
      generalize fillT C j (next, tl) = r at ih
      have hg : ∀ a : Nat, (r.2.set j (r.1 + 1))[a]? = if j = a then some (r.1 + 1) else r.2[a]? := fun a => by
        rw [List.getElem?_set]
        by_cases h : j = a
        · have := ih.len; rw [if_pos h, if_pos h, if_pos (by omega)]
        · rw [if_neg h, if_neg h]
      refine ⟨by simp [ih.len], by have := ih.lo; show next ≤ r.1 + 1; omega, by have := ih.hi; show r.1 + 1 ≤ next + ((j + 1 : Nat) : Int); omega, fun a ha hac => ?_, fun a ha => ?_, fun a b ha hb hac hbc he => ?_⟩
      · show ∃ m, (r.2.set j (r.1 + 1))[a]? = some m ∧ next < m ∧ m ≤ r.1 + 1
        rw [hg]
        have := ih.lo
        by_cases h : j = a
        · rw [if_pos h]; exact ⟨_, rfl, by omega, by omega⟩
        · obtain ⟨m, h1, h2, h3⟩ := ih.new a (by omega) hac
          rw [if_neg h]; exact ⟨m, h1, h2, by omega⟩
      · show (r.2.set j (r.1 + 1))[a]? = tl[a]?
        rw [hg, if_neg (fun h => ha ⟨by omega, by rw [← h]; exact hc⟩)]
        exact ih.old a fun h => ha ⟨by omega, h.2⟩
      · have he' : (r.2.set j (r.1 + 1))[a]? = (r.2.set j (r.1 + 1))[b]? := he
        rw [hg, hg] at he'
        by_cases h : j = a
        · by_cases h' : j = b
          · omega
          · rw [if_pos h, if_neg h'] at he'
            obtain ⟨m, h1, h2, h3⟩ := ih.new b (by omega) hbc
            rw [h1] at he'; cases he'; omega
        · by_cases h' : j = b
          · rw [if_neg h, if_pos h'] at he'
            obtain ⟨m, h1, h2, h3⟩ := ih.new a (by omega) hac
            rw [h1] at he'; cases he'; omega
          · rw [if_neg h, if_neg h'] at he'
            exact ih.inj a b (by omega) (by omega) hac hbc he'
    · rw [if_neg hc]
      have ne : ∀ a : Nat, (a : Int) ∈ C → a < j + 1 → a < j := fun a ha hl => by
        rcases Nat.lt_or_ge a j with h | h
        · exact h
        · have : a = j := by omega
          subst this; exact absurd ha hc
      exact ⟨ih.len, ih.lo, by have := ih.hi; omega, fun a ha hac => ih.new a (ne a hac ha) hac, fun a ha => ih.old a fun h => ha ⟨by omega, h.2⟩,
        fun a b ha hb hac hbc he => ih.inj a b (ne a hac ha) (ne b hbc hb) hac hbc he⟩

theorem BIn.nxt {H : Heap} {k : Bk} (h : BIn H k) (hap : Apart k) (v : Int) : BIn (H.setIfInBounds k.B (bookO { k with next := v })) { k with next := v } := by
  obtain ⟨cs, h1, h2, h3⟩ := h.l
  have ne : ∀ (b : Nat) (o : Obj), H[b]? = some o → b ≠ k.B → (H.setIfInBounds k.B (bookO { k with next := v }))[b]? = some o := fun b o hb hn => get_set_ne (Ne.symm hn) hb
  refine ⟨get_set_self h.book, ⟨cs, ne _ _ h1 (Ne.symm hap.head), h2, h3⟩, fun p hp => ?_, fun p hp => ?_⟩
  · exact (h.px p hp).keep1 fun o ho => ne _ _ ho (hap.hd p hp).1
  · exact (h.tl p hp).keep1 fun o ho => ne _ _ ho (hap.hd p hp).2.2.1

theorem Apart.nxt {k : Bk} (h : Apart k) (v : Int) : Apart { k with next := v } := ⟨h.head, h.px, h.tl, h.pt, h.hd⟩

/-- The book with a plane's tiles and the number given last. -/
def Bk.tls (k : Bk) (i : Nat) (q : BPl) (r : Int × List Int) : Bk := { k with next := r.1, pl := k.pl.set i { q with tl := r.2 } }

set_option maxHeartbeats 1000000 in
theorem phase3 {H : Heap} {k : Bk} {i M tk : Nat} {q : BPl} {C : List Int} (h : BIn H k) (hap : Apart k) (hq : k.pl[i]? = some q) (hM : q.tl.length = M) (hMs : M ≤ 100000) (n0 : 0 ≤ k.next) (n1 : k.next ≤ 100000000)
    (hk : H[tk]? = some (seenO C M)) (t1 : tk ≠ k.B) (t2 : tk ≠ q.tb) {K : Heap → Prop}
    (hK : ∀ H', BIn H' (k.tls i q (fillT C M (k.next, q.tl))) → (∀ (b : Nat) (o : Obj), H[b]? = some o → b ≠ k.B → b ≠ q.tb → H'[b]? = some o) → K H') {X_44 : List Value → Heap → Prop}
    (hX : ∀ at_45 : Int, ∀ H_46 : Heap, (br (decide ((at_45 : Int) < (((Int.toNat ((M : Nat) : Int)) : Nat) : Int)))
 (∃ a47 : Addr, (some ⟨tk, 0, none⟩) = some a47 ∧ 0 ≤ at_45 ∧ at_45 < (((Int.toNat ((M : Nat) : Int)) : Nat) : Int) ∧ ∃ t48 : Bool, cell H_46 (Addr.add a47 (Int.toNat at_45 * 1)) = some (Value.bool t48) ∧ br t48
 (∃ a49 : Addr, (some ⟨k.B, 0, none⟩ : Option Addr) = some a49 ∧ ∃ next50 : Int, cell H_46 (Addr.add a49 4) = some (Value.int .i64 next50) ∧ ∃ a51 : Addr, (some ⟨k.B, 0, none⟩ : Option Addr) = some a51 ∧ stAt H_46 (Addr.add a51 4) [Value.int .i64 (IntKind.wrap .i64 (next50 + 1))] fun H_52 => ∃ a53 : Addr, (some ⟨k.B, 0, none⟩ : Option Addr) = some a53 ∧ ∃ l54p : Option Addr, ∃ l54l : Nat, ∃ l54c : Nat, cell H_52 (Addr.add a53 5) = some (Value.slice l54p l54l l54c) ∧ ∃ a55 : Addr, l54p = some a55 ∧ 0 ≤ (i : Int) ∧ (i : Int) < ((l54l : Nat) : Int) ∧ ∃ tiles56p : Option Addr, ∃ tiles56l : Nat, ∃ tiles56c : Nat, cell H_52 (Addr.add (Addr.add a55 (Int.toNat (i : Int) * 2)) 1) = some (Value.slice tiles56p tiles56l tiles56c) ∧ ∃ a57 : Addr, (some ⟨k.B, 0, none⟩ : Option Addr) = some a57 ∧ ∃ next58 : Int, cell H_52 (Addr.add a57 4) = some (Value.int .i64 next58) ∧ ∃ a59 : Addr, tiles56p = some a59 ∧ 0 ≤ at_45 ∧ at_45 < ((tiles56l : Nat) : Int) ∧ stAt H_52 (Addr.add a59 (Int.toNat at_45 * 1)) [Value.int .i64 next58] fun H_60 => X_44 [Value.int .i64 (IntKind.wrap .i64 (at_45 + 1))] H_60)
 (X_44 [Value.int .i64 (IntKind.wrap .i64 (at_45 + 1))] H_46))
 (K H_46)) → X_44 [Value.int .i64 at_45] H_46) : X_44 [.int .i64 0] H := by
  have hil := (List.getElem?_eq_some_iff.1 hq).1
  have hqm := List.mem_of_getElem? hq
  have loop : ∀ (m j : Nat) (H1 : Heap), M - j = m → j ≤ M → BIn H1 (k.tls i q (fillT C j (k.next, q.tl))) → (∀ (b : Nat) (o : Obj), H[b]? = some o → b ≠ k.B → b ≠ q.tb → H1[b]? = some o) → X_44 [.int .i64 j] H1 := by
    intro m
    induction m with
    | zero =>
      intro j H1 hm hj h1 hf
      have : j = M := by omega
      subst this
      exact hX _ H1 (br_n (by omega) (hK H1 h1 hf))
    | succ m ih =>
      intro j H1 hm hj h1 hf
      have fo := fillT_ok C k.next q.tl j (by omega)
      have hstep : fillT C (j + 1) (k.next, q.tl) = if (j : Int) ∈ C then ((fillT C j (k.next, q.tl)).1 + 1, (fillT C j (k.next, q.tl)).2.set j ((fillT C j (k.next, q.tl)).1 + 1)) else fillT C j (k.next, q.tl) := rfl
      generalize fillT C j (k.next, q.tl) = r at h1 fo hstep
      have ew : IntKind.wrap .i64 ((j : Int) + 1) = ((j + 1 : Nat) : Int) := by rw [wrap_id (by omega) (by omega)]; omega
      have hkc : cell H1 ⟨tk, j, none⟩ = some (.bool (decide ((j : Int) ∈ C))) := cell_get (hf _ _ hk t1 t2) (by rw [List.getElem?_toArray]; exact seenL_get C (by omega))
      have hap1 : Apart (k.tls i q r) := by
        have := (hap.nxt r.1).put (q := q) (q' := { q with tl := r.2 }) (i := i) hq rfl rfl
        exact this
      refine hX _ H1 (br_y (by omega) ⟨_, rfl, by omega, by omega, decide ((j : Int) ∈ C), by simpa using hkc, br_dec (fun hc => ?_) (fun hc => ?_)⟩)
      · rw [if_pos hc] at hstep
        obtain ⟨_, _, _, _, b4, b5⟩ := h1.cells
        have r0 := fo.lo
        have r1 := fo.hi
        have ewn : IntKind.wrap .i64 (r.1 + 1) = r.1 + 1 := wrap_id (by omega) (by omega)
        refine ⟨_, rfl, r.1, by simpa [Bk.tls] using b4, _, rfl, ?_⟩
        rw [ewn]
        simp only [add_none, Nat.zero_add, Nat.mul_one]
        refine st_next (k := k.tls i q r) h1.book ?_
        have h2 := h1.nxt hap1 (r.1 + 1)
        have hk2 : ∀ (b : Nat) (o : Obj), H1[b]? = some o → b ≠ k.B → (H1.setIfInBounds (k.tls i q r).B (bookO { k.tls i q r with next := r.1 + 1 }))[b]? = some o := fun b o hb hn => get_set_ne (Ne.symm hn) hb
        generalize H1.setIfInBounds (k.tls i q r).B (bookO { k.tls i q r with next := r.1 + 1 }) = H2 at h2 hk2
        have hap2 := hap1.nxt (r.1 + 1)
        obtain ⟨_, _, _, _, c4, c5⟩ := h2.cells
        have hget : ({ k.tls i q r with next := r.1 + 1 } : Bk).pl[i]? = some { q with tl := r.2 } := by
          show (k.pl.set i { q with tl := r.2 })[i]? = _
          rw [List.getElem?_set_self hil]
        obtain ⟨_, hp, _⟩ := h2.plane hget
        have slt := h2.tl _ (List.mem_of_getElem? hget)
        have slp := h2.px _ (List.mem_of_getElem? hget)
        have hl := fo.len
        refine ⟨_, rfl, some ⟨k.lb, 0, none⟩, _, k.lc, by simpa [Bk.tls] using c5, _, rfl, by omega, by simp; omega, some ⟨q.tb, 0, none⟩, r.2.length, q.tc, by simpa [BPl.tlV, Bk.tls] using hp, _, rfl, r.1 + 1, by simpa [Bk.tls] using c4, _, rfl, by omega, by omega, ?_⟩
        rw [ew]
        simp only [add_none, Nat.zero_add, Nat.mul_one, Int.toNat_natCast]
        refine slt.set (by show j < r.2.length; omega) rfl fun H3 sl3 hk3 hs3 => ?_
        refine ih (j + 1) H3 (by omega) (by omega) ?_ (fun b o hb n1 n2 => hk3 _ _ (hk2 _ _ (hf _ _ hb n1 n2) n1) n2)
        rw [hstep]
        have := h2.put (q' := { q with tl := r.2.set j (r.1 + 1) }) hap2 hget rfl (by simp [BPl.tlV]) (slp.keep1 fun o ho => hk3 _ _ ho (hap.pt q hqm q hqm)) (by rw [ints_set] at sl3; simpa using sl3)
          (fun b o hb _ hb2 => hk3 _ _ hb hb2)
        simpa [Bk.tls, List.set_set] using this
      · rw [if_neg hc] at hstep
        rw [ew]
        refine ih (j + 1) H1 (by omega) (by omega) ?_ hf
        rw [hstep]; exact h1
  refine loop _ 0 H rfl (by omega) ?_ (fun b o hb _ _ => hb)
  have : k.tls i q (fillT C 0 (k.next, q.tl)) = k := by
    unfold Bk.tls fillT
    have : k.pl.set i q = k.pl := by
      apply List.ext_getElem?
      intro j
      rw [List.getElem?_set]
      by_cases hij : i = j
      · subst hij; rw [if_pos rfl, if_pos hil, hq]
      · rw [if_neg hij]
    simp [this]
  rw [this]
  exact h

end Go.Proofs
