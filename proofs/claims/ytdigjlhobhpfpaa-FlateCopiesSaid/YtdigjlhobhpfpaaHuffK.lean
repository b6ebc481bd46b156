/-
  OWN WORK. 'NewDecoder' and 'Step' over heaps.
-/
import Derived.Test.YtdigjlhobhpfpaaHuffJ
set_option linter.unusedVariables false
set_option linter.unusedSimpArgs false
namespace Go.Proofs
open Go.Sh

theorem Trie.mono2 {ls : List Int} {Ins Beg Ins' Beg' : Nat → Prop} {P : List (Nat × Int)} {F : List Int} (t : Trie ls Ins Beg P F) (h1 : ∀ s, Ins s → Ins' s) (h1' : ∀ s n : Nat, Ins' s → ls[s]? = some (n : Int) → 0 < n → Ins s) (h2 : ∀ s, Beg s → Beg' s) : Trie ls Ins' Beg' P F := by
  refine ⟨t.len, t.root, t.inj, t.up, fun k n v b x a1 a2 a3 a4 => ?_, fun k n v b a1 a2 a3 => ?_, t.par, fun s n a1 a2 a3 => t.ins s n (h1' s n a1 a2 a3) a2 a3, fun k n v a1 a2 => ?_⟩
  · obtain ⟨s, a, b'⟩ := t.sy k n v b x a1 a2 a3 a4; exact ⟨s, h1 s a, b'⟩
  · obtain ⟨a, b'⟩ := t.no k n v b a1 a2 a3; exact ⟨a, fun s hs hl => b' s (h1' s _ hs hl (by omega)) hl⟩
  · obtain ⟨s, m, a, b'⟩ := t.beg k n v a1 a2; exact ⟨s, m, h2 s a, b'⟩

theorem Trie.rng {ls : List Int} {Beg : Nat → Prop} {P : List (Nat × Int)} {F : List Int} {S : Nat} (t : Trie ls (· < S) Beg P F) : ∀ x ∈ F, -(S : Int) ≤ x ∧ x < P.length := fun x hx => by
  obtain ⟨i, hi⟩ := List.getElem?_of_mem hx
  have hil := (List.getElem?_eq_some_iff.1 hi).1
  have hl := t.len
  obtain ⟨y, hy⟩ : ∃ y, P[i / 2]? = some y := ⟨_, List.getElem?_eq_getElem (by omega)⟩
  obtain ⟨n, v⟩ := y
  have e : i / 2 * 2 + i % 2 = i := by omega
  have hi' : F[i / 2 * 2 + i % 2]? = some x := by rw [e]; exact hi
  have hp : 0 < P.length := by have := (List.getElem?_eq_some_iff.1 t.root).1; omega
  rcases Int.lt_trichotomy x 0 with h | h | h
  · obtain ⟨s, a, b, _⟩ := t.sy _ _ _ _ _ hy (by omega) hi' h
    have a : s < S := a
    omega
  · omega
  · have := (List.getElem?_eq_some_iff.1 (t.up _ _ _ _ _ hy (by omega) hi' h)).1
    omega

set_option maxHeartbeats 4000000 in
theorem newDec {H : Heap} {p : Option Addr} {l c : Nat} {ls : List Int} (h : IS H p l (ints ls)) {R : Value → Heap → Prop} (hbad : ¬ OkC ls → R (.tuple #[.pointer none, .bool false]) H)
    (hgood : OkC ls → ∀ H' b q L k P F, H.size ≤ b → H'[b]? = some (.cells #[.slice q L k] 78) → FS H.size H' q L k 79 2 (ints F) → P.length = L → L ≤ 5000 → Trie ls (· < ls.length) (· < ls.length) P F → Ext H H' → R (.tuple #[.pointer (some ⟨b, 0, none⟩), .bool true]) H') :
    CallsH Try.prog 25 #[.slice p l c] H R := by
  have hl : ls.length = l := by have := h.len; rw [ints_len] at this; omega
  refine Try.s25 ?_
  unfold Try.S25 alc
  refine c37 h (fun hn => ⟨_, _, _, _, rfl, br_t rfl (hbad hn)⟩) fun ok H1 cb fc e1 => ⟨_, _, _, _, rfl, br_f rfl ⟨by omega, by omega, by omega, by omega, ?_⟩⟩
  have l300 := ok.w.len
  have hz : (List.toArray (reps (Int.toNat (1 : Int)) (Array.toList #[Value.int .i64 0, Value.int .i64 0]))) = #[Value.int .i64 0, Value.int .i64 0] := rfl
  have h1 : Int.toNat (1 : Int) = 1 := rfl
  rw [hz, h1]
  dsimp only
  have hb2 := get_push_self H1 (.cells #[Value.int .i64 0, Value.int .i64 0] 79)
  have e2 : Ext H1 (H1.push (.cells #[Value.int .i64 0, Value.int .i64 0] 79)) := Ext.push _ _
  have hs2 : (H1.push (.cells #[Value.int .i64 0, Value.int .i64 0] 79)).size = H1.size + 1 := by simp
  generalize H1.push (.cells #[Value.int .i64 0, Value.int .i64 0] 79) = H2 at hb2 e2 hs2
  have hb3 := get_push_self H2 (.cells #[Value.slice (some ⟨H1.size, 0, none⟩) 1 1] 78)
  have e3 : Ext H2 (H2.push (.cells #[Value.slice (some ⟨H1.size, 0, none⟩) 1 1] 78)) := Ext.push _ _
  have hs3 : (H2.push (.cells #[Value.slice (some ⟨H1.size, 0, none⟩) 1 1] 78)).size = H2.size + 1 := by simp
  generalize H2.push (.cells #[Value.slice (some ⟨H1.size, 0, none⟩) 1 1] 78) = H3 at hb3 e3 hs3
  have hsz1 := e1.size
  have fs3 : FS H.size H3 (some ⟨H1.size, 0, none⟩) 1 1 79 2 (ints [0, 0]) := ⟨rfl, Nat.le_refl _, ints_one _, .inr ⟨H1.size, _, rfl, hsz1, e3 _ _ hb2, rfl, fun i v hv => by simpa [ints] using hv⟩⟩
  have cget : ∀ {Hx : Heap}, RS Hx (some ⟨cb, 0, none⟩) l 3 1 (ints (codesM ls)) → ∀ i, i < l → cell Hx ⟨cb, i, none⟩ = some (.int .i64 (codeM ls i)) := fun hx i hi => by
    obtain ⟨blk, q1, v1⟩ := hx.cell (ints_get (codesM_get (ls := ls) (i := i) (by omega)))
    cases q1; exact v1
  have lget : ∀ i, i < l → ∃ n : Nat, ls[i]? = some (n : Int) ∧ n ≤ 16 := fun i hi => by
    have hv : ls[i]? = some ls[i] := List.getElem?_eq_getElem (by omega)
    have hr := ok.w.rng _ (List.mem_of_getElem? hv)
    refine ⟨ls[i].toNat, ?_, by omega⟩
    rw [hv]; congr 1; omega
  generalize hB : H2.size = B at hb3 ⊢
  have dget : ∀ {Hx : Heap} {q : Option Addr} {L k : Nat}, Hx[B]? = some (.cells #[.slice q L k] 78) → cell Hx ⟨B, 0, none⟩ = some (.slice q L k) := fun h => cell_get h rfl
  have hBs : H.size ≤ B := by omega
  intro X hX
  have outer : ∀ (m s : Nat) (H4 : Heap) (q : Option Addr) (L k : Nat) (P : List (Nat × Int)) (F : List Int), l - s = m → s ≤ l → Ext H H4 → RS H4 (some ⟨cb, 0, none⟩) l 3 1 (ints (codesM ls)) → H4[B]? = some (.cells #[.slice q L k] 78) → FS H.size H4 q L k 79 2 (ints F) →
      P.length = L → L ≤ 1 + 16 * s → Trie ls (· < s) (· < s) P F → X [.int .i64 s] H4 := by
    intro m
    induction m with
    | zero =>
      intro s H4 q L k P F hm hs e4 rc hd fs hP hL t
      have : s = ls.length := by omega
      subst this
      exact hX _ H4 (br_n (by omega) (hgood ok H4 B q L k P F hBs hd fs hP (by omega) t e4))
    | succ m ih =>
      intro s H4 q L k P F hm hs e4 rc hd fs hP hL t
      have ws : IntKind.wrap .i64 ((s : Int) + 1) = ((s + 1 : Nat) : Int) := by rw [wrap_id (by omega) (by omega)]; omega
      have wns : IntKind.wrap .i64 ((-1 : Int) - (s : Int)) = -1 - (s : Int) := wrap_id (by omega) (by omega)
      obtain ⟨n, hn, hn16⟩ := lget s (by omega)
      obtain ⟨a, hp, cv⟩ := (h.ext e4).cell (ints_get hn)
      refine hX _ H4 (br_y (by omega) ⟨_, hp, by omega, by omega, n, by simpa using cv, ?_⟩)
      rw [ws, wns]
      have nxt : ∀ (H5 : Heap) (q : Option Addr) (L k : Nat) (P : List (Nat × Int)) (F : List Int), Ext H H5 → RS H5 (some ⟨cb, 0, none⟩) l 3 1 (ints (codesM ls)) → H5[B]? = some (.cells #[.slice q L k] 78) → FS H.size H5 q L k 79 2 (ints F) →
          P.length = L → L ≤ 1 + 16 * (s + 1) → Trie ls (· < s + 1) (· < s + 1) P F → X [.int .i64 ((s + 1 : Nat) : Int)] H5 := fun H5 q L k P F e5 rc hd fs hP hL t => ih (s + 1) H5 q L k P F (by omega) (by omega) e5 rc hd fs hP hL t
      intro Y hY
      by_cases hn0 : n = 0
      · have w0 : IntKind.wrap .i64 ((n : Int) - 1) = -1 := by subst hn0; decide
        rw [w0]
        refine hY _ _ H4 (br_n (by omega) (nxt H4 q L k P F e4 rc hd fs hP (by omega) (t.mono2 (fun i hi => by omega) (fun i n' hi hl' hn' => ?_) (fun i hi => by omega))))
        by_cases his : i = s
        · subst his
          rw [hn] at hl'
          have := Option.some.inj hl'; omega
        · have hi : i < s + 1 := hi
          show i < s
          omega
      · have w0 : IntKind.wrap .i64 ((n : Int) - 1) = ((n - 1 : Nat) : Int) := by rw [wrap_id (by omega) (by omega)]; omega
        rw [w0]
        have crng := code_rng ok hn (by omega)
        have inner : ∀ (k0 : Nat) (st : Nat) (H5 : Heap) (q : Option Addr) (L k : Nat) (P : List (Nat × Int)) (F : List Int), k0 + 1 ≤ n → Ext H H5 → RS H5 (some ⟨cb, 0, none⟩) l 3 1 (ints (codesM ls)) → H5[B]? = some (.cells #[.slice q L k] 78) → FS H.size H5 q L k 79 2 (ints F) →
            P.length = L → L ≤ 1 + 16 * s + (n - 1 - k0) → Trie ls (· < s) (· < s + 1) P F → P[st]? = some (n - 1 - k0, codeM ls s / 2 ^ (k0 + 1)) → (∀ j, j ≤ n - 1 - k0 → ∃ i : Nat, P[i]? = some (j, codeM ls s / 2 ^ (n - j))) → Y [.int .i64 st, .int .i64 k0] H5 := by
          intro k0
          induction k0 with
          | zero =>
            intro st H5 q L k P F hk0 e5 rc hd fs hP hL t hst path
            have hstl := (List.getElem?_eq_some_iff.1 hst).1
            have hFl := t.len
            rw [Nat.zero_add, Int.pow_one] at hst
            refine hY _ _ H5 (br_y (by omega) ⟨_, rfl, by omega, by omega, codeM ls s, by simpa using cget rc s (by omega), by omega, ?_⟩)
            have hbit : andI .i64 (shrI .i64 (codeM ls s) ((0 : Nat) : Int)) (1 : Int) = codeM ls s % 2 := by
              rw [andI_one, shr64 (by omega) (by omega)]; simp
            rw [hbit]
            refine br_t rfl ⟨_, rfl, q, L, k, by simpa using dget hd, ?_⟩
            have hbt : (codeM ls s % 2).toNat < 2 := by omega
            rcases fs.at_ with ⟨hq0, hk00⟩ | ⟨blk, cs, hq, hq2, hq3, hq4, hq5⟩
            · have := fs.le; omega
            · refine ⟨_, hq, by omega, by omega, by omega, by omega, ?_⟩
              subst hq
              simp only [add_none, Nat.zero_add, Nat.mul_one, Int.toNat_natCast]
              refine fs.set (by rw [ints_len]; omega) rfl fun H6 f6 hk6 hs6 => ?_
              rw [ints_set] at f6
              have hBne : B ≠ blk := fun hh => by rw [← hh, hd] at hq3; cases hq3
              refine nxt H6 _ L k P _ (fun b o hb => hk6 b o (e5 b o hb) (by have := lt_of_get hb; omega)) (rc.keep fun b cs' hb hg => hk6 b _ hg fun hh => by rw [hh, hq3] at hg; cases hg) (hk6 _ _ hd hBne) f6 hP (by omega) ?_
              have hn1 : n = n - 1 + 1 := by omega
              rw [hn1] at hn
              refine (t.leaf ok hn (by show s < s + 1; omega) (by show ¬ s < s; omega) (k := st) hst (fun i hi => by show i < s + 1; have : i < s := hi; omega) (fun j hj => ?_)).mono2 (fun i hi => ?_) (fun i n' hi _ _ => ?_) (fun i hi => hi)
              · obtain ⟨i, hi⟩ := path j (by omega)
                refine ⟨i, ?_⟩
                have : n - 1 + 1 - j = n - j := by omega
                rw [this]; exact hi
              · rcases hi with hi | rfl
                · have : i < s := hi
                  show i < s + 1; omega
                · show i < i + 1; omega
              · have hi : i < s + 1 := hi
                by_cases h : i < s
                · exact .inl h
                · exact .inr (by omega)
          | succ k0 ihk =>
            intro st H5 q L k P F hk0 e5 rc hd fs hP hL t hst path
            have hstl := (List.getElem?_eq_some_iff.1 hst).1
            have hFl := t.len
            have wk : IntKind.wrap .i64 (((k0 + 1 : Nat) : Int) - 1) = (k0 : Int) := by rw [wrap_id (by omega) (by omega)]; omega
            have hbit : andI .i64 (shrI .i64 (codeM ls s) ((k0 + 1 : Nat) : Int)) (1 : Int) = codeM ls s / 2 ^ (k0 + 1) % 2 := by
              rw [andI_one, shr64 (by omega) (by omega), Int.toNat_natCast]
            have hhalf : codeM ls s / 2 ^ (k0 + 1 + 1) = codeM ls s / 2 ^ (k0 + 1) / 2 := div_two_pow _ _
            generalize hv : codeM ls s / 2 ^ (k0 + 1) = v at hbit hhalf
            rw [hhalf] at hst
            have hbt : (v % 2).toNat < 2 := by omega
            have hvv : 2 * (v / 2) + ((v % 2).toNat : Int) = v := by omega
            refine hY _ _ H5 (br_y (by omega) ⟨_, rfl, by omega, by omega, codeM ls s, by simpa using cget rc s (by omega), by omega, ?_⟩)
            rw [hbit, wk]
            refine br_f (by simp; omega) ?_
            intro J hJ
            obtain ⟨x, hx⟩ := t.get hst hbt
            -- behind the look at the child
            have go : ∀ (H6 : Heap) (q : Option Addr) (L k : Nat) (P : List (Nat × Int)) (F : List Int) (x : Int), Ext H H6 → RS H6 (some ⟨cb, 0, none⟩) l 3 1 (ints (codesM ls)) → H6[B]? = some (.cells #[.slice q L k] 78) → FS H.size H6 q L k 79 2 (ints F) →
                P.length = L → L ≤ 1 + 16 * s + (n - 1 - k0) → Trie ls (· < s) (· < s + 1) P F → st < P.length → F[st * 2 + (v % 2).toNat]? = some x → 0 < x → P[x.toNat]? = some (n - 1 - k0, codeM ls s / 2 ^ (k0 + 1)) → (∀ j, j ≤ n - 1 - k0 → ∃ i : Nat, P[i]? = some (j, codeM ls s / 2 ^ (n - j))) → J [] H6 := by
              intro H6 q L k P F x e6 rc hd fs hP hL t hstl hx hx0 hPx path
              have hFl := t.len
              rcases fs.at_ with ⟨hq0, hk00⟩ | ⟨blk, cs, hq, hq2, hq3, hq4, hq5⟩
              · have := fs.le; omega
              · obtain ⟨blk', hq', cx⟩ := fs.rs.cell (ints_get hx)
                rw [hq] at hq'; cases hq'
                have hxl := (List.getElem?_eq_some_iff.1 hPx).1
                refine hJ H6 ⟨_, rfl, q, L, k, by simpa using dget hd, _, hq, by omega, by omega, by omega, by omega, x, ?_, ?_⟩
                · simp only [add_none, Nat.zero_add, Nat.mul_one, Int.toNat_natCast]; exact cx
                · have hxn : x = ((x.toNat : Nat) : Int) := by omega
                  rw [hxn]
                  exact ihk x.toNat H6 q L k P F (by omega) e6 rc hd fs hP hL t hPx path
            rcases fs.at_ with ⟨hq0, hk00⟩ | ⟨blk, cs, hq, hq2, hq3, hq4, hq5⟩
            · have := fs.le; omega
            obtain ⟨blk', hq', cx⟩ := fs.rs.cell (ints_get hx)
            rw [hq] at hq'; cases hq'
            refine ⟨_, rfl, q, L, k, by simpa using dget hd, _, hq, by omega, by omega, by omega, by omega, x, ?_, br_eq (fun hx0 => ?_) (fun hxne => ?_)⟩
            · simp only [add_none, Nat.zero_add, Nat.mul_one, Int.toNat_natCast]; exact cx
            · -- a new node
              subst hx0
              refine ⟨_, rfl, q, L, k, by simpa using dget hd, rfl, by omega, ?_⟩
              have hz : (List.toArray (setL [Value.int .i64 0, Value.int .i64 0] 0 (Array.toList #[Value.int .i64 0, Value.int .i64 0]))) = #[Value.int .i64 0, Value.int .i64 0] := rfl
              rw [hz]
              have hb6 := get_push_self H5 (.cells #[Value.int .i64 0, Value.int .i64 0] 79)
              have e6 : Ext H5 (H5.push (.cells #[Value.int .i64 0, Value.int .i64 0] 79)) := Ext.push _ _
              generalize H5.push (.cells #[Value.int .i64 0, Value.int .i64 0] 79) = H6 at hb6 e6
              have src : RS H6 (some ⟨H5.size, 0, none⟩) 1 79 2 (ints [0, 0]) := ⟨rfl, ints_one _, .inr ⟨H5.size, _, rfl, hb6, fun i v hv => by simpa [ints] using hv⟩⟩
              have f6 := fs.ext e6
              have hd6 := e6 _ _ hd
              have rc6 := rc.ext e6
              refine f6.app src (by decide) (by have := (e5.trans e6).size; omega) rfl (by omega) (by omega) fun q7 k7 H7 f7 hk7 hs7 => ⟨_, rfl, ?_⟩
              rw [← ints_append] at f7
              have hBne : q ≠ some ⟨B, 0, none⟩ := fun hh => by rw [hq] at hh; cases hh; rw [hd] at hq3; cases hq3
              have hd7 := hk7 _ _ hd6 hBne
              have rc7 : RS H7 (some ⟨cb, 0, none⟩) l 3 1 (ints (codesM ls)) := rc6.keep fun b cs' hb hg => hk7 b _ hg fun hh => by
                rw [hq] at hh; cases hh; rw [e6 _ _ hq3] at hg; cases hg
              have e7 : Ext H H7 := fun b o hb => hk7 b o ((e5.trans e6) b o hb) fun hh => by
                rw [hq] at hh; cases hh; have := lt_of_get hb; omega
              simp only [add_none, Nat.zero_add]
              refine stAt_one hd7 (by show 0 < 1; omega) rfl ?_
              have hset : (#[Value.slice q L k] : Array Value).setIfInBounds 0 (Value.slice q7 (L + 1) k7) = #[Value.slice q7 (L + 1) k7] := rfl
              rw [hset]
              have hd8 := get_set_self (o := Obj.cells #[Value.slice q7 (L + 1) k7] 78 (0, 0)) hd7
              have hk8 : ∀ (b : Nat) (o : Obj), H7[b]? = some o → b ≠ B → (H7.setIfInBounds B (.cells #[Value.slice q7 (L + 1) k7] 78 (0, 0)))[b]? = some o := fun b o hb hn => get_set_ne (Ne.symm hn) hb
              generalize H7.setIfInBounds B (.cells #[Value.slice q7 (L + 1) k7] 78 (0, 0)) = H8 at hd8 hk8
              have f8 : FS H.size H8 q7 (L + 1) k7 79 2 (ints (F ++ [0, 0])) := f7.keep fun b cs' hb hg => hk8 b _ hg fun hh => by rw [hh, hd7] at hg; cases hg
              have rc8 : RS H8 (some ⟨cb, 0, none⟩) l 3 1 (ints (codesM ls)) := rc7.keep fun b cs' hb hg => hk8 b _ hg fun hh => by rw [hh, hd7] at hg; cases hg
              have e8 : Ext H H8 := fun b o hb => hk8 b o (e7 b o hb) (by have := lt_of_get hb; omega)
              have wl : IntKind.wrap .i64 (((L + 1 : Nat) : Int) - 1) = (L : Int) := by rw [wrap_id (by omega) (by omega)]; omega
              rcases f8.at_ with ⟨hq0, hk00⟩ | ⟨blk8, cs8, hq8, hq82, hq83, hq84, hq85⟩
              · have := f8.le; omega
              · refine ⟨_, rfl, q7, L + 1, k7, by simpa using dget hd8, _, rfl, q7, L + 1, k7, by simpa using dget hd8, _, hq8, by omega, by omega, by omega, by omega, ?_⟩
                subst hq8
                rw [wl]
                simp only [add_none, Nat.zero_add, Nat.mul_one, Int.toNat_natCast]
                refine f8.set (by rw [ints_len]; simp; omega) rfl fun H9 f9 hk9 hs9 => ?_
                rw [ints_set] at f9
                have hB9 : B ≠ blk8 := fun hh => by rw [← hh, hd8] at hq83; cases hq83
                have ndc : codeM ls s / 2 ^ (n - (n - 1 - (k0 + 1) + 1)) = 2 * (v / 2) + ((v % 2).toNat : Int) := by
                  have : n - (n - 1 - (k0 + 1) + 1) = k0 + 1 := by omega
                  rw [this, hv, hvv]
                have t9 := t.node ok (s := s) (m := n) (b := (v % 2).toNat) hn (by show s < s + 1; omega) (by omega) hst hbt ndc hx
                rw [hvv] at t9
                have hdep : n - 1 - (k0 + 1) + 1 = n - 1 - k0 := by omega
                rw [hdep] at t9
                have e9 : Ext H H9 := fun b o hb => hk9 b o (e8 b o hb) (by have := lt_of_get hb; omega)
                rw [hP] at t9
                refine go H9 _ (L + 1) k7 (P ++ [(n - 1 - k0, v)]) _ (L : Int) e9 (rc8.keep fun b cs' hb hg => hk9 b _ hg fun hh => by rw [hh, hq83] at hg; cases hg) (hk9 _ _ hd8 hB9) f9 (by simp; omega) (by omega) t9 (by simp; omega) ?_ (by omega) ?_ (fun j hj => ?_)
                · rw [List.getElem?_set_self (by simp; omega)]
                · rw [Int.toNat_natCast, ← hP, hv]; simp
                · by_cases hj1 : j ≤ n - 1 - (k0 + 1)
                  · obtain ⟨i, hi⟩ := path j hj1
                    exact ⟨i, by rw [List.getElem?_append_left (List.getElem?_eq_some_iff.1 hi).1]; exact hi⟩
                  · have hje : j = n - 1 - k0 := by omega
                    refine ⟨P.length, ?_⟩
                    have : n - j = k0 + 1 := by omega
                    rw [this, hv, hje]; simp
            · -- the child is there
              have hxpos : 0 < x := by
                rcases Int.lt_trichotomy x 0 with h | h | h
                · obtain ⟨s', i', _, l', c'⟩ := t.sy _ _ _ _ _ hst hbt hx h
                  have i' : s' < s := i'
                  rw [hvv] at c'
                  have := no_prefix ok (i := s') (j := s) (by omega) l' hn (by omega) (by omega)
                  have e : n - (n - 1 - (k0 + 1) + 1) = k0 + 1 := by omega
                  rw [e, hv] at this
                  exact absurd c'.symm this
                · exact absurd h hxne
                · exact h
              have hPx := t.up _ _ _ _ _ hst hbt hx hxpos
              rw [hvv] at hPx
              have hdep : n - 1 - (k0 + 1) + 1 = n - 1 - k0 := by omega
              rw [hdep] at hPx
              refine go H5 q L k P F x e5 rc hd fs hP (by omega) t hstl hx hxpos (by rw [hv]; exact hPx) (fun j hj => ?_)
              by_cases hj1 : j ≤ n - 1 - (k0 + 1)
              · exact path j hj1
              · have hje : j = n - 1 - k0 := by omega
                refine ⟨x.toNat, ?_⟩
                have : n - j = k0 + 1 := by omega
                rw [this, hv, hje]; exact hPx
        have hcode0 : codeM ls s / 2 ^ n = 0 := Int.ediv_eq_zero_of_lt crng.1 crng.2
        refine inner (n - 1) 0 H4 q L k P F (by omega) e4 rc hd fs hP (by omega) (t.mono2 (fun i hi => hi) (fun i n' hi _ _ => hi) (fun i hi => by have : i < s := hi; show i < s + 1; omega)) ?_ (fun j hj => ⟨0, ?_⟩)
        · have e1 : n - 1 - (n - 1) = 0 := by omega
          have e2 : n - 1 + 1 = n := by omega
          rw [e1, e2, hcode0]; exact t.root
        · have e1 : j = 0 := by omega
          subst e1
          rw [Nat.sub_zero, hcode0]; exact t.root
  refine outer l 0 H3 (some ⟨H1.size, 0, none⟩) 1 1 [(0, 0)] [0, 0] (by omega) (by omega) (e1.trans (e2.trans e3)) (fc.rs.ext (e2.trans e3)) hb3 fs3 rfl (by omega) ((Trie.first ls (· < 0)).mono2 (fun i hi => hi.elim) (fun i n hi => absurd hi (by omega)) (fun i hi => hi))

theorem c25 {H : Heap} {p : Option Addr} {l c : Nat} {ls : List Int} (h : IS H p l (ints ls)) {R : Value → Heap → Prop} (hbad : ¬ OkC ls → R (.tuple #[.pointer none, .bool false]) H)
    (hgood : OkC ls → ∀ H' b q L k P F, H'[b]? = some (.cells #[.slice q L k] 78) → RS H' q L 79 2 (ints F) → P.length = L → L ≤ 5000 → Trie ls (· < ls.length) (· < ls.length) P F → Ext H H' → R (.tuple #[.pointer (some ⟨b, 0, none⟩), .bool true]) H') :
    CallsH Try.prog 25 #[.slice p l c] H R :=
  newDec h hbad fun ok H' b q L k P F _ hd fs hP hL t e => hgood ok H' b q L k P F hd fs.rs hP hL t e

/-- What a step answers, by the nodes. -/
def stepM (F : List Int) (L : Nat) (st bit : Int) : Int × Int :=
  if st < 0 ∨ st ≥ L then (-1, -1)
  else if F.getD (st.toNat * 2 + (bit % 2).toNat) 0 > 0 then (F.getD (st.toNat * 2 + (bit % 2).toNat) 0, -1)
  else if F.getD (st.toNat * 2 + (bit % 2).toNat) 0 < 0 then (0, -1 - F.getD (st.toNat * 2 + (bit % 2).toNat) 0) else (-1, -1)

theorem c45 {H : Heap} {b : Nat} {q : Option Addr} {L k : Nat} {F : List Int} (hd : H[b]? = some (.cells #[.slice q L k] 78)) (hf : RS H q L 79 2 (ints F)) (hr : ∀ x ∈ F, -1000000 ≤ x ∧ x ≤ 1000000) (hL : L ≤ 1000000) (st bit : Int) {R : Value → Heap → Prop}
    (h : R (.tuple #[.int .i64 (stepM F L st bit).1, .int .i64 (stepM F L st bit).2]) H) : CallsH Try.prog 45 #[.pointer (some ⟨b, 0, none⟩), .int .i64 st, .int .i64 bit] H R := by
  have hFl : F.length = L * 2 := by have := hf.len; rw [ints_len] at this; exact this
  have dget : cell H ⟨b, 0, none⟩ = some (.slice q L k) := cell_get hd rfl
  refine Try.s45 ?_
  unfold Try.S45
  rw [andI_one]
  intro J hJ
  unfold stepM at h
  refine br_dec (fun hn => ?_) (fun h0 => ⟨_, rfl, q, L, k, by simpa using dget, br_dec (fun hge => ?_) (fun hlt => hJ H ?_)⟩)
  · rw [if_pos (.inl hn)] at h; exact h
  · rw [if_pos (.inr hge)] at h; exact h
  · rw [if_neg (by omega)] at h
    have hb2 : (bit % 2).toNat < 2 := by omega
    have hx : F[st.toNat * 2 + (bit % 2).toNat]? = some (F.getD (st.toNat * 2 + (bit % 2).toNat) 0) := by
      rw [List.getD_eq_getElem?_getD, List.getElem?_eq_getElem (by omega)]; rfl
    have hxr := hr _ (List.mem_of_getElem? hx)
    obtain ⟨blk, hq, cx⟩ := hf.cell (ints_get hx)
    generalize F.getD (st.toNat * 2 + (bit % 2).toNat) 0 = x at h hx cx hxr
    refine ⟨_, rfl, q, L, k, by simpa using dget, _, hq, by omega, by omega, by omega, by omega, x, ?_, br_dec (fun hp => ?_) (fun hp => br_dec (fun hn => ?_) (fun hn => ?_))⟩
    · simp only [add_none, Nat.zero_add, Nat.mul_one]; exact cx
    · rw [if_pos hp] at h; exact h
    · rw [if_neg hp, if_pos hn] at h
      rw [wrap_id (by omega) (by omega)]; exact h
    · rw [if_neg hp, if_neg hn] at h; exact h

end Go.Proofs
