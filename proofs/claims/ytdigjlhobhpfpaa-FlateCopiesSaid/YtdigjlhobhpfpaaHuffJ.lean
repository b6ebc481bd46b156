/-
  OWN WORK. The decoder: its tree, plain; what the lists of nodes mean.
-/
import Derived.Test.YtdigjlhobhpfpaaHuffI
set_option linter.unusedVariables false
set_option linter.unusedSimpArgs false
namespace Go.Proofs
open Go.Sh

theorem andI_one (a : Int) : andI .i64 a (1 : Int) = a % 2 := by
  unfold andI
  have hb : IntKind.bits .i64 = 64 := rfl
  rw [hb, BitVec.toNat_and, BitVec.toNat_ofInt, BitVec.toNat_ofInt]
  have h1 : ((1 : Int) % ((2 ^ 64 : Nat) : Int)).toNat = 1 := by decide
  rw [h1, Nat.and_one_is_mod]
  have h2 : (((a % ((2 ^ 64 : Nat) : Int)).toNat % 2 : Nat) : Int) = a % 2 := by
    have e : ((2 ^ 64 : Nat) : Int) = 18446744073709551616 := by decide
    rw [e]; omega
  rw [h2]
  exact wrap_id (by omega) (by omega)

structure Trie (ls : List Int) (Ins Beg : Nat → Prop) (P : List (Nat × Int)) (F : List Int) : Prop where
  len : F.length = P.length * 2
  root : P[0]? = some (0, 0)
  inj : ∀ (i j : Nat) (x : Nat × Int), P[i]? = some x → P[j]? = some x → i = j
  up : ∀ (k n : Nat) (v : Int) (b : Nat) (x : Int), P[k]? = some (n, v) → b < 2 → F[k * 2 + b]? = some x → 0 < x → P[x.toNat]? = some (n + 1, 2 * v + b)
  sy : ∀ (k n : Nat) (v : Int) (b : Nat) (x : Int), P[k]? = some (n, v) → b < 2 → F[k * 2 + b]? = some x → x < 0 → ∃ s : Nat, Ins s ∧ x = -1 - (s : Int) ∧ ls[s]? = some ((n + 1 : Nat) : Int) ∧ codeM ls s = 2 * v + b
  no : ∀ (k n : Nat) (v : Int) (b : Nat), P[k]? = some (n, v) → b < 2 → F[k * 2 + b]? = some 0 → (∀ j : Nat, P[j]? ≠ some (n + 1, 2 * v + b)) ∧ ∀ s : Nat, Ins s → ls[s]? = some ((n + 1 : Nat) : Int) → codeM ls s ≠ 2 * v + b
  par : ∀ (k n : Nat) (v : Int), P[k]? = some (n + 1, v) → ∃ j : Nat, P[j]? = some (n, v / 2)
  ins : ∀ (s n : Nat), Ins s → ls[s]? = some (n : Int) → 0 < n → ∀ j, j < n → ∃ k : Nat, P[k]? = some (j, codeM ls s / 2 ^ (n - j))
  beg : ∀ (k n : Nat) (v : Int), P[k]? = some (n, v) → 0 < n → ∃ s m : Nat, Beg s ∧ ls[s]? = some (m : Int) ∧ n < m ∧ codeM ls s / 2 ^ (m - n) = v

section
variable {ls : List Int} {Ins Beg : Nat → Prop} {P : List (Nat × Int)} {F : List Int}

theorem Trie.get (t : Trie ls Ins Beg P F) {k : Nat} {y : Nat × Int} (h : P[k]? = some y) {b : Nat} (hb : b < 2) : ∃ x, F[k * 2 + b]? = some x := by
  have := (List.getElem?_eq_some_iff.1 h).1
  have := t.len
  exact ⟨_, List.getElem?_eq_getElem (by omega)⟩

theorem half_bit (v : Int) (b : Nat) (hb : b < 2) : (2 * v + b) / 2 = v ∧ (2 * v + b) % 2 = b := by omega

theorem div_two_pow (c : Int) (d : Nat) : c / 2 ^ (d + 1) = c / 2 ^ d / 2 := by
  rw [Int.pow_succ, Int.ediv_ediv_of_nonneg (Int.pow_nonneg (by omega))]

/-- What a step answers. -/
theorem Trie.step (t : Trie ls Ins Beg P F) (ok : OkC ls) (hb : ∀ s, Beg s → s < ls.length) {k n : Nat} {v x : Int} {b : Nat} (hk : P[k]? = some (n, v)) (hb2 : b < 2) (hx : F[k * 2 + b]? = some x) :
    (∀ s : Nat, Ins s → ls[s]? = some ((n + 1 : Nat) : Int) → codeM ls s = 2 * v + b → x = -1 - (s : Int)) ∧
    (∀ s m : Nat, Ins s → ls[s]? = some (m : Int) → n + 1 < m → codeM ls s / 2 ^ (m - (n + 1)) = 2 * v + b → 0 < x ∧ P[x.toNat]? = some (n + 1, 2 * v + b)) := by
  have noBeg : ∀ (s m s' : Nat), ls[s]? = some (m : Int) → 0 < m → s ≠ s' → ∀ m' : Nat, ls[s']? = some (m' : Int) → m ≤ m' → codeM ls s' / 2 ^ (m' - m) ≠ codeM ls s := fun s m s' h1 h2 h3 m' h4 h5 => no_prefix ok h3 h1 h4 h2 h5
  refine ⟨fun s hs hl hc => ?_, fun s m hs hl hm hc => ?_⟩
  · rcases Int.lt_trichotomy x 0 with h | h | h
    · obtain ⟨s', i', e, l', c'⟩ := t.sy k n v b x hk hb2 hx h
      by_cases hss : s = s'
      · rw [hss]; exact e
      · have := noBeg s (n + 1) s' hl (by omega) hss (n + 1) l' (Nat.le_refl _)
        rw [Nat.sub_self, Int.pow_zero, Int.ediv_one, hc, c'] at this
        exact absurd rfl this
    · subst h
      exact absurd hc ((t.no k n v b hk hb2 hx).2 s hs hl)
    · have hp := t.up k n v b x hk hb2 hx h
      obtain ⟨s', m', _, l', hm', c'⟩ := t.beg _ _ _ hp (by omega)
      have hss : s ≠ s' := fun hh => by subst hh; rw [hl] at l'; have := Option.some.inj l'; omega
      have := noBeg s (n + 1) s' hl (by omega) hss m' l' (by omega)
      rw [c', hc] at this
      exact absurd rfl this
  · obtain ⟨k', hk'⟩ := t.ins s m hs hl (by omega) (n + 1) hm
    rw [hc] at hk'
    rcases Int.lt_trichotomy x 0 with h | h | h
    · obtain ⟨s', i', e, l', c'⟩ := t.sy k n v b x hk hb2 hx h
      have hss : s' ≠ s := fun hh => by subst hh; rw [hl] at l'; have := Option.some.inj l'; omega
      have := noBeg s' (n + 1) s l' (by omega) hss m hl (by omega)
      rw [hc, c'] at this
      exact absurd rfl this
    · subst h
      exact absurd hk' ((t.no k n v b hk hb2 hx).1 k')
    · exact ⟨h, t.up k n v b x hk hb2 hx h⟩

/-- A leaf is put. -/
theorem Trie.leaf (t : Trie ls Ins Beg P F) (ok : OkC ls) {s n : Nat} (hl : ls[s]? = some ((n + 1 : Nat) : Int)) (hs : Beg s) (hns : ¬ Ins s) {k : Nat} (hk : P[k]? = some (n, codeM ls s / 2)) (hib : ∀ i, Ins i → Beg i)
    (path : ∀ j, j ≤ n → ∃ k : Nat, P[k]? = some (j, codeM ls s / 2 ^ (n + 1 - j))) :
    Trie ls (fun i => Ins i ∨ i = s) Beg P (F.set (k * 2 + (codeM ls s % 2).toNat) (-1 - (s : Int))) := by
  have hb2 : (codeM ls s % 2).toNat < 2 := by omega
  have hcode : 2 * (codeM ls s / 2) + ((codeM ls s % 2).toNat : Int) = codeM ls s := by omega
  obtain ⟨x, hx⟩ := t.get hk hb2
  have hx0 : x = 0 := by
    rcases Int.lt_trichotomy x 0 with h | h | h
    · obtain ⟨s', i', e, l', c'⟩ := t.sy _ _ _ _ _ hk hb2 hx h
      rw [hcode] at c'
      have hss : s ≠ s' := fun hh => by subst hh; exact hns i'
      have := no_prefix ok hss hl l' (by omega) (Nat.le_refl _)
      rw [Nat.sub_self, Int.pow_zero, Int.ediv_one, c'] at this
      exact absurd rfl this
    · exact h
    · have hp := t.up _ _ _ _ _ hk hb2 hx h
      rw [hcode] at hp
      obtain ⟨s', m', _, l', hm', c'⟩ := t.beg _ _ _ hp (by omega)
      have hss : s ≠ s' := fun hh => by subst hh; rw [hl] at l'; have := Option.some.inj l'; omega
      exact absurd c' (no_prefix ok hss hl l' (by omega) (by omega))
  subst hx0
  have hkl := (List.getElem?_eq_some_iff.1 hx).1
  have get : ∀ (k' b : Nat) (y : Int), b < 2 → (F.set (k * 2 + (codeM ls s % 2).toNat) (-1 - (s : Int)))[k' * 2 + b]? = some y → (k' = k ∧ b = (codeM ls s % 2).toNat ∧ y = -1 - (s : Int)) ∨ (¬ (k' = k ∧ b = (codeM ls s % 2).toNat) ∧ F[k' * 2 + b]? = some y) := fun k' b y hb hy => by
    rw [List.getElem?_set] at hy
    split at hy
    · rename_i he
      left
      first
        | (cases hy; exact ⟨by omega, by omega, rfl⟩)
        | (split at hy
           · cases hy; exact ⟨by omega, by omega, rfl⟩
           · cases hy)
    · rename_i he
      exact .inr ⟨fun hh => he (by rw [hh.1, hh.2]), hy⟩
  refine ⟨by rw [List.length_set]; exact t.len, t.root, t.inj, fun k' n' v b y h1 h2 h3 h4 => ?_, fun k' n' v b y h1 h2 h3 h4 => ?_, fun k' n' v b h1 h2 h3 => ?_, t.par, fun i m h1 h2 h3 j hj => ?_, t.beg⟩
  · rcases get k' b y h2 h3 with ⟨_, _, rfl⟩ | ⟨_, h⟩
    · omega
    · exact t.up k' n' v b y h1 h2 h h4
  · rcases get k' b y h2 h3 with ⟨rfl, rfl, rfl⟩ | ⟨_, h⟩
    · rw [hk] at h1; cases h1
      exact ⟨s, .inr rfl, rfl, hl, hcode.symm⟩
    · obtain ⟨s', a, b', c⟩ := t.sy k' n' v b y h1 h2 h h4
      exact ⟨s', .inl a, b', c⟩
  · rcases get k' b 0 h2 h3 with ⟨rfl, rfl, h⟩ | ⟨hne, h⟩
    · omega
    · obtain ⟨a, c⟩ := t.no k' n' v b h1 h2 h
      refine ⟨a, fun i hi hli hci => ?_⟩
      rcases hi with hi | rfl
      · exact c i hi hli hci
      · rw [hl] at hli
        have hnn : n = n' := by have := Option.some.inj hli; omega
        subst hnn
        have hv : codeM ls i / 2 = v := by rw [hci]; exact (half_bit v b h2).1
        rw [hv] at hk
        have := t.inj _ _ _ hk h1
        subst this
        refine hne ⟨rfl, ?_⟩
        rw [hci, (half_bit v b h2).2]; omega
  · rcases h1 with h1 | rfl
    · exact t.ins i m h1 h2 h3 j hj
    · rw [hl] at h2
      have hm : n + 1 = m := by have := Option.some.inj h2; omega
      subst hm
      exact path j (by omega)

/-- A node is added. -/
theorem Trie.node (t : Trie ls Ins Beg P F) (ok : OkC ls) {s m n : Nat} {v : Int} {b : Nat} (hl : ls[s]? = some (m : Int)) (hs : Beg s) (hk0 : n + 1 < m) {k : Nat} (hk : P[k]? = some (n, v)) (hb2 : b < 2) (hcode : codeM ls s / 2 ^ (m - (n + 1)) = 2 * v + b)
    (hx : F[k * 2 + b]? = some 0) : Trie ls Ins Beg (P ++ [(n + 1, 2 * v + b)]) ((F ++ [0, 0]).set (k * 2 + b) P.length) := by
  have hF := t.len
  have hkl := (List.getElem?_eq_some_iff.1 hk).1
  obtain ⟨hno1, hno2⟩ := t.no k n v b hk hb2 hx
  have pg : ∀ (i : Nat) y, (P ++ [(n + 1, 2 * v + b)])[i]? = some y → (P[i]? = some y) ∨ (i = P.length ∧ y = (n + 1, 2 * v + b)) := fun i y hy => by
    by_cases hi : i < P.length
    · rw [List.getElem?_append_left hi] at hy; exact .inl hy
    · rw [List.getElem?_append_right (by omega)] at hy
      have hlt := (List.getElem?_eq_some_iff.1 hy).1
      have : i - P.length = 0 := by simpa using hlt
      rw [this] at hy
      simp at hy
      exact .inr ⟨by omega, hy.symm⟩
  have pk : ∀ {i : Nat} {y : Nat × Int}, P[i]? = some y → (P ++ [(n + 1, 2 * v + b)])[i]? = some y := fun {i y} hy => by
    rw [List.getElem?_append_left (List.getElem?_eq_some_iff.1 hy).1]; exact hy
  have pnew : (P ++ [(n + 1, 2 * v + b)])[P.length]? = some (n + 1, 2 * v + b) := by simp
  have get : ∀ (k' b' : Nat) (y : Int), b' < 2 → ((F ++ [0, 0]).set (k * 2 + b) (P.length : Int))[k' * 2 + b']? = some y → (k' = k ∧ b' = b ∧ y = P.length) ∨ (k' = P.length ∧ y = 0) ∨ (¬ (k' = k ∧ b' = b) ∧ F[k' * 2 + b']? = some y) := fun k' b' y hb hy => by
    rw [List.getElem?_set] at hy
    split at hy
    · rename_i he
      left
      first
        | (cases hy; exact ⟨by omega, by omega, rfl⟩)
        | (split at hy
           · cases hy; exact ⟨by omega, by omega, rfl⟩
           · cases hy)
    · rename_i he
      by_cases hlt : k' * 2 + b' < F.length
      · rw [List.getElem?_append_left hlt] at hy
        exact .inr (.inr ⟨fun hh => he (by rw [hh.1, hh.2]), hy⟩)
      · rw [List.getElem?_append_right (by omega)] at hy
        have hlt2 := (List.getElem?_eq_some_iff.1 hy).1
        simp at hlt2
        refine .inr (.inl ⟨by omega, ?_⟩)
        have : k' * 2 + b' - F.length = 0 ∨ k' * 2 + b' - F.length = 1 := by omega
        rcases this with h | h <;> (rw [h] at hy; simp at hy; exact hy.symm)
  -- nothing is below the new node yet
  have below : ∀ (w : Int) (b' : Nat), b' < 2 → w = 2 * v + b → ∀ j : Nat, P[j]? ≠ some (n + 1 + 1, 2 * w + b') := fun w b' hb' hw j hj => by
    obtain ⟨j', hj'⟩ := t.par j (n + 1) _ hj
    rw [(half_bit w b' hb').1, hw] at hj'
    exact hno1 j' hj'
  refine ⟨by simp; omega, pk t.root, fun i j y h1 h2 => ?_, fun k' n' v' b' y h1 h2 h3 h4 => ?_, fun k' n' v' b' y h1 h2 h3 h4 => ?_, fun k' n' v' b' h1 h2 h3 => ?_, fun k' n' v' h1 => ?_, fun i m' h1 h2 h3 j hj => ?_, fun k' n' v' h1 h2 => ?_⟩
  · rcases pg i y h1 with h1 | ⟨e1, y1⟩
    · rcases pg j y h2 with h2 | ⟨e2, y2⟩
      · exact t.inj i j y h1 h2
      · rw [y2] at h1; exact absurd h1 (hno1 i)
    · rcases pg j y h2 with h2 | ⟨e2, y2⟩
      · rw [y1] at h2; exact absurd h2 (hno1 j)
      · omega
  · rcases get k' b' y h2 h3 with ⟨rfl, rfl, rfl⟩ | ⟨rfl, rfl⟩ | ⟨_, h⟩
    · rw [pk hk] at h1; cases h1
      rw [Int.toNat_natCast]; exact pnew
    · omega
    · rcases pg k' _ h1 with h1 | ⟨e, _⟩
      · exact pk (t.up k' n' v' b' y h1 h2 h h4)
      · have := (List.getElem?_eq_some_iff.1 h).1; omega
  · rcases get k' b' y h2 h3 with ⟨rfl, rfl, rfl⟩ | ⟨rfl, rfl⟩ | ⟨_, h⟩
    · omega
    · omega
    · rcases pg k' _ h1 with h1 | ⟨e, _⟩
      · exact t.sy k' n' v' b' y h1 h2 h h4
      · have := (List.getElem?_eq_some_iff.1 h).1; omega
  · rcases get k' b' 0 h2 h3 with ⟨rfl, rfl, h⟩ | ⟨rfl, _⟩ | ⟨hne, h⟩
    · omega
    · rw [pnew] at h1; cases h1
      refine ⟨fun j hj => ?_, fun i hi hli hci => ?_⟩
      · rcases pg j _ hj with hj | ⟨_, he⟩
        · exact below _ b' h2 rfl j hj
        · cases he
      · obtain ⟨k2, hk2⟩ := t.ins i (n + 1 + 1) hi hli (by omega) (n + 1) (by omega)
        have e : n + 1 + 1 - (n + 1) = 1 := by omega
        rw [e, Int.pow_one, hci, (half_bit _ b' h2).1] at hk2
        exact hno1 k2 hk2
    · rcases pg k' _ h1 with h1 | ⟨e, _⟩
      · obtain ⟨a, c⟩ := t.no k' n' v' b' h1 h2 h
        refine ⟨fun j hj => ?_, c⟩
        rcases pg j _ hj with hj | ⟨_, he⟩
        · exact a j hj
        · rw [Prod.mk.injEq] at he
          have hv : v' = v ∧ b' = b := by omega
          have hn : n' = n := by omega
          rw [hn, hv.1] at h1
          exact hne ⟨t.inj _ _ _ h1 hk, hv.2⟩
      · have := (List.getElem?_eq_some_iff.1 h).1; omega
  · rcases pg k' _ h1 with h1 | ⟨_, he⟩
    · obtain ⟨j, hj⟩ := t.par k' n' v' h1; exact ⟨j, pk hj⟩
    · rw [Prod.mk.injEq] at he
      refine ⟨k, ?_⟩
      rw [he.2, (half_bit v b hb2).1]
      have : n' = n := by omega
      rw [this]; exact pk hk
  · obtain ⟨k', hk'⟩ := t.ins i m' h1 h2 h3 j hj
    exact ⟨k', pk hk'⟩
  · rcases pg k' _ h1 with h1 | ⟨_, he⟩
    · exact t.beg k' n' v' h1 h2
    · rw [Prod.mk.injEq] at he
      exact ⟨s, m, hs, hl, by omega, by rw [he.1, he.2]; exact hcode⟩

theorem Trie.first (ls : List Int) (Beg : Nat → Prop) : Trie ls (fun _ => False) Beg [(0, 0)] [0, 0] := by
  have one : ∀ {k : Nat} {y : Nat × Int}, [((0 : Nat), (0 : Int))][k]? = some y → k = 0 ∧ y = (0, 0) := fun {k y} h => by
    cases k with
    | zero => simp at h; exact ⟨rfl, h.symm⟩
    | succ k => simp at h
  have zz : ∀ {k b : Nat} {y : Int}, k = 0 → b < 2 → ([0, 0] : List Int)[k * 2 + b]? = some y → y = 0 := fun {k b y} hk hb h => by
    subst hk
    have : b = 0 ∨ b = 1 := by omega
    rcases this with rfl | rfl <;> (simp at h; exact h.symm)
  refine ⟨rfl, rfl, fun i j x h1 h2 => by rw [(one h1).1, (one h2).1], fun k n v b x h1 h2 h3 h4 => ?_, fun k n v b x h1 h2 h3 h4 => ?_, fun k n v b h1 h2 h3 => ⟨fun j hj => ?_, fun s hs => hs.elim⟩, fun k n v h1 => ?_, fun s n hs => hs.elim, fun k n v h1 h2 => ?_⟩
  · have := zz (one h1).1 h2 h3; omega
  · have := zz (one h1).1 h2 h3; omega
  · have := (one hj).2; simp at this
  · have := (one h1).2; simp at this
  · have := (one h1).2; rw [Prod.mk.injEq] at this; omega

theorem Trie.mono {Ins' Beg' : Nat → Prop} (t : Trie ls Ins Beg P F) (h1 : ∀ s, Ins s ↔ Ins' s) (h2 : ∀ s, Beg s → Beg' s) : Trie ls Ins' Beg' P F := by
  refine ⟨t.len, t.root, t.inj, t.up, fun k n v b x a1 a2 a3 a4 => ?_, fun k n v b a1 a2 a3 => ?_, t.par, fun s n a1 => t.ins s n ((h1 s).2 a1), fun k n v a1 a2 => ?_⟩
  · obtain ⟨s, a, b'⟩ := t.sy k n v b x a1 a2 a3 a4; exact ⟨s, (h1 s).1 a, b'⟩
  · obtain ⟨a, b'⟩ := t.no k n v b a1 a2 a3; exact ⟨a, fun s hs => b' s ((h1 s).2 hs)⟩
  · obtain ⟨s, m, a, b'⟩ := t.beg k n v a1 a2; exact ⟨s, m, h2 s a, b'⟩

end
end Go.Proofs
