/-
  OWN WORK. 'Lengths' over heaps: what it comes to in plain lists.
-/
import Derived.Test.YtmimlpfnhmokeaaHuffF
set_option linter.unusedVariables false
set_option linter.unusedSimpArgs false
namespace Go.Proofs
open Go.Sh

def leavesFrom (i : Nat) : List Int → List Pk
  | [] => []
  | n :: r => (if n > 0 then [⟨n, [(i : Int)]⟩] else []) ++ leavesFrom (i + 1) r
def leavesM (cs : List Int) : List Pk := leavesFrom 0 cs

theorem leavesFrom_append (i : Nat) : ∀ (a b : List Int), leavesFrom i (a ++ b) = leavesFrom i a ++ leavesFrom (i + a.length) b
  | [], b => by simp [leavesFrom]
  | n :: r, b => by
    have e : i + 1 + r.length = i + (n :: r).length := by simp; omega
    simp only [List.cons_append, leavesFrom]
    rw [leavesFrom_append (i + 1) r b, e, List.append_assoc]

theorem leavesM_snoc {cs : List Int} {s : Nat} {n : Int} (h : cs[s]? = some n) : leavesM (cs.take (s + 1)) = leavesM (cs.take s) ++ (if n > 0 then [⟨n, [(s : Int)]⟩] else []) := by
  obtain ⟨hl, hv⟩ := List.getElem?_eq_some_iff.1 h
  unfold leavesM
  rw [List.take_succ_eq_append_getElem hl, leavesFrom_append, hv]
  have : (cs.take s).length = s := by simp; omega
  rw [this, Nat.zero_add]
  simp [leavesFrom]

theorem leavesFrom_mem {i : Nat} {cs : List Int} {x : Pk} (h : x ∈ leavesFrom i cs) : ∃ k n, cs[k]? = some n ∧ n > 0 ∧ x = ⟨n, [((i + k : Nat) : Int)]⟩ := by
  induction cs generalizing i with
  | nil => simp [leavesFrom] at h
  | cons n r ih =>
    rcases List.mem_append.1 h with h | h
    · split at h
      · rename_i hn
        simp at h
        exact ⟨0, n, rfl, hn, h⟩
      · simp at h
    · obtain ⟨k, m, h1, h2, h3⟩ := ih h
      exact ⟨k + 1, m, by simpa using h1, h2, by rw [h3]; congr 3; omega⟩

theorem leavesFrom_len (i : Nat) (cs : List Int) : (leavesFrom i cs).length ≤ cs.length := by
  induction cs generalizing i with
  | nil => simp [leavesFrom]
  | cons n r ih =>
    have := ih (i + 1)
    simp only [leavesFrom, List.length_append, List.length_cons]
    split <;> simp <;> omega

def rowM (ls : List Pk) : Nat → List Pk
  | 0 => []
  | k + 1 => ssort (ls ++ pairsM (rowM ls k))

theorem pairsM_len : ∀ (L : List Pk), (pairsM L).length = L.length / 2
  | [] => rfl
  | [a] => by simp [pairsM]
  | a :: b :: r => by simp only [pairsM, List.length_cons, pairsM_len r]; omega

theorem pairsM_mem : ∀ {L : List Pk} {x : Pk}, x ∈ pairsM L → ∃ a ∈ L, ∃ b ∈ L, x = ⟨a.c + b.c, a.s ++ b.s⟩
  | a :: b :: r, x, h => by
    simp only [pairsM, List.mem_cons] at h
    rcases h with rfl | h
    · exact ⟨a, List.mem_cons_self, b, by simp, rfl⟩
    · obtain ⟨c, hc, d, hd, e⟩ := pairsM_mem h
      exact ⟨c, by simp [hc], d, by simp [hd], e⟩
  | [a], x, h => by simp [pairsM] at h
  | [], x, h => by simp [pairsM] at h

theorem rowM_mem {ls : List Pk} {k : Nat} {x : Pk} (h : x ∈ rowM ls (k + 1)) : x ∈ ls ∨ x ∈ pairsM (rowM ls k) := List.mem_append.1 ((ssort_perm _).mem_iff.1 h)

theorem rowM_bnd {ls : List Pk} (hls : PkB ls 1099511627776 1) : ∀ k : Nat, PkB (rowM ls k) (1099511627776 * 2 ^ k) (2 ^ k)
  | 0 => fun x hx => by simp [rowM] at hx
  | k + 1 => fun x hx => by
    have p1 : (1 : Int) ≤ 2 ^ k := Int.pow_pos (by omega)
    have p2 : 1 ≤ 2 ^ k := Nat.one_le_two_pow
    have e1 : (2 : Int) ^ (k + 1) = 2 ^ k * 2 := Int.pow_succ ..
    have e2 : 2 ^ (k + 1) = 2 ^ k * 2 := Nat.pow_succ ..
    rw [e1, e2]
    rcases rowM_mem hx with hx | hx
    · have := hls x hx
      generalize (2 : Int) ^ k = y at *
      generalize 2 ^ k = z at *
      omega
    · obtain ⟨a, ha, b, hb, rfl⟩ := pairsM_mem hx
      have h1 := rowM_bnd hls k a ha
      have h2 := rowM_bnd hls k b hb
      simp only [List.length_append]
      generalize (2 : Int) ^ k = y at *
      generalize 2 ^ k = z at *
      omega

theorem rowM_syms {ls : List Pk} {N : Int} (hls : ∀ x ∈ ls, ∀ s ∈ x.s, 0 ≤ s ∧ s < N) : ∀ k : Nat, ∀ x ∈ rowM ls k, ∀ s ∈ x.s, 0 ≤ s ∧ s < N
  | 0, x, hx, _, _ => by simp [rowM] at hx
  | k + 1, x, hx, s, hs => by
    rcases rowM_mem hx with hx | hx
    · exact hls x hx s hs
    · obtain ⟨a, ha, b, hb, rfl⟩ := pairsM_mem hx
      rcases List.mem_append.1 hs with hs | hs
      · exact rowM_syms hls k a ha s hs
      · exact rowM_syms hls k b hb s hs

theorem rowM_len (ls : List Pk) (k : Nat) : (rowM ls (k + 1)).length = ls.length + (rowM ls k).length / 2 := by
  show (ssort _).length = _
  rw [ssort_len, List.length_append, pairsM_len]

theorem rowM_len_le (ls : List Pk) : ∀ k, (rowM ls k).length ≤ 2 * ls.length
  | 0 => by simp [rowM]
  | k + 1 => by rw [rowM_len]; have := rowM_len_le ls k; omega

theorem rowM_len_ge {ls : List Pk} {m : Nat} (hn : ls.length ≤ 2 ^ m) : ∀ k, k + 1 ≤ m → 2 * ls.length ≤ (rowM ls (k + 1)).length + 2 ^ (m - k)
  | 0, h => by rw [rowM_len]; simp [rowM]; omega
  | k + 1, h => by
    have ih := rowM_len_ge hn k (by omega)
    rw [rowM_len]
    have e : 2 ^ (m - k) = 2 ^ (m - (k + 1)) * 2 := by rw [← Nat.pow_succ]; congr 1; omega
    rw [e] at ih
    generalize 2 ^ (m - (k + 1)) = z at *
    omega

theorem rowM_whole {ls : List Pk} {m : Nat} (h1 : 1 ≤ m) (hn : ls.length ≤ 2 ^ m) : 2 * ls.length - 2 ≤ (rowM ls m).length := by
  obtain ⟨k, rfl⟩ : ∃ k, m = k + 1 := ⟨m - 1, by omega⟩
  have := rowM_len_ge hn k (Nat.le_refl _)
  have e : k + 1 - k = 1 := by omega
  rw [e] at this
  omega

def bump (o : List Int) (s : Int) : List Int := o.set s.toNat (o.getD s.toNat 0 + 1)

def lenM (cs : List Int) (most : Nat) : List Int :=
  if (leavesM cs).length = 1 then (List.replicate cs.length 0).set (((leavesM cs).headD default).s.headD 0).toNat 1
  else (((rowM (ssort (leavesM cs)) most).take (2 * (leavesM cs).length - 2)).flatMap (·.s)).foldl bump (List.replicate cs.length 0)

structure OkL (cs : List Int) (most : Int) : Prop where
  m1 : 1 ≤ most
  m2 : most ≤ 16
  len : cs.length ≤ 300
  rng : ∀ n ∈ cs, 0 ≤ n ∧ n ≤ 1099511627776
  few : (leavesM cs).length ≤ 2 ^ most.toNat

theorem bump_len (o : List Int) (s : Int) : (bump o s).length = o.length := by simp [bump]
theorem foldl_bump_len (l : List Int) (o : List Int) : (l.foldl bump o).length = o.length := by
  induction l generalizing o with
  | nil => rfl
  | cons s r ih => simp only [List.foldl_cons]; rw [ih, bump_len]
theorem bump_rng {o : List Int} {s : Int} {T : Int} (h : ∀ v ∈ o, 0 ≤ v ∧ v ≤ T) (hT : 0 ≤ T) : ∀ v ∈ bump o s, 0 ≤ v ∧ v ≤ T + 1 := fun v hv => by
  unfold bump at hv
  rcases List.mem_or_eq_of_mem_set hv with hv | rfl
  · have := h v hv; omega
  · rw [List.getD_eq_getElem?_getD]
    cases hg : o[s.toNat]? with
    | none => simp; omega
    | some u => have := h u (List.mem_of_getElem? hg); simp; omega

theorem shl_one {m : Int} (h1 : 1 ≤ m) (h2 : m ≤ 16) : shlI .i64 (1 : Int) m = ((2 ^ m.toNat : Nat) : Int) := by
  have : m = 1 ∨ m = 2 ∨ m = 3 ∨ m = 4 ∨ m = 5 ∨ m = 6 ∨ m = 7 ∨ m = 8 ∨ m = 9 ∨ m = 10 ∨ m = 11 ∨ m = 12 ∨ m = 13 ∨ m = 14 ∨ m = 15 ∨ m = 16 := by omega
  rcases this with h | h | h | h | h | h | h | h | h | h | h | h | h | h | h | h <;> subst h <;> decide

set_option maxHeartbeats 4000000 in
theorem c11 {H : Heap} {p : Option Addr} {l c : Nat} {cs : List Int} {most : Int} (h : IS H p l (ints cs)) (hl : l ≤ 100000) {R : Value → Heap → Prop}
    (hbad : ∀ H', Ext H H' → ¬ OkL cs most → R (.tuple #[.slice none 0 0, .bool false]) H')
    (hgood : OkL cs most → ∀ H' b, FS H.size H' (some ⟨b, 0, none⟩) l l 3 1 (ints (lenM cs most.toNat)) → Ext H H' → R (.tuple #[.slice (some ⟨b, 0, none⟩) l l, .bool true]) H') :
    CallsH Try.prog 11 #[.slice p l c, .int .i64 most] H R := by
  have hcl : cs.length = l := by have := h.len; rw [ints_len] at this; omega
  refine Try.s11 ?_
  unfold Try.S11 alc
  intro J hJ
  refine br_dec (fun hm => hbad H (Ext.refl _) fun ok => by have := ok.m1; omega) (fun m1 => br_dec (fun hm => hbad H (Ext.refl _) fun ok => by have := ok.m2; omega) (fun m2 => br_dec (fun hm => hbad H (Ext.refl _) fun ok => by have := ok.len; omega) (fun l300 => hJ H ?_)))
  have m1 : 1 ≤ most := by omega
  have m2 : most ≤ 16 := by omega
  have l300 : l ≤ 300 := by omega
  intro X hX
  have loop : ∀ (m s : Nat) (H1 : Heap) (q : Option Addr) (k c' : Nat) (xs : List It), l - s = m → s ≤ l → Ext H H1 → FS H.size H1 q k c' 44 2 (flat xs) → All (fun _ => False) H1 xs (leavesM (cs.take s)) → (∀ n ∈ cs.take s, 0 ≤ n ∧ n ≤ 1099511627776) → X [.slice q k c', .int .i64 s] H1 := by
    intro m
    induction m with
    | succ m ih =>
      intro s H1 q k c' xs hm hs e1 f1 a1 rg
      have ws : IntKind.wrap .i64 ((s : Int) + 1) = ((s + 1 : Nat) : Int) := by rw [wrap_id (by omega) (by omega)]; omega
      have hsl : s < cs.length := by omega
      have hv : cs[s]? = some cs[s] := List.getElem?_eq_getElem hsl
      have htake : cs.take (s + 1) = cs.take s ++ [cs[s]] := List.take_succ_eq_append_getElem hsl
      have hmem : cs[s] ∈ cs := List.getElem_mem hsl
      generalize cs[s] = n at hv htake hmem
      obtain ⟨blk, hp, cv⟩ := (h.ext e1).cell (ints_get hv)
      have hsn := leavesM_snoc hv
      have hkl : k ≤ s := by
        have e2 := f1.len
        rw [flat_len] at e2
        have e3 := a1.1
        have e4 := leavesFrom_len 0 (cs.take s)
        have e5 : (leavesM (cs.take s)).length ≤ s := by unfold leavesM; simp at e4; omega
        omega
      refine hX q k c' _ H1 (br_y (by omega) ⟨_, hp, by omega, by omega, n, by simpa using cv, ?_⟩)
      rw [ws]
      intro J1 hJ1
      refine br_dec (fun hneg => hbad H1 e1 fun ok => by have := ok.rng n hmem; omega) (fun hn0 => br_dec (fun hbig => hbad H1 e1 fun ok => by have := ok.rng n hmem; omega) (fun hn1 => hJ1 H1 ?_))
      have rg' : ∀ x ∈ cs.take (s + 1), 0 ≤ x ∧ x ≤ 1099511627776 := fun x hx => by
        rw [htake] at hx
        rcases List.mem_append.1 hx with hx | hx
        · exact rg x hx
        · rw [List.mem_singleton] at hx; subst hx; omega
      refine br_dec (fun hpos => ?_) (fun hz => ?_)
      · have hb2 := get_push_self H1 (.cells #[Value.int .i64 s] 3)
        have e2 : Ext H1 (H1.push (.cells #[Value.int .i64 s] 3)) := Ext.push _ _
        refine ⟨rfl, by omega, ?_⟩
        have ha : (List.toArray (setL [Value.int .i64 0, Value.slice none 0 0] 0 (Array.toList #[Value.int .i64 n, Value.slice (some ⟨H1.size, 0, none⟩) 1 1]))) = #[Value.int .i64 n, Value.slice (some ⟨H1.size, 0, none⟩) 1 1] := rfl
        rw [ha]
        generalize hH2 : H1.push (.cells #[Value.int .i64 s] 3) = H2 at hb2 e2
        have e3 : Ext H2 (H2.push (.cells #[Value.int .i64 n, Value.slice (some ⟨H1.size, 0, none⟩) 1 1] 44)) := Ext.push _ _
        have hb3 := get_push_self H2 (.cells #[Value.int .i64 n, Value.slice (some ⟨H1.size, 0, none⟩) 1 1] 44)
        generalize H2.push (.cells #[Value.int .i64 n, Value.slice (some ⟨H1.size, 0, none⟩) 1 1] 44) = H3 at e3 hb3
        have e13 := e2.trans e3
        have src : RS H3 (some ⟨H2.size, 0, none⟩) 1 44 2 (flat [⟨n, .slice (some ⟨H1.size, 0, none⟩) 1 1, 0⟩]) :=
          ⟨rfl, by intro z hz; simp [flat] at hz; rcases hz with rfl | rfl <;> rfl, .inr ⟨H2.size, _, rfl, hb3, fun i z hz => by simpa [flat] using hz⟩⟩
        have f3 := f1.ext e13
        have sz := (e1.trans e13).size
        refine f3.app src (by decide) sz rfl (by omega) (by omega) fun q5 c5 H5 f5 hk5 hs5 => ?_
        rw [← flat_append] at f5
        have k3 : ∀ (b : Nat) cs, ¬ (fun _ => False) b → H3[b]? = some (.cells cs 3) → H5[b]? = some (.cells cs 3) := fun b cs _ hb => by
          refine hk5 b _ hb fun hq => ?_
          rcases f3.at_ with ⟨h1, _⟩ | ⟨blk, cs', h1, _, h3, _⟩
          · rw [h1] at hq; cases hq
          · rw [h1] at hq; cases hq; rw [hb] at h3; cases h3
        have e5 : Ext H H5 := fun b o hb => by
          refine hk5 b o ((e1.trans e13) b o hb) fun hq => ?_
          have hlt := lt_of_get hb
          rcases f3.at_ with ⟨h1, _⟩ | ⟨blk, cs', h1, h2, _⟩
          · rw [h1] at hq; cases hq
          · rw [h1] at hq; cases hq; omega
        refine ih (s + 1) H5 q5 (k + 1) c5 _ (by omega) (by omega) e5 f5 ?_ rg'
        rw [hsn, if_pos hpos]
        refine ((a1.ext e13).append ⟨rfl, fun i a b ha hb => ?_⟩).keep k3
        match i, ha, hb with
        | 0, ha, hb =>
          simp at ha hb; subst ha hb
          refine ⟨rfl, some ⟨H1.size, 0, none⟩, 1, 1, rfl, ⟨rfl, ints_one _, .inr ⟨H1.size, _, rfl, e3 _ _ hb2, fun i v hv => by simpa [ints] using hv⟩⟩, fun b _ hh => hh⟩
        | i + 1, ha, hb => simp at ha
      · refine ih (s + 1) H1 q k c' xs (by omega) (by omega) e1 f1 ?_ rg'
        rw [hsn, if_neg hz, List.append_nil]
        exact a1
    | zero =>
      intro s H1 q k c' xs hm hs e1 f1 a1 rg
      have hsl : s = l := by omega
      rw [List.take_of_length_le (by omega)] at a1 rg
      have hkL : (leavesM cs).length = k := by have := f1.len; rw [flat_len] at this; have := a1.1; omega
      have hkl : k ≤ l := by have := leavesFrom_len 0 cs; unfold leavesM at hkL; omega
      refine hX q k c' _ H1 (br_n (by omega) ⟨by omega, by omega, by omega, by omega, by omega, ?_⟩)
      rw [shl_one m1 m2, Int.toNat_natCast]
      have hb2 := get_push_self H1 (.cells (List.toArray (reps l [Value.int .i64 0])) 3)
      have e2 : Ext H1 (H1.push (.cells (List.toArray (reps l [Value.int .i64 0])) 3)) := Ext.push _ _
      have out2 : FS H.size (H1.push (.cells (List.toArray (reps l [Value.int .i64 0])) 3)) (some ⟨H1.size, 0, none⟩) l l 3 1 (ints (List.replicate l 0)) := zeros_FS e1.size hb2
      have hsz2 : (H1.push (.cells (List.toArray (reps l [Value.int .i64 0])) 3)).size = H1.size + 1 := by simp
      generalize H1.push (.cells (List.toArray (reps l [Value.int .i64 0])) 3) = H2 at e2 out2 hsz2
      -- the leaves' symbols do not lie in 'out'
      have a2 : All (· = H1.size) H2 xs (leavesM cs) := by
        refine ⟨a1.1, fun i x y hx hy => ?_⟩
        obtain ⟨u1, q1, l1, c1, u2, u3, _⟩ := a1.2 i x y hx hy
        refine ⟨u1, q1, l1, c1, u2, u3.ext e2, fun b hb hh => ?_⟩
        obtain ⟨k', n', _, _, hy'⟩ := leavesFrom_mem (List.mem_of_getElem? hy)
        rcases u3.at_ with h0 | ⟨blk, cs', hq, hg, _⟩
        · have := u3.len; rw [h0, ints_len, hy'] at this; simp at this
        · rw [hq] at hb; cases hb
          have := lt_of_get hg; omega
      have f2 := f1.ext e2
      refine br_dec (fun hmany => hbad H2 (e1.trans e2) fun ok => by have := ok.few; omega) (fun hfew => ?_)
      have ok : OkL cs most := ⟨m1, m2, by omega, rg, by omega⟩
      refine br_eq (fun hk1 => ?_) (fun hk1 => ?_)
      · have hk1 : k = 1 := by omega
        obtain ⟨y, hy⟩ : ∃ y, leavesM cs = [y] := List.length_eq_one_iff.1 (by omega)
        obtain ⟨x, hx⟩ : ∃ x, xs = [x] := List.length_eq_one_iff.1 (by have := a1.1; omega)
        obtain ⟨_, q1, l1, c1, xv, s1, _⟩ := a2.2 0 x y (by rw [hx]; rfl) (by rw [hy]; rfl)
        obtain ⟨k0, n0, h1, h2, h3⟩ := leavesFrom_mem (i := 0) (cs := cs) (x := y) (by show y ∈ leavesM cs; rw [hy]; simp)
        have hk0 := (List.getElem?_eq_some_iff.1 h1).1
        rw [Nat.zero_add] at h3
        have hs0 : y.s = [(k0 : Int)] := by rw [h3]
        rw [hs0] at s1
        have hl1 : l1 = 1 := by have := s1.len; simpa [ints] using this.symm
        obtain ⟨_, gv⟩ := flat_get (xs := xs) (i := 0) (x := x) (by rw [hx]; rfl)
        obtain ⟨blk, hq, cv⟩ := f2.rs.cell gv
        obtain ⟨blk1, hq1, cv1⟩ := s1.cell (i := 0) (v := .int .i64 k0) rfl
        rw [xv] at cv
        refine ⟨_, hq, by omega, by omega, q1, l1, c1, by simpa using cv, _, hq1, by omega, by omega, k0, by simpa using cv1, _, rfl, by omega, by omega, ?_⟩
        simp only [add_none, Nat.zero_add, Nat.mul_one, Int.toNat_natCast]
        refine out2.set (by rw [ints_len]; simp; omega) rfl fun H3 f3 hk3 hs3 => ?_
        refine hgood ok H3 H1.size ?_ fun b o hb => hk3 b o ((e1.trans e2) b o hb) (by have := lt_of_get hb; have := e1.size; omega)
        have : lenM cs most.toNat = (List.replicate l 0).set k0 1 := by
          unfold lenM
          rw [if_pos (by omega), hy]
          simp [hs0, hcl]
        rw [this, ← ints_set]
        exact f3
      · have hls : PkB (leavesM cs) 1099511627776 1 := fun x hx => by
          obtain ⟨k0, n0, h1, h2, h3⟩ := leavesFrom_mem hx
          have := rg n0 (List.mem_of_getElem? h1)
          rw [h3]; simp; omega
        refine sort_row cmp23 f2 a2 (by omega) (fun x hx => by have := hls x hx; omega) fun H3 r3 hk3 => ⟨rfl, ?_⟩
        have e3 : Ext H H3 := fun b o hb => by
          refine hk3 b o ((e1.trans e2) b o hb) fun hq => ?_
          have hlt := lt_of_get hb
          rcases f2.at_ with ⟨h1, _⟩ | ⟨blk, cs', h1, h2, _⟩
          · rw [h1] at hq; cases hq
          · rw [h1] at hq; cases hq; omega
        have out3 : FS H.size H3 (some ⟨H1.size, 0, none⟩) l l 3 1 (ints (List.replicate l 0)) := out2.keep fun b cs' hb hg => by
          refine hk3 b _ hg fun hq => ?_
          cases hb
          rcases f2.at_ with ⟨h1, _⟩ | ⟨blk, cs2, h1, h2, h3', _⟩
          · rw [h1] at hq; cases hq
          · rw [h1] at hq; cases hq; rw [hg] at h3'; cases h3'
        have h13 : H1.size < H3.size := by
          rcases out3.at_ with ⟨h1, _⟩ | ⟨blk, cs2, h1, h2, h3', _⟩
          · cases h1
          · cases h1; exact lt_of_get h3'
        have hsl' : (ssort (leavesM cs)).length = k := by rw [ssort_len, hkL]
        have hss : PkB (ssort (leavesM cs)) 1099511627776 1 := fun x hx => hls x ((ssort_perm _).mem_iff.1 hx)
        generalize hLS : ssort (leavesM cs) = LS at r3 hsl' hss
        have hmt : (most.toNat : Int) = most := by omega
        have pow16 : ∀ t : Nat, t ≤ 16 → (2 : Int) ^ t ≤ 65536 ∧ 2 ^ t ≤ 65536 := fun t ht => by
          have h1 : 2 ^ t ≤ 2 ^ 16 := Nat.pow_le_pow_right (by omega) ht
          have h2 : ((2 ^ t : Nat) : Int) = (2 : Int) ^ t := by simp
          have h3 : (2 : Nat) ^ 16 = 65536 := rfl
          omega
        intro Y hY
        have rows : ∀ (m t : Nat) (H4 : Heap) (q4 : Option Addr) (l4 c4 : Nat), most.toNat - t = m → t ≤ most.toNat → Ext H3 H4 → Row (· = H1.size) H4 q4 l4 (rowM LS t) → l4 ≤ c4 → Y [.slice q4 l4 c4, .int .i64 t] H4 := by
          intro m
          induction m with
          | succ m ihr =>
            intro t H4 q4 l4 c4 hm4 ht e4 r4 hlc
            have wt : IntKind.wrap .i64 ((t : Int) + 1) = ((t + 1 : Nat) : Int) := by rw [wrap_id (by omega) (by omega)]; omega
            have hl4 := r4.len
            have hle4 := rowM_len_le LS t
            have hpb := rowM_bnd hss t
            have hp16 := pow16 t (by omega)
            have sz4 := e4.size
            refine hY q4 l4 c4 _ H4 (br_y (by omega) ?_)
            rw [wt]
            refine c25 r4 (fun b hb => by omega) (by omega) (fun x hx => by have := hpb x hx; generalize (2 : Int) ^ t = y at *; generalize 2 ^ t = z at *; omega) fun H5 q5 l5 c5 r5 e5 => ⟨q5, l5, c5, rfl, ?_⟩
            have hl5 := r5.len
            rw [pairsM_len] at hl5
            have r3' : Row (· = H1.size) H5 q k LS := r3.ext (e4.trans e5)
            refine c24 r3' r5 (by omega) (fun x hx => ?_) fun H6 q6 c6 r6 hc6 e6 => ⟨q6, k + l5, c6, rfl, ?_⟩
            · rcases List.mem_append.1 hx with hx | hx
              · have := hss x hx; omega
              · obtain ⟨a, ha, b, hb, rfl⟩ := pairsM_mem hx
                have u1 := hpb a ha
                have u2 := hpb b hb
                simp only [List.length_append]
                generalize (2 : Int) ^ t = y at *
                generalize 2 ^ t = z at *
                omega
            · exact ihr (t + 1) H6 q6 (k + l5) c6 (by omega) (by omega) (e4.trans (e5.trans e6)) r6 hc6
          | zero =>
            intro t H4 q4 l4 c4 hm4 ht e4 r4 hlc
            have htm : t = most.toNat := by omega
            subst htm
            have hl4 := r4.len
            have hle4 := rowM_len_le LS most.toNat
            have few' : LS.length ≤ 2 ^ most.toNat := by omega
            have hge := rowM_whole (m := most.toNat) (by omega) few'
            refine hY q4 l4 c4 _ H4 (br_n (by omega) ?_)
            have w2k : IntKind.wrap .i64 ((2 : Int) * ((k : Nat) : Int)) = 2 * (k : Int) := wrap_id (by omega) (by omega)
            have w2k2 : IntKind.wrap .i64 (2 * (k : Int) - 2) = 2 * (k : Int) - 2 := wrap_id (by omega) (by omega)
            have hmx : max (0 : Int) (2 * (k : Int) - 2) = ((2 * k - 2 : Nat) : Int) := by omega
            rw [w2k, w2k2, hmx]
            simp only [Int.toNat_natCast, Nat.sub_zero]
            refine ⟨by omega, by omega, ?_⟩
            generalize hROW : rowM LS most.toNat = ROW at r4 hl4 hge hle4
            have hsym : ∀ x ∈ ROW, (∀ s ∈ x.s, 0 ≤ s ∧ s < (l : Int)) ∧ x.s.length ≤ 65536 := fun x hx => by
              rw [← hROW] at hx
              refine ⟨rowM_syms (N := (l : Int)) (fun y hy s hs => ?_) _ x hx, ?_⟩
              · rw [← hLS] at hy
                obtain ⟨k0, n0, h1, h2, h3⟩ := leavesFrom_mem ((ssort_perm _).mem_iff.1 hy)
                have hk0 := (List.getElem?_eq_some_iff.1 h1).1
                rw [h3] at hs; simp at hs; omega
              · have h1 := (rowM_bnd hss _ x hx).2.2
                have h2 := (pow16 most.toNat (by omega)).2
                omega
            obtain ⟨zs, rz, az⟩ := r4.ex
            have hzl : zs.length = l4 := by have := rz.len; rw [flat_len] at this; omega
            intro Z hZ
            have items : ∀ (m t : Nat) (H5 : Heap) (o : List Int), 2 * k - 2 - t = m → t ≤ 2 * k - 2 → Ext H H5 → RS H5 q4 l4 44 2 (flat zs) → All (· = H1.size) H5 zs ROW → FS H.size H5 (some ⟨H1.size, 0, none⟩) l l 3 1 (ints o) → o = ((ROW.take t).flatMap (·.s)).foldl bump (List.replicate l 0) → (∀ v ∈ o, 0 ≤ v ∧ v ≤ (t : Int) * 65536) → Z [.int .i64 t] H5 := by
              intro m
              induction m with
              | zero =>
                intro t H5 o hm5 ht5 e5 r5 a5 f5 ho hr5
                refine hZ _ H5 (br_n (by omega) ?_)
                refine hgood ok H5 H1.size ?_ e5
                have : lenM cs most.toNat = o := by
                  unfold lenM
                  rw [if_neg (by omega), hLS, hROW, hcl, ho, hkL]
                  have : t = 2 * k - 2 := by omega
                  rw [this]
                rw [this]
                exact f5
              | succ m ihi =>
                intro t H5 o hm5 ht5 e5 r5 a5 f5 ho hr5
                have wt : IntKind.wrap .i64 ((t : Int) + 1) = ((t + 1 : Nat) : Int) := by rw [wrap_id (by omega) (by omega)]; omega
                obtain ⟨x, hx⟩ : ∃ x, zs[t]? = some x := ⟨_, List.getElem?_eq_getElem (by omega)⟩
                have htR : t < ROW.length := by omega
                have hy : ROW[t]? = some ROW[t] := List.getElem?_eq_getElem htR
                have htakeR : ROW.take (t + 1) = ROW.take t ++ [ROW[t]] := List.take_succ_eq_append_getElem htR
                have hyS := hsym _ (List.getElem_mem htR)
                generalize ROW[t] = y at hy htakeR hyS
                obtain ⟨g1, g2⟩ := flat_get hx
                have hcells : ∀ (j : Nat) v, x.cells[j]? = some v → (flat zs)[t * 2 + j]? = some v := fun j v hv => by
                  match j, hv with
                  | 0, hv => simp [It.cells] at hv; subst hv; exact g1
                  | 1, hv => simp [It.cells] at hv; subst hv; exact g2
                  | j + 2, hv => simp [It.cells] at hv
                obtain ⟨blk, hq, hrow⟩ := r5.row (i := t) (by omega) (by decide) hcells
                have hc4 : c4 ≠ 0 := by omega
                refine hZ _ H5 (br_y (by omega) ?_)
                rw [wt]
                simp only [hc4, if_false, hq, Option.map_some, Nat.zero_mul]
                refine ⟨_, rfl, by omega, by omega, x.cells, rfl, by simpa using hrow, rfl, ?_⟩
                have hnew := get_push_self H5 (.cells #[Value.int .i64 0, Value.slice none 0 0] 44)
                have e6 : Ext H5 (H5.push (.cells #[Value.int .i64 0, Value.slice none 0 0] 44)) := Ext.push _ _
                have hxv : x.v.oneCell' = true := r5.one _ (List.mem_of_getElem? g2)
                refine stAt_whole hnew rfl (by intro v hv; simp [It.cells] at hv; rcases hv with rfl | rfl <;> first | rfl | exact hxv) ?_
                have e7 : Ext H5 ((H5.push (.cells #[Value.int .i64 0, Value.slice none 0 0] 44)).setIfInBounds H5.size (.cells x.cells.toList.toArray 44 (0, 0))) := fun b o hb => get_set_ne (Nat.ne_of_gt (lt_of_get hb)) (e6 _ _ hb)
                have hcp := get_set_self (o := Obj.cells x.cells.toList.toArray 44 (0, 0)) hnew
                generalize (H5.push (.cells #[Value.int .i64 0, Value.slice none 0 0] 44)).setIfInBounds H5.size (.cells x.cells.toList.toArray 44 (0, 0)) = H7 at e7 hcp
                obtain ⟨_, q8, l8, c8, xv, s8, nq8⟩ := (a5.ext e7).2 t x y hx hy
                have hl8 : y.s.length = l8 := by have := s8.len; rw [ints_len] at this; omega
                refine ⟨q8, l8, c8, by rw [add_none]; exact cell_get hcp (by simp [It.cells, xv]), ?_⟩
                intro V hV
                have syms : ∀ (m u : Nat) (H8 : Heap) (o8 : List Int), l8 - u = m → u ≤ l8 → Ext H H8 → RS H8 q4 l4 44 2 (flat zs) → All (· = H1.size) H8 zs ROW → RS H8 q8 l8 3 1 (ints y.s) → FS H.size H8 (some ⟨H1.size, 0, none⟩) l l 3 1 (ints o8) → o8 = (y.s.take u).foldl bump o → (∀ v ∈ o8, 0 ≤ v ∧ v ≤ (t : Int) * 65536 + u) → V [.int .i64 u] H8 := by
                  intro m
                  induction m with
                  | zero =>
                    intro u H8 o8 hm8 hu e8 r8 a8 s8 f8 ho8 hr8
                    refine hV _ H8 (br_n (by omega) ?_)
                    refine ihi (t + 1) H8 o8 (by omega) (by omega) e8 r8 a8 f8 ?_ fun v hv => ?_
                    · rw [ho8, htakeR, List.flatMap_append, List.foldl_append, ← ho, List.take_of_length_le (by omega)]
                      simp
                    · have := hr8 v hv
                      have := hyS.2
                      omega
                  | succ m ihs =>
                    intro u H8 o8 hm8 hu e8 r8 a8 s8 f8 ho8 hr8
                    have wu : IntKind.wrap .i64 ((u : Int) + 1) = ((u + 1 : Nat) : Int) := by rw [wrap_id (by omega) (by have := hyS.2; omega)]; omega
                    have hul : u < y.s.length := by omega
                    have hz : y.s[u]? = some y.s[u] := List.getElem?_eq_getElem hul
                    have hzr := hyS.1 _ (List.getElem_mem hul)
                    have htakeU : y.s.take (u + 1) = y.s.take u ++ [y.s[u]] := List.take_succ_eq_append_getElem hul
                    generalize y.s[u] = z at hz hzr htakeU
                    obtain ⟨bz, hqz, cz⟩ := s8.cell (ints_get hz)
                    have ho8l : o8.length = l := by have := f8.len; rw [ints_len] at this; omega
                    have hzo : o8[z.toNat]? = some o8[z.toNat] := List.getElem?_eq_getElem (by omega)
                    have hzor := hr8 _ (List.mem_of_getElem? hzo)
                    obtain ⟨bo, hbo, co⟩ := f8.rs.cell (ints_get hzo)
                    cases hbo
                    have hget : o8.getD z.toNat 0 = o8[z.toNat] := by rw [List.getD_eq_getElem?_getD, hzo]; rfl
                    have hul2 : (u : Int) ≤ 65536 := by have := hyS.2; omega
                    have htb : (t : Int) * 65536 ≤ 100000000 := by omega
                    have wv : IntKind.wrap .i64 (o8[z.toNat] + 1) = o8[z.toNat] + 1 := wrap_id (by omega) (by omega)
                    refine hV _ H8 (br_y (by omega) ⟨_, hqz, by omega, by omega, z, by simpa using cz, _, rfl, hzr.1, hzr.2, o8[z.toNat], by simpa using co, _, rfl, hzr.1, hzr.2, ?_⟩)
                    rw [wu, wv]
                    simp only [add_none, Nat.zero_add, Nat.mul_one]
                    refine f8.set (by rw [ints_len]; omega) rfl fun H9 f9 hk9 hs9 => ?_
                    rw [ints_set] at f9
                    refine ihs (u + 1) H9 _ (by omega) (by omega) (fun b o' hb => hk9 b o' (e8 b o' hb) (by have := lt_of_get hb; have := e1.size; omega)) (r8.keep fun b cs' hb hg => hk9 b _ hg fun hh => ?_) (a8.keep fun b cs' hb hg => hk9 b _ hg hb) (s8.keep fun b cs' hb hg => hk9 b _ hg (nq8 b hb)) f9 ?_ ?_
                    · rcases f8.at_ with ⟨h1, _⟩ | ⟨blk', cs2, h1, h2, h3', _⟩
                      · cases h1
                      · cases h1; rw [hh] at hg; rw [hg] at h3'; cases h3'
                    · rw [htakeU, List.foldl_append, ← ho8]
                      show o8.set z.toNat (o8[z.toNat] + 1) = bump o8 z
                      unfold bump
                      rw [hget]
                    · intro v hv
                      rcases List.mem_or_eq_of_mem_set hv with hv | rfl
                      · have := hr8 v hv; omega
                      · omega
                exact syms _ 0 H7 o rfl (by omega) (e5.trans e7) (r5.ext e7) (a5.ext e7) s8 (f5.ext e7) (by simp) (fun v hv => by have := hr5 v hv; omega)
            exact items _ 0 H4 _ rfl (by omega) (e3.trans e4) rz az (out3.ext e4) (by simp) (fun v hv => by have := (List.mem_replicate.1 hv).2; omega)
        exact rows _ 0 H3 none 0 0 rfl (by omega) (Ext.refl _) ⟨[], RS.nil _ _ _ _, ⟨rfl, fun i x y hx => by simp at hx⟩⟩ (Nat.le_refl _)
  exact loop l 0 H none 0 0 [] rfl (by omega) (Ext.refl _) (FS.nil _ _ _ _) ⟨by simp [leavesM, leavesFrom], fun i x y hx => by simp at hx⟩ (fun n hn => by simp at hn)

end Go.Proofs
