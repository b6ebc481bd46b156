/-
  OWN WORK. The document's 'sorted' over heaps.
-/
import Derived.Test.YtmimlpfnhmokeaaHuffQ
set_option linter.unusedVariables false
set_option linter.unusedSimpArgs false
namespace Go.Proofs
open Go.Sh

/-- How many are at least as great, from the first on. -/
def ahead (n : Int) : List Int → Nat
  | [] => 0
  | x :: r => if x ≥ n then ahead n r + 1 else 0
def insD (out : List Int) (n : Int) : List Int := out.take (ahead n out) ++ [n] ++ out.drop (ahead n out)
def sortD (cs : List Int) : List Int := cs.foldl (fun out n => if n ≤ 0 then out else insD out n) []

theorem ahead_le (n : Int) : ∀ l : List Int, ahead n l ≤ l.length
  | [] => Nat.le_refl _
  | x :: r => by have := ahead_le n r; unfold ahead; split <;> simp; omega
theorem ahead_spec (n : Int) : ∀ (l : List Int) (i : Nat) (v : Int), l[i]? = some v → (i < ahead n l → v ≥ n) ∧ (i = ahead n l → ¬ v ≥ n)
  | [], i, v, h => by simp at h
  | x :: r, i, v, h => by
    unfold ahead
    split
    · rename_i hx
      cases i with
      | zero => simp at h; subst h; exact ⟨fun _ => hx, fun he => by omega⟩
      | succ i =>
        simp only [List.getElem?_cons_succ] at h
        obtain ⟨a, b⟩ := ahead_spec n r i v h
        exact ⟨fun hi => a (by omega), fun he => b (by omega)⟩
    · rename_i hx
      cases i with
      | zero => simp at h; subst h; exact ⟨fun hi => by omega, fun _ => hx⟩
      | succ i => exact ⟨fun hi => by omega, fun he => by omega⟩

theorem insD_perm (out : List Int) (n : Int) : (insD out n).Perm (n :: out) := by
  unfold insD
  rw [List.append_assoc, List.singleton_append]
  refine List.perm_middle.trans ?_
  rw [List.take_append_drop]

theorem insD_sorted {out : List Int} (n : Int) (h : out.Pairwise (· ≥ ·)) : (insD out n).Pairwise (· ≥ ·) := by
  have hsplit := h
  rw [← List.take_append_drop (ahead n out) out, List.pairwise_append] at hsplit
  obtain ⟨h1, h2, h3⟩ := hsplit
  have u1 : ∀ u ∈ out.take (ahead n out), u ≥ n := fun u hu => by
    obtain ⟨i, hi⟩ := List.getElem?_of_mem hu
    have hil := (List.getElem?_eq_some_iff.1 hi).1
    have hi2 : i < ahead n out := by simp at hil; omega
    rw [List.getElem?_take_of_lt hi2] at hi
    exact (ahead_spec n out i u hi).1 hi2
  have u2 : ∀ u ∈ out.drop (ahead n out), n ≥ u := fun u hu => by
    rcases Nat.lt_or_ge (ahead n out) out.length with hlt | hge
    · have hv : out[ahead n out]? = some out[ahead n out] := List.getElem?_eq_getElem hlt
      have hx := (ahead_spec n out _ _ hv).2 rfl
      rw [List.drop_eq_getElem_cons hlt] at hu h2
      rcases List.mem_cons.1 hu with rfl | hu
      · omega
      · have := (List.pairwise_cons.1 h2).1 u hu
        omega
    · rw [List.drop_of_length_le hge] at hu; simp at hu
  unfold insD
  rw [List.append_assoc, List.pairwise_append]
  refine ⟨h1, List.pairwise_cons.2 ⟨u2, h2⟩, fun a ha b hb => ?_⟩
  rcases List.mem_cons.1 hb with rfl | hb
  · exact u1 a ha
  · have := u1 a ha; have := u2 b hb; omega

theorem sortD_snoc (cs : List Int) (n : Int) : sortD (cs ++ [n]) = if n ≤ 0 then sortD cs else insD (sortD cs) n := by simp [sortD]

theorem sortD_ok (cs : List Int) : (sortD cs).Perm (cs.filter fun n => decide (n > 0)) ∧ (sortD cs).Pairwise (· ≥ ·) := by
  have : ∀ r : List Int, (sortD r.reverse).Perm (r.filter fun n => decide (n > 0)) ∧ (sortD r.reverse).Pairwise (· ≥ ·) := fun r => by
    induction r with
    | nil => exact ⟨List.Perm.refl _, List.Pairwise.nil⟩
    | cons n r ih =>
      rw [List.reverse_cons, sortD_snoc]
      by_cases h : n ≤ 0
      · rw [if_pos h, List.filter_cons_of_neg (by simp; omega)]; exact ih
      · rw [if_neg h, List.filter_cons_of_pos (by simp; omega)]
        exact ⟨(insD_perm _ _).trans (ih.1.cons n), insD_sorted n ih.2⟩
  have h := this cs.reverse
  rw [List.reverse_reverse] at h
  exact ⟨h.1.trans (List.Perm.filter _ (List.reverse_perm cs)), h.2⟩

theorem perm_unique2 : ∀ {l m : List Int}, l.Perm m → l.Pairwise (· ≥ ·) → m.Pairwise (· ≥ ·) → l = m
  | [], m, hp, _, _ => (List.nil_perm.1 hp).symm
  | a :: l, [], hp, _, _ => absurd hp.symm (by simp)
  | a :: l, b :: m, hp, hl, hm => by
    have hl' := List.pairwise_cons.1 hl
    have hm' := List.pairwise_cons.1 hm
    have hab : a = b := by
      rcases List.mem_cons.1 (hp.mem_iff.1 List.mem_cons_self) with h | h
      · exact h
      · rcases List.mem_cons.1 (hp.mem_iff.2 (List.mem_cons_self (a := b))) with h' | h'
        · exact h'.symm
        · have := hl'.1 b h'; have := hm'.1 a h; omega
    subst hab
    rw [perm_unique2 (List.Perm.cons_inv hp) hl'.2 hm'.2]

theorem leaves_c (cs : List Int) : ∀ i : Nat, (leavesFrom i cs).map (·.c) = cs.filter fun n => decide (n > 0) := by
  induction cs with
  | nil => intro i; rfl
  | cons n r ih =>
    intro i
    simp only [leavesFrom, List.map_append, ih (i + 1)]
    by_cases h : n > 0
    · rw [if_pos h, List.filter_cons_of_pos (by simpa using h)]; rfl
    · rw [if_neg h, List.filter_cons_of_neg (by simpa using h)]; rfl

theorem sortD_eq (cs : List Int) : sortD cs = ((ssort (leavesM cs)).map (·.c)).reverse := by
  obtain ⟨h1, h2⟩ := sortD_ok cs
  refine perm_unique2 ?_ h2 ?_
  · refine h1.trans ?_
    rw [← leaves_c cs 0]
    exact (((ssort_perm (leavesM cs)).map (·.c)).symm).trans (List.reverse_perm _).symm
  · rw [List.pairwise_reverse, List.pairwise_map]
    exact (ssort_sorted (leavesM cs)).imp fun h => by omega

theorem drop_sum (LS : List Pk) (i : Nat) (hi : i ≤ LS.length) : (((LS.map (·.c)).reverse).drop i).sum = csum (LS.take (LS.length - i)) := by
  rw [List.drop_reverse, List.length_map, ← List.map_take]
  have : ∀ l : List Int, l.reverse.sum = l.sum := fun l => by
    induction l with
    | nil => rfl
    | cons a b ih => rw [List.reverse_cons, sum_append, ih]; simp; omega
  rw [this]; rfl

set_option maxHeartbeats 1000000 in
theorem c14 {H : Heap} {p : Option Addr} {l c : Nat} {cs : List Int} (h : IS H p l (ints cs)) (hl : l ≤ 1000) {R : Value → Heap → Prop} (hR : ∀ H' q k c', FS H.size H' q k c' 3 1 (ints (sortD cs)) → Ext H H' → R (.slice q k c') H') :
    CallsH Try.prog 14 #[.slice p l c] H R := by
  have hcl : cs.length = l := by have := h.len; rw [ints_len] at this; omega
  refine Try.s14 ?_
  unfold Try.S14 alc
  intro X hX
  have loop : ∀ (m i : Nat) (H1 : Heap) (q : Option Addr) (k c' : Nat), l - i = m → i ≤ l → k ≤ i → Ext H H1 → FS H.size H1 q k c' 3 1 (ints (sortD (cs.take i))) → X [.slice q k c', .int .i64 i] H1 := by
    intro m
    induction m with
    | zero =>
      intro i H1 q k c' hm hi hk e1 f1
      rw [List.take_of_length_le (by omega)] at f1
      exact hX q k c' _ H1 (br_n (by omega) (hR H1 q k c' f1 e1))
    | succ m ih =>
      intro i H1 q k c' hm hi hk e1 f1
      have wi : IntKind.wrap .i64 ((i : Int) + 1) = ((i + 1 : Nat) : Int) := by rw [wrap_id (by omega) (by omega)]; omega
      have hil : i < cs.length := by omega
      have hv : cs[i]? = some cs[i] := List.getElem?_eq_getElem hil
      have htake : cs.take (i + 1) = cs.take i ++ [cs[i]] := List.take_succ_eq_append_getElem hil
      generalize cs[i] = n at hv htake
      obtain ⟨a, hp, cv⟩ := (h.ext e1).cell (ints_get hv)
      refine hX q k c' _ H1 (br_y (by omega) ⟨_, hp, by omega, by omega, n, by simpa using cv, br_dec (fun hn => ?_) (fun hn => ?_)⟩)
      · rw [wi]
        refine ih (i + 1) H1 q k c' (by omega) (by omega) (by omega) e1 ?_
        rw [htake, sortD_snoc, if_pos hn]; exact f1
      · rw [wi]
        have hnx : sortD (cs.take (i + 1)) = insD (sortD (cs.take i)) n := by rw [htake, sortD_snoc, if_neg hn]
        generalize sortD (cs.take i) = out at f1 hnx
        have hol : out.length = k := by have := f1.len; rw [ints_len] at this; omega
        have hale := ahead_le n out
        intro J hJ
        have go : J [.int .i64 (ahead n out : Nat)] H1 := by
          refine hJ _ H1 ⟨by omega, by have := f1.le; omega, by omega, by omega, ?_⟩
          generalize hA : ahead n out = A at hale
          simp only [Int.toNat_natCast, Nat.sub_zero, Nat.zero_mul]
          have hle := f1.le
          -- the two stretches
          have row1 : ∀ {Hx : Heap}, Ext H1 Hx → rowOf Hx (if c' = 0 then q else Option.map (fun x => Addr.add x 0) q) (A * 1) (ints (out.take A)).toArray := fun {Hx} ex => by
            have fx := f1.ext ex
            rcases fx.at_ with ⟨hq, hc0⟩ | ⟨blk, cs', hq, _, hg, hsz, hgt⟩
            · rw [if_pos hc0, hq]
              have : A = 0 := by omega
              subst this; rfl
            · have e : (if c' = 0 then q else Option.map (fun x => Addr.add x 0) q) = some ⟨blk, 0, none⟩ := by
                split <;> simp [hq]
              rw [e]
              refine ⟨by simp [ints_len]; omega, rowIn_block hg fun j v hv => ?_⟩
              rw [Nat.zero_add]
              refine hgt j v ?_
              rw [List.getElem?_toArray] at hv
              simp only [ints, List.getElem?_map] at hv ⊢
              obtain ⟨z, hz, rfl⟩ := Option.map_eq_some_iff.1 hv
              have hj := (List.getElem?_eq_some_iff.1 hz).1
              simp at hj
              rw [List.getElem?_take_of_lt (by omega)] at hz
              rw [hz]; rfl
          have row2 : ∀ {Hx : Heap}, (∀ b cs', q = some ⟨b, 0, none⟩ → H1[b]? = some (.cells cs' 3) → Hx[b]? = some (.cells cs' 3)) → rowOf Hx (if c' = A then q else Option.map (fun x => Addr.add x (A * 1)) q) ((k - A) * 1) (ints (out.drop A)).toArray := fun {Hx} ex => by
            have fx := f1.keep ex
            rcases fx.at_ with ⟨hq, hc0⟩ | ⟨blk, cs', hq, _, hg, hsz, hgt⟩
            · have hA0 : A = 0 := by omega
              have : out = [] := List.length_eq_zero_iff.1 (by omega)
              subst this hA0
              rw [if_pos hc0, hq]; rfl
            · by_cases hcA : c' = A
              · rw [if_pos hcA, hq]
                refine ⟨by simp [ints_len]; omega, fun j v hv => ?_⟩
                have hj := (Array.getElem?_eq_some_iff.1 hv).1
                simp [ints_len] at hj
                omega
              · rw [if_neg hcA, hq]
                simp only [Option.map_some, add_none, Nat.zero_add, Nat.mul_one]
                refine ⟨by simp [ints_len]; omega, rowIn_block hg fun j v hv => ?_⟩
                refine hgt (A + j) v ?_
                rw [List.getElem?_toArray] at hv
                simp only [ints, List.getElem?_map, List.getElem?_drop] at hv ⊢
                exact hv
          -- the last two appends
          have two : ∀ (Hx : Heap) (p1 : Option Addr) (c1 bn : Nat), FS H1.size Hx p1 A c1 3 1 (ints (out.take A)) → Hx[bn]? = some (.cells #[Value.int .i64 n] 3) → (∀ (b : Nat) (o : Obj), H1[b]? = some o → Hx[b]? = some o) → p1 ≠ some ⟨bn, 0, none⟩ →
              appQ 1 8 #[Value.int .i64 0] Hx p1 A c1 (some ⟨bn, 0, none⟩) 1 3 fun app17p app17l app17c H_18 => appQ 1 8 #[Value.int .i64 0] H_18 app17p app17l app17c (if c' = A then q else Option.map (fun x => Addr.add x (A * 1)) q) (k - A) 3 fun out19p out19l out19c H_20 => X [Value.slice out19p out19l out19c, Value.int .i64 ((i + 1 : Nat) : Int)] H_20 := by
            intro Hx p1 c1 bn fx hbn ex hne
            have hszx : H1.size ≤ Hx.size := Ext.size ex
            have src : RS Hx (some ⟨bn, 0, none⟩) 1 3 1 (ints [n]) := ⟨rfl, ints_one _, .inr ⟨bn, _, rfl, hbn, fun i v hv => by simpa [ints] using hv⟩⟩
            refine fx.app src (by decide) hszx rfl (by omega) (by omega) fun p2 c2 H2 f2 hk2 hs2 => ?_
            rw [← ints_append] at f2
            have ex2 : ∀ (b : Nat) (o : Obj), H1[b]? = some o → H2[b]? = some o := fun b o hb => hk2 b o (ex b o hb) fun hh => by
              have hlt := lt_of_get hb
              rcases fx.at_ with ⟨h1, _⟩ | ⟨blk, cs', h1, h2, _⟩
              · rw [h1] at hh; cases hh
              · rw [h1] at hh; cases hh; omega
            refine f2.app' (row2 fun b cs' _ hb => ex2 b _ hb) (by rw [ints_len]; simp; omega) (ints_one _) (by decide) (by omega) rfl (by omega) (by omega) fun p3 c3 H3 f3 hk3 hs3 => ?_
            rw [← ints_append] at f3
            have ex3 : Ext H1 H3 := fun b o hb => hk3 b o (ex2 b o hb) fun hh => by
              have hlt := lt_of_get hb
              rcases f2.at_ with ⟨h1, _⟩ | ⟨blk, cs', h1, h2, _⟩
              · rw [h1] at hh; cases hh
              · rw [h1] at hh; cases hh; omega
            refine ih (i + 1) H3 p3 _ c3 (by omega) (by omega) (by omega) (e1.trans ex3) ?_
            rw [hnx]
            unfold insD
            rw [hA]
            exact f3.lower e1.size
          have first : ∀ (Hx : Heap) (be : Nat), H1.size ≤ be → Hx[be]? = some (.cells #[] 3) → Ext H1 Hx → ∀ K : Option Addr → Nat → Nat → Heap → Prop, (∀ p1 c1 H2, FS H1.size H2 p1 A c1 3 1 (ints (out.take A)) → (∀ (b : Nat) (o : Obj), Hx[b]? = some o → b ≠ be → H2[b]? = some o) → (p1 = some ⟨be, 0, none⟩ ∨ p1 = some ⟨Hx.size, 0, none⟩) → K p1 A c1 H2) →
              appQ 1 8 #[Value.int .i64 0] Hx (some ⟨be, 0, none⟩) 0 0 (if c' = 0 then q else Option.map (fun x => Addr.add x 0) q) A 3 K := by
            intro Hx be hbe hgb ex K hK
            refine ⟨by omega, by omega, (ints (out.take A)).toArray, row1 ex, fun h0 => ?_, fun h0 => ⟨#[], ⟨rfl, fun j v hv => by simp at hv⟩, fun c2 hc2 => ?_⟩⟩
            · have hA0 : A = 0 := by omega
              simp only [add_none, Nat.zero_add, Nat.zero_mul]
              refine Go.Sh.stAt_some hgb (by simp [ints_len]; omega) (by simpa using ints_one _) fun cc hcc hg => ?_
              have hce : cc = #[] := Array.eq_empty_of_size_eq_zero (by simpa using hcc)
              subst hce
              rw [hA0]
              rw [hA0] at hK
              refine hK _ 0 _ ⟨by simp [ints_len], Nat.le_refl _, ints_one _, .inr ⟨be, #[], rfl, hbe, get_set_self hgb, rfl, fun i v hv => by simp [ints] at hv⟩⟩ (fun b o hb hn => get_set_ne (Ne.symm hn) hb) (.inl rfl)
            · have := hK (some ⟨Hx.size, 0, none⟩) c2 (Hx.push (.cells (#[] ++ (ints (out.take A)).toArray ++ Builtin.zeroCells #[Value.int .i64 0] (c2 - (0 + A))) 3)) ⟨by rw [ints_len]; simp; omega, by omega, ints_one _, .inr ⟨Hx.size, _, rfl, ex.size, get_push_self _ _, ?_, fun i v hv => ?_⟩⟩ (fun b o hb _ => get_push hb) (.inr rfl)
              · simpa using this
              · rw [zeroCells_eq _ _ (by simp)]
                simp [reps_length, ints_len]; omega
              · rw [Array.getElem?_append_left (by have := (List.getElem?_eq_some_iff.1 hv).1; simpa using this)]
                simpa using hv
          refine ⟨⟨?_, ?_⟩, ?_⟩
          · have g1 := get_push_self H1 (.cells #[] 3)
            have x1 : Ext H1 (H1.push (.cells #[] 3)) := Ext.push _ _
            refine first _ H1.size (Nat.le_refl _) g1 x1 _ fun p1 c1 H2 f2 hk2 hp1 => ?_
            have e2 : Ext H1 H2 := fun b o hb => hk2 b o (x1 b o hb) (by have := lt_of_get hb; omega)
            refine two _ p1 c1 H2.size (f2.ext (Ext.push _ _)) (get_push_self _ _) (fun b o hb => get_push (e2 b o hb)) ?_
            rcases f2.at_ with ⟨h1, _⟩ | ⟨blk, cs', h1, h2, h3, _⟩
            · rw [h1]; exact fun hh => by cases hh
            · rw [h1]; exact fun hh => by cases hh; have := lt_of_get h3; omega
          · have g1 := get_push_self H1 (.cells #[] 3)
            have x1 : Ext H1 (H1.push (.cells #[] 3)) := Ext.push _ _
            have hs1 : (H1.push (.cells #[] 3)).size = H1.size + 1 := by simp
            generalize H1.push (.cells #[] 3) = G1 at g1 x1 hs1
            have g2 := get_push_self G1 (.cells #[Value.int .i64 n] 3)
            have x2 : Ext G1 (G1.push (.cells #[Value.int .i64 n] 3)) := Ext.push _ _
            have hs2 : (G1.push (.cells #[Value.int .i64 n] 3)).size = G1.size + 1 := by simp
            generalize G1.push (.cells #[Value.int .i64 n] 3) = G2 at g2 x2 hs2
            refine first G2 H1.size (Nat.le_refl _) (x2 _ _ g1) (x1.trans x2) _ fun p1 c1 H2 f2 hk2 hp1 => ?_
            refine two H2 p1 c1 G1.size f2 (hk2 _ _ g2 (by omega)) (fun b o hb => hk2 b o ((x1.trans x2) b o hb) (by have := lt_of_get hb; omega)) ?_
            rcases hp1 with rfl | rfl <;> (intro hh; simp at hh; try omega)
          · have g1 := get_push_self H1 (.cells #[Value.int .i64 n] 3)
            have x1 : Ext H1 (H1.push (.cells #[Value.int .i64 n] 3)) := Ext.push _ _
            have hs1 : (H1.push (.cells #[Value.int .i64 n] 3)).size = H1.size + 1 := by simp
            generalize H1.push (.cells #[Value.int .i64 n] 3) = G1 at g1 x1 hs1
            have g2 := get_push_self G1 (.cells #[] 3)
            have x2 : Ext G1 (G1.push (.cells #[] 3)) := Ext.push _ _
            have hs2 : (G1.push (.cells #[] 3)).size = G1.size + 1 := by simp
            generalize G1.push (.cells #[] 3) = G2 at g2 x2 hs2
            refine first G2 G1.size (by omega) g2 (x1.trans x2) _ fun p1 c1 H2 f2 hk2 hp1 => ?_
            refine two H2 p1 c1 H1.size f2 (hk2 _ _ (x2 _ _ g1) (by omega)) (fun b o hb => hk2 b o ((x1.trans x2) b o hb) (by have := lt_of_get hb; omega)) ?_
            rcases hp1 with rfl | rfl <;> (intro hh; simp at hh; try omega)
        intro Y hY
        have find : ∀ (m2 j : Nat), k - j = m2 → j ≤ ahead n out → Y [.int .i64 j] H1 := by
          intro m2
          induction m2 with
          | zero =>
            intro j hm2 hj
            have : j = ahead n out := by omega
            subst this
            exact hY _ H1 (br_n (by omega) go)
          | succ m2 ih2 =>
            intro j hm2 hj
            have wj : IntKind.wrap .i64 ((j : Int) + 1) = ((j + 1 : Nat) : Int) := by rw [wrap_id (by omega) (by omega)]; omega
            have hw : out[j]? = some out[j] := List.getElem?_eq_getElem (by omega)
            obtain ⟨s1, s2⟩ := ahead_spec n out j _ hw
            obtain ⟨blk, hq, cw⟩ := f1.rs.cell (ints_get hw)
            generalize out[j] = w at hw s1 s2 cw
            refine hY _ H1 (br_y (by omega) ⟨_, hq, by omega, by omega, w, by simpa using cw, br_dec (fun hge => ?_) (fun hlt => ?_)⟩)
            · rw [wj]
              exact ih2 (j + 1) (by omega) (by
                rcases Nat.lt_or_ge j (ahead n out) with h | h
                · omega
                · exact absurd hge (s2 (by omega)))
            · have : j = ahead n out := by
                rcases Nat.lt_or_ge j (ahead n out) with h | h
                · exact absurd (s1 h) hlt
                · omega
              rw [this]; exact go
        exact find _ 0 rfl (by omega)
  exact loop l 0 H none 0 0 (by omega) (by omega) (by omega) (Ext.refl _) (FS.nil _ _ _ _)

end Go.Proofs
