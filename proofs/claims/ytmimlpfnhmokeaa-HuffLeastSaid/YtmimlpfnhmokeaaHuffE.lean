/-
  OWN WORK. The library's Grow and Concat, at items and at numbers.
-/
import Derived.Test.YtmimlpfnhmokeaaHuffD
import Derived.Test.YtmimlpfnhmokeaaShS
set_option linter.unusedVariables false
set_option linter.unusedSimpArgs false
namespace Go.Proofs
open Go.Sh

theorem c33 {H : Heap} {n : Nat} (hn : n ≤ 1000000) {R : Value → Heap → Prop} (hR : ∀ H' p' c', FS H.size H' p' 0 c' 44 2 [] → Ext H H' → R (.slice p' 0 c') H') :
    CallsH Try.prog 33 #[.slice none 0 0, .int .i64 n] H R := by
  refine Try.s33 ?_
  unfold Try.S33
  intro J hJ
  refine br_n (by omega) (hJ H ?_)
  have w1 : IntKind.wrap .i64 (((0 : Nat) : Int) - ((0 : Nat) : Int)) = 0 := by decide
  have w2 : IntKind.wrap .i64 ((n : Int) - 0) = (n : Int) := by rw [wrap_id (by omega) (by omega)]; omega
  rw [w1, w2]
  refine br_dec (fun hp => ⟨by omega, by omega, by omega, by omega, ?_, by omega, fun h0 => by omega, fun _ => ⟨#[], rfl, fun c' hc' => ⟨by omega, by omega, ?_⟩⟩⟩) (fun h0 => hR H none 0 (FS.nil _ _ _ _) (Ext.refl _))
  · simp; omega
  · have hc0 : c' ≠ 0 := by simp at hc'; omega
    simp only [hc0, if_false, Option.map_some, Nat.sub_zero, Int.toNat_natCast, Nat.zero_mul, add_none, Nat.zero_add]
    refine hR _ _ c' ⟨rfl, Nat.zero_le _, by simp, .inr ⟨H.size, _, rfl, Nat.le_refl _, get_push_self _ _, ?_, fun i v hv => by simp at hv⟩⟩ (Ext.push _ _)
    rw [zeroCells_eq _ _ (by simp)]
    simp [reps_length] at hc' ⊢
    omega

theorem c28 {H : Heap} {b : Nat} {p1 p2 : Option Addr} {l1 c1 l2 c2 : Nat} {tt : TypeId} {A B : List Value} (hb : H[b]? = some (.cells #[.slice p1 l1 c1, .slice p2 l2 c2] tt)) (hA : RS H p1 l1 44 2 A) (hB : RS H p2 l2 44 2 B) (hl : l1 + l2 ≤ 1000000) {R : Value → Heap → Prop}
    (hR : ∀ H' p' c', FS H.size H' p' (l1 + l2) c' 44 2 (A ++ B) → Ext H H' → R (.slice p' (l1 + l2) c') H') : CallsH Try.prog 28 #[.slice (some ⟨b, 0, none⟩) 2 2] H R := by
  refine Try.s28 ?_
  unfold Try.S28
  intro X hX
  have g0 : ∀ {H' : Heap}, Ext H H' → cell H' ⟨b, 0, none⟩ = some (.slice p1 l1 c1) := fun e => cell_get (e _ _ hb) rfl
  have g1 : ∀ {H' : Heap}, Ext H H' → cell H' ⟨b, 1, none⟩ = some (.slice p2 l2 c2) := fun e => cell_get (e _ _ hb) rfl
  have w0 : IntKind.wrap .i64 ((0 : Int) + ((l1 : Nat) : Int)) = (l1 : Int) := by rw [wrap_id (by omega) (by omega)]; omega
  have w1 : IntKind.wrap .i64 ((l1 : Int) + ((l2 : Nat) : Int)) = ((l1 + l2 : Nat) : Int) := by rw [wrap_id (by omega) (by omega)]; omega
  have i1 : IntKind.wrap .i64 ((0 : Int) + 1) = 1 := by decide
  have i2 : IntKind.wrap .i64 ((1 : Int) + 1) = 2 := by decide
  refine hX _ _ H (br_y (by omega) ⟨_, rfl, by omega, by omega, p1, l1, c1, by simpa using g0 (Ext.refl _), ?_⟩)
  rw [w0, i1]
  refine br_n (by omega) (hX _ _ H (br_y (by omega) ⟨_, rfl, by omega, by omega, p2, l2, c2, by simpa using g1 (Ext.refl _), ?_⟩))
  rw [w1, i2]
  refine br_n (by omega) (hX _ _ H (br_n (by omega) ?_))
  refine c33 hl fun H1 q0 k0 f0 e1 => ⟨q0, 0, k0, rfl, ?_⟩
  intro Y hY
  have sz1 := e1.size
  refine hY _ _ _ _ H1 (br_y (by omega) ⟨_, rfl, by omega, by omega, p1, l1, c1, by simpa using g0 e1, ?_⟩)
  rw [i1]
  have stay : ∀ {Hx Hy : Heap} {q : Option Addr} {l c : Nat} {fs : List Value}, Ext H Hx → FS H.size Hx q l c 44 2 fs → (∀ (b : Nat) (o : Obj), Hx[b]? = some o → q ≠ some ⟨b, 0, none⟩ → Hy[b]? = some o) → Ext H Hy := fun {Hx Hy q l c fs} ex hf hk b o hb => by
    refine hk b o (ex b o hb) fun hq => ?_
    have hlt := lt_of_get hb
    rcases hf.at_ with ⟨h1, _⟩ | ⟨blk, cs, h1, h2, _⟩
    · rw [h1] at hq; cases hq
    · rw [h1] at hq; cases hq; omega
  refine f0.app (hA.ext e1) (by decide) sz1 rfl (by omega) (by omega) fun q1 k1 H2 f1 hk1 hs1 => ?_
  have e2 := stay e1 f0 hk1
  refine hY _ _ _ _ H2 (br_y (by omega) ⟨_, rfl, by omega, by omega, p2, l2, c2, by simpa using g1 e2, ?_⟩)
  rw [i2]
  refine f1.app (hB.ext e2) (by decide) e2.size rfl (by omega) (by omega) fun q2 k2 H3 f2 hk2 hs2 => ?_
  have e3 := stay e2 f1 hk2
  refine hY _ _ _ _ H3 (br_n (by omega) ?_)
  have e0 : 0 + l1 + l2 = l1 + l2 := by omega
  rw [e0] at f2 ⊢
  exact hR H3 q2 k2 (by simpa using f2) e3

theorem c34 {H : Heap} {n : Nat} (hn : n ≤ 1000000) {R : Value → Heap → Prop} (hR : ∀ H' p' c', FS H.size H' p' 0 c' 3 1 [] → Ext H H' → R (.slice p' 0 c') H') :
    CallsH Try.prog 34 #[.slice none 0 0, .int .i64 n] H R := by
  refine Try.s34 ?_
  unfold Try.S34
  intro J hJ
  refine br_n (by omega) (hJ H ?_)
  have w1 : IntKind.wrap .i64 (((0 : Nat) : Int) - ((0 : Nat) : Int)) = 0 := by decide
  have w2 : IntKind.wrap .i64 ((n : Int) - 0) = (n : Int) := by rw [wrap_id (by omega) (by omega)]; omega
  rw [w1, w2]
  refine br_dec (fun hp => ⟨by omega, by omega, by omega, by omega, ?_, by omega, fun h0 => by omega, fun _ => ⟨#[], rfl, fun c' hc' => ⟨by omega, by omega, ?_⟩⟩⟩) (fun h0 => hR H none 0 (FS.nil _ _ _ _) (Ext.refl _))
  · simp; omega
  · have hc0 : c' ≠ 0 := by simp at hc'; omega
    simp only [hc0, if_false, Option.map_some, Nat.sub_zero, Int.toNat_natCast, Nat.zero_mul, add_none, Nat.zero_add]
    refine hR _ _ c' ⟨rfl, Nat.zero_le _, by simp, .inr ⟨H.size, _, rfl, Nat.le_refl _, get_push_self _ _, ?_, fun i v hv => by simp at hv⟩⟩ (Ext.push _ _)
    rw [zeroCells_eq _ _ (by simp)]
    simp [reps_length] at hc' ⊢
    omega

theorem c30 {H : Heap} {b : Nat} {p1 p2 : Option Addr} {l1 c1 l2 c2 : Nat} {tt : TypeId} {A B : List Value} (hb : H[b]? = some (.cells #[.slice p1 l1 c1, .slice p2 l2 c2] tt)) (hA : RS H p1 l1 3 1 A) (hB : RS H p2 l2 3 1 B) (hl : l1 + l2 ≤ 1000000) {R : Value → Heap → Prop}
    (hR : ∀ H' p' c', FS H.size H' p' (l1 + l2) c' 3 1 (A ++ B) → Ext H H' → R (.slice p' (l1 + l2) c') H') : CallsH Try.prog 30 #[.slice (some ⟨b, 0, none⟩) 2 2] H R := by
  refine Try.s30 ?_
  unfold Try.S30
  intro X hX
  have g0 : ∀ {H' : Heap}, Ext H H' → cell H' ⟨b, 0, none⟩ = some (.slice p1 l1 c1) := fun e => cell_get (e _ _ hb) rfl
  have g1 : ∀ {H' : Heap}, Ext H H' → cell H' ⟨b, 1, none⟩ = some (.slice p2 l2 c2) := fun e => cell_get (e _ _ hb) rfl
  have w0 : IntKind.wrap .i64 ((0 : Int) + ((l1 : Nat) : Int)) = (l1 : Int) := by rw [wrap_id (by omega) (by omega)]; omega
  have w1 : IntKind.wrap .i64 ((l1 : Int) + ((l2 : Nat) : Int)) = ((l1 + l2 : Nat) : Int) := by rw [wrap_id (by omega) (by omega)]; omega
  have i1 : IntKind.wrap .i64 ((0 : Int) + 1) = 1 := by decide
  have i2 : IntKind.wrap .i64 ((1 : Int) + 1) = 2 := by decide
  refine hX _ _ H (br_y (by omega) ⟨_, rfl, by omega, by omega, p1, l1, c1, by simpa using g0 (Ext.refl _), ?_⟩)
  rw [w0, i1]
  refine br_n (by omega) (hX _ _ H (br_y (by omega) ⟨_, rfl, by omega, by omega, p2, l2, c2, by simpa using g1 (Ext.refl _), ?_⟩))
  rw [w1, i2]
  refine br_n (by omega) (hX _ _ H (br_n (by omega) ?_))
  refine c34 hl fun H1 q0 k0 f0 e1 => ⟨q0, 0, k0, rfl, ?_⟩
  intro Y hY
  have sz1 := e1.size
  refine hY _ _ _ _ H1 (br_y (by omega) ⟨_, rfl, by omega, by omega, p1, l1, c1, by simpa using g0 e1, ?_⟩)
  rw [i1]
  have stay : ∀ {Hx Hy : Heap} {q : Option Addr} {l c : Nat} {fs : List Value}, Ext H Hx → FS H.size Hx q l c 3 1 fs → (∀ (b : Nat) (o : Obj), Hx[b]? = some o → q ≠ some ⟨b, 0, none⟩ → Hy[b]? = some o) → Ext H Hy := fun {Hx Hy q l c fs} ex hf hk b o hb => by
    refine hk b o (ex b o hb) fun hq => ?_
    have hlt := lt_of_get hb
    rcases hf.at_ with ⟨h1, _⟩ | ⟨blk, cs, h1, h2, _⟩
    · rw [h1] at hq; cases hq
    · rw [h1] at hq; cases hq; omega
  refine f0.app (hA.ext e1) (by decide) sz1 rfl (by omega) (by omega) fun q1 k1 H2 f1 hk1 hs1 => ?_
  have e2 := stay e1 f0 hk1
  refine hY _ _ _ _ H2 (br_y (by omega) ⟨_, rfl, by omega, by omega, p2, l2, c2, by simpa using g1 e2, ?_⟩)
  rw [i2]
  refine f1.app (hB.ext e2) (by decide) e2.size rfl (by omega) (by omega) fun q2 k2 H3 f2 hk2 hs2 => ?_
  have e3 := stay e2 f1 hk2
  refine hY _ _ _ _ H3 (br_n (by omega) ?_)
  have e0 : 0 + l1 + l2 = l1 + l2 := by omega
  rw [e0] at f2 ⊢
  exact hR H3 q2 k2 (by simpa using f2) e3

end Go.Proofs
