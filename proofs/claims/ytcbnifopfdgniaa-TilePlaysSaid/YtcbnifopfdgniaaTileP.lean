/-
  OWN WORK. The tiles' plain model: painting many pixels.
-/
import Derived.Test.YtcbnifopfdgniaaTileO
set_option linter.unusedSimpArgs false
set_option linter.unusedVariables false
namespace Go.Tile

/-- What a write of a pixel comes to. -/
def Wrote (s : St) (k : Nat) (p : Pl) (x y v : Int) (s' : St) : Prop :=
  (needs s p (x / 16) (y / 16) = false ∧ ∃ t, tileOf p.en (x / 16) (y / 16) = some t ∧ refs s.pls t = 1 ∧ s' = wrS s t (idx x y) v) ∨
  (needs s p (x / 16) (y / 16) = true ∧ s.free ≠ 0 ∧ ∃ n, n ∉ s.ts.map (·.1) ∧ s' = wrS (ownS s k p (x / 16) (y / 16) n) n (idx x y) v)

/-- A plane's fixed parts. -/
structure Like (q q' : Pl) : Prop where
  b : q'.b = q.b
  m : q'.m = q.m
  w : q'.w = q.w
  h : q'.h = q.h

theorem Like.refl (q : Pl) : Like q q := ⟨rfl, rfl, rfl, rfl⟩
theorem Like.trans {a b c : Pl} (h : Like a b) (h' : Like b c) : Like a c := ⟨h'.b.trans h.b, h'.m.trans h.m, h'.w.trans h.w, h'.h.trans h.h⟩
theorem Like.has {q q' : Pl} (h : Like q q') (x y : Int) : q'.has x y = q.has x y := by unfold Pl.has; rw [h.w, h.h]

/-- The same planes; what is seen of them is given. -/
structure Views (s s' : St) (f : Nat → Int → Int → Int → Int) : Prop where
  A : s'.A = s.A
  len : s'.pls.length = s.pls.length
  pl : ∀ (j : Nat) (q : Pl), s.pls[j]? = some q → ∃ q', s'.pls[j]? = some q' ∧ Like q q' ∧ ∀ X Y, pxAt s' q' X Y = f j X Y (pxAt s q X Y)

theorem Views.refl (s : St) : Views s s fun _ _ _ v => v := ⟨rfl, rfl, fun j q hq => ⟨q, hq, Like.refl q, fun _ _ => rfl⟩⟩

theorem Views.trans {a b c : St} {f g : Nat → Int → Int → Int → Int} (h : Views a b f) (h' : Views b c g) : Views a c fun j X Y v => g j X Y (f j X Y v) := by
  refine ⟨h'.A.trans h.A, h'.len.trans h.len, fun j q hq => ?_⟩
  obtain ⟨q1, h1, l1, v1⟩ := h.pl j q hq
  obtain ⟨q2, h2, l2, v2⟩ := h'.pl j q1 h1
  exact ⟨q2, h2, l1.trans l2, fun X Y => by rw [v2, v1]⟩

theorem Views.eq {s s' : St} {f g : Nat → Int → Int → Int → Int} (h : Views s s' f) (hfg : ∀ j X Y v, f j X Y v = g j X Y v) : Views s s' g :=
  ⟨h.A, h.len, fun j q hq => let ⟨q', h1, h2, h3⟩ := h.pl j q hq; ⟨q', h1, h2, fun X Y => by rw [h3, hfg]⟩⟩

def put1 (k : Nat) (x y v : Int) (j : Nat) (X Y w : Int) : Int := if j = k ∧ X = x ∧ Y = y then v else w

theorem wrote_views {cap : Int} {s : St} (h : Ok cap s) {k : Nat} {p : Pl} (hk : s.pls[k]? = some p) {x y v : Int} (hin : p.has x y = true) {s' : St} (hw : Wrote s k p x y v s') : Views s s' (put1 k x y v) := by
  rcases hw with ⟨_, t, ht, h1, rfl⟩ | ⟨hneed, hfree, n, hn, rfl⟩
  · exact ⟨rfl, rfl, fun j q hq => ⟨q, hq, Like.refl q, fun X Y => px_wr h hk hin ht h1 v hq X Y⟩⟩
  · have hok := ownS_ok h hk hneed hfree hn
    have hk' : (ownS s k p (x / 16) (y / 16) n).pls[k]? = some (p.own (x / 16) (y / 16) n) := by rw [own_pls _ _ _ hk, if_pos rfl]
    have ht : tileOf (p.own (x / 16) (y / 16) n).en (x / 16) (y / 16) = some n := by
      show tileOf (setEn _ _ _ _ _) _ _ = _
      rw [tileOf_set, if_pos ⟨rfl, rfl⟩]
    have hnt : ∀ q ∈ s.pls, ∀ e ∈ q.en, e.t ≠ n := fun q hq e he heq => by
      have := (h.live e.t).1 (refs_pos hq he)
      rw [heq] at this
      exact hn this
    have hr := (refs_own hk (x := x / 16) (y := y / 16) hnt).1
    refine ⟨rfl, ?_, fun j q hq => ?_⟩
    · show (s.pls.set k _).length = _
      rw [List.length_set]
    · by_cases hjk : j = k
      · subst hjk
        rw [hk] at hq; cases hq
        refine ⟨p.own (x / 16) (y / 16) n, hk', ⟨rfl, rfl, rfl, rfl⟩, fun X Y => ?_⟩
        rw [px_wr hok hk' (x := x) (y := y) hin ht hr v hk' X Y, (px_own h hk (x / 16) (y / 16) hn (List.mem_of_getElem? hk) X Y).2]
        rfl
      · have hj' : (ownS s k p (x / 16) (y / 16) n).pls[j]? = some q := by rw [own_pls _ _ _ hk, if_neg hjk]; exact hq
        refine ⟨q, hj', Like.refl q, fun X Y => ?_⟩
        rw [px_wr hok hk' (x := x) (y := y) hin ht hr v hj' X Y, (px_own h hk (x / 16) (y / 16) hn (List.mem_of_getElem? hq) X Y).1]
        rfl

/-- Which tile keys must be taken, for some pixels to be written. -/
def needKeys (s : St) (p : Pl) (v : Int) : List (Int × Int) → List (Int × Int) → List (Int × Int)
  | [], ks => ks
  | c :: r, ks => needKeys s p v r (if pxAt s p c.1 c.2 ≠ v ∧ needs s p (c.1 / 16) (c.2 / 16) = true then (if (c.1 / 16, c.2 / 16) ∈ ks then ks else ks ++ [(c.1 / 16, c.2 / 16)]) else ks)

/-- Pixels that are written one behind the other. -/
inductive Paints (k : Nat) (v : Int) : St → List (Int × Int) → St → Prop where
  | nil (s : St) : Paints k v s [] s
  | same {s s' : St} {p : Pl} {x y : Int} {r : List (Int × Int)} : s.pls[k]? = some p → p.has x y = true → pxAt s p x y = v → Paints k v s r s' → Paints k v s ((x, y) :: r) s'
  | wrote {s s1 s' : St} {p : Pl} {x y : Int} {r : List (Int × Int)} : s.pls[k]? = some p → p.has x y = true → pxAt s p x y ≠ v → Wrote s k p x y v s1 → Paints k v s1 r s' → Paints k v s ((x, y) :: r) s'

end Go.Tile
