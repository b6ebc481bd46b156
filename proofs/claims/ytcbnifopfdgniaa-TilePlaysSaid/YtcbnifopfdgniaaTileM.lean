/-
  OWN WORK. The tiles' plain model: planes, their tiles, what writing, sharing and dropping do. No program in sight.
-/
import Derived.Test.YtcbnifopfdgniaaShL
set_option linter.unusedSimpArgs false
set_option linter.unusedVariables false
namespace Go.Tile

/-- A plane's entry: the key, the tile's block, the stamp. -/
structure En where
  x : Int
  y : Int
  t : Nat
  born : Nat

structure Pl where
  b : Nat
  m : Nat
  w : Int
  h : Int
  en : List En
  clk : Nat

structure St where
  A : Nat
  free : Int
  pls : List Pl
  ts : List (Nat × List Int)

def En.at (e : En) (x y : Int) : Bool := x == e.x && y == e.y

def tileOf (en : List En) (x y : Int) : Option Nat := (en.find? (·.at x y)).map (·.t)

def refs : List Pl → Nat → Nat
  | [], _ => 0
  | p :: r, t => p.en.countP (·.t == t) + refs r t

def pxOf (ts : List (Nat × List Int)) (t : Nat) : Option (List Int) := (ts.find? (·.1 == t)).map (·.2)

def setEn (x y : Int) (n clk : Nat) : List En → List En
  | [] => [⟨x, y, n, clk⟩]
  | e :: r => if e.at x y then { e with t := n } :: r else e :: setEn x y n clk r

def setClk (en : List En) (x y : Int) (clk : Nat) : Nat := match tileOf en x y with
  | some _ => clk
  | none => clk + 1

/-- What a plane has of its own state that does not hang on the heap. -/
structure PlOk (p : Pl) : Prop where
  keys : (p.en.map fun e => (e.x, e.y)).Nodup
  born : (p.en.map (·.born)).Nodup
  clk : ∀ e ∈ p.en, e.born < p.clk
  w0 : 0 ≤ p.w
  w1 : p.w ≤ 32768
  h0 : 0 ≤ p.h
  h1 : p.h ≤ 32768

/-- The model's own invariant. -/
structure Ok (cap : Int) (s : St) : Prop where
  pl : ∀ p ∈ s.pls, PlOk p
  bs : (s.pls.map (·.b)).Nodup
  ms : (s.pls.map (·.m)).Nodup
  ts : (s.ts.map (·.1)).Nodup
  px : ∀ x ∈ s.ts, x.2.length = 256 ∧ ∀ v ∈ x.2, 0 ≤ v ∧ v < 4294967296
  live : ∀ t, 0 < refs s.pls t ↔ t ∈ s.ts.map (·.1)
  count : s.free + s.ts.length = cap
  free : 0 ≤ s.free
  one : ∀ p ∈ s.pls, ∀ t, p.en.countP (·.t == t) ≤ 1
  len : s.pls.length ≤ 1000000
  capb : cap ≤ 1048576

def Pl.has (p : Pl) (x y : Int) : Bool := decide (0 ≤ x ∧ x < p.w ∧ 0 ≤ y ∧ y < p.h)

def idx (x y : Int) : Nat := (y % 16 * 16 + x % 16).toNat

/-- A plane's pixel. -/
def pxAt (s : St) (p : Pl) (x y : Int) : Int :=
  match p.has x y with
  | true => match tileOf p.en (x / 16) (y / 16) with
    | some t => match pxOf s.ts t with
      | some l => l.getD (idx x y) 0
      | none => 0
    | none => 0
  | false => 0

theorem tileOf_mem {en : List En} {x y : Int} {t : Nat} (h : tileOf en x y = some t) : ∃ e ∈ en, e.at x y = true ∧ e.t = t := by
  unfold tileOf at h
  cases hf : en.find? (·.at x y) with
  | none => rw [hf] at h; cases h
  | some e =>
    rw [hf] at h
    cases h
    exact ⟨e, List.mem_of_find?_eq_some hf, by simpa using List.find?_some hf, rfl⟩

theorem refs_ge {pls : List Pl} {p : Pl} (hp : p ∈ pls) (t : Nat) : p.en.countP (·.t == t) ≤ refs pls t := by
  induction pls with
  | nil => cases hp
  | cons q r ih =>
    unfold refs
    rcases List.mem_cons.1 hp with rfl | hp
    · omega
    · have := ih hp; omega

theorem refs_pos {pls : List Pl} {p : Pl} (hp : p ∈ pls) {e : En} (he : e ∈ p.en) : 0 < refs pls e.t := by
  have h1 : 0 < p.en.countP (·.t == e.t) := List.countP_pos_iff.2 ⟨e, he, by simp⟩
  have h2 := refs_ge hp e.t
  omega

theorem refs_set {pls : List Pl} {k : Nat} {p p' : Pl} (hk : pls[k]? = some p) (t : Nat) : refs (pls.set k p') t + p.en.countP (·.t == t) = refs pls t + p'.en.countP (·.t == t) := by
  induction pls generalizing k with
  | nil => cases hk
  | cons q r ih =>
    cases k with
    | zero => simp at hk; subst hk; simp only [List.set_cons_zero, refs]; omega
    | succ k => simp only [List.getElem?_cons_succ] at hk; simp only [List.set_cons_succ, refs]; have := ih hk; omega

theorem refs_append (a b : List Pl) (t : Nat) : refs (a ++ b) t = refs a t + refs b t := by
  induction a with
  | nil => simp [refs]
  | cons q r ih => simp only [List.cons_append, refs, ih]; omega

theorem Ok.px_of {cap : Int} {s : St} (h : Ok cap s) {p : Pl} (hp : p ∈ s.pls) {x y : Int} {t : Nat} (ht : tileOf p.en x y = some t) :
    ∃ l, pxOf s.ts t = some l ∧ (t, l) ∈ s.ts ∧ l.length = 256 ∧ ∀ v ∈ l, 0 ≤ v ∧ v < 4294967296 := by
  obtain ⟨e, he, _, rfl⟩ := tileOf_mem ht
  have hl := (h.live e.t).1 (refs_pos hp he)
  obtain ⟨z, hz, hzt⟩ := List.mem_map.1 hl
  have : ∃ z', s.ts.find? (·.1 == e.t) = some z' := by
    cases hf : s.ts.find? (·.1 == e.t) with
    | some z' => exact ⟨z', rfl⟩
    | none =>
      have := List.find?_eq_none.1 hf z hz
      simp [hzt] at this
  obtain ⟨z', hz'⟩ := this
  have hm := List.mem_of_find?_eq_some hz'
  have hk : z'.1 = e.t := by simpa using List.find?_some hz'
  have := h.px z' hm
  refine ⟨z'.2, by simp [pxOf, hz'], ?_, this.1, this.2⟩
  rw [← hk]; exact hm

theorem idx_lt (x y : Int) : idx x y < 256 := by unfold idx; omega

theorem at_iff {e : En} {x y : Int} : e.at x y = true ↔ x = e.x ∧ y = e.y := by simp [En.at]

theorem tileOf_cons (e : En) (r : List En) (x y : Int) : tileOf (e :: r) x y = if e.at x y then some e.t else tileOf r x y := by
  unfold tileOf
  rw [List.find?_cons]
  cases e.at x y <;> rfl

theorem tileOf_set (x y : Int) (n clk : Nat) (en : List En) (x' y' : Int) : tileOf (setEn x y n clk en) x' y' = if x' = x ∧ y' = y then some n else tileOf en x' y' := by
  induction en with
  | nil => simp only [setEn, tileOf_cons, at_iff]
  | cons e r ih =>
    unfold setEn
    by_cases he : e.at x y = true
    · rw [if_pos he, tileOf_cons, tileOf_cons]
      have h1 := at_iff.1 he
      simp only [at_iff]
      by_cases h : x' = x ∧ y' = y
      · rw [if_pos (by rw [← h1.1, ← h1.2]; exact h), if_pos h]
      · rw [if_neg (by rw [← h1.1, ← h1.2]; exact h), if_neg h, if_neg (by rw [← h1.1, ← h1.2]; exact h)]
    · rw [if_neg he, tileOf_cons, tileOf_cons, ih]
      simp only [at_iff] at he ⊢
      by_cases h : x' = x ∧ y' = y
      · rw [if_neg (by rw [h.1, h.2]; exact he), if_pos h, if_pos h]
      · rw [if_neg h, if_neg h]

theorem mem_set {x y : Int} {n clk : Nat} {en : List En} {f : En} (h : f ∈ setEn x y n clk en) : (f.x = x ∧ f.y = y ∧ f.t = n ∧ (f.born = clk ∨ ∃ e ∈ en, e.at x y = true ∧ e.born = f.born)) ∨ f ∈ en := by
  induction en with
  | nil => simp [setEn] at h; subst h; exact .inl ⟨rfl, rfl, rfl, .inl rfl⟩
  | cons e r ih =>
    unfold setEn at h
    split at h
    · rename_i he
      rcases List.mem_cons.1 h with rfl | h
      · have := at_iff.1 he
        exact .inl ⟨this.1.symm, this.2.symm, rfl, .inr ⟨e, List.mem_cons_self, he, rfl⟩⟩
      · exact .inr (List.mem_cons_of_mem _ h)
    · rcases List.mem_cons.1 h with rfl | h
      · exact .inr List.mem_cons_self
      · rcases ih h with ⟨h1, h2, h3, h4⟩ | h
        · refine .inl ⟨h1, h2, h3, ?_⟩
          rcases h4 with h4 | ⟨e', he', h5, h6⟩
          · exact .inl h4
          · exact .inr ⟨e', List.mem_cons_of_mem _ he', h5, h6⟩
        · exact .inr (List.mem_cons_of_mem _ h)

/-- A new tile's count is 1; the old one's goes down. -/
theorem count_set_new {x y : Int} {n clk : Nat} : ∀ {en : List En}, (∀ e ∈ en, e.t ≠ n) → (setEn x y n clk en).countP (·.t == n) = 1
  | [], _ => by simp [setEn]
  | e :: r, h => by
    have hr : r.countP (·.t == n) = 0 := List.countP_eq_zero.2 fun e' he' => by simpa using h e' (List.mem_cons_of_mem _ he')
    have he : (e.t == n) = false := by simpa using h e List.mem_cons_self
    unfold setEn
    split
    · simp [List.countP_cons, hr]
    · simp only [List.countP_cons, he, count_set_new fun e' he' => h e' (List.mem_cons_of_mem _ he')]
      rfl

theorem count_set_old {x y : Int} {n clk t : Nat} (ht : t ≠ n) : ∀ {en : List En}, (setEn x y n clk en).countP (·.t == t) + (if tileOf en x y = some t then 1 else 0) = en.countP (·.t == t)
  | [] => by
    have : (n == t) = false := by simpa using fun h => ht h.symm
    simp [setEn, List.countP_cons, this, tileOf]
  | e :: r => by
    have hnt : (n == t) = false := by simpa using fun h => ht h.symm
    unfold setEn
    rw [tileOf_cons]
    by_cases he : e.at x y = true
    · rw [if_pos he, if_pos he]
      simp only [List.countP_cons, hnt, Option.some.injEq]
      by_cases h : e.t = t <;> simp [h]
    · rw [if_neg he, if_neg he]
      simp only [List.countP_cons]
      have := count_set_old ht (en := r) (x := x) (y := y) (clk := clk)
      omega

def En.sig (e : En) : Int × Int × Nat := (e.x, e.y, e.born)

theorem set_none {x y : Int} (n clk : Nat) {en : List En} (h : tileOf en x y = none) : setEn x y n clk en = en ++ [⟨x, y, n, clk⟩] := by
  induction en with
  | nil => rfl
  | cons e r ih =>
    rw [tileOf_cons] at h
    unfold setEn
    split at h
    · cases h
    · rename_i he; rw [if_neg he, ih h]; rfl

theorem set_some {x y : Int} (n clk : Nat) {en : List En} {t : Nat} (h : tileOf en x y = some t) : (setEn x y n clk en).map En.sig = en.map En.sig := by
  induction en with
  | nil => cases h
  | cons e r ih =>
    rw [tileOf_cons] at h
    unfold setEn
    split at h
    · rename_i he; rw [if_pos he]; rfl
    · rename_i he; rw [if_neg he, List.map_cons, List.map_cons, ih h]

theorem PlOk.set {p : Pl} (h : PlOk p) (x y : Int) (n : Nat) : PlOk { p with en := setEn x y n p.clk p.en, clk := setClk p.en x y p.clk } := by
  have e1 : ∀ l : List En, (l.map fun e => (e.x, e.y)) = (l.map En.sig).map fun z => (z.1, z.2.1) := fun l => by rw [List.map_map]; rfl
  have e2 : ∀ l : List En, (l.map (·.born)) = (l.map En.sig).map fun z => z.2.2 := fun l => by rw [List.map_map]; rfl
  cases ht : tileOf p.en x y with
  | some t =>
    have hs := set_some n p.clk ht
    refine ⟨?_, ?_, ?_, h.w0, h.w1, h.h0, h.h1⟩
    · show ((setEn x y n p.clk p.en).map fun e => (e.x, e.y)).Nodup
      rw [e1, hs, ← e1]; exact h.keys
    · show ((setEn x y n p.clk p.en).map (·.born)).Nodup
      rw [e2, hs, ← e2]; exact h.born
    · intro e he
      have h1 : e.born ∈ (setEn x y n p.clk p.en).map (·.born) := List.mem_map.2 ⟨e, he, rfl⟩
      rw [e2, hs, ← e2] at h1
      obtain ⟨f, hf, hb⟩ := List.mem_map.1 h1
      have := h.clk f hf
      show e.born < setClk p.en x y p.clk
      simp only [setClk, ht]
      omega
  | none =>
    have hs := set_none n p.clk ht
    have hne : ∀ e ∈ p.en, e.at x y = false := fun e he => by
      unfold tileOf at ht
      simp only [Option.map_eq_none_iff] at ht
      simpa using List.find?_eq_none.1 ht e he
    refine ⟨?_, ?_, ?_, h.w0, h.w1, h.h0, h.h1⟩
    · show ((setEn x y n p.clk p.en).map fun e => (e.x, e.y)).Nodup
      rw [hs, List.map_append, List.nodup_append]
      refine ⟨h.keys, by simp, ?_⟩
      intro a ha b hb hab
      simp at hb
      subst hab
      obtain ⟨e, he, heq⟩ := List.mem_map.1 ha
      have := hne e he
      rw [hb] at heq
      simp only [Prod.mk.injEq] at heq
      simp [En.at, heq.1, heq.2] at this
    · show ((setEn x y n p.clk p.en).map (·.born)).Nodup
      rw [hs, List.map_append, List.nodup_append]
      refine ⟨h.born, by simp, ?_⟩
      intro a ha b hb hab
      simp at hb
      obtain ⟨e, he, heq⟩ := List.mem_map.1 ha
      have := h.clk e he
      omega
    · intro e he
      show e.born < setClk p.en x y p.clk
      simp only [setClk, ht]
      have he' : e ∈ setEn x y n p.clk p.en := he
      rw [hs] at he'
      rcases List.mem_append.1 he' with he' | he'
      · have := h.clk e he'; omega
      · simp at he'; subst he'; exact Nat.lt_succ_self _

theorem refs_le {pls : List Pl} (h : ∀ p ∈ pls, ∀ t, p.en.countP (·.t == t) ≤ 1) (t : Nat) : refs pls t ≤ pls.length := by
  induction pls with
  | nil => simp [refs]
  | cons q r ih =>
    unfold refs
    have h1 := h q List.mem_cons_self t
    have h2 := ih fun p hp => h p (List.mem_cons_of_mem _ hp)
    simp only [List.length_cons]
    omega

end Go.Tile
