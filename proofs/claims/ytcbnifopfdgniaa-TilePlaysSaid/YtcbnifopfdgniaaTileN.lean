/-
  OWN WORK. The tiles' plain model: taking a tile for one's own, writing in it.
-/
import Derived.Test.YtcbnifopfdgniaaTileM
set_option linter.unusedSimpArgs false
set_option linter.unusedVariables false
namespace Go.Tile

def zeros : List Int := List.replicate 256 0

/-- Must the plane take a tile for its own? -/
def needs (s : St) (p : Pl) (x y : Int) : Bool :=
  match tileOf p.en x y with
  | some t => !(refs s.pls t == 1)
  | none => true

def oldPx (s : St) (p : Pl) (x y : Int) : List Int :=
  match tileOf p.en x y with
  | some t => (pxOf s.ts t).getD zeros
  | none => zeros

def Pl.own (p : Pl) (x y : Int) (n : Nat) : Pl := { p with en := setEn x y n p.clk p.en, clk := setClk p.en x y p.clk }

def ownS (s : St) (k : Nat) (p : Pl) (x y : Int) (n : Nat) : St :=
  { s with free := s.free - 1, pls := s.pls.set k (p.own x y n), ts := (n, oldPx s p x y) :: s.ts }

def wrTs (ts : List (Nat × List Int)) (t i : Nat) (v : Int) : List (Nat × List Int) := ts.map fun z => if z.1 = t then (z.1, z.2.set i v) else z

def wrS (s : St) (t i : Nat) (v : Int) : St := { s with ts := wrTs s.ts t i v }

theorem pxOf_cons (z : Nat × List Int) (r : List (Nat × List Int)) (t : Nat) : pxOf (z :: r) t = if z.1 = t then some z.2 else pxOf r t := by
  unfold pxOf
  rw [List.find?_cons]
  by_cases h : z.1 = t
  · simp [h]
  · have : (z.1 == t) = false := by simpa using h
    rw [this, if_neg h]

theorem pxOf_wr (ts : List (Nat × List Int)) (t i : Nat) (v : Int) (u : Nat) : pxOf (wrTs ts t i v) u = if u = t then (pxOf ts t).map (·.set i v) else pxOf ts u := by
  induction ts with
  | nil => simp [wrTs, pxOf]
  | cons z r ih =>
    have : wrTs (z :: r) t i v = (if z.1 = t then (z.1, z.2.set i v) else z) :: wrTs r t i v := rfl
    rw [this, pxOf_cons, pxOf_cons, pxOf_cons, ih]
    by_cases h1 : z.1 = t <;> by_cases h2 : u = t
    · subst h2; simp [h1]
    · have h3 : ¬ t = u := fun h => h2 h.symm
      simp [h1, h2, h3]
    · subst h2; simp [h1]
    · simp [h1, h2]

theorem wrTs_keys (ts : List (Nat × List Int)) (t i : Nat) (v : Int) : (wrTs ts t i v).map (·.1) = ts.map (·.1) := by
  unfold wrTs
  rw [List.map_map]
  apply List.map_congr_left
  intro z _
  simp only [Function.comp]
  split <;> rfl

theorem oldPx_ok {cap : Int} {s : St} (h : Ok cap s) {p : Pl} (hp : p ∈ s.pls) (x y : Int) : (oldPx s p x y).length = 256 ∧ ∀ v ∈ oldPx s p x y, 0 ≤ v ∧ v < 4294967296 := by
  have hz : zeros.length = 256 ∧ ∀ v ∈ zeros, 0 ≤ v ∧ v < 4294967296 := by
    refine ⟨List.length_replicate, fun v hv => ?_⟩
    have := List.eq_of_mem_replicate hv
    omega
  unfold oldPx
  split
  · rename_i t ht
    obtain ⟨l, hl, _, h1, h2⟩ := h.px_of hp ht
    rw [hl]
    exact ⟨h1, h2⟩
  · exact hz

theorem refs_own {s : St} {k : Nat} {p : Pl} (hk : s.pls[k]? = some p) {x y : Int} {n : Nat} (hn : ∀ q ∈ s.pls, ∀ e ∈ q.en, e.t ≠ n) :
    refs (ownS s k p x y n).pls n = 1 ∧ ∀ t, t ≠ n → refs (ownS s k p x y n).pls t + (if tileOf p.en x y = some t then 1 else 0) = refs s.pls t := by
  have hp : p ∈ s.pls := List.mem_of_getElem? hk
  have hz : ∀ q ∈ s.pls, q.en.countP (·.t == n) = 0 := fun q hq => List.countP_eq_zero.2 fun e he => by simpa using hn q hq e he
  have hr : refs s.pls n = 0 := by
    have : ∀ l : List Pl, (∀ q ∈ l, q.en.countP (·.t == n) = 0) → refs l n = 0 := by
      intro l
      induction l with
      | nil => intro _; rfl
      | cons q r ih => intro h; unfold refs; rw [h q List.mem_cons_self, ih fun q' hq' => h q' (List.mem_cons_of_mem _ hq')]
    exact this _ hz
  refine ⟨?_, fun t ht => ?_⟩
  · have h1 := refs_set (p' := p.own x y n) hk n
    have h2 : (p.own x y n).en.countP (·.t == n) = 1 := count_set_new fun e he => hn p hp e he
    rw [hz p hp, h2, hr] at h1
    simpa [ownS] using h1
  · have h1 := refs_set (p' := p.own x y n) hk t
    have h2 : (p.own x y n).en.countP (·.t == t) + (if tileOf p.en x y = some t then 1 else 0) = p.en.countP (·.t == t) := count_set_old ht
    show refs (s.pls.set k (p.own x y n)) t + _ = _
    omega

theorem refs_of_tile {cap : Int} {s : St} (h : Ok cap s) {p : Pl} (hp : p ∈ s.pls) {x y : Int} {t : Nat} (ht : tileOf p.en x y = some t) : 0 < refs s.pls t ∧ t ∈ s.ts.map (·.1) := by
  obtain ⟨e, he, _, rfl⟩ := tileOf_mem ht
  have := refs_pos hp he
  exact ⟨this, (h.live _).1 this⟩

theorem ownS_ok {cap : Int} {s : St} (h : Ok cap s) {k : Nat} {p : Pl} (hk : s.pls[k]? = some p) {x y : Int} (hneed : needs s p x y = true) (hfree : s.free ≠ 0) {n : Nat} (hn : n ∉ s.ts.map (·.1)) :
    Ok cap (ownS s k p x y n) := by
  have hp : p ∈ s.pls := List.mem_of_getElem? hk
  have hnt : ∀ q ∈ s.pls, ∀ e ∈ q.en, e.t ≠ n := fun q hq e he heq => by
    have := (h.live e.t).1 (refs_pos hq he)
    rw [heq] at this
    exact hn this
  obtain ⟨r1, r2⟩ := refs_own hk (x := x) (y := y) hnt
  obtain ⟨hlen, hpk⟩ := List.getElem?_eq_some_iff.1 hk
  refine ⟨?_, ?_, ?_, ?_, ?_, ?_, ?_, ?_, ?_, ?_, h.capb⟩
  · intro q hq
    rcases List.mem_or_eq_of_mem_set hq with hq | rfl
    · exact h.pl q hq
    · exact (h.pl p hp).set x y n
  · have : (s.pls.set k (p.own x y n)).map (·.b) = s.pls.map (·.b) := by
      rw [List.map_set]
      apply List.ext_getElem?
      intro i
      rw [List.getElem?_set]
      split
      · rename_i hki; subst hki; simp [hpk, Pl.own, hlen]
      · rfl
    show ((s.pls.set k (p.own x y n)).map (·.b)).Nodup
    rw [this]; exact h.bs
  · have : (s.pls.set k (p.own x y n)).map (·.m) = s.pls.map (·.m) := by
      rw [List.map_set]
      apply List.ext_getElem?
      intro i
      rw [List.getElem?_set]
      split
      · rename_i hki; subst hki; simp [hpk, Pl.own, hlen]
      · rfl
    show ((s.pls.set k (p.own x y n)).map (·.m)).Nodup
    rw [this]; exact h.ms
  · exact List.nodup_cons.2 ⟨hn, h.ts⟩
  · intro z hz
    rcases List.mem_cons.1 hz with rfl | hz
    · exact oldPx_ok h hp x y
    · exact h.px z hz
  · intro t
    show 0 < refs (ownS s k p x y n).pls t ↔ t ∈ n :: s.ts.map (·.1)
    by_cases htn : t = n
    · subst htn; rw [r1]; simp
    · have h2 := r2 t htn
      rw [List.mem_cons]
      by_cases ht : tileOf p.en x y = some t
      · obtain ⟨h3, h4⟩ := refs_of_tile h hp ht
        have h5 : refs s.pls t ≠ 1 := by
          unfold needs at hneed
          rw [ht] at hneed
          simpa using hneed
        rw [if_pos ht] at h2
        exact ⟨fun _ => .inr h4, fun _ => by omega⟩
      · rw [if_neg ht] at h2
        rw [show refs (ownS s k p x y n).pls t = refs s.pls t by omega]
        exact ⟨fun hh => .inr ((h.live t).1 hh), fun hh => (h.live t).2 (hh.resolve_left htn)⟩
  · have := h.count
    show s.free - 1 + ((s.ts.length + 1 : Nat) : Int) = cap
    omega
  · have := h.free
    show 0 ≤ s.free - 1
    omega
  · intro q hq t
    rcases List.mem_or_eq_of_mem_set hq with hq | rfl
    · exact h.one q hq t
    · by_cases htn : t = n
      · subst htn
        have : (p.own x y t).en.countP (·.t == t) = 1 := count_set_new fun e he => hnt p hp e he
        omega
      · have h2 : (p.own x y n).en.countP (·.t == t) + (if tileOf p.en x y = some t then 1 else 0) = p.en.countP (·.t == t) := count_set_old htn
        have := h.one p hp t
        omega
  · show (s.pls.set k (p.own x y n)).length ≤ 1000000
    rw [List.length_set]; exact h.len

theorem wrS_ok {cap : Int} {s : St} (h : Ok cap s) (t i : Nat) {v : Int} (h0 : 0 ≤ v) (h1 : v < 4294967296) : Ok cap (wrS s t i v) := by
  refine ⟨h.pl, h.bs, h.ms, ?_, ?_, ?_, ?_, h.free, h.one, h.len, h.capb⟩
  · show ((wrTs s.ts t i v).map (·.1)).Nodup
    rw [wrTs_keys]; exact h.ts
  · intro z hz
    obtain ⟨z', hz', rfl⟩ := List.mem_map.1 hz
    have := h.px z' hz'
    split
    · refine ⟨by simpa using this.1, fun u hu => ?_⟩
      rcases List.mem_or_eq_of_mem_set hu with hu | rfl
      · exact this.2 u hu
      · exact ⟨h0, h1⟩
    · exact this
  · intro u
    show 0 < refs s.pls u ↔ u ∈ (wrTs s.ts t i v).map (·.1)
    rw [wrTs_keys]; exact h.live u
  · have : (wrTs s.ts t i v).length = s.ts.length := by simp [wrTs]
    show s.free + ((wrTs s.ts t i v).length : Int) = cap
    rw [this]; exact h.count

end Go.Tile
