/-
  OWN WORK. The contracts of the package tile, over heaps.
-/
import Derived.Test.YtcbnifopfdgniaaTileGFun
import Derived.Test.YtcbnifopfdgniaaTileM
set_option linter.unusedVariables false
set_option linter.unusedSimpArgs false
namespace Go.Proofs
open Go.Sh Go.Tile

def enc (e : En) : MapEntry := { key := .agg #[.int .i64 e.x, .int .i64 e.y], val := .pointer (some ⟨e.t, 0, none⟩), born := e.born }
def tileO (px : List Int) (u : Int) : Obj := .cells (px.map (Value.int .u32) ++ [Value.int .i64 u]).toArray 72
def arenaO (f : Int) : Obj := .cells #[.int .i64 f] 59
def planeO (A : Nat) (p : Pl) : Obj := .cells #[.pointer (some ⟨A, 0, none⟩), .int .i64 p.w, .int .i64 p.h, .map (some p.m)] 62
def mapO (p : Pl) : Obj := .map (p.en.map enc).toArray p.clk

/-- The heap holds the model. -/
structure In (H : Heap) (s : St) : Prop where
  arena : H[s.A]? = some (arenaO s.free)
  plane : ∀ p ∈ s.pls, H[p.b]? = some (planeO s.A p)
  map : ∀ p ∈ s.pls, H[p.m]? = some (mapO p)
  tile : ∀ x ∈ s.ts, H[x.1]? = some (tileO x.2 (refs s.pls x.1))

theorem In.ext {H H' : Heap} {s : St} (h : In H s) (he : Ext H H') : In H' s :=
  ⟨he _ _ h.arena, fun p hp => he _ _ (h.plane p hp), fun p hp => he _ _ (h.map p hp), fun x hx => he _ _ (h.tile x hx)⟩

theorem kf (x y : Int) : kForm (.arr 2 3) (.int .i64) (.agg #[Value.int .i64 x, Value.int .i64 y]) := ⟨rfl, x, y, rfl⟩
theorem kfs (en : List En) : ∀ e ∈ (en.map enc).toArray.toList, kForm (.arr 2 3) (.int .i64) e.key := by
  intro e he
  simp only [List.mem_map] at he
  obtain ⟨f, _, rfl⟩ := he
  exact kf _ _

theorem kEq_enc (x y : Int) (e : En) : kEq (.agg #[Value.int .i64 x, Value.int .i64 y]) (enc e).key = e.at x y := by
  simp [kEq, enc, En.at]

theorem lookV_enc (x y : Int) (en : List En) : lookV (.agg #[Value.int .i64 x, Value.int .i64 y]) (en.map enc).toArray.toList (.pointer none) = .pointer ((tileOf en x y).map fun t => ⟨t, 0, none⟩) := by
  have key : ∀ (l : List En) (i : Nat), (match findE (.agg #[Value.int .i64 x, Value.int .i64 y]) (l.map enc) i with | some (_, v) => v | none => .pointer none) = Value.pointer ((tileOf l x y).map fun t => ⟨t, 0, none⟩) := by
    intro l
    induction l with
    | nil => intro i; rfl
    | cons e r ih =>
      intro i
      simp only [List.map_cons, findE, kEq_enc, tileOf, List.find?_cons]
      cases he : e.at x y with
      | true => simp [enc]
      | false => exact ih (i + 1)
  exact key en 0

theorem c24 {H : Heap} {b : Nat} {A : Nat} {p : Pl} (hp : H[b]? = some (planeO A p)) (x y : Int) {R : Value → Heap → Prop} (h : R (.bool (decide (0 ≤ x ∧ x < p.w ∧ 0 ≤ y ∧ y < p.h))) H) :
    CallsH Try.prog 24 #[.pointer (some ⟨b, 0, none⟩), .int .i64 x, .int .i64 y] H R := by
  refine Try.s24 ?_
  unfold Try.S24
  have e0 : ∀ q : Prop, [Decidable q] → (q ↔ (0 ≤ x ∧ x < p.w ∧ 0 ≤ y ∧ y < p.h)) → R (.bool (decide q)) H := fun q _ hq => by
    rw [show decide q = decide (0 ≤ x ∧ x < p.w ∧ 0 ≤ y ∧ y < p.h) from decide_eq_decide.2 hq]; exact h
  have e1 : (¬ (0 ≤ x ∧ x < p.w ∧ 0 ≤ y ∧ y < p.h)) → R (.bool false) H := fun hn => by rw [← decide_eq_false hn]; exact h
  refine br_dec (fun h1 => ⟨_, rfl, p.w, cell_get hp rfl, br_dec (fun h2 => br_dec (fun h3 => ⟨_, rfl, p.h, cell_get hp rfl, e0 _ ?_⟩) (fun h3 => e1 ?_)) (fun h2 => e1 ?_)⟩) (fun h1 => e1 ?_) <;> omega

theorem c25 {H : Heap} (v : Int) {R : Value → Heap → Prop} (h : R (.bool (decide (0 ≤ v ∧ v < 4294967296))) H) : CallsH Try.prog 25 #[.int .i64 v] H R := by
  refine Try.s25 ?_
  unfold Try.S25
  refine br_dec (fun h1 => ?_) (fun h1 => ?_)
  · rw [show decide (v < 4294967296) = decide (0 ≤ v ∧ v < 4294967296) from decide_eq_decide.2 (by omega)]; exact h
  · rw [← decide_eq_false (p := 0 ≤ v ∧ v < 4294967296) (by omega)]; exact h

theorem c26 {H : Heap} {x y : Int} (x0 : 0 ≤ x) (x1 : x ≤ 32768) (y0 : 0 ≤ y) (y1 : y ≤ 32768) {R : Value → Heap → Prop}
    (h : ∀ H', Ext H H' → R (.tuple #[.agg #[.int .i64 (x / 16), .int .i64 (y / 16)], .int .i64 (y % 16 * 16 + x % 16)]) H') : CallsH Try.prog 26 #[.int .i64 x, .int .i64 y] H R := by
  refine Try.s26 ?_
  unfold Try.S26
  have e1 : IntKind.wrap .i64 (Int.tdiv x 16) = x / 16 := by rw [Int.tdiv_eq_ediv_of_nonneg x0]; exact wrap_id (by omega) (by omega)
  have e2 : IntKind.wrap .i64 (Int.tdiv y 16) = y / 16 := by rw [Int.tdiv_eq_ediv_of_nonneg y0]; exact wrap_id (by omega) (by omega)
  have e3 : Int.tmod y 16 = y % 16 := Int.tmod_eq_emod_of_nonneg y0
  have e4 : Int.tmod x 16 = x % 16 := Int.tmod_eq_emod_of_nonneg x0
  rw [e1, e2, e3, e4, wrap_id (n := y % 16 * 16) (by omega) (by omega), wrap_id (by omega) (by omega)]
  unfold alc
  refine ⟨by decide, by decide, by decide, by decide, rfl, stAt_whole (get_push_self _ _) rfl (by simp [Value.oneCell']) ?_⟩
  refine ⟨_, rfl, rowIn_whole (get_set_self (get_push_self _ _)), ?_⟩
  refine h _ (fun b o hb => get_set_ne (Nat.ne_of_gt (lt_of_get hb)) (get_push hb))

theorem c18 {H : Heap} {A : Nat} {f : Int} (ha : H[A]? = some (arenaO f)) {R : Value → Heap → Prop} (h : R (.int .i64 f) H) : CallsH Try.prog 18 #[.pointer (some ⟨A, 0, none⟩)] H R :=
  Try.s18 ⟨_, rfl, f, cell_get ha rfl, h⟩

theorem c19 {H : Heap} {b : Nat} {A : Nat} {p : Pl} (hp : H[b]? = some (planeO A p)) (hm : H[p.m]? = some (mapO p)) {R : Value → Heap → Prop} (h : R (.int .i64 p.en.length) H) : CallsH Try.prog 19 #[.pointer (some ⟨b, 0, none⟩)] H R :=
  Try.s19 ⟨_, rfl, _, cell_get hp rfl, _, rfl, _, _, hm, by simpa using h⟩

theorem c23 {H : Heap} {b : Nat} {A : Nat} {p : Pl} (hp : H[b]? = some (planeO A p)) {R : Value → Heap → Prop} (h : R (.tuple #[.int .i64 p.w, .int .i64 p.h]) H) : CallsH Try.prog 23 #[.pointer (some ⟨b, 0, none⟩)] H R := by
  refine Try.s23 ?_
  unfold Try.S23
  exact ⟨_, rfl, _, cell_get hp rfl, _, rfl, _, cell_get hp rfl, h⟩

theorem tile_cell {H : Heap} {t : Nat} {px : List Int} {u : Int} (h : H[t]? = some (tileO px u)) (hl : px.length = 256) {i : Nat} (hi : i < 256) : cell H ⟨t, i, none⟩ = some (.int .u32 (px.getD i 0)) := by
  refine cell_get h ?_
  simp only [List.getElem?_toArray]
  rw [List.getElem?_append_left (by simp [hl, hi])]
  simp [hl, hi]

theorem tile_users {H : Heap} {t : Nat} {px : List Int} {u : Int} (h : H[t]? = some (tileO px u)) (hl : px.length = 256) : cell H ⟨t, 256, none⟩ = some (.int .i64 u) := by
  refine cell_get h ?_
  simp only [List.getElem?_toArray]
  rw [List.getElem?_append_right (by simp [hl])]
  simp [hl]

theorem c20 {cap : Int} {H : Heap} {s : St} (hin : In H s) (hok : Ok cap s) {p : Pl} (hp : p ∈ s.pls) (x y : Int) {R : Value → Heap → Prop} (h : ∀ H', Ext H H' → R (.int .i64 (pxAt s p x y)) H') :
    CallsH Try.prog 20 #[.pointer (some ⟨p.b, 0, none⟩), .int .i64 x, .int .i64 y] H R := by
  have pok := hok.pl p hp
  refine Try.s20 ?_
  unfold Try.S20
  refine c24 (hin.plane p hp) x y ⟨_, rfl, br_not (fun hn => ?_) (fun hy => ?_)⟩
  · have : pxAt s p x y = 0 := by simp [pxAt, Pl.has, hn]
    rw [← this]; exact h H (Ext.refl H)
  · have hy' := of_decide_eq_true hy
    obtain ⟨_, _, _, _⟩ := pok
    refine c26 (by omega) (by omega) (by omega) (by omega) fun H1 e1 => ⟨_, _, rfl, ?_⟩
    unfold alc
    refine ⟨rfl, stAt_whole (get_push_self _ _) rfl (by simp [Value.oneCell']) ?_⟩
    generalize hH2 : Array.setIfInBounds _ _ _ = H2
    have e2 : Ext H H2 := by
      subst hH2
      exact e1.trans fun b o hb => get_set_ne (Nat.ne_of_gt (lt_of_get hb)) (get_push hb)
    have hk : H2[H1.size]? = some (.cells #[Value.int .i64 (x / 16), Value.int .i64 (y / 16)] 65) := by
      subst hH2
      exact get_set_self (get_push_self _ _)
    have hin2 := hin.ext e2
    refine ⟨_, rfl, some p.m, cell_get (hin2.plane p hp) rfl, _, rfl, rowIn_whole hk, p.m, rfl, _, _, hin2.map p hp, kf _ _, kfs _, ?_⟩
    refine ⟨_, lookV_enc _ _ _, ?_⟩
    cases ht : tileOf p.en (x / 16) (y / 16) with
    | none =>
      refine br_false ?_
      have : pxAt s p x y = 0 := by simp [pxAt, Pl.has, hy, ht]
      rw [← this]; exact h H2 e2
    | some t =>
      refine br_true ⟨_, rfl, by omega, by omega, ?_⟩
      obtain ⟨l, hl, hmem, hlen, hv⟩ := hok.px_of hp ht
      have hi := idx_lt x y
      refine ⟨l.getD (idx x y) 0, ?_, ?_⟩
      · simp only [add_none, Nat.zero_add, Nat.mul_one]
        exact tile_cell (hin2.tile _ hmem) hlen hi
      · have hx : pxAt s p x y = l.getD (idx x y) 0 := by simp [pxAt, Pl.has, hy, ht, hl]
        have hb : 0 ≤ l.getD (idx x y) 0 ∧ l.getD (idx x y) 0 < 4294967296 := by
          have hlt : idx x y < l.length := by omega
          rw [List.getD_eq_getElem?_getD, List.getElem?_eq_getElem hlt]
          exact hv _ (List.getElem_mem hlt)
        rw [wrap_id (by omega) (by omega), ← hx]
        exact h H2 e2

end Go.Proofs
