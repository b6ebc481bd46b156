/-
  OWN WORK. What came in reads as it did; a struct of seven numbers, opened.
-/
import Derived.Test.YtmappfblfoklfaaTileW
import Derived.OpenShut
set_option linter.unusedVariables false
set_option linter.unusedSimpArgs false
namespace Go.Sh
open Go.RowKit Go.ChangeShapes Go.WideShapes Go.ChangeAt

section
variable {H : Type} {enc : TypeId × Value → H} {P : Program} {W W' : World}

theorem same_of (hx : Ext W.heap W'.heap) {p : MemPlace} (hp : p.block < W.heap.size) : W.sameAt W' p := by
  have h : W'.heap[p.block]? = W.heap[p.block]? := by
    obtain ⟨o, h⟩ : ∃ o, W.heap[p.block]? = some o := ⟨_, Array.getElem?_eq_getElem hp⟩
    rw [hx _ o h, h]
  cases p with
  | cell b o => exact World.cell?_of_block (w := W) h
  | map b => exact h

theorem trodAll_ext (hl : laidOutB P = true) (hx : Ext W.heap W'.heap) {sp : Nat → Bool} : ∀ {ts : List TypeId} {vs : List Value} {ds : List (DataW H)} {ps : List MemPlace}, (ts.all fun t => P.readableRec t && decide (t < P.types.size)) = true →
    DataW.TrodAll enc P W 0 (fun _ => true) true ts vs ds ps → (∀ x ∈ ps, x.block < W.heap.size) → (∀ x ∈ ps, sp x.block = true) → DataW.TrodAll enc P W' 0 sp true ts vs ds ps
  | [], vs, ds, ps, _, h, _, _ => by
    obtain ⟨rfl, rfl, rfl⟩ := trodAll_nil h
    exact trodAll_mk0
  | t :: ts, vs, ds, ps, hr, h, hlt, hs => by
    obtain ⟨v, vs1, d, ds1, a, b, rfl, rfl, rfl, h1, h2⟩ := trodAll_cons h
    simp only [List.all_cons, Bool.and_eq_true, decide_eq_true_eq] at hr
    exact trodAll_cons_mk (WideElems.Trod_stays hl hr.1.1 hr.1.2 h1 (fun x hx' => same_of hx (hlt x (List.mem_append_left _ hx'))) (fun x hx' => hs x (List.mem_append_left _ hx')))
      (trodAll_ext hl hx (by simpa using hr.2) h2 (fun x hx' => hlt x (List.mem_append_right _ hx')) (fun x hx' => hs x (List.mem_append_right _ hx')))

theorem open_op {t u : TypeId} {fs : Array Field} {base : Nat} {spare : Nat → Bool} {held : Bool} {fuel : Nat} {cs : List Value} {x : DataW H × List MemPlace} (hs : P.underlying t = some (.struct fs)) (hu : P.underlying u = some (.int .i64))
    (hf : ∀ i : Nat, i < 7 → ∃ f : Field, fs[i]? = some f ∧ f.type = u ∧ f.offset = i) (hz : fs.size = 7) (hc1 : P.cellsOf u = 1) (h : DataW.trod enc P W base spare held fuel t cs = some x) :
    cs.length = P.cellsOf t ∧ ∀ i : Nat, i < 7 → ∃ n : Int, cs[i]? = some (.int .i64 n) ∧ (Lit.int .i64 n).wf = true := by
  obtain ⟨xs, n, _, _, hl, hlen, hg⟩ := DataW.trod_struct hs h
  refine ⟨hl, fun i hi => ?_⟩
  obtain ⟨f, h1, h2, h3⟩ := hf i hi
  have := hg i f h1
  rw [h2, h3, hc1, List.getElem?_eq_getElem (by omega)] at this
  obtain ⟨m, hm, _, hw⟩ := DataW.trod_int hu this
  refine ⟨m, ?_, hw⟩
  have h4 : ((cs.drop i).take 1)[0]? = some (.int .i64 m) := by rw [hm]; rfl
  rw [List.getElem?_take_of_lt (by omega), List.getElem?_drop] at h4
  simpa using h4

theorem list7 {α : Type} {l : List α} (h : l.length = 7) : ∃ a b c d e f g, l = [a, b, c, d, e, f, g] := by
  match l, h with
  | [a, b, c, d, e, f, g], _ => exact ⟨a, b, c, d, e, f, g, rfl⟩

theorem seven_ints {cs : List Value} (hl : cs.length = 7) (h : ∀ i : Nat, i < 7 → ∃ n : Int, cs[i]? = some (.int .i64 n) ∧ (Lit.int .i64 n).wf = true) :
    ∃ a b c d e f g : Int, cs = [.int .i64 a, .int .i64 b, .int .i64 c, .int .i64 d, .int .i64 e, .int .i64 f, .int .i64 g] ∧ (Lit.int .i64 a).wf = true ∧ (Lit.int .i64 b).wf = true ∧ (Lit.int .i64 c).wf = true ∧ (Lit.int .i64 d).wf = true ∧
      (Lit.int .i64 e).wf = true ∧ (Lit.int .i64 f).wf = true ∧ (Lit.int .i64 g).wf = true := by
  obtain ⟨v0, v1, v2, v3, v4, v5, v6, rfl⟩ := list7 hl
  obtain ⟨a, ha, wa⟩ := h 0 (by omega)
  obtain ⟨b, hb, wb⟩ := h 1 (by omega)
  obtain ⟨c, hc, wc⟩ := h 2 (by omega)
  obtain ⟨d, hd, wd⟩ := h 3 (by omega)
  obtain ⟨e, he, we⟩ := h 4 (by omega)
  obtain ⟨f, hf, wf⟩ := h 5 (by omega)
  obtain ⟨g, hg, wg⟩ := h 6 (by omega)
  simp only [List.getElem?_cons_zero, List.getElem?_cons_succ, Option.some.injEq] at ha hb hc hd he hf hg
  subst ha hb hc hd he hf hg
  exact ⟨a, b, c, d, e, f, g, rfl, wa, wb, wc, wd, we, wf, wg⟩

theorem wf_range {a : Int} (h : (Lit.int .i64 a).wf = true) : -9223372036854775808 ≤ a ∧ a ≤ 9223372036854775807 := by
  simpa [Lit.wf, IntKind.min, IntKind.max, IntKind.signed, IntKind.bits] using h

end
end Go.Sh
