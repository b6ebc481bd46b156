/-
  OWN WORK. Several texts in one: TtK, TtL, TtM, TtPlays, TsMade, OpBytes, OpTree.
-/
import Derived.Test.YtnoebcjpbbccnaaMgTreeMadeF
import Derived.Test.YtnoebcjpbbccnaaRows
import Derived.Test.YtnoebcjpbbccnaaMgTreeMadeB
import Derived.ChangeSlices
import Derived.Deep.Slices

/-
  OWN WORK. Edits made the document's; edits that are small; documents that are alike.
-/
set_option linter.unusedVariables false
set_option linter.unusedSimpArgs false
set_option maxRecDepth 10000
namespace Go.Proofs
open Go.Sh
variable {H0 H : Heap} {σ : List Rs} {R : Value → Heap → Prop}

/-! ### texts of bytes -/

theorem textOf_eq (xs : List Int) : textOf xs = ⟨(xs.map fun n => UInt8.ofNat n.toNat).toArray⟩ := by
  have : ∀ (xs : List Int) (r : ByteArray), xs.foldl (fun r n => r.push (UInt8.ofNat n.toNat)) r = ⟨r.data ++ (xs.map fun n => UInt8.ofNat n.toNat).toArray⟩ := by
    intro xs
    induction xs with
    | nil => intro r; cases r; simp
    | cons x xs ih =>
      intro r
      rw [List.foldl_cons, ih]
      cases r
      simp [ByteArray.push]
  unfold textOf
  rw [this]
  simp [ByteArray.empty, ByteArray.emptyWithCapacity]
  rfl
theorem textOf_beq {xs ys : List Int} (hx : ∀ c ∈ xs, 0 ≤ c ∧ c < 256) (hy : ∀ c ∈ ys, 0 ≤ c ∧ c < 256) : (textOf xs == textOf ys) = decide (xs = ys) := by
  have hbq : ∀ a b : ByteArray, (a == b) = (a.data == b.data) := fun a b => by cases a; cases b; rfl
  rw [hbq, textOf_eq, textOf_eq]
  by_cases h : xs = ys
  · subst h
    rw [decide_eq_true rfl]
    exact (beq_self_eq_true _)
  · rw [decide_eq_false h]
    rw [Bool.eq_false_iff]
    intro hb
    have h2 : (xs.map fun n => UInt8.ofNat n.toNat) = ys.map fun n => UInt8.ofNat n.toNat := by
      have := eq_of_beq hb
      simpa using this
    refine h ?_
    have : ∀ (a b : List Int), (∀ c ∈ a, 0 ≤ c ∧ c < 256) → (∀ c ∈ b, 0 ≤ c ∧ c < 256) → (a.map fun n => UInt8.ofNat n.toNat) = (b.map fun n => UInt8.ofNat n.toNat) → a = b := by
      intro a
      induction a with
      | nil => intro b _ _ hh; cases b with
        | nil => rfl
        | cons => simp at hh
      | cons x a ih =>
        intro b ha hb hh
        cases b with
        | nil => simp at hh
        | cons y b =>
          simp only [List.map_cons, List.cons.injEq] at hh
          obtain ⟨q1, q2⟩ := hh
          have e1 := ih b (fun c hc => ha c (List.mem_cons_of_mem _ hc)) (fun c hc => hb c (List.mem_cons_of_mem _ hc)) q2
          have hx1 := ha x List.mem_cons_self
          have hy1 := hb y List.mem_cons_self
          have q3 := congrArg UInt8.toNat q1
          rw [UInt8.toNat_ofNat', UInt8.toNat_ofNat', Nat.mod_eq_of_lt (by omega), Nat.mod_eq_of_lt (by omega)] at q3
          rw [e1, show x = y from by omega]
    exact this xs ys hx hy h2
theorem IS.bs {H : Heap} {p : Option Addr} {l : Nat} {xs : List Int} (h : IS H p l (kints .u8 xs)) : bsOf H p l xs := by
  cases p with
  | none =>
    exact List.eq_nil_iff_forall_not_mem.2 fun v hv => by
      obtain ⟨i, hi⟩ := List.getElem?_of_mem hv
      obtain ⟨a, h1, _⟩ := h.get i _ (kints_get hi)
      cases h1
  | some a =>
    refine ⟨h.length, fun j v hv => ?_⟩
    obtain ⟨a', h1, h2⟩ := h.get j v (by simpa [kints] using hv)
    cases h1; exact h2

/-! ### edits -/

/-- Points' cells. -/
def ptsC (l : List Pt) : List Value := (l.map fun p => [Value.int .i64 p.1, Value.int .i64 p.2]).flatten
theorem ptsC_len (l : List Pt) : (ptsC l).length = l.length * 2 := by
  induction l with
  | nil => rfl
  | cons p l ih =>
    rw [show ptsC (p :: l) = [Value.int .i64 p.1, Value.int .i64 p.2] ++ ptsC l from by simp [ptsC], List.length_append, ih, List.length_cons]
    show 2 + l.length * 2 = (l.length + 1) * 2
    omega
theorem ptsC_app (a b : List Pt) : ptsC (a ++ b) = ptsC a ++ ptsC b := by simp [ptsC]
theorem ptsC_get : ∀ {l : List Pt} {i : Nat} {x y : Int}, l[i]? = some (x, y) → ∀ {j : Nat} {v : Value}, (#[Value.int .i64 x, Value.int .i64 y] : Array Value)[j]? = some v → (ptsC l)[i * 2 + j]? = some v := by
  intro l
  induction l with
  | nil => intro i x y h; simp at h
  | cons p l ih =>
    intro i x y h j v hv
    have hj : j < 2 := (Array.getElem?_eq_some_iff.1 hv).1
    rw [show ptsC (p :: l) = [Value.int .i64 p.1, Value.int .i64 p.2] ++ ptsC l from by simp [ptsC]]
    cases i with
    | zero =>
      simp at h
      rw [Nat.zero_mul, Nat.zero_add, List.getElem?_append_left (by exact hj)]
      rw [h]
      simpa using hv
    | succ i =>
      rw [List.getElem?_cons_succ] at h
      rw [List.getElem?_append_right (by simp; omega), show (i + 1) * 2 + j - [Value.int .i64 p.1, Value.int .i64 p.2].length = i * 2 + j from by simp; omega]
      exact ih h hv
theorem RS.is2 {H : Heap} {p : Option Addr} {l : Nat} {el : TypeId} {pts : List Pt} (h : RS H p l el 2 (ptsC pts)) : IS2 H p l pts := by
  have hl : pts.length = l := by have := h.len; rw [ptsC_len] at this; omega
  refine ⟨hl, fun i x y hi => ?_⟩
  have hil := (List.getElem?_eq_some_iff.1 hi).1
  obtain ⟨blk, h1, h2⟩ := h.row (i := i) (by omega) (by decide) (xs := #[.int .i64 x, .int .i64 y]) fun j v hv => ptsC_get hi hv
  exact ⟨_, h1, by rw [add_none, Nat.zero_add]; exact h2⟩
theorem zeroE_len : ([Value.int .i64 0, Value.int .i64 0, Value.int .i64 0, Value.int .i64 0, Value.int .i64 0, Value.int .i64 0, Value.int .i64 0, Value.int .i64 0, Value.int .i64 0, Value.int .i64 0, Value.slice none 0 0, Value.slice none 0 0, Value.int .i64 0, Value.int .i64 0, Value.int .i64 0, Value.int .i64 0, Value.int .i64 0, Value.int .i64 0, Value.slice none 0 0] : List Value).length = 19 := rfl

theorem c18 {e : Ed} {s : EdS} (hed : EdOk H e s) (hR : ∀ (s' : EdS) H', Ext H H' → EdOk H' e s' → R (.agg (edL e s').toArray) H') : CallsH Try.prog 18 #[.agg (edL e s).toArray] H R := by
  refine Try.s18 ?_
  unfold Try.S18
  refine (St.nil H).alc fun b2 H3 hs3 => hs3.alc fun b4 H5 hs5 => ?_
  refine ⟨e.kind, hs5.get 1 rfl (j := 0) rfl, e.id, hs5.get 1 rfl (j := 1) rfl, e.to, hs5.get 1 rfl (j := 2) rfl, e.at_, hs5.get 1 rfl (j := 3) rfl, e.n, hs5.get 1 rfl (j := 4) rfl, e.m, hs5.get 1 rfl (j := 5) rfl, e.x, hs5.get 1 rfl (j := 6) rfl, e.y, hs5.get 1 rfl (j := 7) rfl, e.w, hs5.get 1 rfl (j := 8) rfl, e.h, hs5.get 1 rfl (j := 9) rfl, _, _, _, hs5.get 1 rfl (edL_10 e s), (ints e.map.l).toArray, rfl, edMap (hs5.block 1 rfl), _, _, _, hs5.get 1 rfl (edL_18 e s), rfl, by decide, hs5.alc fun b19 H20 hs20 => ⟨rfl, ?_⟩⟩
  refine hs20.putAll 0 rfl rfl (by intro v hv; exact edL_one e ⟨s.P, .nil, s.A⟩ v hv) fun H21 hs21 => ?_
  have hs21 : St H H21 [.cell b19 (edL e ⟨s.P, .nil, s.A⟩).toArray 48, .cell b4 #[Value.int .i64 0, Value.int .i64 0, Value.int .i64 0, Value.int .i64 0, Value.int .i64 0, Value.int .i64 0, Value.int .i64 0, Value.int .i64 0, Value.int .i64 0, Value.int .i64 0, Value.slice none 0 0, Value.slice none 0 0, Value.int .i64 0, Value.int .i64 0, Value.int .i64 0, Value.int .i64 0, Value.int .i64 0, Value.int .i64 0, Value.slice none 0 0] 48, .cell b2 (edL e s).toArray 43] := hs21
  refine ⟨_, _, _, hs21.get 2 rfl (edL_11 e s), ?_⟩
  intro X hX
  have hlen := hed.rd.shape.len
  have hfew := hed.shape
  have go : ∀ k, k ≤ e.shape.length → ∀ (q : Sl3) H1, St H H1 [.sl q.p q.l q.c 80 2 (ptsC (e.shape.take k)), .cell b19 (edL e ⟨s.P, q, s.A⟩).toArray 48, .cell b4 #[Value.int .i64 0, Value.int .i64 0, Value.int .i64 0, Value.int .i64 0, Value.int .i64 0, Value.int .i64 0, Value.int .i64 0, Value.int .i64 0, Value.int .i64 0, Value.int .i64 0, Value.slice none 0 0, Value.slice none 0 0, Value.int .i64 0, Value.int .i64 0, Value.int .i64 0, Value.int .i64 0, Value.int .i64 0, Value.int .i64 0, Value.slice none 0 0] 48, .cell b2 (edL e s).toArray 43] → X [.int .i64 (k : Nat)] H1 := by
    refine upto fun k hk ih q H1 hs1 => hX _ _ (br_dec (fun hlt => ?_) fun hge => ?_)
    · have hk' : k < e.shape.length := by omega
      obtain ⟨a, hp, hrow⟩ := (hed.rd.shape.ext hs1.ext).row hk'
      have hql : q.l = k := by have := (hs1.rs 0 rfl).len; rw [ptsC_len, List.length_take] at this; omega
      refine ⟨a, hp, by omega, hlt, ptV (nthP e.shape k), rfl, hrow, hs1.alc fun b28 H29 hs29 => ⟨rfl, hs29.putAll 0 rfl rfl (by simp [ptV, Value.oneCell']) fun H30 hs30 => ?_⟩⟩
      refine ⟨_, _, _, hs30.get 2 rfl (edL_11 e ⟨s.P, q, s.A⟩), (nthP e.shape k).1, hs30.get 0 rfl (j := 0) rfl, (nthP e.shape k).2, hs30.get 0 rfl (j := 1) rfl, rfl, by decide, hs30.alc fun b34 H35 hs35 => ?_⟩
      refine hs35.appC 2 0 rfl rfl rfl (by intro v hv; have hv : v ∈ [Value.int .i64 (nthP e.shape k).1, Value.int .i64 (nthP e.shape k).2] := hv; simp only [List.mem_cons, List.not_mem_nil, or_false] at hv; rcases hv with rfl | rfl <;> rfl) (by decide) rfl (by show (q.l + 1) * 16 ≤ _; omega) (by show q.l + 1 ≤ _; omega) fun p' c' H37 hs37 => ?_
      refine hs37.put 3 rfl (by show 11 < 19; decide) rfl fun H38 hs38 => ?_
      rw [wrap_id (by omega) (by omega)]
      refine ih hk' ⟨p', q.l + 1, c'⟩ H38 ?_
      rw [take_succ (List.getElem?_eq_getElem hk'), ptsC_app]
      have : ptsC [e.shape[k]] = (setL [Value.int .i64 0, Value.int .i64 0] 0 (Array.toList #[Value.int .i64 (nthP e.shape k).1, Value.int .i64 (nthP e.shape k).2])).toArray.toList := by rw [nthP_eq hk']; rfl
      rw [this]
      exact hs38.drop 2
    · have hkl : k = e.shape.length := by omega
      subst hkl
      rw [List.take_of_length_le (Nat.le_refl _)] at hs1
      refine ⟨(edL e ⟨s.P, q, s.A⟩).toArray, rfl, rowIn_whole (hs1.block 1 rfl), rfl, hs1.putAll 2 rfl rfl (by simpa using edL_one e ⟨s.P, q, s.A⟩) fun H40 hs40 => ⟨_, rfl, rowIn_whole (hs40.block 2 rfl), ?_⟩⟩
      refine hR ⟨s.P, q, s.A⟩ H40 hs40.ext ⟨⟨hed.rd.p.ext hs40.ext, RS.is2 (hs40.rs 0 rfl), hed.rd.params.ext hs40.ext⟩, hed.shape, hed.params⟩
  exact go 0 (Nat.zero_le _) .nil H21 (hs21.nilSl _ _)

/-- Edits that came in. -/
structure EdsR (H : Heap) (p : Option Addr) (l : Nat) (es : List (Ed × EdS)) : Prop where
  len : es.length = l
  get : ∀ (i : Nat) e s, es[i]? = some (e, s) → ∃ a, p = some a ∧ rowIn H (a.add (i * 19)) (edL e s).toArray ∧ rdEd H e s
theorem EdsR.ext {H H' : Heap} {p : Option Addr} {l : Nat} {es : List (Ed × EdS)} (h : EdsR H p l es) (he : Ext H H') : EdsR H' p l es := ⟨h.len, fun i e s hi => let ⟨a, h1, h2, h3⟩ := h.get i e s hi; ⟨a, h1, rowAt_ext he h2, h3.ext he⟩⟩
def smallE (e : Ed) : Bool := decide (e.p.length ≤ 600 ∧ e.shape.length ≤ 300 ∧ e.params.length ≤ 100 ∧ ¬ (e.kind = 1 ∧ e.n = 0 ∧ sizedB e.w e.h = true ∧ e.w * e.h > 600))
def smallB (es : List (Ed × EdS)) (most : Int) : Bool := decide ((es.length : Int) ≤ most) && es.all fun x => smallE x.1
theorem smallB_ok {es : List (Ed × EdS)} {most : Int} (h : smallB es most = true) : (es.length : Int) ≤ most ∧ ∀ x ∈ es, x.1.shape.length ≤ 300 ∧ x.1.params.length ≤ 100 := by
  unfold smallB at h
  rw [Bool.and_eq_true] at h
  exact ⟨of_decide_eq_true h.1, fun x hx => by have := of_decide_eq_true (List.all_eq_true.1 h.2 x hx); exact ⟨this.2.1, this.2.2.1⟩⟩
theorem c16 {p : Option Addr} {l c : Nat} {es : List (Ed × EdS)} {most : Int} (h : EdsR H p l es) (hm : most ≤ 1000000) (hR : ∀ H', Ext H H' → R (.bool (smallB es most)) H') : CallsH Try.prog 16 #[.slice p l c, .int .i64 most] H R := by
  refine Try.s16 ?_
  unfold Try.S16
  have hlen := h.len
  refine br_dec (fun hgt => ?_) fun hle => ?_
  · have := hR H (Ext.refl H)
    rw [show smallB es most = false from by unfold smallB; rw [decide_eq_false (by omega), Bool.false_and]] at this; exact this
  intro X hX
  have go : ∀ k, k ≤ es.length → ∀ H1, Ext H H1 → (es.take k).all (fun x => smallE x.1) = true → X [.int .i64 (k : Nat)] H1 := by
    refine upto fun k hk ih H1 he hall => hX _ _ (br_dec (fun hlt => ?_) fun hge => ?_)
    · have hk' : k < es.length := by omega
      have hx := List.getElem?_eq_getElem hk'
      generalize hxe : es[k] = x at hx
      obtain ⟨e, s⟩ := x
      obtain ⟨a, hp, hrow, hrd⟩ := (h.ext he).get k e s hx
      have hpl := hrd.p.length
      have hsl := hrd.shape.len
      have hal := hrd.params.length
      intro J6 hJ6
      refine ⟨a, hp, by omega, hlt, _, rfl, hrow, (St.of_ext he).alc fun b10 H11 hs11 => ⟨rfl, hs11.putAll 0 rfl rfl (by simpa using edL_one e s) fun H12 hs12 => ?_⟩⟩
      have bad : ∀ {H2 : Heap}, Ext H H2 → smallE e = false → R (.bool false) H2 := fun he2 hb => by
        have := hR _ he2
        rw [show smallB es most = false from by
          unfold smallB
          rw [show es.all (fun x => smallE x.1) = false from Bool.eq_false_iff.2 fun hh => by
            have := List.all_eq_true.1 hh _ (List.mem_of_getElem? hx)
            rw [hb] at this; cases this]
          rw [Bool.and_false]] at this
        exact this
      have good : ∀ {H2 : Heap}, Ext H H2 → smallE e = true → J6 [] H2 := fun he2 hb => by
        refine hJ6 _ ?_
        rw [wrap_id (by omega) (by omega)]
        refine ih hk' _ he2 ?_
        rw [take_succ hx, List.all_append, hall, Bool.true_and, List.all_cons, List.all_nil, Bool.and_true]; exact hb
      refine ⟨_, _, _, hs12.get 0 rfl (edL_10 e s), br_dec (fun c => bad hs12.ext (decide_eq_false (by omega))) fun c1 => ?_⟩
      refine ⟨_, _, _, hs12.get 0 rfl (edL_11 e s), br_dec (fun c => bad hs12.ext (decide_eq_false (by omega))) fun c2 => ?_⟩
      refine ⟨_, _, _, hs12.get 0 rfl (edL_18 e s), br_dec (fun c => bad hs12.ext (decide_eq_false (by omega))) fun c3 => ?_⟩
      have fin : ∀ {H2 : Heap}, Ext H H2 → ¬ (e.kind = 1 ∧ e.n = 0 ∧ sizedB e.w e.h = true ∧ e.w * e.h > 600) → J6 [] H2 := fun he2 hno => good he2 (decide_eq_true ⟨by omega, by omega, by omega, hno⟩)
      refine ⟨e.kind, hs12.get 0 rfl (j := 0) rfl, br_eq (fun k1 => ⟨e.n, hs12.get 0 rfl (j := 4) rfl, br_eq (fun n0 => ?_) fun n0 => fin hs12.ext fun hh => n0 hh.2.1⟩) fun k1 => fin hs12.ext fun hh => k1 hh.1⟩
      refine ⟨e.w, hs12.get 0 rfl (j := 8) rfl, e.h, hs12.get 0 rfl (j := 9) rfl, c34 ⟨_, rfl, br_i (fun hb => ?_) fun hb => fin hs12.ext fun hh => by rw [hb] at hh; exact absurd hh.2.2.1 (by decide)⟩⟩
      obtain ⟨q1, q2, q3, q4, q5⟩ := of_decide_eq_true hb
      refine ⟨e.w, hs12.get 0 rfl (j := 8) rfl, e.h, hs12.get 0 rfl (j := 9) rfl, ?_⟩
      rw [wrap_area q1 q2 q3 q4]
      refine br_dec (fun hg => bad hs12.ext (decide_eq_false fun hh => hh.2.2.2 ⟨k1, n0, hb, hg⟩)) fun hg => fin hs12.ext fun hh => hg hh.2.2.2
    · rw [List.take_of_length_le (by omega)] at hall
      have := hR H1 he
      rw [show smallB es most = true from by unfold smallB; rw [hall, decide_eq_true (by omega)]; rfl] at this; exact this
  exact go 0 (Nat.zero_le _) H (Ext.refl H) rfl

/-! ### alike -/

theorem c56 {p q : Option Addr} {l m c d : Nat} {xs ys : List Int} (hx : IS H p l (ints xs)) (hy : IS H q m (ints ys)) (hl : l ≤ 1000000000000) (hR : R (.bool (decide (xs = ys))) H) : CallsH Try.prog 56 #[.slice p l c, .slice q m d] H R := by
  refine Try.s56 ?_
  unfold Try.S56
  have hxl := hx.length
  have hyl := hy.length
  have bad : xs ≠ ys → R (.bool false) H := fun h => by rw [decide_eq_false h] at hR; exact hR
  refine br_ne (fun hne => bad fun h => hne (by rw [h] at hxl; omega)) fun he => ?_
  intro X hX
  have go : ∀ k, k ≤ l → xs.take k = ys.take k → X [.int .i64 (k : Nat)] H := by
    refine upto fun k hk ih heq => hX _ _ (br_dec (fun hlt => ?_) fun hge => ?_)
    · have hk' : k < l := by omega
      have h1 := List.getElem?_eq_getElem (show k < xs.length by omega)
      have h2 := List.getElem?_eq_getElem (show k < ys.length by omega)
      refine hx.rd (i := (k : Int)) (x := xs[k]) (by omega) hlt (by rw [Int.toNat_natCast]; exact h1) (hy.rd (i := (k : Int)) (x := ys[k]) (by omega) (by omega) (by rw [Int.toNat_natCast]; exact h2) (br_ne (fun hne => bad fun h => hne ?_) fun hee => ?_))
      · subst h; rfl
      · rw [wrap_id (by omega) (by omega)]
        exact ih hk' ((eq_take heq h1 h2).2 hee)
    · rw [List.take_of_length_le (by omega), List.take_of_length_le (by omega)] at heq
      rw [decide_eq_true heq] at hR; exact hR
  exact go 0 (by omega) (by simp)

def okM (f : LayF) : Prop := f.p.length ≤ 1000000000 ∧ f.params.length ≤ 1000000000 ∧ ∀ c ∈ f.mask, 0 ≤ c ∧ c < 256
theorem goodF.okM {w h next : Int} {f : LayF} (hg : goodF w h next f) : Go.Proofs.okM f := by
  refine ⟨?_, ?_, fun c hc => by rcases hg.maskV c hc with h | h <;> omega⟩
  · by_cases hk : f.kind = 0
    · have h1 := (hg.ras hk).2.1; have h2 := (of_decide_eq_true (hg.ras hk).1).2.2.2.2; omega
    · rw [(hg.bare hk).2.2.1]; simp
  · by_cases hk : f.kind = 2
    · have := hg.tab
      have hk2 := tabB_kind this
      unfold kindP at hk2
      split at hk2
      · have := of_decide_eq_true hk2; omega
      · split at hk2
        · have := of_decide_eq_true hk2; omega
        · split at hk2
          · have := of_decide_eq_true hk2; omega
          · split at hk2
            · have := of_decide_eq_true hk2; omega
            · cases hk2
    · rw [(hg.plain hk).2]; simp
theorem c28 {t : T} {r : RT} (ht : rdT H t) (hr : rdR H r) (mt : okM t.f) (mr : okM r.f) (hR : ∀ H', Ext H H' → R (.bool (decide (t.f = r.f))) H') : CallsH Try.prog 28 #[.agg (cellsT t).toArray, .agg (cellsR r).toArray] H R := by
  cases t with | mk f P M A K ks =>
  obtain ⟨htp, htm, hta, _⟩ := ht
  obtain ⟨g, to, P2, M2, A2⟩ := r
  have mt : okM f := mt
  have mr : okM g := mr
  have hR : ∀ H', Ext H H' → R (.bool (decide (f = g))) H' := hR
  refine Try.s28 ?_
  unfold Try.S28
  refine (St.nil H).alc fun b3 H4 hs4 => hs4.alc fun b5 H6 hs6 => ?_
  have bad : f ≠ g → ∀ {H' : Heap}, Ext H H' → R (.bool false) H' := fun h H' he => by have := hR H' he; rw [decide_eq_false h] at this; exact this
  intro J7 hJ7
  refine ⟨f.id, hs6.get 1 rfl (j := 0) rfl, g.id, hs6.get 0 rfl (j := 0) rfl, br_ne (fun h => bad (fun e => h (by rw [e])) hs6.ext) fun h1 => ?_⟩
  refine ⟨f.kind, hs6.get 1 rfl (j := 1) rfl, g.kind, hs6.get 0 rfl (j := 1) rfl, br_ne (fun h => bad (fun e => h (by rw [e])) hs6.ext) fun h2 => ?_⟩
  refine ⟨f.hidden, hs6.get 1 rfl (j := 2) rfl, g.hidden, hs6.get 0 rfl (j := 3) rfl, br_not (fun h => bad (fun e => by rw [e] at h; simp at h) hs6.ext) fun h3 => ?_⟩
  refine ⟨f.opacity, hs6.get 1 rfl (j := 3) rfl, g.opacity, hs6.get 0 rfl (j := 4) rfl, br_ne (fun h => bad (fun e => h (by rw [e])) hs6.ext) fun h4 => ?_⟩
  refine ⟨f.mode, hs6.get 1 rfl (j := 4) rfl, g.mode, hs6.get 0 rfl (j := 5) rfl, br_ne (fun h => bad (fun e => h (by rw [e])) hs6.ext) fun h5 => ?_⟩
  refine ⟨f.w, hs6.get 1 rfl (j := 5) rfl, g.w, hs6.get 0 rfl (j := 6) rfl, br_ne (fun h => bad (fun e => h (by rw [e])) hs6.ext) fun h6 => ?_⟩
  refine ⟨f.h, hs6.get 1 rfl (j := 6) rfl, g.h, hs6.get 0 rfl (j := 7) rfl, br_ne (fun h => bad (fun e => h (by rw [e])) hs6.ext) fun h7 => ?_⟩
  have row6 : ∀ {b : Nat} {cs : Array Value} {ty : TypeId} {k : Nat} {m : M6}, H6[b]? = some (.cells cs ty) → (∀ j : Nat, j < 6 → cs[k + j]? = (ints m.l)[j]?) → rowIn H6 (Addr.add ⟨b, 0, none⟩ k) (ints m.l).toArray := fun {b cs ty k m} hb hc j v hv => by
    rw [List.getElem?_toArray] at hv
    have hj : j < 6 := (List.getElem?_eq_some_iff.1 hv).1
    rw [add_none, add_none]
    exact cell_get hb (by rw [Nat.zero_add, hc j hj]; exact hv)
  have six : ∀ {P : Nat → Prop}, P 0 → P 1 → P 2 → P 3 → P 4 → P 5 → ∀ j, j < 6 → P j := fun p0 p1 p2 p3 p4 p5 j hj => by
    obtain rfl | rfl | rfl | rfl | rfl | rfl : j = 0 ∨ j = 1 ∨ j = 2 ∨ j = 3 ∨ j = 4 ∨ j = 5 := by omega
    all_goals assumption
  refine ⟨(ints f.map.l).toArray, rfl, row6 (hs6.block 1 rfl) (six rfl rfl rfl rfl rfl rfl), (ints g.map.l).toArray, rfl, row6 (hs6.block 0 rfl) (six rfl rfl rfl rfl rfl rfl), rfl, f.map.l, g.map.l, rfl, rfl, rfl, rfl, br_not (fun h => bad (fun e => ?_) hs6.ext) fun h8 => ?_⟩
  · have := of_decide_eq_false h; exact this (by rw [e])
  have h8 := M6_l.1 (of_decide_eq_true h8)
  refine ⟨f.smooth, hs6.get 1 rfl (j := 15) rfl, g.smooth, hs6.get 0 rfl (j := 16) rfl, br_not (fun h => bad (fun e => by rw [e] at h; simp at h) hs6.ext) fun h9 => ?_⟩
  refine ⟨f.table, hs6.get 1 rfl (j := 16) rfl, g.table, hs6.get 0 rfl (j := 17) rfl, br_ne (fun h => bad (fun e => h (by rw [e])) hs6.ext) fun h10 => hJ7 _ ?_⟩
  have hpl := htp.length
  have hal := hta.length
  obtain ⟨m1, m2, m3⟩ := mt
  refine ⟨P.p, P.l, P.c, hs6.get 1 rfl (j := 7) rfl, P2.p, P2.l, P2.c, hs6.get 0 rfl (j := 8) rfl, c56 (htp.ext hs6.ext) (hr.p.ext hs6.ext) (by omega) ⟨_, rfl, br_dec (fun h11 => ?_) fun h => bad (fun e => h (by rw [e])) hs6.ext⟩⟩
  refine ⟨M.p, M.l, M.c, hs6.get 1 rfl (j := 8) rfl, f.mask, IS.bs (htm.ext hs6.ext), M2.p, M2.l, M2.c, hs6.get 0 rfl (j := 9) rfl, g.mask, IS.bs (hr.mask.ext hs6.ext), ?_⟩
  rw [textOf_beq m3 mr.2.2]
  refine br_dec (fun h12 => ?_) fun h => bad (fun e => h (by rw [e])) hs6.ext
  refine ⟨A.p, A.l, A.c, hs6.get 1 rfl (j := 17) rfl, A2.p, A2.l, A2.c, hs6.get 0 rfl (j := 18) rfl, c56 (hta.ext hs6.ext) (hr.params.ext hs6.ext) (by omega) ⟨_, rfl, ?_⟩⟩
  have h3 : f.hidden = g.hidden := by simpa using h3
  have h9 : f.smooth = g.smooth := by simpa using h9
  have := hR H6 hs6.ext
  have e : decide (f = g) = decide (f.params = g.params) := decide_eq_decide.2 ⟨fun h => by rw [h], fun h => by
    cases f; cases g
    simp only at h1 h2 h3 h4 h5 h6 h7 h8 h9 h10 h11 h12 h
    simp [h1, h2, h3, h4, h5, h6, h7, h8, h9, h10, h11, h12, h]⟩
  rw [e] at this; exact this

end Go.Proofs

/-
  OWN WORK. A document is compared with the document's list.
-/
set_option linter.unusedVariables false
set_option linter.unusedSimpArgs false
set_option maxRecDepth 10000
namespace Go.Proofs
open Go.Sh
variable {H0 H : Heap} {σ : List Rs} {R : Value → Heap → Prop}

theorem kidsZ_row {g : Int} {L : List Rw} {i : Nat} {w : Int} (h : (kidsZ g L)[i]? = some w) : ∃ k : Nat, w = k ∧ k < L.length ∧ L[k]? = (ofG g L)[i]? := by
  rw [kidsZ, List.getElem?_map] at h
  cases hk : (kidsI g 0 L)[i]? with
  | none => rw [hk] at h; cases h
  | some k =>
    rw [hk] at h
    cases h
    obtain ⟨A, r, B, h1, h2, h3, h4⟩ := kidsI_at hk
    refine ⟨k, rfl, ?_, ?_⟩
    · rw [h1, List.length_append, List.length_cons]; omega
    · rw [h1, ofG_app, ofG_cons_eq h3, List.getElem?_append_right (by omega), List.getElem?_append_right (by omega), show k - A.length = 0 from by omega, show i - (ofG g A).length = 0 from by omega]
      rfl
theorem likeKs_take {L : List Rw} : ∀ {ts : List Lay} {k : Nat} {t : Lay}, likeKs L (ts.take k) = true → ts[k]? = some t → likeKs L (ts.take (k + 1)) = likeT L t := by
  intro ts
  induction ts with
  | nil => intro k t _ h; simp at h
  | cons a ts ih =>
    intro k t h1 h2
    cases k with
    | zero =>
      simp at h2; subst h2
      rw [List.take_succ_cons, List.take_zero, likeKs, likeKs, Bool.and_true]
    | succ k =>
      rw [List.getElem?_cons_succ] at h2
      rw [List.take_succ_cons, likeKs, Bool.and_eq_true] at h1
      rw [List.take_succ_cons, likeKs, h1.1, Bool.true_and]
      exact ih h1.2 h2
theorem likeKs_false {L : List Rw} {ts : List Lay} {t : Lay} (ht : t ∈ ts) (h : likeT L t = false) : likeKs L ts = false := by
  induction ts with
  | nil => cases ht
  | cons a ts ih =>
    rw [likeKs]
    rcases List.mem_cons.1 ht with rfl | ht
    · rw [h, Bool.false_and]
    · rw [ih ht, Bool.and_false]

def LikeOk (rs : List RT) (w h next : Int) (Kd : Sl3) (t : T) : Prop := ∀ {H : Heap} {R : Value → Heap → Prop}, rdT H t → gKs okM (layKs t.kids) → RD H Kd rs → (∀ H', Ext H H' → R (.bool (likeG (rwS rs) t.f.id (layKs t.kids))) H') →
  CallsH Try.prog 50 #[t.K.v, .agg (docA w h next Kd), .int .i64 t.f.id] H R

theorem kids_of {rs : List RT} {w h next : Int} {Kd : Sl3} (mr : ∀ r ∈ rs, okM r.f) {ks : List T} (ih : ∀ t ∈ ks, LikeOk rs w h next Kd t) {K : Sl3} {to : Int} (hg : grp H K ks) (hm : gKs okM (layKs ks)) (hd : RD H Kd rs) (hR : ∀ H', Ext H H' → R (.bool (likeG (rwS rs) to (layKs ks))) H') :
    CallsH Try.prog 50 #[K.v, .agg (docA w h next Kd), .int .i64 to] H R := by
  show CallsH Try.prog 50 #[.slice K.p K.l K.c, .agg (docA w h next Kd), .int .i64 to] H R
  refine Try.s50 ?_
  unfold Try.S50
  have hKl := hg.1.1
  have hdl := hd.l.len
  have hfew := hd.l.few
  refine (St.nil H).alc fun b4 H5 hs5 => ⟨docA w h next Kd, rfl, rowIn_whole (hs5.block 0 rfl), c29 (hd.l.ext hs5.ext) fun q H8 hq => ⟨q.p, q.l, q.c, rfl, ?_⟩⟩
  have hs8 := hs5.callR hq
  have hqi := hq.is 0 rfl
  have hql : q.l = (ofG to (rwS rs)).length := by have := hqi.len; rw [ints_len, kidsZ_len] at this; exact this.symm
  have hle := kidsZ_le to (rwS rs)
  rw [kidsZ_len, rwS_len] at hle
  have bad : likeG (rwS rs) to (layKs ks) = false → ∀ {H' : Heap}, Ext H H' → R (.bool false) H' := fun hb H' he => by have := hR H' he; rw [hb] at this; exact this
  refine br_ne (fun hne => bad ?_ hs8.ext) fun he => ?_
  · unfold likeG
    rw [decide_eq_false (fun hh => by have := congrArg List.length hh; rw [List.length_map, List.length_map, layKs_len] at this; omega), Bool.false_and]
  have he : K.l = q.l := by omega
  intro X10 hX10
  have go : ∀ k, k ≤ ks.length → ∀ H1, St H H1 [.cell b4 (docA w h next Kd) 32, .sl q.p q.l q.c 3 1 (ints (kidsZ to (rwS rs)))] → ((layKs ks).map Lay.f).take k = ((ofG to (rwS rs)).map Rw.f).take k → likeKs (rwS rs) ((layKs ks).take k) = true → X10 [.int .i64 (k : Nat)] H1 := by
    refine upto fun k hk ih2 H1 hs1 heq hlk => hX10 _ _ (br_dec (fun hlt => ?_) fun hge => ?_)
    · have hk' : k < ks.length := by omega
      have ht := List.getElem?_eq_getElem hk'
      have htm := List.getElem_mem hk'
      generalize ks[k] = t at ht htm
      obtain ⟨a, h1, h2, h3⟩ := (hg.ext hs1.ext).get ht
      have hkz : k < (kidsZ to (rwS rs)).length := by rw [kidsZ_len]; omega
      have hz := List.getElem?_eq_getElem hkz
      generalize (kidsZ to (rwS rs))[k] = z at hz
      obtain ⟨m, rfl, hml, hrow⟩ := kidsZ_row hz
      rw [rwS_len] at hml
      have hx := List.getElem?_eq_getElem hml
      generalize rs[m] = r at hx
      rw [rws_get hx] at hrow
      obtain ⟨blk, hpk, hrw⟩ := (hd.l.ext hs1.ext).row hx
      have htl := layKs_get ht
      have h1f : ((layKs ks).map Lay.f)[k]? = some t.f := by rw [List.getElem?_map, htl]; show some (layT t).f = _; rw [layT_f]
      have h2f : ((ofG to (rwS rs)).map Rw.f)[k]? = some r.f := by rw [List.getElem?_map, ← hrow]; rfl
      have hgt : gT okM (layT t) := gKs_iff.1 hm _ (List.mem_of_getElem? htl)
      have htf : okM t.f := by have := hgt; cases t with | mk f P M A K' ks' => exact this.1
      have hgk : gKs okM (layKs t.kids) := by have := hgt; cases t with | mk f P M A K' ks' => exact this.2.2
      refine ⟨a, h1, by omega, hlt, (cellsT t).toArray, by simp [cellsT_len], h2, hs1.alc fun b15 H16 hs16 => ⟨by simp [cellsT_len], hs16.putAll 0 rfl (by simp [cellsT_len]) (by simpa using cellsT_one t) fun H17 hs17 => ?_⟩⟩
      obtain ⟨ad, hap, hac⟩ := (hs17.is 2 rfl).get _ _ (ints_get hz)
      refine ⟨(cellsT t).toArray, by simp [cellsT_len], rowIn_whole (hs17.block 0 rfl), _, _, _, hs17.get 1 rfl (docA_3 _ _ _ _), ad, hap, by omega, by omega, (m : Int), by rw [Nat.mul_one]; exact hac, _, hpk, by omega, by omega, (cellsR r).toArray, rfl, ?_, ?_⟩
      · obtain ⟨blk2, hpk2, hrw2⟩ := (hd.l.ext hs17.ext).row hx
        rw [hpk] at hpk2; cases hpk2
        exact rowR0 hrw2
      have hrm := List.mem_of_getElem? hx
      refine c28 (rdT.ext hs17.ext _ (rdKs_iff.1 hg.2 _ htm)) ((hd.rd r hrm).ext hs17.ext) htf (mr r hrm) fun H25 he25 => ⟨_, rfl, br_not (fun hf => bad ?_ (hs17.ext.trans he25)) fun hf => ?_⟩
      · have hf := of_decide_eq_false hf
        unfold likeG
        rw [decide_eq_false fun hh => hf ?_, Bool.false_and]
        rw [hh, h2f] at h1f
        exact (Option.some.inj h1f).symm
      have hf := of_decide_eq_true hf
      have hs25 := hs17.step he25
      have h0 : Sh.cell H25 (Addr.add ⟨b15, 0, none⟩ 0) = some (.int .i64 t.f.id) := hs25.get 0 rfl (j := 0) (cellsT_0 t)
      refine ⟨_, _, _, hs25.get 0 rfl (j := 18) (cellsT_18 t), docA w h next Kd, rfl, rowIn_whole (hs25.block 1 rfl), t.f.id, h0, ih t htm (rdT.ext hs25.ext _ (rdKs_iff.1 hg.2 _ htm)) hgk (hd.ext hs25.ext) fun H31 he31 => ⟨_, rfl, br_not (fun hb => bad ?_ (hs25.ext.trans he31)) fun hb => ?_⟩⟩
      · unfold likeG
        rw [likeKs_false (List.mem_of_getElem? htl) ?_, Bool.and_false]
        cases t with | mk f P M A K' ks' => exact hb
      · rw [wrap_id (by omega) (by omega)]
        refine ih2 hk' H31 ((hs25.step he31).drop 1) ((eq_take heq h1f h2f).2 hf) ?_
        rw [likeKs_take hlk htl]
        cases t with | mk f P M A K' ks' => exact hb
    · have : k = ks.length := by omega
      subst this
      rw [List.take_of_length_le (by rw [List.length_map, layKs_len]; exact Nat.le_refl _), List.take_of_length_le (by rw [List.length_map]; omega)] at heq
      rw [List.take_of_length_le (by rw [layKs_len]; exact Nat.le_refl _)] at hlk
      have := hR H1 hs1.ext
      rw [show likeG (rwS rs) to (layKs ks) = true from by unfold likeG; rw [hlk, decide_eq_true heq]; rfl] at this
      exact this
  exact go 0 (by omega) H8 hs8 (by simp) (by rw [List.take_zero]; rfl)
theorem kids_all {rs : List RT} {w h next : Int} {Kd : Sl3} (mr : ∀ r ∈ rs, okM r.f) : ∀ t, LikeOk rs w h next Kd t := T.ind fun f P M A K ks ih => fun {H R} hr hm hd hR => kids_of mr ih (rdT.grp hr) hm hd hR

def likeD (D : DocL) (w h next : Int) (L : List Rw) : Bool := decide (D.w = w) && (decide (D.h = h) && (decide (D.next = next) && likeG L 0 D.ks))
theorem c20 {A : Array Value} {D : DocL} {w h next : Int} {Kd : Sl3} {rs : List RT} (ha : DocR H A D) (hm : gKs okM D.ks) (hd : RD H Kd rs) (mr : ∀ r ∈ rs, okM r.f) (hR : ∀ H', Ext H H' → R (.bool (likeD D w h next (rwS rs))) H') :
    CallsH Try.prog 20 #[.agg A, .agg (docA w h next Kd)] H R := by
  obtain ⟨K, ks, rfl, hg, hl⟩ := ha
  refine Try.s20 ?_
  unfold Try.S20
  refine (St.nil H).alc fun b3 H4 hs4 => hs4.alc fun b5 H6 hs6 => ?_
  have bad : likeD D w h next (rwS rs) = false → R (.bool false) H6 := fun hb => by have := hR H6 hs6.ext; rw [hb] at this; exact this
  refine ⟨D.w, hs6.get 1 rfl (j := 0) rfl, w, hs6.get 0 rfl (j := 0) rfl, br_eq (fun h1 => ?_) fun h1 => bad (by unfold likeD; rw [decide_eq_false h1, Bool.false_and])⟩
  refine ⟨D.h, hs6.get 1 rfl (j := 1) rfl, h, hs6.get 0 rfl (j := 1) rfl, br_eq (fun h2 => ?_) fun h2 => bad (by unfold likeD; rw [decide_eq_false h2, Bool.false_and, Bool.and_false])⟩
  refine ⟨D.next, hs6.get 1 rfl (j := 2) rfl, next, hs6.get 0 rfl (j := 2) rfl, br_eq (fun h3 => ?_) fun h3 => bad (by unfold likeD; rw [decide_eq_false h3, Bool.false_and, Bool.and_false, Bool.and_false])⟩
  refine ⟨K.p, K.l, K.c, hs6.get 1 rfl (j := 3) rfl, docA w h next Kd, rfl, rowIn_whole (hs6.block 0 rfl), ?_⟩
  refine kids_of mr (fun t _ => kids_all mr t) (hg.ext hs6.ext) (by rw [hl]; exact hm) (hd.ext hs6.ext) fun H16 he16 => ⟨_, rfl, ?_⟩
  have := hR H16 (hs6.ext.trans he16)
  unfold likeD at this
  rw [decide_eq_true h1, decide_eq_true h2, decide_eq_true h3, ← hl] at this
  exact this
/-- Alike is: the same document. -/
theorem likeD_iff {D E : DocL} {L : List Rw} (hr : Rel E.ks L) (hi : Ids E.ks) : likeD D E.w E.h E.next L = true ↔ D = E := by
  unfold likeD
  simp only [Bool.and_eq_true, decide_eq_true_iff, like_iff hr hi]
  constructor
  · rintro ⟨h1, h2, h3, h4⟩; cases D; cases E; simp_all
  · intro h; subst h; exact ⟨rfl, rfl, rfl, rfl⟩
theorem Inv.okM {D : DocL} (h : Inv D) : gKs Go.Proofs.okM D.ks := gKs_imp (fun f hg => hg.okM) h.good
theorem gKs_flat {G : LayF → Prop} {ts : List Lay} (h : gKs G ts) : ∀ (g : Int) (x : Rw), x ∈ flatKs g ts → G x.f := by
  have key : ∀ t, gT G t → ∀ (g : Int) (x : Rw), x ∈ flatT g t → G x.f := Lay.ind fun f ks ih hg g x hx => by
    rw [gT] at hg
    rw [flatT] at hx
    rcases List.mem_cons.1 hx with rfl | hx
    · exact hg.1
    · have : ∀ (us : List Lay), (∀ t ∈ us, t ∈ ks) → gKs G us → x ∈ flatKs f.id us → G x.f := by
        intro us
        induction us with
        | nil => intro _ _ hx; cases hx
        | cons t us ih2 =>
          intro hm hg2 hx
          rw [gKs] at hg2
          rw [flatKs] at hx
          rcases List.mem_append.1 hx with hx | hx
          · exact ih t (hm t List.mem_cons_self) hg2.1 _ x hx
          · exact ih2 (fun t ht => hm t (List.mem_cons_of_mem _ ht)) hg2.2 hx
      exact this ks (fun _ h => h) hg.2.2 hx
  intro g x hx
  induction ts with
  | nil => cases hx
  | cons t ts ih =>
    rw [gKs] at h
    rw [flatKs] at hx
    rcases List.mem_append.1 hx with hx | hx
    · exact key t h.1 g x hx
    · exact ih h.2 hx
theorem Rel.okM {D : DocL} (h : Inv D) {rs : List RT} (hr : Rel D.ks (rwS rs)) : ∀ r ∈ rs, Go.Proofs.okM r.f := fun r hm => gKs_flat h.okM 0 r.rw (hr.mem.1 (List.mem_map.2 ⟨r, hm, rfl⟩))

end Go.Proofs

/-
  OWN WORK. The document's lists as a resource; plays of edits.
-/
set_option linter.unusedVariables false
set_option linter.unusedSimpArgs false
set_option maxRecDepth 10000
namespace Go.Proofs
open Go.Sh
variable {H0 H : Heap} {σ : List Rs} {R : Value → Heap → Prop}

/-- What is read of some blocks, as long as they stay. -/
def _root_.Go.Sh.Rs.pers (Q : Heap → Prop) : Rs where
  at_ H fp := (∀ b ∈ fp, b < H.size) ∧ ∀ H', (∀ b ∈ fp, ∀ o, H[b]? = some o → H'[b]? = some o) → Q H'
  loc := fun {H H' fp} h hk => ⟨fun b hb => by
    have hlt := h.1 b hb
    exact lt_of_get (hk b hb _ (Array.getElem?_eq_getElem hlt)), fun H'' hk2 => h.2 H'' fun b hb o ho => hk2 b hb o (hk b hb o ho)⟩
  has h := h.1
theorem _root_.Go.Sh.St.persGet (hs : St H0 H σ) (i : Nat) {Q : Heap → Prop} (hi : σ[i]? = some (.pers Q)) : Q H := by
  obtain ⟨_, fps, hl, _⟩ := hs
  obtain ⟨fp, _, h⟩ := hl.get hi
  exact h.2 H fun b _ o ho => ho
theorem _root_.Go.Sh.St.persIn {τ : List Rs} {Q : Heap → Prop} (hs : St H0 H (τ ++ σ)) (hq : ∀ H' fps, Lie H' τ fps → Q H') : St H0 H (.pers Q :: σ) := by
  obtain ⟨he, fps, hl, hn, hb⟩ := hs
  obtain ⟨a, b, rfl, h1, h2⟩ := hl.split
  refine ⟨he, a.flatten :: b, ⟨⟨h1.has, fun H' hk => hq H' a (h1.loc hk)⟩, h2⟩, by simpa using hn, fun x hx => hb x (by simpa using hx)⟩
/-- The lists. -/
def poolRs (L : List (Sl3 × List RT)) : Rs := .pers fun H => ∀ x ∈ L, RD H x.1 x.2
theorem _root_.Go.Sh.St.pool (hs : St H0 H σ) (i : Nat) {L : List (Sl3 × List RT)} (hi : σ[i]? = some (poolRs L)) {K : Sl3} {rs : List RT} (hm : (K, rs) ∈ L) : RD H K rs := hs.persGet i hi (K, rs) hm
theorem _root_.Go.Sh.St.poolNil (hs : St H0 H σ) : St H0 H (poolRs [] :: σ) := St.persIn (τ := []) hs fun H' fps _ x hx => by cases hx

/-- The document behind an edit: as it was, where there is an error. -/
def nxt (D : DocL) (e : Ed) : DocL := if (doD D e).1 = 0 then (doD D e).2 else D
theorem nxt_inv {D : DocL} (h : Inv D) (e : Ed) : Inv (nxt D e) := by
  unfold nxt
  split
  · rename_i h0; exact do_inv h h0
  · exact h
theorem nxt_next {D : DocL} (e : Ed) : (nxt D e).next ≤ D.next + 1 := by
  unfold nxt
  split
  · rename_i h0; exact (do_next h0).2.1
  · omega
theorem doD_eq {D : DocL} {e : Ed} : (doD D e).1 = (doL D.w D.h D.next D.ks e).1 ∧ ((doD D e).1 = 0 → (doD D e).2 = ⟨D.w, D.h, (doL D.w D.h D.next D.ks e).2.1, (doL D.w D.h D.next D.ks e).2.2⟩) := by
  unfold doD
  by_cases h0 : (doL D.w D.h D.next D.ks e).1 = 0
  · rw [if_neg (fun hh => hh h0)]; exact ⟨h0.symm, fun _ => rfl⟩
  · rw [if_pos h0]; exact ⟨rfl, fun hh => absurd hh h0⟩

theorem rdo_st {D : DocL} {e : Ed} {s : EdS} {K : Sl3} {rs : List RT} {L : List (Sl3 × List RT)} (hs : St H0 H σ) (i : Nat) (hi : σ[i]? = some (poolRs L)) (hm : (K, rs) ∈ L) (hr : Rel D.ks (rwS rs)) (hv : Inv D) (hnx : D.next ≤ 1000000000000000) (hed : EdOk H e s)
    (hR : ∀ (q : Sl3) rs' L' H', (q, rs') ∈ L' → (∀ x ∈ L, x ∈ L') → Rel (nxt D e).ks (rwS rs') → Ext H H' → St H0 H' (σ.set i (poolRs L')) → R (.tuple #[.agg (docA (nxt D e).w (nxt D e).h (nxt D e).next q), .int .i64 (doD D e).1]) H') :
    CallsH Try.prog 17 #[.agg (docA D.w D.h D.next K), .agg (edL e s).toArray] H R := by
  obtain ⟨e1, e2⟩ := doD_eq (D := D) (e := e)
  refine c17 (hs.pool i hi hm) hr hv hnx hed ⟨fun hb H' he => ?_, fun h0 q rs' H' τ hrel hst hrr => ?_⟩
  · have hn : nxt D e = D := by unfold nxt; rw [if_neg (by rw [e1]; exact hb)]
    have := hR K rs L H' hm (fun x hx => hx) (by rw [hn]; exact hr) he (by
      have hself : σ.set i (poolRs L) = σ := by
        obtain ⟨h1, h2⟩ := List.getElem?_eq_some_iff.1 hi
        rw [← h2, List.set_getElem_self]
      rw [hself]; exact hs.step he)
    rw [hn, e1] at this; exact this
  · have hn : nxt D e = ⟨D.w, D.h, (doL D.w D.h D.next D.ks e).2.1, (doL D.w D.h D.next D.ks e).2.2⟩ := by unfold nxt; rw [if_pos (by rw [e1]; exact h0), e2 (by rw [e1]; exact h0)]
    have he : Ext H H' := hst.ext
    have hc := hs.call hst
    have hfew : rs'.length ≤ 1000000 := by
      have hiv := nxt_inv hv e
      rw [hn] at hiv
      have h1 := hrel.len
      have h2 := hiv.cnt
      rw [rwS_len] at h1
      have h2 : cntKs (doL D.w D.h D.next D.ks e).2.2 ≤ 4096 := h2
      omega
    have hst2 : St H0 H' (σ.set i (poolRs ((q, rs') :: L))) := by
      have hp : (Rs.sl q.p q.l q.c 66 19 (cellsRs rs') :: τ ++ σ).Perm ((Rs.sl q.p q.l q.c 66 19 (cellsRs rs') :: τ ++ [poolRs L]) ++ σ.eraseIdx i) := by
        rw [List.append_assoc]
        exact List.Perm.append_left _ ((perm_front σ i hi).1)
      have h1 := St.persIn (Q := fun H => ∀ x ∈ (q, rs') :: L, RD H x.1 x.2) (hc.perm hp) fun H'' fps hL x hx => by
        obtain ⟨a, b, _, hL1, hL2⟩ := hL.split
        obtain ⟨fp, hfp, hat⟩ := hL2.get (i := 0) rfl
        have hold : ∀ x ∈ L, RD H'' x.1 x.2 := hat.2 H'' fun b _ o ho => ho
        rcases List.mem_cons.1 hx with rfl | hx
        · have hK := hold (K, rs) hm
          match a, hL1 with
          | f :: a, hL1 => exact ⟨FS.rl hL1.1.1 hfew, hrr H'' a hK.rd hL1.2⟩
        · exact hold x hx
      exact h1.back hi
    have := hR q rs' _ H' (List.mem_cons_self) (fun x hx => List.mem_cons_of_mem _ hx) (by rw [hn]; exact hrel) he hst2
    rw [hn, e1, h0] at this; exact this

/-- A document is like the list's. -/
theorem like_st {A : Array Value} {D E : DocL} {K : Sl3} {rs : List RT} {L : List (Sl3 × List RT)} {H : Heap} {σ : List Rs} (hs : St H0 H σ) (i : Nat) (hi : σ[i]? = some (poolRs L)) (hm : (K, rs) ∈ L) (ha : DocR H A D) (hD : Inv D) (hE : Inv E) (hr : Rel E.ks (rwS rs))
    (hR : ∀ t H', (t = true ↔ D = E) → Ext H H' → St H0 H' σ → R (.bool t) H') : CallsH Try.prog 20 #[.agg A, .agg (docA E.w E.h E.next K)] H R :=
  c20 ha hD.okM (hs.pool i hi hm) (Rel.okM hE hr) fun H' he => hR _ H' (likeD_iff hr hE.ids') he (hs.step he)

end Go.Proofs

/-
  OWN WORK. The law TreePlays, over heaps.
-/
set_option linter.unusedVariables false
set_option linter.unusedSimpArgs false
set_option maxRecDepth 10000
namespace Go.Proofs
open Go.Sh
variable {H0 H : Heap} {σ : List Rs} {R : Value → Heap → Prop}

theorem poolStart (hs : St H0 H σ) : St H0 H (poolRs [(.nil, [])] :: σ) := St.persIn (τ := []) hs fun H' fps _ x hx => by
  rw [List.mem_singleton] at hx; subst hx
  exact ⟨RL.nil H', fun r hr => by cases hr⟩
theorem rel_nil : Rel [] (rwS []) := fun to => rfl
theorem begun_doc {w h : Int} (hb : begunB w h = true) : begunA w h = docA w h 1 .nil ∧ Inv ⟨w, h, 1, []⟩ := by
  unfold begunB at hb
  rw [Bool.and_eq_true] at hb
  exact ⟨by unfold begunA; rw [if_pos hb.1], new_inv hb.1⟩
theorem eds_ok {p : Option Addr} {l : Nat} {es : List (Ed × EdS)} (h : EdsR H p l es) (hok : ∀ x ∈ es, x.1.shape.length ≤ 300 ∧ x.1.params.length ≤ 100) {i : Nat} {e : Ed} {s : EdS} (hx : es[i]? = some (e, s)) : ∃ a, p = some a ∧ rowIn H (a.add (i * 19)) (edL e s).toArray ∧ EdOk H e s := by
  obtain ⟨a, h1, h2, h3⟩ := h.get i e s hx
  have := hok _ (List.mem_of_getElem? hx)
  exact ⟨a, h1, h2, h3, by have := this.1; simp only at this; omega, by have := this.2; simp only at this; omega⟩
theorem zero_kids {A : Array Value} (h : DocR H A zeroD) : ∃ p c, A = docA 0 0 0 ⟨p, 0, c⟩ := by
  obtain ⟨K, ks, rfl, hg, hl⟩ := h
  have : ks.length = 0 := by have := layKs_len ks; rw [hl] at this; exact this.symm
  have hk := hg.1.1
  refine ⟨K.p, K.c, ?_⟩
  have h0 : K.l = 0 := by omega
  show docA 0 0 0 K = _
  unfold docA Sl3.v
  rw [h0]

theorem plays_law {w h : Int} {p : Option Addr} {l c : Nat} {es : List (Ed × EdS)} (hes : EdsR H p l es) (hR : ∀ H', Ext H H' → R (.bool true) H') : CallsH Try.prog 3 #[.int .i64 w, .int .i64 h, .slice p l c] H R := by
  refine Try.s3 ?_
  unfold Try.S3
  refine c12 fun H5 he5 => ⟨_, rfl, br_f rfl ?_⟩
  have hone : ∀ v ∈ (begunA w h).toList, v.oneCell' = true := by unfold begunA; split <;> exact docA_one _ _ _ _
  have hsize : (begunA w h).size = 4 := by unfold begunA; split <;> rfl
  refine new_call fun H8 he8 => ⟨_, _, rfl, (St.of_ext (he5.trans he8)).alc fun b11 H12 hs12 => ⟨hsize, hs12.putAll 0 rfl hsize hone fun H13 hs13 => rnew_call fun H15 he15 => ⟨_, _, rfl, (hs13.step he15).alc fun b18 H19 hs19 => ⟨hsize, hs19.putAll 0 rfl hsize hone fun H20 hs20 => br_ne (fun h => absurd rfl h) fun _ => ?_⟩⟩⟩⟩
  refine c15 fun H22 he22 => ⟨_, _, _, rfl, ?_⟩
  refine ((hs20.drop 2).step he22).alc fun b26 H27 hs27 => hs27.alc fun b28 H29 hs29 => ⟨hsize, hs29.putAll 1 rfl hsize hone fun H30 hs30 => ⟨hsize, hs30.putAll 0 rfl hsize hone fun H31 hs31 => ?_⟩⟩
  intro J32 hJ32
  refine br_not (fun _ => hR H31 hs31.ext) fun hb => ?_
  obtain ⟨hA, hinv⟩ := begun_doc hb
  rw [hA] at hs31
  refine c16 (hes.ext hs31.ext) (by decide) fun H114 he114 => ⟨_, rfl, br_not (fun _ => hR _ (hs31.step he114).ext) fun hsm => hJ32 _ ?_⟩
  have hs114 := hs31.step he114
  obtain ⟨hmost, hok⟩ := smallB_ok hsm
  have hesl := hes.len
  intro X34 hX34
  have go : ∀ k, k ≤ es.length → ∀ (A : Array Value) (D : DocL) (Kd : Sl3) (rs : List RT) (L : List (Sl3 × List RT)) (H1 : Heap), Inv D → D.next ≤ k + 1 → Rel D.ks (rwS rs) → (Kd, rs) ∈ L → St H H1 [.cell b26 A 26, .cell b28 (docA D.w D.h D.next Kd) 32, docRs A D, poolRs L] → X34 [.int .i64 (k : Nat)] H1 := by
    refine upto fun k hk ih A D Kd rs L H1 hi hnx hrel hmem hs1 => hX34 _ _ (br_dec (fun hlt => ?_) fun hge => hR H1 hs1.ext)
    have hk' : k < es.length := by omega
    have hx := List.getElem?_eq_getElem hk'
    generalize es[k] = x at hx
    obtain ⟨e, s⟩ := x
    intro J37 hJ37
    have next : ∀ (A : Array Value) (D : DocL) (Kd : Sl3) (rs : List RT) (L : List (Sl3 × List RT)) (H1 : Heap), Inv D → D.next ≤ k + 2 → Rel D.ks (rwS rs) → (Kd, rs) ∈ L → St H H1 [.cell b26 A 26, .cell b28 (docA D.w D.h D.next Kd) 32, docRs A D, poolRs L] → J37 [] H1 := fun A D Kd rs L H1 h1 h2 h3 h4 h5 => by
      refine hJ37 _ ?_
      rw [wrap_id (by omega) (by omega)]
      exact ih hk' A D Kd rs L H1 h1 (by omega) h3 h4 h5
    obtain ⟨a, hp, hrow, hed⟩ := eds_ok (hes.ext hs1.ext) hok hx
    refine ⟨a, hp, by omega, hlt, _, rfl, hrow, hs1.alc fun b41 H42 hs42 => ⟨rfl, hs42.putAll 0 rfl rfl (by simpa using edL_one e s) fun H43 hs43 => ?_⟩⟩
    have hedH : ∀ {H' : Heap}, Ext H H' → EdOk H' e s := fun he => by
      obtain ⟨_, _, _, h3⟩ := eds_ok (hes.ext he) hok hx
      exact h3
    have hnx2 : D.next ≤ 1000000000000000 := by omega
    intro J44 hJ44
    have after : ∀ (bn : Nat) (q : Sl3) (rs' : List RT) (L' : List (Sl3 × List RT)) (H1 : Heap), (q, rs') ∈ L' → (Kd, rs) ∈ L' → Rel (nxt D e).ks (rwS rs') → St H H1 [.cell bn (docA (nxt D e).w (nxt D e).h (nxt D e).next q) 32, .cell b41 (edL e s).toArray 43, .cell b26 A 26, .cell b28 (docA D.w D.h D.next Kd) 32, docRs A D, poolRs L'] → J44 [.pointer (some ⟨bn, 0, none⟩), .int .i64 (doD D e).1] H1 := fun bn q rs' L' H1 hm1 hm2 hr2 hs1 => by
      have hd := hs1.doc 4 rfl
      refine hJ44 _ _ _ ⟨A, hd.size, rowIn_whole (hs1.block 2 rfl), (edL e s).toArray, rfl, rowIn_whole (hs1.block 1 rfl), do_st hs1 hd hi hnx2 (hedH hs1.ext) fun A' H51 hd' hs51 => ⟨_, _, rfl, ?_⟩⟩
      refine hs51.alc fun b54 H55 hs55 => ⟨hd'.size, hs55.putAll 0 rfl hd'.size hd'.one fun H56 hs56 => br_ne (fun h => absurd rfl h) fun _ => br_ne (fun hbad => ?_) fun h0 => ?_⟩
      · have hz : (doD D e).2 = zeroD := by unfold doD at hbad ⊢; split at hbad <;> rename_i hc
                                            · rw [if_pos hc]
                                            · exact absurd rfl hbad
        have hn : nxt D e = D := by unfold nxt; rw [if_neg hbad]
        have hd56 := hs56.doc 1 rfl
        rw [hz] at hd56
        obtain ⟨zp, zc, hzA⟩ := zero_kids hd56
        rw [hzA] at hs56
        refine ⟨zp, 0, zc, hs56.get 0 rfl (j := 3) rfl, br_ne (fun h => absurd rfl h) fun _ => ⟨0, hs56.get 0 rfl (j := 2) rfl, br_ne (fun h => absurd rfl h) fun _ => ?_⟩⟩
        have hdo := hs56.doc 6 rfl
        refine ⟨A, hdo.size, rowIn_whole (hs56.block 4 rfl), _, rfl, rowIn_whole (hs56.block 5 rfl), like_st hs56 7 rfl hm2 hdo hi hi hrel fun t H62 ht he62 hs62 => ⟨_, rfl, ?_⟩⟩
        rw [ht.2 rfl]
        exact br_f rfl (next A D Kd rs L' H62 hi (by omega) hrel hm2 (hs62.drop 4))
      · have hn : nxt D e = (doD D e).2 := by unfold nxt; rw [if_pos h0]
        rw [hn] at hs56 hr2
        have hi2 := do_inv hi h0
        have hdx := do_next h0
        refine ⟨A', hd'.size, rowIn_whole (hs56.block 0 rfl), _, rfl, rowIn_whole (hs56.block 2 rfl), like_st hs56 7 rfl hm1 (hs56.doc 1 rfl) hi2 hi2 hr2 fun t H67 ht he67 hs67 => ⟨_, rfl, ?_⟩⟩
        rw [ht.2 rfl]
        refine br_f rfl ?_
        have hdo := hs67.doc 6 rfl
        refine ⟨A, hdo.size, rowIn_whole (hs67.block 4 rfl), _, rfl, rowIn_whole (hs67.block 5 rfl), like_st hs67 7 rfl hm2 hdo hi hi hrel fun t H72 ht he72 hs72 => ⟨_, rfl, ?_⟩⟩
        rw [ht.2 rfl]
        refine br_f rfl ⟨A', hd'.size, rowIn_whole (hs72.block 0 rfl), _, rfl, rowIn_whole (hs72.block 2 rfl), hd'.size, hs72.putAll 4 rfl (hd'.size.trans hdo.size.symm) hd'.one fun H76 hs76 => ⟨.inr ⟨_, rfl, rowIn_whole (hs76.block 2 rfl), rfl⟩, rfl, hs76.putAll 5 rfl rfl (docA_one _ _ _ _) fun H77 hs77 => ?_⟩⟩
        refine next A' (doD D e).2 q rs' L' H77 hi2 (by omega) hr2 hm1 ?_
        have := hs77.perm (τ := [.cell b54 A' 26, .cell bn (docA (doD D e).2.w (doD D e).2.h (doD D e).2.next q) 32, .cell b41 (edL e s).toArray 43, docRs A D, .cell b26 A' 26, .cell b28 (docA (doD D e).2.w (doD D e).2.h (doD D e).2.next q) 32, docRs A' (doD D e).2, poolRs L']) (permC fun _ x => by simp only [List.set_cons_succ, List.set_cons_zero, List.count_cons, List.count_nil]; ac_rfl)
        exact this.drop 4
    have edD : (edL e s).toArray.size = 19 := rfl
    refine ⟨_, rfl, rowIn_whole (hs43.block 2 rfl), _, rfl, rowIn_whole (hs43.block 0 rfl), ?_, ?_⟩
    · refine c18 (hedH hs43.ext) fun s' H82 he82 hed' => ⟨_, rfl, .inl he82, ?_, ?_⟩
      · refine rdo_st (hs43.step he82) 4 rfl hmem hrel hi hnx2 hed' fun q rs' L' H85 hm1 hsub hr2 he85 hs85 => ⟨_, _, rfl, ?_⟩
        refine hs85.alc fun b88 H89 hs89 => ⟨rfl, hs89.putAll 0 rfl rfl (docA_one _ _ _ _) fun H90 hs90 => ?_⟩
        exact after b88 q rs' L' H90 hm1 (hsub _ hmem) hr2 hs90
      · refine (hs43.step he82).alcE fun b91 H92 he92 hs92 => ⟨.inl he92, ?_⟩
        refine rdo_st hs92 5 rfl hmem hrel hi hnx2 ⟨hed'.rd.ext he92, hed'.shape, hed'.params⟩ fun q rs' L' H94 hm1 hsub hr2 he94 hs94 => ⟨_, _, rfl, rfl, ?_⟩
        refine hs94.putAll 0 rfl rfl (docA_one _ _ _ _) fun H97 hs97 => ?_
        exact after b91 q rs' L' H97 hm1 (hsub _ hmem) hr2 hs97
    · refine hs43.alcE fun b100 H101 he101 hs101 => ⟨.inl he101, ?_⟩
      refine c18 (hedH hs101.ext) fun s' H103 he103 hed' => ⟨_, rfl, .inl he103, ?_⟩
      refine rdo_st (hs101.step he103) 5 rfl hmem hrel hi hnx2 hed' fun q rs' L' H106 hm1 hsub hr2 he106 hs106 => ⟨_, _, rfl, rfl, ?_⟩
      refine hs106.putAll 0 rfl rfl (docA_one _ _ _ _) fun H109 hs109 => ?_
      exact after b100 q rs' L' H109 hm1 (hsub _ hmem) hr2 hs109
  refine go 0 (Nat.zero_le _) (docA w h 1 .nil) ⟨w, h, 1, []⟩ .nil [] [(.nil, [])] H114 hinv (by show (1 : Int) ≤ 0 + 1; omega) rel_nil List.mem_cons_self ?_
  have h1 := poolStart (hs114.docNil w h 1)
  exact h1.perm (permC fun _ x => by simp only [List.set_cons_succ, List.set_cons_zero, List.count_cons, List.count_nil]; ac_rfl)

end Go.Proofs

/-
  OWN WORK. The law TreeMade, over heaps.
-/
set_option linter.unusedVariables false
set_option linter.unusedSimpArgs false
set_option maxRecDepth 10000
namespace Go.Proofs
open Go.Sh
variable {H0 H : Heap} {σ : List Rs} {R : Value → Heap → Prop}

theorem made_law {w h : Int} {p : Option Addr} {l c : Nat} {es : List (Ed × EdS)} (hes : EdsR H p l es) (hR : ∀ H', Ext H H' → R (.bool true) H') : CallsH Try.prog 9 #[.int .i64 w, .int .i64 h, .slice p l c] H R := by
  refine Try.s9 ?_
  unfold Try.S9
  refine c12 fun H5 he5 => ⟨_, rfl, br_f rfl ?_⟩
  have hone : ∀ v ∈ (begunA w h).toList, v.oneCell' = true := by unfold begunA; split <;> exact docA_one _ _ _ _
  have hsize : (begunA w h).size = 4 := by unfold begunA; split <;> rfl
  refine c15 fun H8 he8 => ⟨_, _, _, rfl, ?_⟩
  refine (St.of_ext (he5.trans he8)).alc fun b12 H13 hs13 => hs13.alc fun b14 H15 hs15 => ⟨hsize, hs15.putAll 1 rfl hsize hone fun H16 hs16 => ⟨hsize, hs16.putAll 0 rfl hsize hone fun H17 hs17 => ?_⟩⟩
  intro J18 hJ18
  refine br_not (fun _ => hR H17 hs17.ext) fun hb => ?_
  obtain ⟨hA, hinv⟩ := begun_doc hb
  rw [hA] at hs17
  refine c16 (hes.ext hs17.ext) (by decide) fun H48 he48 => ⟨_, rfl, br_not (fun _ => hR _ (hs17.step he48).ext) fun hsm => hJ18 _ ?_⟩
  have hs48 := hs17.step he48
  obtain ⟨hmost, hok⟩ := smallB_ok hsm
  have hesl := hes.len
  intro X20 hX20
  have go : ∀ k, k ≤ es.length → ∀ (A : Array Value) (D : DocL) (H1 : Heap), Inv D → D.next ≤ k + 1 → St H H1 [.cell b12 A 26, docRs A D] → X20 [.int .i64 (k : Nat)] H1 := by
    refine upto fun k hk ih A D H1 hi hnx hs1 => hX20 _ _ (br_dec (fun hlt => ?_) fun hge => hR H1 hs1.ext)
    have hk' : k < es.length := by omega
    have hx := List.getElem?_eq_getElem hk'
    generalize es[k] = x at hx
    obtain ⟨e, s⟩ := x
    obtain ⟨a, hp, hrow, hed⟩ := eds_ok (hes.ext hs1.ext) hok hx
    have hnx2 : D.next ≤ 1000000000000000 := by omega
    refine ⟨a, hp, by omega, hlt, _, rfl, hrow, hs1.alc fun b25 H26 hs26 => ⟨rfl, hs26.putAll 0 rfl rfl (by simpa using edL_one e s) fun H27 hs27 => ?_⟩⟩
    have hd := hs27.doc 2 rfl
    have hedH : EdOk H27 e s := let ⟨_, _, _, h3⟩ := eds_ok (hes.ext hs27.ext) hok hx; h3
    have fin : ∀ (A' : Array Value) (H1 : Heap), St H H1 [.cell b12 A' 26, docRs A' (nxt D e)] → ∃ v39 : Array Value, v39.size = 4 ∧ rowIn H1 ⟨b12, 0, none⟩ v39 ∧ CallsH Try.prog 32 #[Value.agg v39] H1 fun r40 H_41 => ∃ r42 : Bool, r40 = Value.bool r42 ∧ br (!r42)
        (R (Value.bool false) H_41)
        (X20 [Value.int .i64 (IntKind.wrap .i64 ((k : Int) + (1 : Int)))] H_41) := fun A' H1 hs1 => by
      have hd := hs1.doc 1 rfl
      have hi2 := nxt_inv hi e
      have hcn := hi2.cnt
      refine ⟨A', hd.size, rowIn_whole (hs1.block 0 rfl), c32 hd hi2.ok (by omega) (fun _ H2 he2 => ⟨_, rfl, br_f rfl ?_⟩) fun hn => absurd hi2 hn⟩
      rw [wrap_id (by omega) (by omega)]
      have hn := nxt_next (D := D) e
      exact ih hk' A' (nxt D e) H2 hi2 (by omega) (hs1.step he2)
    refine ⟨A, hd.size, rowIn_whole (hs27.block 1 rfl), _, rfl, rowIn_whole (hs27.block 0 rfl), do_st hs27 hd hi hnx2 hedH fun A' H31 hd' hs31 => ⟨_, _, rfl, ?_⟩⟩
    refine hs31.alc fun b34 H35 hs35 => ⟨hd'.size, hs35.putAll 0 rfl hd'.size hd'.one fun H36 hs36 => br_eq (fun h0 => ?_) fun hne => ?_⟩
    · have hn : nxt D e = (doD D e).2 := by unfold nxt; rw [if_pos h0]
      refine ⟨A', hd'.size, rowIn_whole (hs36.block 0 rfl), hd'.size, hs36.putAll 3 rfl (hd'.size.trans hd.size.symm) hd'.one fun H38 hs38 => fin A' H38 ?_⟩
      rw [hn]
      have := hs38.perm (τ := [.cell b34 A' 26, docRs A D, .cell b25 (edL e s).toArray 43, .cell b12 A' 26, docRs A' (doD D e).2]) (permC fun _ x => by simp only [List.set_cons_succ, List.set_cons_zero, List.count_cons, List.count_nil]; ac_rfl)
      exact this.drop 3
    · have hn : nxt D e = D := by unfold nxt; rw [if_neg hne]
      refine fin A H36 ?_
      rw [hn]
      exact hs36.drop 3
  refine go 0 (Nat.zero_le _) (docA w h 1 .nil) ⟨w, h, 1, []⟩ H48 hinv (by show (1 : Int) ≤ 0 + 1; omega) ?_
  have h1 := hs48.docNil w h 1
  exact (h1.perm (τ := [.cell b14 (docA w h 1 .nil) 32, .cell b12 (docA w h 1 .nil) 26, docRs (docA w h 1 .nil) ⟨w, h, 1, []⟩]) (permC fun _ x => by simp only [List.set_cons_succ, List.set_cons_zero, List.count_cons, List.count_nil]; ac_rfl)).drop 1

end Go.Proofs

/-
  OWN WORK. A slice of bytes that comes in, opened.
-/
set_option linter.unusedVariables false
set_option linter.unusedSimpArgs false
namespace Go.Proofs
open Go.Sh Go.RowKit Go.ChangeShapes Go.WideShapes Go.ChangeAt

theorem wf_range8 {a : Int} (h : (Lit.int .u8 a).wf = true) : 0 ≤ a ∧ a < 256 := by
  have : 0 ≤ a ∧ a ≤ 255 := by simpa [Lit.wf, IntKind.min, IntKind.max, IntKind.signed, IntKind.bits] using h
  omega

theorem bytesAt {H : Type} {enc : TypeId × Value → H} {W : World} {fuel : Nat} {a0 : Option Addr} {len cap : Nat} {x : DataW H × List MemPlace} (hf : DataW.trod enc Try.prog W 0 (fun _ => true) true fuel 56 [.slice a0 len cap] = some x) :
    ∃ ls, len ≤ cap ∧ IS W.heap a0 len (kints .u8 ls) ∧ ∀ n ∈ ls, 0 ≤ n ∧ n < 256 := by
  rcases open_ints Try.underlying56 Try.underlying5 (by kernel_rfl) hf with ⟨hcs, _⟩ | ⟨a, len2, cap2, zs, hcs, _, hl, _, hz, _, hc, hw⟩
  · simp at hcs
    obtain ⟨rfl, rfl, rfl⟩ := hcs
    exact ⟨[], Nat.le_refl _, ⟨rfl, fun i v hv => by simp [kints] at hv⟩, fun n hn => by simp at hn⟩
  · simp at hcs
    obtain ⟨rfl, rfl, rfl⟩ := hcs
    have hzl : len ≤ zs.length := by rw [hz]; simp; omega
    refine ⟨zs.take len, hl, ⟨by rw [kints_len]; simp; omega, fun i v hv => ⟨a, rfl, ?_⟩⟩, fun n hn => wf_range8 (hw n (List.mem_of_mem_take hn))⟩
    have hi : i < len := by have := (List.getElem?_eq_some_iff.1 hv).1; rw [kints_len] at this; simp at this; omega
    have := hc i (by omega)
    rw [cell_eq] at this
    rw [this]
    have hg : (zs.take len)[i]? = some (zs.getD i 0) := by
      rw [List.getElem?_take_of_lt hi, List.getD_eq_getElem?_getD, List.getElem?_eq_getElem (by omega)]; rfl
    rw [kints_get hg] at hv
    exact hv

set_option maxRecDepth 100000 in
theorem bytesIn_of {H : Type} {enc : TypeId × Value → H} {W : World} {v : Value} {d : DataW H} {ps : List MemPlace} {base : Nat} (hv : Value.okWide Try.prog W .any base 56 v) (h : DataW.Trod enc Try.prog W 0 (fun _ => true) true 56 v d ps) :
    ∃ a l c ls, v = .slice a l c ∧ l ≤ c ∧ IS W.heap a l (kints .u8 ls) ∧ ∀ n ∈ ls, 0 ≤ n ∧ n < 256 := by
  obtain ⟨a0, len, cap, rfl⟩ := okWide_slice Try.underlying56 hv
  obtain ⟨fuel, hf⟩ := h
  obtain ⟨ls, h1, h2, h3⟩ := bytesAt hf
  exact ⟨a0, len, cap, ls, rfl, h1, h2, h3⟩

end Go.Proofs

/-
  OWN WORK. Edits and shapes that come in, opened.
-/
set_option linter.unusedVariables false
set_option linter.unusedSimpArgs false
set_option maxRecDepth 10000
namespace Go.Proofs
open Go.Sh Go.RowKit Go.ChangeShapes Go.WideShapes Go.ChangeAt Go.Deep

section
variable {H : Type} {enc : TypeId × Value → H} {W : World}

abbrev TrP (enc : TypeId × Value → H) (W : World) (fuel : Nat) (t : TypeId) (cs : List Value) (x : DataW H × List MemPlace) : Prop := DataW.trod enc Try.prog W 0 (fun _ => true) true fuel t cs = some x

theorem intsAt {fuel : Nat} {a0 : Option Addr} {len cap : Nat} {x : DataW H × List MemPlace} (hf : TrP enc W fuel 38 [.slice a0 len cap] x) : ∃ ls, len ≤ cap ∧ IS W.heap a0 len (ints ls) := by
  rcases open_ints Try.underlying38 Try.underlying3 (by kernel_rfl) hf with ⟨hcs, _⟩ | ⟨a, len2, cap2, zs, hcs, _, hl, _, hz, _, hc, hw⟩
  · simp at hcs
    obtain ⟨rfl, rfl, rfl⟩ := hcs
    exact ⟨[], Nat.le_refl _, ⟨rfl, fun i v hv => by simp [ints] at hv⟩⟩
  · simp at hcs
    obtain ⟨rfl, rfl, rfl⟩ := hcs
    have hzl : len ≤ zs.length := by rw [hz]; simp; omega
    refine ⟨zs.take len, hl, ⟨by rw [ints_len]; simp; omega, fun i v hv => ⟨a, rfl, ?_⟩⟩⟩
    have hi : i < len := by have := (List.getElem?_eq_some_iff.1 hv).1; rw [ints_len] at this; simp at this; omega
    have := hc i (by omega)
    rw [cell_eq] at this
    rw [this]
    have hg : (zs.take len)[i]? = some (zs.getD i 0) := by
      rw [List.getElem?_take_of_lt hi, List.getD_eq_getElem?_getD, List.getElem?_eq_getElem (by omega)]; rfl
    rw [ints_get hg] at hv
    exact hv

/-- A field, opened. -/
theorem fieldAt {t : TypeId} {fs : Array Field} {fuel : Nat} {cs : List Value} {x : DataW H × List MemPlace} (hs : Try.prog.underlying t = some (.struct fs)) (h : TrP enc W fuel t cs x) (i : Nat) {f : Field} {o ty c : Nat} (hf : fs[i]? = some f) (ho : f.offset = o) (ht : f.type = ty) (hc : Try.prog.cellsOf ty = c) :
    ∃ n y, n < fuel ∧ TrP enc W n ty ((cs.drop o).take c) y := by
  obtain ⟨xs, n, hfu, _, hl, hlen, hg⟩ := DataW.trod_struct hs h
  have := hg i f hf
  have hi := (Array.getElem?_eq_some_iff.1 hf).1
  rw [List.getElem?_eq_getElem (by omega), ho, ht, hc] at this
  exact ⟨n, _, by omega, this⟩
theorem one_get {cs : List Value} {o : Nat} {v : Value} (h : (cs.drop o).take 1 = [v]) : cs[o]? = some v := by
  have h4 : ((cs.drop o).take 1)[0]? = some v := by rw [h]; rfl
  rw [List.getElem?_take_of_lt (by omega), List.getElem?_drop] at h4
  simpa using h4
theorem intF {n : Nat} {cs : List Value} {o : Nat} {y : DataW H × List MemPlace} (h : TrP enc W n 3 ((cs.drop o).take 1) y) : ∃ m : Int, cs[o]? = some (.int .i64 m) := by
  obtain ⟨m, hm, _, _⟩ := DataW.trod_int Try.underlying3 h
  exact ⟨m, one_get hm⟩
theorem boolF {n : Nat} {cs : List Value} {o : Nat} {y : DataW H × List MemPlace} (h : TrP enc W n 4 ((cs.drop o).take 1) y) : ∃ m : Bool, cs[o]? = some (.bool m) := by
  obtain ⟨m, hm, _⟩ := DataW.trod_bool Try.underlying4 h
  exact ⟨m, one_get hm⟩
theorem slF {t e n : Nat} {cs : List Value} {o : Nat} {y : DataW H × List MemPlace} (ht : Try.prog.underlying t = some (.slice e)) (h : TrP enc W n t ((cs.drop o).take 1) y) : ∃ s : Sl3, cs[o]? = some s.v ∧ TrP enc W n t [s.v] y := by
  rcases DataW.trod_slice ht h with ⟨h0, _⟩ | ⟨a, len, cap, elems, rest, m, _, h0, _⟩
  · rw [h0] at h; exact ⟨.nil, one_get h0, h⟩
  · rw [h0] at h; exact ⟨⟨some a, len, cap⟩, one_get h0, h⟩
theorem list19 {α : Type} {l : List α} (h : l.length = 19) : ∃ a b c d e f g i j k m n o p q r s t u, l = [a, b, c, d, e, f, g, i, j, k, m, n, o, p, q, r, s, t, u] := by
  match l, h with
  | [a, b, c, d, e, f, g, i, j, k, m, n, o, p, q, r, s, t, u], _ => exact ⟨a, b, c, d, e, f, g, i, j, k, m, n, o, p, q, r, s, t, u, rfl⟩
/-- Six numbers. -/
theorem sixF {t n : Nat} {cs : List Value} {o : Nat} {y : DataW H × List MemPlace} (ht : Try.prog.underlying t = some (.array 6 3)) (h : TrP enc W n t ((cs.drop o).take 6) y) :
    ∃ m : M6, cs[o]? = some (.int .i64 m.a) ∧ cs[o + 1]? = some (.int .i64 m.b) ∧ cs[o + 2]? = some (.int .i64 m.c) ∧ cs[o + 3]? = some (.int .i64 m.d) ∧ cs[o + 4]? = some (.int .i64 m.e) ∧ cs[o + 5]? = some (.int .i64 m.f) := by
  obtain ⟨xs, m, _, _, hl, hlen, hg⟩ := DataW.trod_array ht h
  have hc : Try.prog.cellsOf 3 = 1 := by kernel_rfl
  have each : ∀ i, i < 6 → ∃ z : Int, cs[o + i]? = some (.int .i64 z) := fun i hi => by
    have := hg i hi
    rw [hc, Nat.mul_one, List.getElem?_eq_getElem (by omega)] at this
    obtain ⟨z, hz⟩ := intF this
    rw [List.getElem?_take_of_lt hi, List.getElem?_drop] at hz
    exact ⟨z, hz⟩
  obtain ⟨a, ha⟩ := each 0 (by omega)
  obtain ⟨b, hb⟩ := each 1 (by omega)
  obtain ⟨c, hc⟩ := each 2 (by omega)
  obtain ⟨d, hd⟩ := each 3 (by omega)
  obtain ⟨e, he⟩ := each 4 (by omega)
  obtain ⟨f, hf⟩ := each 5 (by omega)
  exact ⟨⟨a, b, c, d, e, f⟩, ha, hb, hc, hd, he, hf⟩

theorem ptAt {n : Nat} {cs : List Value} {y : DataW H × List MemPlace} (h : TrP enc W n 79 cs y) : ∃ p : Pt, cs = [.int .i64 p.1, .int .i64 p.2] := by
  obtain ⟨_, _, _, h0⟩ := fieldAt (o := 0) (ty := 3) (c := 1) Try.underlying79 h 0 rfl rfl rfl (by kernel_rfl)
  obtain ⟨_, _, _, h1⟩ := fieldAt (o := 1) (ty := 3) (c := 1) Try.underlying79 h 1 rfl rfl rfl (by kernel_rfl)
  obtain ⟨x, hx⟩ := intF h0
  obtain ⟨y, hy⟩ := intF h1
  obtain ⟨xs, m, _, _, hl, _⟩ := DataW.trod_struct Try.underlying79 h
  have hl2 : cs.length = 2 := by rw [hl]; kernel_rfl
  match cs, hl2 with
  | [a, b], _ =>
    simp only [List.getElem?_cons_zero, List.getElem?_cons_succ, Option.some.injEq] at hx hy
    subst hx; subst hy
    exact ⟨(x, y), rfl⟩
theorem choose_list {α : Type} {P : Nat → α → Prop} {n : Nat} [Inhabited α] (h : ∀ i, i < n → ∃ x, P i x) : ∃ l : List α, l.length = n ∧ ∀ i x, l[i]? = some x → P i x := by
  obtain ⟨f, hf⟩ : ∃ f : Nat → α, ∀ i, i < n → P i (f i) := by
    have : ∀ i, ∃ x, i < n → P i x := fun i => by
      by_cases hi : i < n
      · obtain ⟨x, hx⟩ := h i hi; exact ⟨x, fun _ => hx⟩
      · exact ⟨default, fun h => absurd h hi⟩
    exact Classical.axiomOfChoice this
  refine ⟨(List.range n).map f, by simp, fun i x hx => ?_⟩
  have hi : i < n := by have := (List.getElem?_eq_some_iff.1 hx).1; simpa using this
  simp [hi] at hx
  subst hx
  exact hf i hi
theorem ptsAt {fuel : Nat} {s : Sl3} {x : DataW H × List MemPlace} (hf : TrP enc W fuel 39 [s.v] x) : ∃ pts : List Pt, s.l ≤ s.c ∧ IS2 W.heap s.p s.l pts := by
  rcases open_slice Try.underlying39 hf with ⟨hcs, _⟩ | ⟨a, len', cap', m, n, D, Pl, hcs, _, hl, hm, hmm, _, hx⟩
  · obtain ⟨p, l, c⟩ := s
    simp only [Sl3.v, List.cons.injEq, Value.slice.injEq, and_true] at hcs
    obtain ⟨rfl, rfl, rfl⟩ := hcs
    exact ⟨[], Nat.le_refl _, IS2.nil _⟩
  · obtain ⟨p, l, c⟩ := s
    simp only [Sl3.v, List.cons.injEq, Value.slice.injEq, and_true] at hcs
    obtain ⟨rfl, rfl, rfl⟩ := hcs
    have hml : l ≤ m := by rw [hmm]; simp; omega
    obtain ⟨pts, hlen, hpts⟩ := choose_list (P := fun i (p : Pt) => rowIn W.heap (a.add (i * 2)) #[.int .i64 p.1, .int .i64 p.2]) (n := l) fun i hi => by
      obtain ⟨cs, h1, h2⟩ := hx i (by omega)
      rw [show Try.prog.cellsOf 79 = 2 from by kernel_rfl] at h1
      obtain ⟨p, rfl⟩ := ptAt h2
      obtain ⟨_, _, hc⟩ := World.cells?_some h1
      refine ⟨p, fun j v hv => ?_⟩
      have hj : j < 2 := (Array.getElem?_eq_some_iff.1 hv).1
      have := hc j hj
      rw [cell_eq] at this
      rw [this]
      simpa using hv
    exact ⟨pts, hl, hlen, fun i x y hi => ⟨a, rfl, hpts i (x, y) hi⟩⟩

/-- An edit. -/
theorem edAt {fuel : Nat} {cs : List Value} {x : DataW H × List MemPlace} (h : TrP enc W fuel 43 cs x) : ∃ e s, cs = edL e s ∧ rdEd W.heap e s := by
  have hu := Try.underlying43
  obtain ⟨_, _, _, h0⟩ := fieldAt (o := 0) (ty := 3) (c := 1) hu h 0 rfl rfl rfl (by kernel_rfl)
  obtain ⟨_, _, _, h1⟩ := fieldAt (o := 1) (ty := 3) (c := 1) hu h 1 rfl rfl rfl (by kernel_rfl)
  obtain ⟨_, _, _, h2⟩ := fieldAt (o := 2) (ty := 3) (c := 1) hu h 2 rfl rfl rfl (by kernel_rfl)
  obtain ⟨_, _, _, h3⟩ := fieldAt (o := 3) (ty := 3) (c := 1) hu h 3 rfl rfl rfl (by kernel_rfl)
  obtain ⟨_, _, _, h4⟩ := fieldAt (o := 4) (ty := 3) (c := 1) hu h 4 rfl rfl rfl (by kernel_rfl)
  obtain ⟨_, _, _, h5⟩ := fieldAt (o := 5) (ty := 3) (c := 1) hu h 5 rfl rfl rfl (by kernel_rfl)
  obtain ⟨_, _, _, h6⟩ := fieldAt (o := 6) (ty := 3) (c := 1) hu h 6 rfl rfl rfl (by kernel_rfl)
  obtain ⟨_, _, _, h7⟩ := fieldAt (o := 7) (ty := 3) (c := 1) hu h 7 rfl rfl rfl (by kernel_rfl)
  obtain ⟨_, _, _, h8⟩ := fieldAt (o := 8) (ty := 3) (c := 1) hu h 8 rfl rfl rfl (by kernel_rfl)
  obtain ⟨_, _, _, h9⟩ := fieldAt (o := 9) (ty := 3) (c := 1) hu h 9 rfl rfl rfl (by kernel_rfl)
  obtain ⟨_, _, _, h10⟩ := fieldAt (o := 10) (ty := 38) (c := 1) hu h 10 rfl rfl rfl (by kernel_rfl)
  obtain ⟨_, _, _, h11⟩ := fieldAt (o := 11) (ty := 39) (c := 1) hu h 11 rfl rfl rfl (by kernel_rfl)
  obtain ⟨_, _, _, h12⟩ := fieldAt (o := 12) (ty := 41) (c := 6) hu h 12 rfl rfl rfl (by kernel_rfl)
  obtain ⟨_, _, _, h13⟩ := fieldAt (o := 18) (ty := 38) (c := 1) hu h 13 rfl rfl rfl (by kernel_rfl)
  obtain ⟨v0, g0⟩ := intF h0
  obtain ⟨v1, g1⟩ := intF h1
  obtain ⟨v2, g2⟩ := intF h2
  obtain ⟨v3, g3⟩ := intF h3
  obtain ⟨v4, g4⟩ := intF h4
  obtain ⟨v5, g5⟩ := intF h5
  obtain ⟨v6, g6⟩ := intF h6
  obtain ⟨v7, g7⟩ := intF h7
  obtain ⟨v8, g8⟩ := intF h8
  obtain ⟨v9, g9⟩ := intF h9
  obtain ⟨P, g10, t10⟩ := slF Try.underlying38 h10
  obtain ⟨S, g11, t11⟩ := slF Try.underlying39 h11
  obtain ⟨m, ga, gb, gc, gd, ge, gf⟩ := sixF Try.underlying41 h12
  obtain ⟨A, g18, t18⟩ := slF Try.underlying38 h13
  obtain ⟨ps, _, hps⟩ := intsAt t10
  obtain ⟨pts, _, hpts⟩ := ptsAt t11
  obtain ⟨qs, _, hqs⟩ := intsAt t18
  obtain ⟨xs, k, _, _, hl, _⟩ := DataW.trod_struct hu h
  have hl2 : cs.length = 19 := by rw [hl]; kernel_rfl
  refine ⟨⟨v0, v1, v2, v3, v4, v5, v6, v7, v8, v9, ps, pts, m, qs⟩, ⟨P, S, A⟩, ?_, ⟨hps, hpts, hqs⟩⟩
  obtain ⟨a, b, c, d, e, f, g, i, j, k, m', n, o, p, q, r, s, t, u, rfl⟩ := list19 hl2
  simp only [List.getElem?_cons_zero, List.getElem?_cons_succ, Option.some.injEq] at g0 g1 g2 g3 g4 g5 g6 g7 g8 g9 g10 g11 ga gb gc gd ge gf g18
  subst g0 g1 g2 g3 g4 g5 g6 g7 g8 g9 g10 g11 ga gb gc gd ge gf g18
  rfl
instance : Inhabited (Ed × EdS) := ⟨⟨0, 0, 0, 0, 0, 0, 0, 0, 0, 0, [], [], ⟨0, 0, 0, 0, 0, 0⟩, []⟩, ⟨.nil, .nil, .nil⟩⟩

theorem editsIn_of {v : Value} {d : DataW H} {ps : List MemPlace} {base : Nat} (hv : Value.okWide Try.prog W .any base 22 v) (h : DataW.Trod enc Try.prog W 0 (fun _ => true) true 22 v d ps) :
    ∃ a l c es, v = .slice a l c ∧ l ≤ c ∧ EdsR W.heap a l es := by
  obtain ⟨a0, len, cap, rfl⟩ := okWide_slice Try.underlying22 hv
  obtain ⟨fuel, hf⟩ := h
  rcases open_slice Try.underlying22 hf with ⟨hcs, _⟩ | ⟨a, len', cap', m, n, D, Pl, hcs, _, hl, hm, hmm, _, hx⟩
  · simp only [Value.cells] at hcs
    simp at hcs
    obtain ⟨rfl, rfl, rfl⟩ := hcs
    exact ⟨none, 0, 0, [], rfl, Nat.le_refl _, rfl, fun i e s hx => by simp at hx⟩
  · simp only [Value.cells] at hcs
    simp at hcs
    obtain ⟨rfl, rfl, rfl⟩ := hcs
    have hml : len ≤ m := by rw [hmm]; simp; omega
    obtain ⟨es, hlen, hes⟩ := choose_list (P := fun i (x : Ed × EdS) => rowIn W.heap (a.add (i * 19)) (edL x.1 x.2).toArray ∧ rdEd W.heap x.1 x.2) (n := len) fun i hi => by
      obtain ⟨cs, h1, h2⟩ := hx i (by omega)
      rw [show Try.prog.cellsOf 43 = 19 from by kernel_rfl] at h1
      obtain ⟨e, s, rfl, hrd⟩ := edAt h2
      obtain ⟨_, _, hc⟩ := World.cells?_some h1
      refine ⟨(e, s), fun j v hv => ?_, hrd⟩
      have hj : j < 19 := (Array.getElem?_eq_some_iff.1 hv).1
      have := hc j hj
      rw [cell_eq] at this
      rw [this]
      simpa using hv
    exact ⟨some a, len, cap, es, rfl, hl, hlen, fun i e s hi => let ⟨h1, h2⟩ := hes i (e, s) hi; ⟨a, rfl, h1, h2⟩⟩
theorem editIn_of {v : Value} {d : DataW H} {ps : List MemPlace} {base : Nat} (hv : Value.okWide Try.prog W .any base 43 v) (h : DataW.Trod enc Try.prog W 0 (fun _ => true) true 43 v d ps) :
    ∃ e s, v = .agg (edL e s).toArray ∧ rdEd W.heap e s := by
  obtain ⟨cs, rfl, _⟩ := okWide_struct Try.underlying43 hv
  obtain ⟨fuel, hf⟩ := h
  obtain ⟨e, s, h1, h2⟩ := edAt hf
  have h1 : cs.toList = edL e s := h1
  exact ⟨e, s, by rw [← h1], h2⟩
theorem shapeIn_of {v : Value} {d : DataW H} {ps : List MemPlace} {base : Nat} (hv : Value.okWide Try.prog W .any base 39 v) (h : DataW.Trod enc Try.prog W 0 (fun _ => true) true 39 v d ps) :
    ∃ a l c pts, v = .slice a l c ∧ l ≤ c ∧ IS2 W.heap a l pts := by
  obtain ⟨a0, len, cap, rfl⟩ := okWide_slice Try.underlying39 hv
  obtain ⟨fuel, hf⟩ := h
  obtain ⟨pts, h1, h2⟩ := ptsAt (s := ⟨a0, len, cap⟩) hf
  exact ⟨a0, len, cap, pts, rfl, h1, h2⟩
theorem intsIn_of {v : Value} {d : DataW H} {ps : List MemPlace} {base : Nat} (hv : Value.okWide Try.prog W .any base 38 v) (h : DataW.Trod enc Try.prog W 0 (fun _ => true) true 38 v d ps) :
    ∃ a l c ls, v = .slice a l c ∧ l ≤ c ∧ IS W.heap a l (ints ls) := by
  obtain ⟨a0, len, cap, rfl⟩ := okWide_slice Try.underlying38 hv
  obtain ⟨fuel, hf⟩ := h
  obtain ⟨ls, h1, h2⟩ := intsAt hf
  exact ⟨a0, len, cap, ls, rfl, h1, h2⟩
end

end Go.Proofs
