/-
  OWN WORK. The contracts of the package tile, over heaps: Fill.
-/
import Derived.Test.YtcbnifopfdgniaaTileF
import Derived.Test.YtcbnifopfdgniaaTileR
set_option linter.unusedVariables false
set_option linter.unusedSimpArgs false
namespace Go.Proofs
open Go.Sh Go.Tile

/-- The map of the keys that are needed. -/
def kE (ks : List (Int × Int)) : List MapEntry := ks.zipIdx.map fun z => { key := .agg #[.int .i64 z.1.1, .int .i64 z.1.2], val := .bool true, born := z.2 }
def kO (ks : List (Int × Int)) : Obj := .map (kE ks).toArray ks.length

theorem kE_kf (ks : List (Int × Int)) : ∀ e ∈ (kE ks).toArray.toList, kForm (.arr 2 3) (.int .i64) e.key := by
  intro e he
  simp only [kE, List.mem_map] at he
  obtain ⟨z, _, rfl⟩ := he
  exact kf _ _

theorem kE_find (x y : Int) : ∀ (ks : List (Int × Int)) (n i : Nat), 
    (findE (.agg #[Value.int .i64 x, Value.int .i64 y]) ((ks.zipIdx n).map fun z => { key := .agg #[.int .i64 z.1.1, .int .i64 z.1.2], val := .bool true, born := z.2 }) i = none → (x, y) ∉ ks) ∧
    (∀ j u, findE (.agg #[Value.int .i64 x, Value.int .i64 y]) ((ks.zipIdx n).map fun z => { key := .agg #[.int .i64 z.1.1, .int .i64 z.1.2], val := .bool true, born := z.2 }) i = some (j, u) → (x, y) ∈ ks ∧ u = .bool true)
  | [], n, i => ⟨fun _ => by simp, fun j u h => by cases h⟩
  | c :: r, n, i => by
    have hk : kEq (.agg #[Value.int .i64 x, Value.int .i64 y]) (.agg #[Value.int .i64 c.1, Value.int .i64 c.2]) = (x == c.1 && y == c.2) := by simp [kEq]
    simp only [List.zipIdx_cons, List.map_cons, findE, hk]
    by_cases hc : x = c.1 ∧ y = c.2
    · have : (x == c.1 && y == c.2) = true := by simp [hc.1, hc.2]
      rw [this]
      simp only [if_true]
      refine ⟨fun h => (by cases h), fun j u h => ?_⟩
      simp only [Option.some.injEq, Prod.mk.injEq] at h
      exact ⟨by rw [hc.1, hc.2]; exact List.mem_cons_self, h.2.symm⟩
    · have : (x == c.1 && y == c.2) = false := by rw [← Bool.not_eq_true, Bool.and_eq_true, beq_iff_eq, beq_iff_eq]; exact hc
      rw [this]
      simp only [Bool.false_eq_true, if_false]
      obtain ⟨h1, h2⟩ := kE_find x y r (n + 1) (i + 1)
      refine ⟨fun h => ?_, fun j u h => ?_⟩
      · rw [List.mem_cons]
        rintro (h' | h')
        · cases h'; exact hc ⟨rfl, rfl⟩
        · exact h1 h h'
      · obtain ⟨h3, h4⟩ := h2 j u h
        exact ⟨List.mem_cons_of_mem _ h3, h4⟩

def addK (ks : List (Int × Int)) (x y : Int) : List (Int × Int) := if (x, y) ∈ ks then ks else ks ++ [(x, y)]

theorem updQ_k {H : Heap} {m : Nat} {ks : List (Int × Int)} {x y : Int} {f : Heap → Prop} (h : H[m]? = some (kO ks)) (hf : f (H.setIfInBounds m (kO (addK ks x y)))) :
    updQ (.arr 2 3) (.int .i64) (.map (some m)) (.agg #[Value.int .i64 x, Value.int .i64 y]) (.bool true) H f := by
  obtain ⟨h1, h2⟩ := kE_find x y ks 0 0
  refine ⟨m, rfl, _, _, h, kf _ _, kE_kf _, fun hn => ?_, fun j u hs => ?_⟩
  · have hm := h1 hn
    have : ((kE ks).toArray.push { key := .agg #[Value.int .i64 x, Value.int .i64 y], val := .bool true, born := ks.length }) = (kE (ks ++ [(x, y)])).toArray := by
      simp [kE, List.zipIdx_append]
    rw [this]
    simpa [addK, hm, kO] using hf
  · obtain ⟨hm, hu⟩ := h2 j u hs
    have : ((kE ks).toArray.modify j fun e => { e with val := .bool true }) = (kE ks).toArray := by
      apply Array.ext
      · simp
      · intro q hq1 hq2
        rw [Array.getElem_modify]
        split
        · simp [kE]
        · rfl
    rw [this]
    simpa [addK, hm, kO] using hf

set_option maxHeartbeats 1000000 in
theorem c13 {cap : Int} {H : Heap} {s : St} (hin : In H s) (hok : Ok cap s) {k : Nat} {p : Pl} (hk : s.pls[k]? = some p) {x y w h v : Int}
    (x0 : -9223372036854775808 ≤ x) (x1 : x ≤ 9223372036854775807) (y0 : -9223372036854775808 ≤ y) (y1 : y ≤ 9223372036854775807) (w0 : -9223372036854775808 ≤ w) (w1 : w ≤ 9223372036854775807)
    (g0 : -9223372036854775808 ≤ h) (g1 : h ≤ 9223372036854775807) {R : Value → Heap → Prop}
    (h32 : ¬ (0 ≤ v ∧ v < 4294967296) → ∀ H', Ext H H' → R (.int .i64 32) H')
    (hgo : (0 ≤ v ∧ v < 4294967296) → ∀ cs : List (Int × Int), (∀ X Y, (X, Y) ∈ cs ↔ (p.has X Y = true ∧ x ≤ X ∧ X < x + w ∧ y ≤ Y ∧ Y < y + h)) →
      (s.free < (needKeys s p v cs []).length → ∀ H', Ext H H' → R (.int .i64 30) H') ∧
      ((needKeys s p v cs []).length ≤ s.free → ∀ H' s', Goes cap H s H' s' → Paints k v s cs s' → R (.int .i64 0) H')) :
    CallsH Try.prog 13 #[.pointer (some ⟨p.b, 0, none⟩), .int .i64 x, .int .i64 y, .int .i64 w, .int .i64 h, .int .i64 v] H R := by
  have hp : p ∈ s.pls := List.mem_of_getElem? hk
  obtain ⟨_, _, _, pw0, pw1, ph0, ph1⟩ := hok.pl p hp
  refine Try.s13 ?_
  unfold Try.S13
  refine c25 v ⟨_, rfl, br_not (fun hn => h32 (of_decide_eq_false hn) H (Ext.refl H)) (fun hv => ?_)⟩
  have hv' := of_decide_eq_true hv
  have hgo := hgo hv'
  refine ⟨_, rfl, p.w, cell_get (hin.plane p hp) rfl, ?_⟩
  refine c28 x0 x1 w0 w1 pw0 pw1 fun l e hl hle he hle' => ⟨_, _, rfl, _, rfl, p.h, cell_get (hin.plane p hp) rfl, ?_⟩
  refine c28 y0 y1 g0 g1 ph0 ph1 fun t b ht htb hb hrow => ⟨_, _, rfl, ?_⟩
  -- the rectangle
  have hcs : ∀ X Y, (X, Y) ∈ rowsFrom l e t b ↔ (p.has X Y = true ∧ x ≤ X ∧ X < x + w ∧ y ≤ Y ∧ Y < y + h) := by
    intro X Y
    rw [mem_rowsFrom]
    have h1 := hle' X
    have h2 := hrow Y
    unfold Pl.has
    rw [decide_eq_true_iff]
    constructor
    · rintro ⟨a1, a2, a3, a4⟩
      have := h1.1 ⟨a1, a2⟩
      have := h2.1 ⟨a3, a4⟩
      omega
    · rintro ⟨⟨a1, a2, a3, a4⟩, a5, a6, a7, a8⟩
      have := h1.2 ⟨a1, a2, a5, a6⟩
      have := h2.2 ⟨a3, a4, a7, a8⟩
      omega
  obtain ⟨hno, hyes⟩ := hgo _ hcs
  have hhas : ∀ X Y, l ≤ X → X < e → t ≤ Y → Y < b → p.has X Y = true := fun X Y a1 a2 a3 a4 => ((hcs X Y).1 (mem_rowsFrom.2 ⟨a1, a2, a3, a4⟩)).1
  unfold alc
  generalize hH1 : H.push (.map #[] 0) = H1
  have e1 : Ext H H1 := by subst hH1; exact Ext.push _ _
  have m1 : H1[H.size]? = some (kO []) := by subst hH1; exact get_push_self _ _
  intro X hX
  -- behind the first two loops
  have main : ∀ H2 : Heap, Ext H H2 → H2[H.size]? = some (kO (needKeys s p v (rowsFrom l e t b) [])) →
      (∃ r55 : Nat, (some H.size : Option Nat) = some r55 ∧ ∃ (es56 : Array MapEntry) (c57 : Nat), H2[r55]? = some (.map es56 c57) ∧ ∃ a58 : Addr, (some ⟨p.b, 0, none⟩ : Option Addr) = some a58 ∧ ∃ a59 : Option Addr,
        cell H2 (Addr.add a58 0) = some (Value.pointer a59) ∧ ∃ a60 : Addr, a59 = some a60 ∧ ∃ free61 : Int, cell H2 (Addr.add a60 0) = some (Value.int .i64 free61) ∧ br (decide ((((Array.size es56 : Nat) : Int) : Int) > free61))
        (R (Value.int .i64 30) H2)
        (∀ X_62 : List Value → Heap → Prop, (∀ yy63 : Int, ∀ H_64 : Heap, (br (decide ((yy63 : Int) < b))
        (∀ X_65 : List Value → Heap → Prop, (∀ xx66 : Int, ∀ H_67 : Heap, (br (decide ((xx66 : Int) < e))
        (CallsH Try.prog 12 #[Value.pointer (some ⟨p.b, 0, none⟩), Value.int .i64 xx66, Value.int .i64 yy63, Value.int .i64 v] H_67 fun r68 H_69 => ∃ r70 : Int, r68 = Value.int .i64 r70 ∧ X_65 [Value.int .i64 (IntKind.wrap .i64 (xx66 + 1))] H_69)
        (X_62 [Value.int .i64 (IntKind.wrap .i64 (yy63 + 1))] H_67)) → X_65 [Value.int .i64 xx66] H_67) → X_65 [Value.int .i64 l] H_64)
        (R (Value.int .i64 0) H_64)) → X_62 [Value.int .i64 yy63] H_64) → X_62 [Value.int .i64 t] H2)) := by
    intro H2 e2 m2
    have hin2 := hin.ext e2
    refine ⟨_, rfl, _, _, m2, _, rfl, _, cell_get (hin2.plane p hp) rfl, _, rfl, s.free, cell_get hin2.arena rfl, ?_⟩
    have hsz : ((Array.size (kE (needKeys s p v (rowsFrom l e t b) [])).toArray : Nat) : Int) = (needKeys s p v (rowsFrom l e t b) []).length := by simp [kE]
    refine br_dec (fun hgt => hno (by omega) H2 e2) (fun hle2 => ?_)
    have hroom : ((needKeys s p v (rowsFrom l e t b) []).length : Int) ≤ s.free := by omega
    have hyes := hyes hroom
    intro Y hY
    -- from a place on: what is left is painted
    have rows : ∀ (n : Nat) (yy : Int) (H3 : Heap) (s3 : St) (p3 : Pl), (b - yy).toNat = n → t ≤ yy → yy ≤ b ∨ b ≤ t → Goes cap H s H3 s3 → s3.pls[k]? = some p3 → Like p p3 → ((needKeys s3 p3 v (rowsFrom l e yy b) []).length : Int) ≤ s3.free →
        (∀ s', Paints k v s3 (rowsFrom l e yy b) s' → Paints k v s (rowsFrom l e t b) s') → Y [Value.int .i64 yy] H3 := by
      intro n
      induction n using Nat.strongRecOn with
      | _ n ih =>
        intro yy H3 s3 p3 hn hty hyb hg3 hk3 hl3 hfree3 hpaint
        refine hY yy H3 (br_dec (fun hlt => ?_) (fun hge => ?_))
        · intro Z hZ
          have cols : ∀ (m : Nat) (xx : Int) (H4 : Heap) (s4 : St) (p4 : Pl), (e - xx).toNat = m → l ≤ xx → Goes cap H s H4 s4 → s4.pls[k]? = some p4 → Like p p4 →
              ((needKeys s4 p4 v (rowFrom xx e yy ++ rowsFrom l e (yy + 1) b) []).length : Int) ≤ s4.free →
              (∀ s', Paints k v s4 (rowFrom xx e yy ++ rowsFrom l e (yy + 1) b) s' → Paints k v s (rowsFrom l e t b) s') → Z [Value.int .i64 xx] H4 := by
            intro m
            induction m using Nat.strongRecOn with
            | _ m ihc =>
              intro xx H4 s4 p4 hm hlx hg4 hk4 hl4 hfree4 hpaint4
              refine hZ xx H4 (br_dec (fun hlt2 => ?_) (fun hge2 => ?_))
              · have hh4 : p4.has xx yy = true := by rw [hl4.has]; exact hhas xx yy hlx hlt2 hty hlt
                have ew : IntKind.wrap .i64 (xx + 1) = xx + 1 := wrap_id (by omega) (by omega)
                rw [← hl4.b]
                rw [rowFrom_cons hlt2, List.cons_append] at hfree4 hpaint4
                refine c12 hg4.inn hg4.ok hk4 xx yy v (fun hf => by rw [hh4] at hf; cases hf) (fun _ hnv => absurd hv' hnv) (fun _ _ hpx H5 e5 => ⟨_, rfl, ?_⟩) (fun _ _ hne hnd hf0 => ?_) (fun _ _ hne H5 s5 hg5 hw5 => ⟨_, rfl, ?_⟩)
                · rw [ew]
                  refine ihc (e - (xx + 1)).toNat (by omega) (xx + 1) H5 s4 p4 rfl (by omega) (hg4.trans (Goes.of_ext hg4.inn hg4.ok e5)) hk4 hl4 ?_ (fun s' hs' => hpaint4 s' (.same hk4 hh4 hpx hs'))
                  rw [needKeys, if_neg (fun hh => hh.1 hpx)] at hfree4
                  exact hfree4
                · exfalso
                  have hmem := (mem_needKeys s4 p4 v ((xx, yy) :: (rowFrom (xx + 1) e yy ++ rowsFrom l e (yy + 1) b)) [] (xx / 16, yy / 16)).2 (.inr ⟨_, List.mem_cons_self, ⟨hne, hnd⟩, rfl⟩)
                  have := List.length_pos_of_mem hmem
                  omega
                · rw [ew]
                  obtain ⟨p5, st⟩ := wrote_step hg4.ok hk4 hw5
                  have hstep := needKeys_step hg4.ok hk4 hh4 hne hw5 st.pk (rowFrom (xx + 1) e yy ++ rowsFrom l e (yy + 1) b)
                  refine ihc (e - (xx + 1)).toNat (by omega) (xx + 1) H5 s5 p5 rfl (by omega) (hg4.trans hg5) st.pk (hl4.trans st.like) ?_ (fun s' hs' => hpaint4 s' (.wrote hk4 hh4 hne hw5 hs'))
                  rw [st.free]
                  split at hstep <;> rename_i hnd
                  · rw [if_pos hnd]; omega
                  · rw [if_neg hnd]; omega
              · rw [rowFrom_nil hge2, List.nil_append] at hfree4 hpaint4
                have ew : IntKind.wrap .i64 (yy + 1) = yy + 1 := wrap_id (by omega) (by omega)
                rw [ew]
                exact ih (b - (yy + 1)).toNat (by omega) (yy + 1) H4 s4 p4 rfl (by omega) (.inl (by omega)) hg4 hk4 hl4 hfree4 hpaint4
          rw [rowsFrom_cons hlt] at hfree3 hpaint
          exact cols _ l H3 s3 p3 rfl (Int.le_refl _) hg3 hk3 hl3 hfree3 hpaint
        · rw [rowsFrom_nil hge] at hpaint
          exact hyes H3 s3 hg3 (hpaint s3 (.nil s3))
    exact rows _ t H2 s p rfl (Int.le_refl _) (by omega) (Goes.of_ext hin hok e2) hk (Like.refl p) hroom (fun s' hs' => hs')
  -- the first two loops
  have rows : ∀ (n : Nat) (yy : Int) (H2 : Heap) (ks : List (Int × Int)), (b - yy).toNat = n → t ≤ yy → Ext H H2 → H2[H.size]? = some (kO ks) → needKeys s p v (rowsFrom l e yy b) ks = needKeys s p v (rowsFrom l e t b) [] → X [Value.int .i64 yy] H2 := by
    intro n
    induction n using Nat.strongRecOn with
    | _ n ih =>
      intro yy H2 ks hn hty e2 m2 hks
      refine hX yy H2 (br_dec (fun hlt => ?_) (fun hge => ?_))
      · intro Z hZ
        have cols : ∀ (m : Nat) (xx : Int) (H3 : Heap) (ks : List (Int × Int)), (e - xx).toNat = m → l ≤ xx → Ext H H3 → H3[H.size]? = some (kO ks) → needKeys s p v (rowFrom xx e yy ++ rowsFrom l e (yy + 1) b) ks = needKeys s p v (rowsFrom l e t b) [] →
            Z [Value.int .i64 xx] H3 := by
          intro m
          induction m using Nat.strongRecOn with
          | _ m ihc =>
            intro xx H3 ks hm hlx e3 m3 hks
            refine hZ xx H3 (br_dec (fun hlt2 => ?_) (fun hge2 => ?_))
            · have hh := hhas xx yy hlx hlt2 hty hlt
              have hh' := of_decide_eq_true hh
              rw [rowFrom_cons hlt2, List.cons_append] at hks
              intro J hJ
              -- the round's end
              have fin : ∀ (H4 : Heap) (ks' : List (Int × Int)), Ext H H4 → H4[H.size]? = some (kO ks') → needKeys s p v (rowFrom (xx + 1) e yy ++ rowsFrom l e (yy + 1) b) ks' = needKeys s p v (rowsFrom l e t b) [] → J [] H4 := by
                intro H4 ks' e4 m4 hks'
                refine hJ H4 ?_
                rw [wrap_id (by omega) (by omega)]
                exact ihc (e - (xx + 1)).toNat (by omega) (xx + 1) H4 ks' rfl (by omega) e4 m4 hks'
              refine c26 (by omega) (by omega) (by omega) (by omega) fun H4 e4 => ⟨_, _, rfl, rfl, stAt_whole (get_push_self _ _) rfl (by simp [Value.oneCell']) ?_⟩
              generalize hH5 : Array.setIfInBounds _ _ _ = H5
              have e45 : Ext H4 H5 := by
                subst hH5
                exact fun b o hb => get_set_ne (Nat.ne_of_gt (lt_of_get hb)) (get_push hb)
              have hkey : H5[H4.size]? = some (.cells #[Value.int .i64 (xx / 16), Value.int .i64 (yy / 16)] 65) := by
                subst hH5
                exact get_set_self (get_push_self _ _)
              have e5 : Ext H H5 := (e3.trans e4).trans e45
              have m5 : H5[H.size]? = some (kO ks) := e45 _ _ (e4 _ _ m3)
              have hin5 := hin.ext e5
              refine ⟨_, rfl, some p.m, cell_get (hin5.plane p hp) rfl, _, rfl, rowIn_whole hkey, p.m, rfl, _, _, hin5.map p hp, kf _ _, kfs _, _, lookV_enc _ _ _, ?_⟩
              refine c20 hin5 hok hp xx yy fun H6 e6 => ⟨_, rfl, ?_⟩
              have m6 := e6 _ _ m5
              have hkey6 := e6 _ _ hkey
              -- a store into the map of keys
              have upd : pxAt s p xx yy ≠ v → needs s p (xx / 16) (yy / 16) = true → ∃ v49 : Array Value, v49.size = 2 ∧ rowIn H6 ⟨H4.size, 0, none⟩ v49 ∧ updQ (.arr 2 3) (.int .i64) (Value.map (some H.size)) (Value.agg v49) (Value.bool true) H6 fun H_50 => J [] H_50 := by
                intro hne hnd
                refine ⟨_, rfl, rowIn_whole hkey6, updQ_k m6 ?_⟩
                refine fin _ _ (fun b o hb => get_set_ne (fun h => by have := lt_of_get hb; omega) (e6 _ _ (e5 _ _ hb))) (get_set_self m6) ?_
                rw [needKeys, if_pos ⟨hne, hnd⟩] at hks
                exact hks
              have skip : ¬ (pxAt s p xx yy ≠ v ∧ needs s p (xx / 16) (yy / 16) = true) → J [] H6 := by
                intro hno
                refine fin H6 ks (e5.trans e6) m6 ?_
                rw [needKeys, if_neg hno] at hks
                exact hks
              refine br_ne (fun hne => ?_) (fun heq => skip (fun h => h.1 heq))
              cases htl : tileOf p.en (xx / 16) (yy / 16) with
              | none => exact br_true (upd hne (by simp [needs, htl]))
              | some tl =>
                obtain ⟨px, hpx, hm6, hlen, _⟩ := hok.px_of hp htl
                refine br_false ⟨_, rfl, _, tile_users ((hin5.ext e6).tile _ hm6) hlen, br_dec (fun h1 => upd hne ?_) (fun h1 => skip ?_)⟩
                · have h1' : ((refs s.pls tl : Nat) : Int) > 1 := h1
                  have : ¬ refs s.pls tl = 1 := by omega
                  simp [needs, htl, this]
                · have h1' : ¬ ((refs s.pls tl : Nat) : Int) > 1 := h1
                  have hpos := (refs_of_tile hok hp htl).1
                  have : refs s.pls tl = 1 := by omega
                  simp [needs, htl, this]
            · rw [rowFrom_nil hge2, List.nil_append] at hks
              rw [wrap_id (by omega) (by omega)]
              exact ih (b - (yy + 1)).toNat (by omega) (yy + 1) H3 ks rfl (by omega) e3 m3 hks
        rw [rowsFrom_cons hlt] at hks
        exact cols _ l H2 ks rfl (Int.le_refl _) e2 m2 hks
      · rw [rowsFrom_nil hge] at hks
        refine main H2 e2 ?_
        rw [← hks]
        exact m2
  exact rows _ t H1 [] rfl (Int.le_refl _) e1 m1 rfl

end Go.Proofs
