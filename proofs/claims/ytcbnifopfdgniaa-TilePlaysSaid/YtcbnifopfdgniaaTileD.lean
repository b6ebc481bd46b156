/-
  OWN WORK. The contracts of the package tile, over heaps: taking a tile for one's own; writing a pixel.
-/
import Derived.Test.YtcbnifopfdgniaaTileC
import Derived.Test.YtcbnifopfdgniaaTileO
set_option linter.unusedVariables false
set_option linter.unusedSimpArgs false
namespace Go.Proofs
open Go.Sh Go.Tile

/-- The blocks that the model writes. -/
def owned (s : St) (b : Nat) : Prop := b = s.A ∨ (∃ p ∈ s.pls, b = p.m) ∨ b ∈ s.ts.map (·.1)

/-- From one heap and model to another. -/
structure Goes (cap : Int) (H : Heap) (s : St) (H' : Heap) (s' : St) : Prop where
  inn : In H' s'
  ok : Ok cap s'
  fr : ∀ b o, H[b]? = some o → ¬ owned s b → H'[b]? = some o
  own : ∀ b, owned s' b → owned s b ∨ H.size ≤ b
  sz : H.size ≤ H'.size

theorem Goes.of_ext {cap : Int} {H H' : Heap} {s : St} (hin : In H s) (hok : Ok cap s) (he : Ext H H') : Goes cap H s H' s :=
  ⟨hin.ext he, hok, fun b o hb _ => he b o hb, fun b hb => .inl hb, he.size⟩

theorem Goes.trans {cap : Int} {H H' H'' : Heap} {s s' s'' : St} (h : Goes cap H s H' s') (h' : Goes cap H' s' H'' s'') : Goes cap H s H'' s'' := by
  refine ⟨h'.inn, h'.ok, fun b o hb hn => h'.fr b o (h.fr b o hb hn) fun ho => ?_, fun b hb => ?_, Nat.le_trans h.sz h'.sz⟩
  · rcases h.own b ho with ho | ho
    · exact hn ho
    · exact absurd (lt_of_get hb) (Nat.not_lt.2 ho)
  · rcases h'.own b hb with hb | hb
    · exact h.own b hb
    · exact .inr (Nat.le_trans h.sz hb)

theorem tile_size (px : List Int) (u : Int) (hl : px.length = 256) : (px.map (Value.int .u32) ++ [Value.int .i64 u]).toArray.size = 257 := by simp [hl]

theorem stAt_users {H : Heap} {t : Nat} {px : List Int} {u v : Int} {f : Heap → Prop} (h : H[t]? = some (tileO px u)) (hl : px.length = 256) (hf : f (H.setIfInBounds t (tileO px v))) :
    stAt H ⟨t, 256, none⟩ [Value.int .i64 v] f := by
  refine stAt_one h (by rw [tile_size px u hl]; omega) rfl ?_
  have : (px.map (Value.int .u32) ++ [Value.int .i64 u]).toArray.setIfInBounds 256 (Value.int .i64 v) = (px.map (Value.int .u32) ++ [Value.int .i64 v]).toArray := by
    apply Array.toList_inj.1
    simp only [List.setIfInBounds_toArray]
    rw [List.set_append_right _ _ (by simp [hl])]
    simp [hl]
  rw [this]
  exact hf

theorem stAt_pixel {H : Heap} {t i : Nat} {px : List Int} {u v : Int} {f : Heap → Prop} (h : H[t]? = some (tileO px u)) (hl : px.length = 256) (hi : i < 256) (hf : f (H.setIfInBounds t (tileO (px.set i v) u))) :
    stAt H ⟨t, i, none⟩ [Value.int .u32 v] f := by
  refine stAt_one h (by rw [tile_size px u hl]; omega) rfl ?_
  have : (px.map (Value.int .u32) ++ [Value.int .i64 u]).toArray.setIfInBounds i (Value.int .u32 v) = ((px.set i v).map (Value.int .u32) ++ [Value.int .i64 u]).toArray := by
    apply Array.toList_inj.1
    simp only [List.setIfInBounds_toArray]
    rw [List.set_append_left _ _ (by simp [hl, hi]), List.map_set]
  rw [this]
  exact hf

theorem stAt_copy {H : Heap} {t : Nat} {px px' : List Int} {u : Int} {f : Heap → Prop} (h : H[t]? = some (tileO px u)) (hl : px.length = 256) (hl' : px'.length = 256) (hf : f (H.setIfInBounds t (tileO px' u))) :
    stAt H ⟨t, 0, none⟩ (px'.map (Value.int .u32)).toArray.toList f := by
  refine ⟨_, _, h, rfl, by rw [tile_size px u hl]; simp [hl'], fun v hv => ?_, ?_⟩
  · simp only [List.mem_map] at hv
    obtain ⟨z, _, rfl⟩ := hv
    rfl
  · have : setL (px.map (Value.int .u32) ++ [Value.int .i64 u]) 0 (px'.map (Value.int .u32)) = px'.map (Value.int .u32) ++ [Value.int .i64 u] := by
      simp [setL, hl, hl']
    simp only [this]
    exact hf

theorem row_tile {H : Heap} {t : Nat} {px : List Int} {u : Int} (h : H[t]? = some (tileO px u)) : rowIn H ⟨t, 0, none⟩ (px.map (Value.int .u32)).toArray :=
  rowIn_block h fun j v hv => by
    simp only [List.getElem?_toArray] at hv ⊢
    rw [Nat.zero_add, List.getElem?_append_left (List.getElem?_eq_some_iff.1 hv).1]
    exact hv

theorem findE_none {x y : Int} {en : List En} {i : Nat} (h : findE (.agg #[Value.int .i64 x, Value.int .i64 y]) (en.map enc) i = none) : tileOf en x y = none := by
  induction en generalizing i with
  | nil => rfl
  | cons e r ih =>
    simp only [List.map_cons, findE, kEq_enc] at h
    rw [tileOf_cons]
    cases he : e.at x y with
    | true => rw [he] at h; cases h
    | false => rw [he] at h; simpa using ih h

theorem findE_some {x y : Int} (n clk : Nat) {en : List En} {i j : Nat} {u : Value} (h : findE (.agg #[Value.int .i64 x, Value.int .i64 y]) (en.map enc) i = some (j, u)) :
    i ≤ j ∧ (∃ t, tileOf en x y = some t) ∧ (setEn x y n clk en).map enc = (en.map enc).modify (j - i) fun e => { e with val := .pointer (some ⟨n, 0, none⟩) } := by
  induction en generalizing i with
  | nil => cases h
  | cons e r ih =>
    simp only [List.map_cons, findE, kEq_enc] at h
    rw [tileOf_cons]
    unfold setEn
    cases he : e.at x y with
    | true =>
      rw [he] at h
      simp only [if_true, Option.some.injEq, Prod.mk.injEq] at h
      obtain ⟨rfl, _⟩ := h
      exact ⟨Nat.le_refl _, ⟨_, rfl⟩, by simp [enc]⟩
    | false =>
      rw [he] at h
      obtain ⟨h1, h2, h3⟩ := ih h
      refine ⟨by omega, by simpa using h2, ?_⟩
      have : j - i = (j - (i + 1)) + 1 := by omega
      rw [this]
      simp only [Bool.false_eq_true, if_false, List.map_cons, List.modify_succ_cons, h3]

theorem updQ_enc {H : Heap} {m clk n : Nat} {en : List En} {x y : Int} {f : Heap → Prop} (h : H[m]? = some (.map (en.map enc).toArray clk))
    (hf : f (H.setIfInBounds m (.map ((setEn x y n clk en).map enc).toArray (setClk en x y clk)))) :
    updQ (.arr 2 3) (.int .i64) (.map (some m)) (.agg #[Value.int .i64 x, Value.int .i64 y]) (.pointer (some ⟨n, 0, none⟩)) H f := by
  refine ⟨m, rfl, _, _, h, kf _ _, kfs _, fun hn => ?_, fun j u hs => ?_⟩
  · have ht := findE_none hn
    have : ((en.map enc).toArray.push { key := .agg #[Value.int .i64 x, Value.int .i64 y], val := .pointer (some ⟨n, 0, none⟩), born := clk }) = ((setEn x y n clk en).map enc).toArray := by
      rw [set_none n clk ht]; simp [enc]
    rw [this]
    simpa [setClk, ht] using hf
  · obtain ⟨_, ⟨t, ht⟩, h3⟩ := findE_some n clk hs
    rw [Nat.sub_zero] at h3
    have : ((en.map enc).toArray.modify j fun e => { e with val := .pointer (some ⟨n, 0, none⟩) }) = ((setEn x y n clk en).map enc).toArray := by
      rw [h3]; simp
    rw [this]
    simpa [setClk, ht] using hf

theorem in_own {cap : Int} {H H' : Heap} {s : St} (hin : In H s) (hok : Ok cap s) {k : Nat} {p : Pl} (hk : s.pls[k]? = some p) {x y : Int} {n : Nat} (hn : H.size ≤ n)
    (ha : H'[s.A]? = some (arenaO (s.free - 1))) (hb : H'[n]? = some (tileO (oldPx s p x y) 1)) (hc : ∀ t l, tileOf p.en x y = some t → (t, l) ∈ s.ts → H'[t]? = some (tileO l (refs s.pls t - 1)))
    (hd : H'[p.m]? = some (mapO (p.own x y n))) (he : ∀ b o, H[b]? = some o → b ≠ s.A → b ≠ p.m → (∀ t, tileOf p.en x y = some t → b ≠ t) → H'[b]? = some o) : In H' (ownS s k p x y n) := by
  have hp : p ∈ s.pls := List.mem_of_getElem? hk
  have hne : ∀ t, t ∈ s.ts.map (·.1) → t ≠ n := fun t ht heq => by
    obtain ⟨z, hz, rfl⟩ := List.mem_map.1 ht
    have := lt_of_get (hin.tile z hz)
    omega
  have hnt : ∀ q ∈ s.pls, ∀ e ∈ q.en, e.t ≠ n := fun q hq e heq' => hne _ ((hok.live _).1 (refs_pos hq heq'))
  obtain ⟨r1, r2⟩ := refs_own hk (x := x) (y := y) hnt
  have htile : ∀ t, tileOf p.en x y = some t → ∃ l, (t, l) ∈ s.ts ∧ H[t]? = some (tileO l (refs s.pls t)) := fun t ht => by
    obtain ⟨l, _, hm, _⟩ := hok.px_of hp ht
    exact ⟨l, hm, hin.tile _ hm⟩
  refine ⟨ha, fun q hq => ?_, fun q hq => ?_, fun z hz => ?_⟩
  · have : H[q.b]? = some (planeO s.A q) := by
      rcases List.mem_or_eq_of_mem_set hq with hq | rfl
      · exact hin.plane q hq
      · exact hin.plane p hp
    refine he _ _ this (ne_of_ty this hin.arena (by decide)) (ne_of_map this (hin.map p hp)) fun t ht => ?_
    obtain ⟨l, _, hl⟩ := htile t ht
    exact ne_of_ty this hl (by decide)
  · obtain ⟨j, hj⟩ := List.getElem?_of_mem hq
    rw [own_pls x y n hk] at hj
    by_cases hjk : j = k
    · rw [if_pos hjk] at hj; cases hj; exact hd
    · rw [if_neg hjk] at hj
      have hqm : q ∈ s.pls := List.mem_of_getElem? hj
      have hm := hin.map q hqm
      refine he _ _ hm (ne_of_map' hm hin.arena) (fun heq => hjk ?_) fun t ht => ?_
      · have h1 : (s.pls.map (·.m))[j]? = some q.m := by rw [List.getElem?_map, hj]; rfl
        have h2 : (s.pls.map (·.m))[k]? = some q.m := by rw [List.getElem?_map, hk, heq]; rfl
        exact (List.getElem?_inj (List.getElem?_eq_some_iff.1 h1).1 hok.ms).1 (by rw [h1, h2])
      · obtain ⟨l, _, hl⟩ := htile t ht
        exact ne_of_map' hm hl
  · rcases List.mem_cons.1 hz with rfl | hz
    · show H'[n]? = some (tileO _ ((refs (ownS s k p x y n).pls n : Nat) : Int))
      rw [r1]; exact hb
    · have hzm : z.1 ∈ s.ts.map (·.1) := List.mem_map.2 ⟨z, hz, rfl⟩
      have hzn := hne _ hzm
      have h2 := r2 z.1 hzn
      have hpos := (hok.live z.1).2 hzm
      show H'[z.1]? = some (tileO z.2 ((refs (ownS s k p x y n).pls z.1 : Nat) : Int))
      by_cases ht : tileOf p.en x y = some z.1
      · rw [if_pos ht] at h2
        have := hc z.1 z.2 ht hz
        rw [this]
        congr 2
        omega
      · rw [if_neg ht] at h2
        have hzt := hin.tile z hz
        rw [show refs (ownS s k p x y n).pls z.1 = refs s.pls z.1 by omega]
        refine he _ _ hzt (ne_of_ty hzt hin.arena (by decide)) (ne_of_map hzt (hin.map p hp)) fun t ht' heq => ht (by rw [ht', heq])

theorem own_owned {s : St} {k : Nat} {p : Pl} (hk : s.pls[k]? = some p) (x y : Int) (n : Nat) (b : Nat) (h : owned (ownS s k p x y n) b) : owned s b ∨ b = n := by
  rcases h with h | ⟨q, hq, rfl⟩ | h
  · exact .inl (.inl h)
  · rcases List.mem_or_eq_of_mem_set hq with hq | rfl
    · exact .inl (.inr (.inl ⟨q, hq, rfl⟩))
    · exact .inl (.inr (.inl ⟨p, List.mem_of_getElem? hk, rfl⟩))
  · rcases List.mem_cons.1 h with rfl | h
    · exact .inr rfl
    · exact .inl (.inr (.inr h))

end Go.Proofs
