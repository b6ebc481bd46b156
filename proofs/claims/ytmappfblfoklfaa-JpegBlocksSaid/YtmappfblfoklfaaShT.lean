/-
  OWN WORK. The shallow layer, part 15: what is one's own, as a list of resources, each on blocks of its own; the rest of the heap is as it was.
-/
import Derived.Test.YtmappfblfoklfaaShS
set_option linter.unusedVariables false
set_option linter.unusedSimpArgs false
namespace Go.Sh

/-- What stands in a heap, on blocks of its own. -/
structure Rs where
  at_ : Heap → List Nat → Prop
  loc : ∀ {H H' : Heap} {fp : List Nat}, at_ H fp → (∀ b ∈ fp, ∀ o, H[b]? = some o → H'[b]? = some o) → at_ H' fp
  has : ∀ {H : Heap} {fp : List Nat}, at_ H fp → ∀ b ∈ fp, b < H.size

/-- A block whole. -/
def Rs.cell (b : Nat) (cs : Array Value) (ty : TypeId) : Rs where
  at_ H fp := fp = [b] ∧ H[b]? = some (.cells cs ty)
  loc h hk := ⟨h.1, hk _ (by rw [h.1]; exact List.mem_singleton.2 rfl) _ h.2⟩
  has h b hb := by rw [h.1, List.mem_singleton] at hb; subst hb; exact lt_of_get h.2

/-- A slice and the block behind it. -/
def Rs.sl (p : Option Addr) (l c : Nat) (el : TypeId) (k : Nat) (fs : List Value) : Rs where
  at_ H fp := FS 0 H p l c el k fs ∧ ((p = none ∧ fp = []) ∨ ∃ blk, p = some ⟨blk, 0, none⟩ ∧ fp = [blk])
  loc h hk := by
    refine ⟨h.1.keep fun b cs hp hb => hk b ?_ _ hb, h.2⟩
    rcases h.2 with ⟨h1, _⟩ | ⟨blk, h1, h2⟩
    · rw [h1] at hp; cases hp
    · rw [h1] at hp; cases hp; rw [h2]; exact List.mem_singleton.2 rfl
  has h b hb := by
    rcases h.2 with ⟨_, h2⟩ | ⟨blk, h1, h2⟩
    · rw [h2] at hb; cases hb
    · rw [h2, List.mem_singleton] at hb
      subst hb
      rcases h.1.at_ with ⟨h3, _⟩ | ⟨blk', cs, h3, _, h4, _⟩
      · rw [h1] at h3; cases h3
      · rw [h1] at h3; cases h3; exact lt_of_get h4

/-- Both, apart. -/
def Rs.star (r s : Rs) : Rs where
  at_ H fp := ∃ a b, fp = a ++ b ∧ r.at_ H a ∧ s.at_ H b
  loc := fun ⟨a, b, e, h1, h2⟩ hk => ⟨a, b, e, r.loc h1 fun x hx => hk x (by rw [e]; exact List.mem_append_left _ hx), s.loc h2 fun x hx => hk x (by rw [e]; exact List.mem_append_right _ hx)⟩
  has := fun ⟨a, b, e, h1, h2⟩ x hx => by
    rw [e] at hx
    rcases List.mem_append.1 hx with hx | hx
    · exact r.has h1 x hx
    · exact s.has h2 x hx

/-- One of many. -/
def Rs.ex {α : Type} (f : α → Rs) : Rs where
  at_ H fp := ∃ a, (f a).at_ H fp
  loc := fun ⟨a, h⟩ hk => ⟨a, (f a).loc h hk⟩
  has := fun ⟨a, h⟩ => (f a).has h

/-- With a fact. -/
def Rs.pu (q : Prop) (r : Rs) : Rs where
  at_ H fp := q ∧ r.at_ H fp
  loc := fun ⟨a, h⟩ hk => ⟨a, r.loc h hk⟩
  has := fun ⟨a, h⟩ => r.has h

/-- Nothing. -/
def Rs.emp : Rs where
  at_ H fp := fp = []
  loc h _ := h
  has h b hb := by rw [h] at hb; cases hb

/-- How resources lie: each on its own blocks. -/
def Lie (H : Heap) : List Rs → List (List Nat) → Prop
  | [], [] => True
  | r :: σ, fp :: fps => r.at_ H fp ∧ Lie H σ fps
  | _, _ => False

theorem Lie.get {H : Heap} : ∀ {σ : List Rs} {fps : List (List Nat)}, Lie H σ fps → ∀ {i : Nat} {r : Rs}, σ[i]? = some r → ∃ fp, fps[i]? = some fp ∧ r.at_ H fp
  | [], [], _, i, r, h => by simp at h
  | r :: σ, fp :: fps, hl, 0, s, h => by simp at h; subst h; exact ⟨fp, rfl, hl.1⟩
  | r :: σ, fp :: fps, hl, i + 1, s, h => by
    simp only [List.getElem?_cons_succ] at h ⊢
    exact Lie.get hl.2 h
theorem Lie.has {H : Heap} : ∀ {σ : List Rs} {fps : List (List Nat)}, Lie H σ fps → ∀ b ∈ fps.flatten, b < H.size
  | [], [], _, b, hb => by simp at hb
  | r :: σ, fp :: fps, hl, b, hb => by
    simp only [List.flatten_cons, List.mem_append] at hb
    rcases hb with hb | hb
    · exact r.has hl.1 b hb
    · exact Lie.has hl.2 b hb
theorem Lie.loc {H H' : Heap} : ∀ {σ : List Rs} {fps : List (List Nat)}, Lie H σ fps → (∀ b ∈ fps.flatten, ∀ o, H[b]? = some o → H'[b]? = some o) → Lie H' σ fps
  | [], [], _, _ => trivial
  | r :: σ, fp :: fps, hl, hk => by
    simp only [List.flatten_cons, List.mem_append] at hk
    exact ⟨r.loc hl.1 fun b hb => hk b (.inl hb), Lie.loc hl.2 fun b hb => hk b (.inr hb)⟩
/-- One resource is another one behind a step that leaves the others' blocks alone. -/
theorem Lie.set {H H' : Heap} : ∀ {σ : List Rs} {fps : List (List Nat)} {i : Nat} {fp fp' : List Nat} {r' : Rs}, Lie H σ fps → fps.flatten.Nodup → fps[i]? = some fp → r'.at_ H' fp' → fp'.Nodup → (∀ b ∈ fp', b ∈ fp ∨ H.size ≤ b) →
    (∀ b o, H[b]? = some o → b ∉ fp → H'[b]? = some o) → Lie H' (σ.set i r') (fps.set i fp') ∧ (fps.set i fp').flatten.Nodup
  | [], [], i, fp, fp', r', hl, hn, hi, h, hn', hf, hk => by simp at hi
  | r :: σ, g :: fps, 0, fp, fp', r', hl, hn, hi, h, hn', hf, hk => by
    simp at hi; subst hi
    simp only [List.flatten_cons, List.nodup_append] at hn
    refine ⟨⟨h, hl.2.loc fun b hb o ho => hk b o ho fun hg => hn.2.2 b hg b hb rfl⟩, ?_⟩
    simp only [List.set_cons_zero, List.flatten_cons, List.nodup_append]
    refine ⟨hn', hn.2.1, fun a ha b hb hab => ?_⟩
    subst hab
    rcases hf a ha with h1 | h1
    · exact hn.2.2 a h1 a hb rfl
    · have := Lie.has hl.2 a hb; omega
  | r :: σ, g :: fps, i + 1, fp, fp', r', hl, hn, hi, h, hn', hf, hk => by
    simp only [List.getElem?_cons_succ] at hi
    simp only [List.flatten_cons, List.nodup_append] at hn
    obtain ⟨h1, h2⟩ := Lie.set hl.2 hn.2.1 hi h hn' hf hk
    have hmem : ∀ b ∈ fp, b ∈ fps.flatten := fun b hb => List.mem_flatten.2 ⟨fp, List.mem_of_getElem? hi, hb⟩
    refine ⟨⟨r.loc hl.1 fun b hb o ho => hk b o ho fun hg => hn.2.2 b hb b (hmem b hg) rfl, h1⟩, ?_⟩
    simp only [List.set_cons_succ, List.flatten_cons, List.nodup_append]
    refine ⟨hn.1, h2, fun a ha b hb hab => ?_⟩
    subst hab
    obtain ⟨f, hf1, hf2⟩ := List.mem_flatten.1 hb
    rcases List.mem_or_eq_of_mem_set hf1 with hf1 | rfl
    · exact hn.2.2 a ha a (List.mem_flatten.2 ⟨f, hf1, hf2⟩) rfl
    · rcases hf a hf2 with h3 | h3
      · exact hn.2.2 a ha a (hmem a h3) rfl
      · have := r.has hl.1 a ha; omega

/-- Behind H0, which is as it was, the resources σ, each on blocks of its own that H0 hadn't. -/
structure St (H0 H : Heap) (σ : List Rs) : Prop where
  ext : Ext H0 H
  own : ∃ fps, Lie H σ fps ∧ fps.flatten.Nodup ∧ ∀ b ∈ fps.flatten, H0.size ≤ b

theorem St.nil (H : Heap) : St H H [] := ⟨Ext.refl H, [], trivial, by simp, by simp⟩
theorem St.of_ext {H0 H : Heap} (h : Ext H0 H) : St H0 H [] := ⟨h, [], trivial, by simp, by simp⟩

variable {H0 H H' : Heap} {σ τ : List Rs}

theorem nodup_mem : ∀ {fps : List (List Nat)}, fps.flatten.Nodup → ∀ fp ∈ fps, fp.Nodup
  | [], _, fp, h => by cases h
  | g :: r, hn, fp, h => by
    rw [List.flatten_cons, List.nodup_append] at hn
    rcases List.mem_cons.1 h with rfl | h
    · exact hn.1
    · exact nodup_mem hn.2.1 fp h

theorem St.upd (hs : St H0 H σ) {i : Nat} {r r' : Rs} (hi : σ[i]? = some r)
    (h : ∀ fp, r.at_ H fp → fp.Nodup → (∀ b ∈ fp, H0.size ≤ b) → ∃ fp', r'.at_ H' fp' ∧ fp'.Nodup ∧ (∀ b ∈ fp', b ∈ fp ∨ H.size ≤ b) ∧ ∀ b o, H[b]? = some o → b ∉ fp → H'[b]? = some o) : St H0 H' (σ.set i r') := by
  obtain ⟨he, fps, hl, hn, hb⟩ := hs
  obtain ⟨fp, hfp, hat⟩ := hl.get hi
  have hmem : ∀ b ∈ fp, b ∈ fps.flatten := fun b hb => List.mem_flatten.2 ⟨fp, List.mem_of_getElem? hfp, hb⟩
  have hfn : fp.Nodup := nodup_mem hn _ (List.mem_of_getElem? hfp)
  obtain ⟨fp', h1, h2, h3, h4⟩ := h fp hat hfn fun b hb' => hb b (hmem b hb')
  obtain ⟨h5, h6⟩ := hl.set hn hfp h1 h2 h3 h4
  refine ⟨fun b o ho => h4 b o (he b o ho) fun hf => ?_, _, h5, h6, fun b hb' => ?_⟩
  · have := hb b (hmem b hf); have := lt_of_get ho; omega
  · obtain ⟨f, hf1, hf2⟩ := List.mem_flatten.1 hb'
    rcases List.mem_or_eq_of_mem_set hf1 with hf1 | rfl
    · exact hb b (List.mem_flatten.2 ⟨f, hf1, hf2⟩)
    · rcases h3 b hf2 with h7 | h7
      · exact hb b (hmem b h7)
      · have := he.size; omega

/-- The resource is seen otherwise. -/
theorem St.as (hs : St H0 H σ) (i : Nat) {r r' : Rs} (hi : σ[i]? = some r) (h : ∀ fp, r.at_ H fp → r'.at_ H fp) : St H0 H (σ.set i r') :=
  hs.upd hi fun fp h1 h2 _ => ⟨fp, h fp h1, h2, fun b hb => .inl hb, fun b o ho _ => ho⟩

theorem St.step (hs : St H0 H σ) (he : Ext H H') : St H0 H' σ := by
  obtain ⟨h1, fps, hl, hn, hb⟩ := hs
  exact ⟨h1.trans he, fps, hl.loc fun b _ o ho => he b o ho, hn, hb⟩

theorem Lie.append {H : Heap} : ∀ {σ τ : List Rs} {f g : List (List Nat)}, Lie H σ f → Lie H τ g → Lie H (σ ++ τ) (f ++ g)
  | [], _, [], _, _, h => h
  | _ :: _, _, _ :: _, _, h, h' => ⟨h.1, Lie.append h.2 h'⟩
theorem Lie.split {H : Heap} : ∀ {σ τ : List Rs} {f : List (List Nat)}, Lie H (σ ++ τ) f → ∃ a b, f = a ++ b ∧ Lie H σ a ∧ Lie H τ b
  | [], _, f, h => ⟨[], f, rfl, trivial, h⟩
  | r :: σ, τ, [], h => h.elim
  | r :: σ, τ, g :: f, h => let ⟨a, b, e, h1, h2⟩ := Lie.split h.2; ⟨g :: a, b, by rw [e]; rfl, ⟨h.1, h1⟩, h2⟩

/-- Behind a call that leaves what there was as it was. -/
theorem St.call (hs : St H0 H σ) (ht : St H H' τ) : St H0 H' (τ ++ σ) := by
  obtain ⟨h1, fps, hl, hn, hb⟩ := hs
  obtain ⟨h2, gps, hl2, hn2, hb2⟩ := ht
  refine ⟨h1.trans h2, gps ++ fps, hl2.append (hl.loc fun b _ o ho => h2 b o ho), ?_, fun b h => ?_⟩
  · rw [List.flatten_append, List.nodup_append]
    refine ⟨hn2, hn, fun a ha b hb' hab => ?_⟩
    subst hab
    have := hb2 a ha; have := hl.has a hb'; omega
  · rw [List.flatten_append, List.mem_append] at h
    rcases h with h | h
    · have := hb2 b h; have := h1.size; omega
    · exact hb b h

theorem St.perm (hs : St H0 H σ) (hp : σ.Perm τ) : St H0 H τ := by
  obtain ⟨he, fps, hl, hn, hb⟩ := hs
  have : ∀ {σ τ : List Rs}, σ.Perm τ → ∀ fps, Lie H σ fps → ∃ gps, Lie H τ gps ∧ fps.Perm gps := by
    intro σ τ hp
    induction hp with
    | nil => intro fps h; exact ⟨fps, h, List.Perm.refl _⟩
    | cons x _ ih =>
      intro fps h
      match fps, h with
      | f :: fps, h => obtain ⟨g, h1, h2⟩ := ih fps h.2; exact ⟨f :: g, ⟨h.1, h1⟩, h2.cons f⟩
    | swap x y l =>
      intro fps h
      match fps, h with
      | f :: g :: fps, h => exact ⟨g :: f :: fps, ⟨h.2.1, h.1, h.2.2⟩, List.Perm.swap _ _ _⟩
    | trans _ _ ih1 ih2 =>
      intro fps h
      obtain ⟨g, h1, h2⟩ := ih1 fps h
      obtain ⟨k, h3, h4⟩ := ih2 g h1
      exact ⟨k, h3, h2.trans h4⟩
  obtain ⟨gps, h1, h2⟩ := this hp fps hl
  exact ⟨he, gps, h1, (h2.flatten.nodup_iff).1 hn, fun b h => hb b ((h2.flatten.mem_iff).2 h)⟩

theorem St.app (hs : St H0 H (σ ++ τ)) : St H0 H σ ∧ St H0 H τ := by
  obtain ⟨he, fps, hl, hn, hb⟩ := hs
  obtain ⟨a, b, rfl, h1, h2⟩ := hl.split
  rw [List.flatten_append, List.nodup_append] at hn
  rw [List.flatten_append] at hb
  exact ⟨⟨he, a, h1, hn.1, fun x hx => hb x (List.mem_append_left _ hx)⟩, ⟨he, b, h2, hn.2.1, fun x hx => hb x (List.mem_append_right _ hx)⟩⟩
theorem St.tail {r : Rs} (hs : St H0 H (r :: σ)) : St H0 H σ := (St.app (σ := [r]) hs).2
theorem St.drop (hs : St H0 H σ) (n : Nat) : St H0 H (σ.drop n) := by
  rw [← List.take_append_drop n σ] at hs
  exact hs.app.2
theorem St.take (hs : St H0 H σ) (n : Nat) : St H0 H (σ.take n) := by
  rw [← List.take_append_drop n σ] at hs
  exact hs.app.1
theorem St.swap {r s : Rs} (hs : St H0 H (r :: s :: σ)) : St H0 H (s :: r :: σ) := hs.perm (List.Perm.swap _ _ _)
/-- The resource at a place comes to the front. -/
theorem St.front (hs : St H0 H σ) (i : Nat) {r : Rs} (hi : σ[i]? = some r) : St H0 H (r :: σ.eraseIdx i) := by
  refine hs.perm ?_
  have : ∀ (l : List Rs) (i : Nat), l[i]? = some r → l.Perm (r :: l.eraseIdx i) := by
    intro l
    induction l with
    | nil => intro i h; simp at h
    | cons x l ih =>
      intro i h
      cases i with
      | zero => simp at h; subst h; exact List.Perm.refl _
      | succ i => exact ((ih i (by simpa using h)).cons x).trans (List.Perm.swap _ _ _)
  exact this σ i hi
/-- And goes back, changed. -/
theorem St.back {r r' : Rs} {i : Nat} (hi : σ[i]? = some r) (hs : St H0 H (r' :: σ.eraseIdx i)) : St H0 H (σ.set i r') := by
  refine hs.perm ?_
  have : ∀ (l : List Rs) (i : Nat), l[i]? = some r → (r' :: l.eraseIdx i).Perm (l.set i r') := by
    intro l
    induction l with
    | nil => intro i h; simp at h
    | cons x l ih =>
      intro i h
      cases i with
      | zero => exact List.Perm.refl _
      | succ i => exact (List.Perm.swap _ _ _).trans ((ih i (by simpa using h)).cons x)
  exact this σ i hi
theorem St.del (hs : St H0 H σ) (i : Nat) : St H0 H (σ.eraseIdx i) := by
  rcases Nat.lt_or_ge i σ.length with h | h
  · exact (hs.front i (List.getElem?_eq_getElem h)).tail
  · rw [List.eraseIdx_of_length_le h]; exact hs
theorem St.cat {r s : Rs} (hs : St H0 H (r :: s :: σ)) : St H0 H (.star r s :: σ) := by
  obtain ⟨he, fps, hl, hn, hb⟩ := hs
  match fps, hl with
  | f :: g :: fps, hl => exact ⟨he, (f ++ g) :: fps, ⟨⟨f, g, rfl, hl.1, hl.2.1⟩, hl.2.2⟩, by simpa using hn, fun b h => hb b (by simpa using h)⟩
theorem St.cut {r s : Rs} (hs : St H0 H (.star r s :: σ)) : St H0 H (r :: s :: σ) := by
  obtain ⟨he, fps, hl, hn, hb⟩ := hs
  match fps, hl with
  | _ :: fps, ⟨⟨f, g, rfl, h1, h2⟩, h3⟩ => exact ⟨he, f :: g :: fps, ⟨h1, h2, h3⟩, by simpa using hn, fun b h => hb b (by simpa using h)⟩
theorem St.unex {α : Type} {f : α → Rs} (hs : St H0 H (.ex f :: σ)) : ∃ a, St H0 H (f a :: σ) := by
  obtain ⟨he, fps, hl, hn, hb⟩ := hs
  match fps, hl with
  | g :: fps, ⟨⟨a, h1⟩, h3⟩ => exact ⟨a, he, g :: fps, ⟨h1, h3⟩, hn, hb⟩
theorem St.inex {α : Type} {f : α → Rs} (a : α) (hs : St H0 H (f a :: σ)) : St H0 H (.ex f :: σ) := by
  obtain ⟨he, fps, hl, hn, hb⟩ := hs
  match fps, hl with
  | g :: fps, ⟨h1, h3⟩ => exact ⟨he, g :: fps, ⟨⟨a, h1⟩, h3⟩, hn, hb⟩
theorem St.fact {q : Prop} {r : Rs} (hs : St H0 H (.pu q r :: σ)) : q ∧ St H0 H (r :: σ) := by
  obtain ⟨he, fps, hl, hn, hb⟩ := hs
  match fps, hl with
  | g :: fps, ⟨⟨a, h1⟩, h3⟩ => exact ⟨a, he, g :: fps, ⟨h1, h3⟩, hn, hb⟩
theorem St.with {q : Prop} {r : Rs} (hq : q) (hs : St H0 H (r :: σ)) : St H0 H (.pu q r :: σ) := by
  obtain ⟨he, fps, hl, hn, hb⟩ := hs
  match fps, hl with
  | g :: fps, ⟨h1, h3⟩ => exact ⟨he, g :: fps, ⟨⟨hq, h1⟩, h3⟩, hn, hb⟩
/-- Something new. -/
theorem St.new (hs : St H0 H σ) {r : Rs} {fp : List Nat} (he : Ext H H') (h : r.at_ H' fp) (hn : fp.Nodup) (hb : ∀ b ∈ fp, H.size ≤ b) : St H0 H' (r :: σ) :=
  St.call (τ := [r]) hs ⟨he, [fp], ⟨h, trivial⟩, by simpa using hn, by simpa using hb⟩

/-! ### blocks -/

theorem St.block (hs : St H0 H σ) (i : Nat) {b : Nat} {cs : Array Value} {ty : TypeId} (hi : σ[i]? = some (.cell b cs ty)) : H[b]? = some (.cells cs ty) := by
  obtain ⟨_, fps, hl, _⟩ := hs
  obtain ⟨fp, _, h⟩ := hl.get hi
  exact h.2
theorem St.get (hs : St H0 H σ) (i : Nat) {b j : Nat} {cs : Array Value} {ty : TypeId} {v : Value} (hi : σ[i]? = some (.cell b cs ty)) (hj : cs[j]? = some v) : Sh.cell H ⟨b, j, none⟩ = some v :=
  cell_get (hs.block i hi) hj
theorem St.alc (hs : St H0 H σ) {cs : Array Value} {ty : TypeId} {K : Nat → Heap → Prop} (hK : ∀ b H', St H0 H' (.cell b cs ty :: σ) → K b H') : Sh.alc H (.cells cs ty) K :=
  hK _ _ (hs.new (Ext.push _ _) (fp := [H.size]) ⟨rfl, get_push_self _ _⟩ (by simp) (by simp))
theorem St.alcE (hs : St H0 H σ) {cs : Array Value} {ty : TypeId} {K : Nat → Heap → Prop} (hK : ∀ b H', Ext H H' → St H0 H' (.cell b cs ty :: σ) → K b H') : Sh.alc H (.cells cs ty) K :=
  hK _ _ (Ext.push _ _) (hs.new (Ext.push _ _) (fp := [H.size]) ⟨rfl, get_push_self _ _⟩ (by simp) (by simp))
theorem St.put (hs : St H0 H σ) (i : Nat) {b j : Nat} {cs : Array Value} {ty : TypeId} {v : Value} {f : Heap → Prop} (hi : σ[i]? = some (.cell b cs ty)) (hj : j < cs.size) (ho : v.oneCell' = true)
    (hK : ∀ H', St H0 H' (σ.set i (.cell b (cs.setIfInBounds j v) ty)) → f H') : stAt H ⟨b, j, none⟩ [v] f :=
  stAt_one (hs.block i hi) hj ho (hK _ (hs.upd hi fun fp h1 _ _ => ⟨[b], ⟨rfl, get_set_self h1.2⟩, by simp, fun x hx => .inl (h1.1 ▸ hx), fun x o ho hx => get_set_ne (fun he => hx (by rw [h1.1, he]; exact List.mem_singleton.2 rfl)) ho⟩))
theorem St.putAll (hs : St H0 H σ) (i : Nat) {b : Nat} {cs : Array Value} {ty : TypeId} {vs : List Value} {f : Heap → Prop} (hi : σ[i]? = some (.cell b cs ty)) (hl : vs.length = cs.size) (ho : ∀ v ∈ vs, v.oneCell' = true)
    (hK : ∀ H', St H0 H' (σ.set i (.cell b vs.toArray ty)) → f H') : stAt H ⟨b, 0, none⟩ vs f :=
  stAt_whole (hs.block i hi) hl ho (hK _ (hs.upd hi fun fp h1 _ _ => ⟨[b], ⟨rfl, get_set_self h1.2⟩, by simp, fun x hx => .inl (h1.1 ▸ hx), fun x o ho hx => get_set_ne (fun he => hx (by rw [h1.1, he]; exact List.mem_singleton.2 rfl)) ho⟩))
/-- Some cells of a block in a row. -/
theorem St.putRow (hs : St H0 H σ) (i : Nat) {b j : Nat} {cs : Array Value} {ty : TypeId} {vs : List Value} {f : Heap → Prop} (hi : σ[i]? = some (.cell b cs ty)) (hl : j + vs.length ≤ cs.size) (ho : ∀ v ∈ vs, v.oneCell' = true)
    (hK : ∀ H', St H0 H' (σ.set i (.cell b (setL cs.toList j vs).toArray ty)) → f H') : stAt H ⟨b, j, none⟩ vs f :=
  ⟨cs, ty, hs.block i hi, rfl, hl, ho, hK _ (hs.upd hi fun fp h1 _ _ => ⟨[b], ⟨rfl, get_set_self h1.2⟩, by simp, fun x hx => .inl (h1.1 ▸ hx), fun x o ho hx => get_set_ne (fun he => hx (by rw [h1.1]; exact List.mem_singleton.2 he.symm)) ho⟩)⟩

/-! ### slices -/

theorem St.fs (hs : St H0 H σ) (i : Nat) {p : Option Addr} {l c k : Nat} {el : TypeId} {fs : List Value} (hi : σ[i]? = some (.sl p l c el k fs)) : FS 0 H p l c el k fs := by
  obtain ⟨_, fps, hl, _⟩ := hs
  obtain ⟨fp, _, h⟩ := hl.get hi
  exact h.1
theorem St.rs (hs : St H0 H σ) (i : Nat) {p : Option Addr} {l c k : Nat} {el : TypeId} {fs : List Value} (hi : σ[i]? = some (.sl p l c el k fs)) : RS H p l el k fs := (hs.fs i hi).rs
theorem St.is (hs : St H0 H σ) (i : Nat) {p : Option Addr} {l c : Nat} {el : TypeId} {fs : List Value} (hi : σ[i]? = some (.sl p l c el 1 fs)) : IS H p l fs := (hs.rs i hi).is

theorem FS.resrc {n0 : Nat} {H : Heap} {p : Option Addr} {l c k : Nat} {el : TypeId} {fs : List Value} (h : FS n0 H p l c el k fs) : ∃ fp, (Rs.sl p l c el k fs).at_ H fp ∧ fp.Nodup ∧ (∀ b ∈ fp, n0 ≤ b) ∧ ∀ b ∈ fp, p = some ⟨b, 0, none⟩ := by
  rcases h.at_ with ⟨h1, h2⟩ | ⟨blk, cs, h1, h2, h3, h4, h5⟩
  · exact ⟨[], ⟨h.lower (Nat.zero_le _), .inl ⟨h1, rfl⟩⟩, by simp, by simp, by simp⟩
  · exact ⟨[blk], ⟨h.lower (Nat.zero_le _), .inr ⟨blk, h1, rfl⟩⟩, by simp, by simpa using h2, by simpa using h1⟩
/-- A slice of one's own that a call has made. -/
theorem St.newSl (hs : St H0 H σ) {p : Option Addr} {l c k : Nat} {el : TypeId} {fs : List Value} (he : Ext H H') (h : FS H.size H' p l c el k fs) : St H0 H' (.sl p l c el k fs :: σ) := by
  obtain ⟨fp, h1, h2, h3, _⟩ := h.resrc
  exact hs.new he h1 h2 h3
theorem St.nilSl (hs : St H0 H σ) (el : TypeId) (k : Nat) : St H0 H (.sl none 0 0 el k [] :: σ) := hs.newSl (Ext.refl _) (FS.nil _ _ _ _)
/-- A whole block seen as a slice. -/
theorem St.toSl (hs : St H0 H σ) (i : Nat) {b l k : Nat} {cs : Array Value} {ty : TypeId} {fs : List Value} (hi : σ[i]? = some (.cell b cs ty)) (hl : cs.size = l * k) (hf : cs.toList = fs) (ho : ∀ v ∈ fs, v.oneCell' = true) :
    St H0 H (σ.set i (.sl (some ⟨b, 0, none⟩) l l ty k fs)) :=
  hs.as i hi fun fp h => ⟨⟨by rw [← hf]; simpa using hl, Nat.le_refl _, ho, .inr ⟨b, cs, rfl, Nat.zero_le _, h.2, hl, fun j v hv => by rw [← hf] at hv; simpa using hv⟩⟩, .inr ⟨b, rfl, h.1⟩⟩

theorem FS.app2 {n0 : Nat} {H : Heap} {p q : Option Addr} {l c n : Nat} {el : TypeId} {k bytes : Nat} {zero : Array Value} {fs gs : List Value} (h : FS n0 H p l c el k fs) (hrow : Go.Sh.rowOf H q (n * k) gs.toArray) (hgl : gs.length = n * k) (hgo : ∀ v ∈ gs, v.oneCell' = true) (hk : 0 < k) (hn : n0 ≤ H.size) (hz : zero.size = k)
    (hb : (l + n) * bytes ≤ 70368744177664) (hm : l + n ≤ 1000000000000) {K : Option Addr → Nat → Nat → Heap → Prop}
    (hK : ∀ p' c' H', FS n0 H' p' (l + n) c' el k (fs ++ gs) → (∀ (b : Nat) (o : Obj), H[b]? = some o → p ≠ some ⟨b, 0, none⟩ → H'[b]? = some o) → (p' = p ∨ p' = some ⟨H.size, 0, none⟩) → K p' (l + n) c' H') : appQ k bytes zero H p l c q n el K := by
  by_cases hle : l + n ≤ c
  · obtain ⟨g1, g2, xs, g3, g4, _⟩ := h.app' (K := fun p' l' c' H' => p' = p → K p' l' c' H') hrow hgl hgo hk hn hz hb hm fun p' c' H' h1 h2 h3 hp => hK p' c' H' h1 h2 (.inl hp)
    refine ⟨g1, g2, xs, g3, fun hle => ?_, fun hlt => by omega⟩
    have := g4 hle
    cases p with
    | none => exact this rfl
    | some a =>
      obtain ⟨cs, T, a1, a2, a3, a4, a5⟩ := this
      exact ⟨cs, T, a1, a2, a3, a4, a5 rfl⟩
  · obtain ⟨g1, g2, xs, g3, _, g4⟩ := h.app' (K := fun p' l' c' H' => p' = some ⟨H.size, 0, none⟩ → K p' l' c' H') hrow hgl hgo hk hn hz hb hm fun p' c' H' h1 h2 h3 hp => hK p' c' H' h1 h2 (.inr hp)
    refine ⟨g1, g2, xs, g3, fun hle' => by omega, fun hlt => ?_⟩
    obtain ⟨ys, b1, b2⟩ := g4 hlt
    exact ⟨ys, b1, fun c' hc' => b2 c' hc' rfl⟩

theorem Rs.sl_at {H : Heap} {p : Option Addr} {l c k : Nat} {el : TypeId} {fs : List Value} {fp : List Nat} (h : (Rs.sl p l c el k fs).at_ H fp) {b : Nat} (hp : p = some ⟨b, 0, none⟩) : fp = [b] := by
  rcases h.2 with ⟨h1, _⟩ | ⟨blk, h1, h2⟩
  · rw [hp] at h1; cases h1
  · rw [hp] at h1; cases h1; exact h2

theorem St.slSet (hs : St H0 H σ) {i : Nat} {p p' : Option Addr} {l c l' c' k : Nat} {el : TypeId} {fs fs' : List Value} (hi : σ[i]? = some (.sl p l c el k fs)) (h : FS 0 H' p' l' c' el k fs')
    (hk : ∀ (b : Nat) (o : Obj), H[b]? = some o → p ≠ some ⟨b, 0, none⟩ → H'[b]? = some o) (hp : p' = p ∨ p' = some ⟨H.size, 0, none⟩) : St H0 H' (σ.set i (.sl p' l' c' el k fs')) := by
  refine hs.upd hi fun fp h1 h2 h3 => ?_
  obtain ⟨fp', g1, g2, _, g4⟩ := h.resrc
  refine ⟨fp', g1, g2, fun b hb => ?_, fun b o ho hb => hk b o ho fun he => hb (by rw [Rs.sl_at h1 he]; exact List.mem_singleton.2 rfl)⟩
  have := g4 b hb
  rcases hp with rfl | hp
  · left; rw [Rs.sl_at h1 this]; exact List.mem_singleton.2 rfl
  · rw [this] at hp; cases hp; exact .inr (Nat.le_refl _)

/-- Append to a slice of one's own, of any stretch that can be read. -/
theorem St.appS (hs : St H0 H σ) (i : Nat) {p q : Option Addr} {l c n k bytes : Nat} {el : TypeId} {zero : Array Value} {fs gs : List Value} (hi : σ[i]? = some (.sl p l c el k fs)) (hrow : Go.Sh.rowOf H q (n * k) gs.toArray) (hgl : gs.length = n * k)
    (hgo : ∀ v ∈ gs, v.oneCell' = true) (hk : 0 < k) (hz : zero.size = k) (hb : (l + n) * bytes ≤ 70368744177664) (hm : l + n ≤ 1000000000000) {K : Option Addr → Nat → Nat → Heap → Prop}
    (hK : ∀ p' c' H', St H0 H' (σ.set i (.sl p' (l + n) c' el k (fs ++ gs))) → K p' (l + n) c' H') : appQ k bytes zero H p l c q n el K :=
  (hs.fs i hi).app2 hrow hgl hgo hk (Nat.zero_le _) hz hb hm fun p' c' H' h1 h2 h3 => hK p' c' H' (hs.slSet hi h1 h2 h3)
/-- Append of what a new block holds (one element, or some). -/
theorem St.appC (hs : St H0 H σ) (i m : Nat) {p : Option Addr} {b l c n k bytes : Nat} {el ty : TypeId} {zero cs : Array Value} {fs : List Value} (hi : σ[i]? = some (.sl p l c el k fs)) (hm' : σ[m]? = some (.cell b cs ty)) (hgl : cs.size = n * k)
    (hgo : ∀ v ∈ cs.toList, v.oneCell' = true) (hk : 0 < k) (hz : zero.size = k) (hb : (l + n) * bytes ≤ 70368744177664) (hm : l + n ≤ 1000000000000) {K : Option Addr → Nat → Nat → Heap → Prop}
    (hK : ∀ p' c' H', St H0 H' (σ.set i (.sl p' (l + n) c' el k (fs ++ cs.toList))) → K p' (l + n) c' H') : appQ k bytes zero H p l c (some ⟨b, 0, none⟩) n el K :=
  hs.appS i hi (gs := cs.toList) (show Go.Sh.rowOf H (Option.some ⟨b, 0, none⟩) (n * k) cs.toList.toArray from ⟨by simpa using hgl, by simpa using rowIn_whole (hs.block m hm')⟩) (by simpa using hgl) hgo hk hz hb hm hK
/-- Append of what a slice holds. -/
theorem St.appR (hs : St H0 H σ) (i : Nat) {p q : Option Addr} {l c n k bytes : Nat} {el el' : TypeId} {zero : Array Value} {fs gs : List Value} (hi : σ[i]? = some (.sl p l c el k fs)) (hr : RS H q n el' k gs) (hk : 0 < k) (hz : zero.size = k)
    (hb : (l + n) * bytes ≤ 70368744177664) (hm : l + n ≤ 1000000000000) {K : Option Addr → Nat → Nat → Heap → Prop}
    (hK : ∀ p' c' H', St H0 H' (σ.set i (.sl p' (l + n) c' el k (fs ++ gs))) → K p' (l + n) c' H') : appQ k bytes zero H p l c q n el K :=
  hs.appS i hi hr.rowOf hr.len hr.one hk hz hb hm hK
theorem IS.rowOf {H : Heap} {p : Option Addr} {l : Nat} {fs : List Value} (h : IS H p l fs) : Go.Sh.rowOf H p (l * 1) fs.toArray := by
  cases p with
  | none =>
    have : fs = [] := List.eq_nil_iff_forall_not_mem.2 fun v hv => by
      obtain ⟨i, hi⟩ := List.getElem?_of_mem hv
      obtain ⟨a, h1, _⟩ := h.get i v hi
      cases h1
    subst this; rfl
  | some a =>
    refine ⟨by simp [h.len], fun j v hv => ?_⟩
    obtain ⟨a', h1, h2⟩ := h.get j v (by simpa using hv)
    cases h1; exact h2
theorem St.appI (hs : St H0 H σ) (i : Nat) {p q : Option Addr} {l c n bytes : Nat} {el : TypeId} {zero : Array Value} {fs gs : List Value} (hi : σ[i]? = some (.sl p l c el 1 fs)) (hr : IS H q n gs) (ho : ∀ v ∈ gs, v.oneCell' = true) (hz : zero.size = 1)
    (hb : (l + n) * bytes ≤ 70368744177664) (hm : l + n ≤ 1000000000000) {K : Option Addr → Nat → Nat → Heap → Prop}
    (hK : ∀ p' c' H', St H0 H' (σ.set i (.sl p' (l + n) c' el 1 (fs ++ gs))) → K p' (l + n) c' H') : appQ 1 bytes zero H p l c q n el K :=
  hs.appS i hi hr.rowOf (by simp [hr.len]) ho (by decide) hz hb hm hK

/-- One cell of a slice of one's own is written. -/
theorem St.slPut (hs : St H0 H σ) (i : Nat) {b l c k j : Nat} {el : TypeId} {fs : List Value} {v : Value} {f : Heap → Prop} (hi : σ[i]? = some (.sl (some ⟨b, 0, none⟩) l c el k fs)) (hj : j < fs.length) (ho : v.oneCell' = true)
    (hK : ∀ H', St H0 H' (σ.set i (.sl (some ⟨b, 0, none⟩) l c el k (fs.set j v))) → f H') : stAt H ⟨b, j, none⟩ [v] f :=
  (hs.fs i hi).set hj ho fun H' h1 h2 h3 => hK H' (hs.slSet hi h1 (fun b' o ho hne => h2 b' o ho fun he => hne (by rw [he])) (.inl rfl))
/-- A slice that holds something has a block. -/
theorem St.slSome (hs : St H0 H σ) (i : Nat) {p : Option Addr} {l c k j : Nat} {el : TypeId} {fs : List Value} (hi : σ[i]? = some (.sl p l c el k fs)) (hj : j < fs.length) : ∃ b, p = some ⟨b, 0, none⟩ := by
  obtain ⟨b, h, _⟩ := (hs.rs i hi).cell (List.getElem?_eq_getElem hj)
  exact ⟨b, h⟩

/-! ### lists of numbers -/

def kints (k : IntKind) (l : List Int) : List Value := l.map (Value.int k)
theorem ints_eq (l : List Int) : ints l = kints .i64 l := rfl
theorem kints_get {k : IntKind} {l : List Int} {i : Nat} {v : Int} (h : l[i]? = some v) : (kints k l)[i]? = some (Value.int k v) := by simp [kints, h]
theorem kints_len (k : IntKind) (l : List Int) : (kints k l).length = l.length := by simp [kints]
theorem kints_append (k : IntKind) (a b : List Int) : kints k (a ++ b) = kints k a ++ kints k b := by simp [kints]
theorem kints_set (k : IntKind) (l : List Int) (i : Nat) (v : Int) : (kints k l).set i (.int k v) = kints k (l.set i v) := by simp [kints]
theorem kints_one (k : IntKind) (l : List Int) : ∀ v ∈ kints k l, v.oneCell' = true := fun v hv => by
  obtain ⟨x, _, rfl⟩ := List.mem_map.1 hv; rfl
theorem kints_one' (k : IntKind) (l : List Int) {v : Value} (hv : v ∈ kints k l) : v.oneCell' = true := kints_one k l v hv

/-- The element at a place is read. -/
theorem IS.rd {H : Heap} {p : Option Addr} {l : Nat} {k : IntKind} {ls : List Int} (h : IS H p l (kints k ls)) {i x : Int} (h0 : 0 ≤ i) (h1 : i < l) (hx : ls[i.toNat]? = some x) {K : Int → Prop} (hK : K x) :
    ∃ a : Addr, p = some a ∧ 0 ≤ i ∧ i < ((l : Nat) : Int) ∧ ∃ v : Int, Sh.cell H (Addr.add a (Int.toNat i * 1)) = some (.int k v) ∧ K v := by
  obtain ⟨a, hp, hc⟩ := h.get _ _ (kints_get hx)
  exact ⟨a, hp, h0, h1, x, by simpa using hc, hK⟩
theorem IS.get' {H : Heap} {p : Option Addr} {l : Nat} {k : IntKind} {ls : List Int} (h : IS H p l (kints k ls)) {i : Nat} (hi : i < l) : ∃ x, ls[i]? = some x := by
  have := h.len; rw [kints_len] at this
  exact ⟨ls[i], List.getElem?_eq_getElem (by omega)⟩
theorem IS.length {H : Heap} {p : Option Addr} {l : Nat} {k : IntKind} {ls : List Int} (h : IS H p l (kints k ls)) : ls.length = l := by have := h.len; rwa [kints_len] at this
theorem add_add (a : Addr) (i j : Nat) : (a.add i).add j = a.add (i + j) := by
  obtain ⟨b, o, s⟩ := a
  unfold Addr.add
  cases s <;> simp <;> split <;> split <;> simp_all <;> omega
/-- Part of a slice that came in. -/
theorem IS.part {H : Heap} {a : Addr} {l : Nat} {fs : List Value} (h : IS H (some a) l fs) {i n : Nat} (hi : i + n ≤ l) : IS H (some (a.add i)) n ((fs.drop i).take n) := by
  refine ⟨by have := h.len; simp; omega, fun j v hv => ?_⟩
  rw [List.getElem?_take] at hv
  split at hv
  · rw [List.getElem?_drop] at hv
    obtain ⟨a', h1, h2⟩ := h.get _ _ hv
    cases h1
    refine ⟨_, rfl, ?_⟩
    rw [show (a.add i).add j = a.add (i + j) from add_add a i j]
    exact h2
  · cases hv

/-- Going up to n. -/
theorem upto {n : Nat} {Q : Nat → Prop} (h : ∀ i, i ≤ n → (i < n → Q (i + 1)) → Q i) : ∀ i, i ≤ n → Q i := by
  have : ∀ m i, n - i = m → i ≤ n → Q i := by
    intro m
    induction m with
    | zero => intro i hm hi; exact h i hi fun hlt => by omega
    | succ m ih => intro i hm hi; exact h i hi fun hlt => ih (i + 1) (by omega) (by omega)
  exact fun i hi => this (n - i) i rfl hi
/-- Going down a measure. -/
theorem downto {S : Type} (f : S → Nat) {Q : S → Prop} (h : ∀ s, (∀ t, f t < f s → Q t) → Q s) (s : S) : Q s := by
  have : ∀ n s, f s < n → Q s := by
    intro n
    induction n with
    | zero => intro s hs; omega
    | succ n ih => intro s hs; exact h s fun t ht => ih t (by omega)
  exact this (f s + 1) s (Nat.lt_succ_self _)

end Go.Sh
