/-
  OWN WORK. The shallow layer, part 12: regions whose order is drawn. Operations that leave the world alone are taken first; the others are gone through in every order.
-/
import Derived.Test.YtmappfblfoklfaaShR
set_option linter.unusedSimpArgs false
set_option linter.unusedVariables false
namespace Go.Sh

/-- Operation j waits for operation i, at once or through others. -/
inductive Anc (ops : Array Oper) : Nat → Nat → Prop where
  | one {j : Nat} {oj : Oper} {e : Edge} : ops[j]? = some oj → e ∈ oj.after → Region.binds .any e = true → Anc ops j e.on
  | more {j i : Nat} {oj : Oper} {e : Edge} : ops[j]? = some oj → e ∈ oj.after → Region.binds .any e = true → Anc ops e.on i → Anc ops j i

def maskOf (acc : List Nat) (l : List Edge) : Nat :=
  match l with
  | [] => 0
  | e :: r => match Region.binds .any e with
    | true => 2 ^ e.on ||| acc.getD e.on 0 ||| maskOf acc r
    | false => maskOf acc r

def masks : List Oper → List Nat → List Nat
  | [], acc => acc
  | o :: r, acc => masks r (acc ++ [maskOf acc o.after.toList])

theorem maskOf_ok {ops : Array Oper} {acc : List Nat} (hacc : ∀ j i, (acc.getD j 0).testBit i = true → Anc ops j i) {j : Nat} {oj : Oper} (hj : ops[j]? = some oj) :
    ∀ (l : List Edge), (∀ e ∈ l, e ∈ oj.after) → ∀ i, (maskOf acc l).testBit i = true → Anc ops j i
  | [], _, i, h => by simp [maskOf] at h
  | e :: r, hl, i, h => by
    unfold maskOf at h
    split at h
    · rename_i hb
      rw [Nat.testBit_or, Nat.testBit_or, Bool.or_eq_true, Bool.or_eq_true] at h
      rcases h with (h | h) | h
      · rw [Nat.testBit_two_pow] at h
        have : e.on = i := of_decide_eq_true h
        subst this
        exact .one hj (hl e List.mem_cons_self) hb
      · exact .more hj (hl e List.mem_cons_self) hb (hacc _ _ h)
      · exact maskOf_ok hacc hj r (fun e' he' => hl e' (List.mem_cons_of_mem _ he')) i h
    · exact maskOf_ok hacc hj r (fun e' he' => hl e' (List.mem_cons_of_mem _ he')) i h

theorem masks_ok {ops : Array Oper} : ∀ (l : List Oper) (acc : List Nat), (∀ k, l[k]? = ops[acc.length + k]?) → (∀ j i, (acc.getD j 0).testBit i = true → Anc ops j i) →
    ∀ j i, ((masks l acc).getD j 0).testBit i = true → Anc ops j i
  | [], acc, _, hacc, j, i, h => hacc j i h
  | o :: r, acc, hl, hacc, j, i, h => by
    have h0 : ops[acc.length]? = some o := by simpa using (hl 0).symm
    refine masks_ok r (acc ++ [maskOf acc o.after.toList]) (fun k => ?_) (fun j i hji => ?_) j i h
    · have := hl (k + 1)
      simp only [List.getElem?_cons_succ] at this
      rw [this, List.length_append, List.length_singleton]
      congr 1
      omega
    · by_cases hlt : j < acc.length
      · rw [List.getD_eq_getElem?_getD, List.getElem?_append_left hlt, ← List.getD_eq_getElem?_getD] at hji
        exact hacc j i hji
      · by_cases heq : j = acc.length
        · subst heq
          simp at hji
          exact maskOf_ok hacc h0 _ (fun e he => by simpa using he) i hji
        · rw [List.getD_eq_getElem?_getD, List.getElem?_eq_none (by simp; omega)] at hji
          simp at hji

def beforeB (ops : Array Oper) (j i : Nat) : Bool := ((masks ops.toList []).getD j 0).testBit i

theorem beforeB_ok {ops : Array Oper} {j i : Nat} (h : beforeB ops j i = true) : Anc ops j i :=
  masks_ok ops.toList [] (fun k => by simp) (fun j i h => by simp at h) j i h

def Closed (ops : Array Oper) (listed : Array Bool) : Prop :=
  ∀ j oj, ops[j]? = some oj → listed.getD j false = true → ∀ e ∈ oj.after, Region.binds .any e = true → listed.getD e.on false = true

theorem anc_listed {ops : Array Oper} {listed : Array Bool} (hc : Closed ops listed) {j i : Nat} (h : Anc ops j i) :
    (∀ oj, ops[j]? = some oj → ∀ e ∈ oj.after, Region.binds .any e = true → listed.getD e.on false = true) → listed.getD i false = true := by
  induction h with
  | one hj he hb => exact fun hl => hl _ hj _ he hb
  | more hj he hb _ ih => exact fun hl => ih (fun o ho e' he' hb' => hc _ o ho (hl _ hj _ he hb) e' he' hb')

theorem Closed.set {ops : Array Oper} {listed : Array Bool} (hc : Closed ops listed) {i : Nat} (hi : i ∈ Region.ready .any ops listed) : Closed ops (listed.setIfInBounds i true) := by
  intro j oj hj hl e he hb
  have mono : ∀ k, listed.getD k false = true → (listed.setIfInBounds i true).getD k false = true := fun k hk => by
    by_cases hik : i = k
    · subst hik
      rcases Nat.lt_or_ge i listed.size with h | h
      · simp [h]
      · simp [Array.getElem?_eq_none h] at hk
    · simpa [Array.getElem?_setIfInBounds_ne hik] using hk
  by_cases hji : j = i
  · subst hji
    obtain ⟨_, oj', hoj', hall⟩ := mem_ready.1 hi
    rw [hj] at hoj'
    cases hoj'
    exact mono _ (hall e he hb)
  · have : listed.getD j false = true := by
      have hne : i ≠ j := fun h => hji h.symm
      simpa [Array.getElem?_setIfInBounds_ne hne] using hl
    exact mono _ (hc j oj hj this e he hb)

section
variable {P : Program} {ops : Array Oper} {Q : Exit → Act → World → Prop}

abbrev Pend := Nat × (World → Prop) → Prop

/-- Whatever order is picked from here on; what D names (operations taken ahead, with what their values lean on) is kept by whatever might have come before them. -/
def wpT (P : Program) (ops : Array Oper) (Q : Exit → Act → World → Prop) : Nat → Pend → Array Bool → Act → World → Prop
  | 0, _, listed, a, w => Region.ready .any ops listed = [] ∧ Q .normal a w
  | fuel + 1, D, listed, a, w =>
    (Region.ready .any ops listed = [] → Q .normal a w) ∧
    ∀ i ∈ Region.ready .any ops listed, wpOp P ops Q i (fun a' w' => (∀ x, D x → ¬ Anc ops i x.1 → x.2 w') ∧
      wpT P ops Q fuel (fun x => D x ∧ ¬ Anc ops i x.1) (listed.setIfInBounds i true) a' w') a w

theorem wpAny_of_T : ∀ (fuel : Nat) (D : Pend) (listed : Array Bool) (a : Act) (w : World), wpT P ops Q fuel D listed a w → wpAny P .any ops Q fuel listed a w
  | 0, _, _, _, _, h => h
  | fuel + 1, D, _, _, _, h => ⟨h.1, fun i hi => wpOp_mono (fun a' w' h' => wpAny_of_T fuel _ _ a' w' h'.2) (h.2 i hi)⟩

theorem wpT_less : ∀ (fuel : Nat) (D D' : Pend) (listed : Array Bool) (a : Act) (w : World), (∀ x, D' x → D x) → wpT P ops Q fuel D listed a w → wpT P ops Q fuel D' listed a w
  | 0, _, _, _, _, _, _, h => h
  | fuel + 1, D, D', _, _, _, hD, h => ⟨h.1, fun i hi => wpOp_mono (fun a' w' h' => ⟨fun x hx hn => h'.1 x (hD x hx) hn, wpT_less fuel _ _ _ a' w' (fun x hx => ⟨hD x hx.1, hx.2⟩) h'.2⟩) (h.2 i hi)⟩

theorem wpT_first {S : World → Prop} {i : Nat} {oi : Oper} {v : Value} (hi : ops[i]? = some oi) (hsel : ∀ (j : Nat) (o : Oper) cs b, ops[j]? = some o → o.op ≠ .select cs b)
    (hQ : ∀ c a w, Q (.panic c) (a.put oi.dst v) w → Q (.panic c) a w) :
    ∀ (fuel : Nat) (D : Pend) (listed : Array Bool) (a : Act) (w : World), Closed ops listed →
      (∀ j oj, ops[j]? = some oj → j ≠ i → listed.getD j true = false → (∀ e ∈ oj.after, Region.binds .any e = true → e.on ≠ i) → oi.apart ops oj = true) →
      i ∈ Region.ready .any ops listed → YieldsIf P ops S oi v a → S w → (∀ x, D x → ¬ Anc ops i x.1 → x.2 w) →
      wpT P ops Q fuel (fun x => D x ∨ x = (i, S)) (listed.setIfInBounds i true) (a.put oi.dst v) w → wpT P ops Q (fuel + 1) D listed a w := by
  intro fuel
  induction fuel with
  | zero =>
    intro D listed a w hcl _ hr hy hS hD H
    refine ⟨fun h => (by rw [h] at hr; cases hr), fun j hj => ?_⟩
    by_cases hji : j = i
    · subst hji; exact hy.wpOp hi hS ⟨hD, H⟩
    · have := ready_mono hj hji
      rw [H.1] at this
      cases this
  | succ fuel ih =>
    intro D listed a w hcl hfree hr hy hS hD H
    refine ⟨fun h => (by rw [h] at hr; cases hr), fun j hj => ?_⟩
    by_cases hji : j = i
    · subst hji; exact hy.wpOp hi hS ⟨hD, wpT_less _ _ _ _ _ _ (fun x hx => .inl hx.1) H⟩
    · have h1 := H.2 j (ready_mono hj hji)
      obtain ⟨hjun, oj, hoj, hall⟩ := mem_ready.1 hj
      have hiun : listed.getD i false = false := by
        have h0 := (mem_ready.1 hr).1
        rcases Nat.lt_or_ge i listed.size with h' | h'
        · simp [h'] at h0 ⊢; exact h0
        · simp [Array.getElem?_eq_none h']
      have hnot : ∀ e ∈ oj.after, Region.binds .any e = true → e.on ≠ i := fun e he hb heq => by
        have h1 := hall e he hb
        rw [heq, hiun] at h1
        cases h1
      have hnanc : ¬ Anc ops j i := fun han => by
        have := anc_listed hcl han (fun o ho e he hb => by rw [hoj] at ho; cases ho; exact hall e he hb)
        rw [hiun] at this
        cases this
      have h2 := wpOp_putIf hoj (hfree j oj hoj hji hjun hnot) (fun cs b => hsel i oi cs b hi) (fun cs b => hsel j oj cs b hoj) hQ hy h1
      have hfree' : ∀ k ok, ops[k]? = some ok → k ≠ i → (listed.setIfInBounds j true).getD k true = false →
          (∀ e ∈ ok.after, Region.binds .any e = true → e.on ≠ i) → oi.apart ops ok = true := fun k ok hk hki hun hno => by
        refine hfree k ok hk hki ?_ hno
        by_cases hjk : j = k
        · subst hjk; exact hjun
        · rw [getD_set_ne true hjk] at hun; exact hun
      refine wpOp_mono (fun a' w' h3 => ?_) h2
      obtain ⟨hy', hcond, htree⟩ := h3
      have hS' : S w' := hcond (i, S) (.inr rfl) hnanc
      refine ⟨fun x hx hn => hcond x (.inl hx) hn, ?_⟩
      refine ih _ (listed.setIfInBounds j true) a' w' (hcl.set hj) hfree' (ready_mono hr (Ne.symm hji)) hy' hS' (fun x hx hn => hcond x (.inl hx.1) hx.2) ?_
      rw [Array.setIfInBounds_comm _ _ hji]
      refine wpT_less _ _ _ _ _ _ (fun x hx => ?_) htree
      rcases hx with hx | hx
      · exact ⟨.inl hx.1, hx.2⟩
      · subst hx; exact ⟨.inr rfl, hnanc⟩

end

def apartB (ops : Array Oper) (listed : Array Bool) (i : Nat) (oi : Oper) : Bool :=
  ops.toList.zipIdx.all fun x => Nat.beq x.2 i || listed.getD x.2 true || (x.1.after.toList.any fun e => Region.binds .any e && Nat.beq e.on i) || oi.apart ops x.1

theorem apartB_ok {ops : Array Oper} {listed : Array Bool} {i : Nat} {oi : Oper} (h : apartB ops listed i oi = true) (j : Nat) (oj : Oper) (hj : ops[j]? = some oj) (hji : j ≠ i)
    (hun : listed.getD j true = false) (hno : ∀ e ∈ oj.after, Region.binds .any e = true → e.on ≠ i) : oi.apart ops oj = true := by
  unfold apartB at h
  rw [List.all_eq_true] at h
  have hmem : (oj, j) ∈ ops.toList.zipIdx := by
    rw [List.mem_zipIdx_iff_getElem?]; simpa using hj
  have := h _ hmem
  simp only [hun, Bool.or_eq_true, Bool.or_false] at this
  rcases this with (h1 | h1) | h1
  · exact absurd (Nat.eq_of_beq_eq_true h1) hji
  · obtain ⟨e, he, hb⟩ := List.any_eq_true.1 h1
    rw [Bool.and_eq_true] at hb
    exact absurd (Nat.eq_of_beq_eq_true hb.2) (hno e (by simpa using he) hb.1)
  · exact h1

def pickQ (ops : Array Oper) : List Nat → Option Nat
  | [] => none
  | i :: r => match ops[i]? with
    | some o => match quietOp o with
      | true => some i
      | false => pickQ ops r
    | none => pickQ ops r

theorem pickQ_ok {ops : Array Oper} : ∀ {l : List Nat} {i : Nat}, pickQ ops l = some i → i ∈ l
  | [], _, h => by cases h
  | j :: r, i, h => by
    unfold pickQ at h
    split at h
    · split at h
      · cases h; exact List.mem_cons_self
      · exact List.mem_cons_of_mem _ (pickQ_ok h)
    · exact List.mem_cons_of_mem _ (pickQ_ok h)

/-- Operations taken ahead, and that they yield in a heap what they did. -/
abbrev Tk := Nat × (Heap → Prop)

def tkOf (m : Nat) : List Tk → List Tk
  | [] => []
  | x :: r => match m.testBit x.1 with
    | true => tkOf m r
    | false => x :: tkOf m r

theorem tkOf_ok {m : Nat} : ∀ {l : List Tk} {x : Tk}, x ∈ l → m.testBit x.1 = false → x ∈ tkOf m l
  | y :: r, x, h, hx => by
    unfold tkOf
    rcases List.mem_cons.1 h with rfl | h
    · rw [hx]; exact List.mem_cons_self
    · split
      · exact tkOf_ok h hx
      · exact List.mem_cons_of_mem _ (tkOf_ok h hx)

/-- A quiet operation that does not look at the heap. -/
def stillOp (o : Oper) : Bool :=
  match o.op with
  | .load _ _ | .lookup _ _ _ _ | .entry _ | .call _ => false
  | .convert _ d _ => !(Nat.beq d 9)
  | _ => true

theorem vcQ2_still {ht : TypeId × TypeId} {T : Tab} {e : Env} {dec : Dec} {o : Oper} {H H' : Heap} {f : Value → Prop} (hs : stillOp o = true) (h : vcQ2 ht T e dec o H f) : vcQ2 ht T e dec o H' f := by
  unfold stillOp at hs
  unfold vcQ2 vcQ at h ⊢
  revert hs h
  generalize o.op = q
  intro hs h
  cases q
  case slice t x lo hi mx => cases mx <;> exact h
  case convert s d x =>
    simp only [Bool.not_eq_true'] at hs
    simp only [hs] at h ⊢
    exact h
  all_goals first
    | exact absurd hs Bool.false_ne_true
    | exact h

def takeIf (T : Tab) (e : Env) (dec : Dec) (o : Oper) (i : Nat) (v : Value) (taken : List Tk) : List Tk :=
  match stillOp o with
  | true => taken
  | false => (i, fun H' => vcQ2 (0, 0) T e dec o H' fun v' => v' = v) :: taken

def rdAll : List Tk → Heap → Prop
  | [], _ => True
  | [x], H => x.2 H
  | x :: r, H => x.2 H ∧ rdAll r H

theorem rdAll_get : ∀ {l : List Tk} {H : Heap}, rdAll l H → ∀ x ∈ l, x.2 H
  | [y], H, h, x, hx => by simp at hx; subst hx; exact h
  | y :: z :: r, H, h, x, hx => by
    rcases List.mem_cons.1 hx with rfl | hx
    · exact h.1
    · exact rdAll_get h.2 x hx

def extIf (l : List Tk) (H H' : Heap) (p : Prop) : Prop :=
  match l with
  | [] => p
  | _ :: _ => (Ext H H' ∨ rdAll l H') ∧ p

def allOf : List Nat → (Nat → Prop) → Prop
  | [], _ => True
  | [i], f => f i
  | i :: r, f => f i ∧ allOf r f

theorem allOf_get : ∀ {l : List Nat} {f : Nat → Prop}, allOf l f → ∀ i ∈ l, f i
  | [j], f, h, i, hi => by simp at hi; subst hi; exact h
  | j :: k :: r, f, h, i, hi => by
    rcases List.mem_cons.1 hi with rfl | hi
    · exact h.1
    · exact allOf_get h.2 i hi

/-- A region whose order is drawn. -/
def vcAny (P : Program) (T : Tab) (n : Nat) (ops : Array Oper) (K : Env → Dec → Heap → Prop) : Nat → Array Bool → List Tk → Env → Dec → Heap → Prop
  | 0, listed, _, e, dec, H => match Region.ready .any ops listed with
    | [] => K e dec H
    | _ :: _ => False
  | fuel + 1, listed, taken, e, dec, H => match Region.ready .any ops listed with
    | [] => K e dec H
    | r :: rs => match pickQ ops (r :: rs) with
      | some i => match ops[i]? with
        | some o => match slotOk n o.dst && apartB ops listed i o with
          | true => gdQ ops e dec o
            (fun e dec => vcQ2 (0, 0) T e dec o H fun v => vcAny P T n ops K fuel (listed.setIfInBounds i true) (takeIf T e dec o i v taken) (putE e o.dst v) (putD dec o.dst (decOf dec o)) H)
            (fun e dec => vcAny P T n ops K fuel (listed.setIfInBounds i true) taken (putE e o.dst undef) (putD dec o.dst none) H)
          | false => False
        | none => False
      | none => allOf (r :: rs) fun i => match ops[i]? with
        | some o => match slotOk n o.dst with
          | true => gdQ ops e dec o
            (fun e dec => vcOne (0, 0) P T e dec o H fun v H' => extIf (tkOf ((masks ops.toList []).getD i 0) taken) H H'
              (vcAny P T n ops K fuel (listed.setIfInBounds i true) (tkOf ((masks ops.toList []).getD i 0) taken) (putE e o.dst v) (putD dec o.dst (decOf dec o)) H'))
            (fun e dec => vcAny P T n ops K fuel (listed.setIfInBounds i true) taken (putE e o.dst undef) (putD dec o.dst none) H)
          | false => False
        | none => False

theorem Ext.nil (H : Heap) : Ext #[] H := fun b o h => by simp at h
theorem takeIf_mem {T : Tab} {e : Env} {dec : Dec} {v : Value} {o : Oper} {i : Nat} {x : Tk} {taken : List Tk} (h : x ∈ taken) : x ∈ takeIf T e dec o i v taken := by
  unfold takeIf; split
  · exact h
  · exact List.mem_cons_of_mem _ h
theorem takeIf_self {T : Tab} {e : Env} {dec : Dec} {v : Value} {o : Oper} {i : Nat} {taken : List Tk} (h : stillOp o = false) : ((i, fun H' => vcQ2 (0, 0) T e dec o H' fun v' => v' = v) : Tk) ∈ takeIf T e dec o i v taken := by
  unfold takeIf; rw [h]; exact List.mem_cons_self

/-- What is known of an operation taken ahead. -/
def Known (taken : List Tk) (H : Heap) (x : Nat × (World → Prop)) : Prop :=
  (∀ w', x.2 w') ∨ ∃ q, (x.1, q) ∈ taken ∧ (∀ w' : World, Ext H w'.heap → x.2 w') ∧ ∀ H1, q H1 → ∀ w' : World, Ext H1 w'.heap → x.2 w'

theorem vcAny_sound {P : Program} {T : Tab} (hT : TabOk P T) {n : Nat} {ops : Array Oper} (hsel : Region.noSelect ops = true) {Q : Exit → Act → World → Prop} {K : Env → Dec → Heap → Prop} (w0 : World) (U : Act → Prop) (hU : ∀ (i : Nat) (o : Oper), ops[i]? = some o → ∀ a v, U a → U (a.put o.dst v))
    (hQ : ∀ c a w, ¬ Q (.panic c) a w)
    (hK : ∀ e dec H a w, K e dec H → Rep n e a → DecOk dec a → w.heap = H → Same w0 w → U a → Q .normal a w) :
    ∀ (fuel : Nat) (listed : Array Bool) (taken : List Tk) (e : Env) (dec : Dec) (H : Heap) (a : Act) (w : World) (D : Pend), vcAny P T n ops K fuel listed taken e dec H →
      Rep n e a → DecOk dec a → w.heap = H → Same w0 w → U a → Closed ops listed → (∀ x, D x → Known taken H x) → wpT P ops Q fuel D listed a w
  | 0, listed, taken, e, dec, H, a, w, D, h, hr, hd, hw, hs, hu, _, _ => by
    unfold vcAny at h
    split at h
    · rename_i hrd; exact ⟨hrd, hK e dec H a w h hr hd hw hs hu⟩
    · exact h.elim
  | fuel + 1, listed, taken, e, dec, H, a, w, D, h, hr, hd, hw, hs, hu, hcl, hD => by
    unfold vcAny at h
    split at h
    · rename_i hrd
      exact ⟨fun _ => hK e dec H a w h hr hd hw hs hu, fun i hi => (by rw [hrd] at hi; cases hi)⟩
    · rename_i r rs hrd
      split at h
      · rename_i i hpick
        have hir : i ∈ Region.ready .any ops listed := by rw [hrd]; exact pickQ_ok hpick
        split at h
        · rename_i o ho
          split at h
          · rename_i hb
            rw [Bool.and_eq_true] at hb
            obtain ⟨hslot, hap⟩ := hb
            obtain ⟨e', dec', hr', hd', h⟩ := gdQ_get hr hd h
            have hself : Ext H w.heap := hw ▸ Ext.refl _
            have hDw : ∀ x, D x → x.2 w := fun x hx => by
              rcases hD x hx with h1 | ⟨q, _, h1, _⟩
              · exact h1 w
              · exact h1 w hself
            have goFirst : ∀ (S : World → Prop) (tk : List Tk) (v : Value) (dec'' : Dec), (∀ x ∈ taken, x ∈ tk) → S w → Known tk H (i, S) → YieldsIf P ops S o v a → DecOk dec'' (a.put o.dst v) →
                vcAny P T n ops K fuel (listed.setIfInBounds i true) tk (putE e' o.dst v) dec'' H → wpT P ops Q (fuel + 1) D listed a w := by
              intro S tk v dec'' hsub hSw hkn hy hdd hv
              refine wpT_first (S := S) ho (fun j oj cs b hj => Region.noSelect_spec hsel j oj cs b hj) (fun c a w hq => (hQ _ _ _ hq).elim) fuel D listed a w hcl
                (fun j oj hj hji hun hno => apartB_ok hap j oj hj hji hun hno) hir hy hSw (fun x hx _ => hDw x hx) ?_
              refine vcAny_sound hT hsel w0 U hU hQ hK fuel _ _ _ _ H _ w _ hv (hr'.putE hslot v) hdd hw hs (hU i o ho _ _ hu) (hcl.set hir) (fun x hx => ?_)
              rcases hx with hx | rfl
              · rcases hD x hx with h1 | ⟨q, h1, h2⟩
                · exact .inl h1
                · exact .inr ⟨q, hsub _ h1, h2⟩
              · exact hkn
            rcases h with ⟨hwant, h⟩ | ⟨hwant, h⟩
            · cases hst : stillOp o with
              | true =>
                obtain ⟨v, hf, hrun⟩ := vcQ2_sound hT hr' hd' (vcQ2_still (H' := #[]) hst h)
                refine goFirst (fun w' => Ext #[] w'.heap) _ v _ (fun x hx => takeIf_mem hx) (Ext.nil _) (.inl fun w' => Ext.nil _) (.inl ⟨hwant, hrun⟩) (hd'.put hr'.size hslot fun b hb => ?_) hf
                have := decOf_ok (P := P) hd' hb w
                rw [hrun w (Ext.nil _)] at this
                simpa using this
              | false =>
                obtain ⟨v, hf, hrun⟩ := vcQ2_sound hT hr' hd' h
                refine goFirst (fun w' => Ext H w'.heap ∨ ∃ H1, vcQ2 (0, 0) T e' dec' o H1 (fun v' => v' = v) ∧ Ext H1 w'.heap) _ v _ (fun x hx => takeIf_mem hx) (.inl hself)
                  (.inr ⟨_, takeIf_self hst, fun w' hw' => .inl hw', fun H1 h1 w' hw' => .inr ⟨H1, h1, hw'⟩⟩) (.inl ⟨hwant, fun w' hS => ?_⟩) (hd'.put hr'.size hslot fun b hb => ?_) hf
                · rcases hS with hS | ⟨H1, h1, h2⟩
                  · exact hrun w' hS
                  · obtain ⟨v', rfl, hrun1⟩ := vcQ2_sound hT hr' hd' h1
                    exact hrun1 w' h2
                · have := decOf_ok (P := P) hd' hb w
                  rw [hrun w hself] at this
                  simpa using this
            · exact goFirst (fun _ => True) taken undef _ (fun x hx => hx) trivial (.inl fun _ => trivial) (.inr ⟨hwant, rfl⟩) (hd'.put hr'.size hslot fun b hb => by cases hb) h
          · exact h.elim
        · exact h.elim
      · refine ⟨fun hnil => (by rw [hrd] at hnil; cases hnil), fun i hi => ?_⟩
        have hi' := hi
        rw [hrd] at hi'
        have h := allOf_get h i hi'
        split at h
        · rename_i o ho
          split at h
          · rename_i hslot
            obtain ⟨e', dec', hr', hd', h⟩ := gdQ_get hr hd h
            unfold wpOp
            rw [ho]
            simp only []
            rcases h with ⟨hwant, h⟩ | ⟨hwant, h⟩
            · rw [if_pos hwant]
              refine .inl (decOf_val hT hr' hd' h w hw _ _ fun v w' h1 h2 h3 => ?_)
              obtain ⟨h3, h4⟩ := h3
              have hin : ∀ x, D x → ¬ Anc ops i x.1 → Known (tkOf ((masks ops.toList []).getD i 0) taken) H x := fun x hx hn => by
                rcases hD x hx with h5 | ⟨q, h5, h6⟩
                · exact .inl h5
                · refine .inr ⟨q, tkOf_ok h5 (by
                    cases hb : ((masks ops.toList []).getD i 0).testBit x.1 with
                    | false => rfl
                    | true => exact absurd (beforeB_ok hb) hn), h6⟩
              unfold extIf at h3
              split at h3
              · rename_i hnil
                have hno : ∀ x, D x → ¬ Anc ops i x.1 → ∀ w', x.2 w' := fun x hx hn => by
                  rcases hin x hx hn with h5 | ⟨q, h5, _⟩
                  · exact h5
                  · rw [hnil] at h5; cases h5
                refine ⟨fun x hx hn => hno x hx hn w', ?_⟩
                refine vcAny_sound hT hsel w0 U hU hQ hK fuel _ _ _ _ _ _ w' _ h3 (hr'.putE hslot v) (hd'.put hr'.size hslot h4) rfl (hs.trans ⟨h1, h2⟩) (hU i o ho _ _ hu) (hcl.set hi) (fun x hx => .inl (hno x hx.1 hx.2))
              · rename_i y ys hcons
                obtain ⟨hext, h3⟩ := h3
                have hAll : ∀ x, D x → ¬ Anc ops i x.1 → ∀ w'' : World, Ext w'.heap w''.heap → x.2 w'' := fun x hx hn w'' hw'' => by
                  rcases hin x hx hn with h5 | ⟨q, h5, h6, h7⟩
                  · exact h5 w''
                  · rcases hext with hext | hext
                    · exact h6 w'' (hext.trans hw'')
                    · exact h7 w'.heap (rdAll_get hext _ h5) w'' hw''
                refine ⟨fun x hx hn => hAll x hx hn w' (Ext.refl _), ?_⟩
                refine vcAny_sound hT hsel w0 U hU hQ hK fuel _ _ _ _ _ _ w' _ h3 (hr'.putE hslot v) (hd'.put hr'.size hslot h4) rfl (hs.trans ⟨h1, h2⟩) (hU i o ho _ _ hu) (hcl.set hi)
                  (fun x hx => by
                    rcases hin x hx.1 hx.2 with h5 | ⟨q, h5, h6, h7⟩
                    · exact .inl h5
                    · exact .inr ⟨q, h5, hAll x hx.1 hx.2, h7⟩)
            · rw [if_neg (by rw [hwant]; exact Bool.false_ne_true)]
              have hself : Ext H w.heap := hw ▸ Ext.refl _
              have hAll : ∀ x, D x → x.2 w := fun x hx => by
                rcases hD x hx with h5 | ⟨q, _, h5, _⟩
                · exact h5 w
                · exact h5 w hself
              refine ⟨fun x hx _ => hAll x hx, ?_⟩
              exact vcAny_sound hT hsel w0 U hU hQ hK fuel _ _ _ _ H _ w _ h (hr'.putE hslot undef) (hd'.put hr'.size hslot fun b hb => by cases hb) hw hs (hU i o ho _ _ hu) (hcl.set hi)
                (fun x hx => hD x hx.1)
          · exact h.elim
        · exact h.elim

end Go.Sh
