/-
  OWN WORK. The shallow layer, part 13: code; functions.
-/
import Derived.Test.YtmappfblfoklfaaShA
import Derived.ScopeJumps
set_option linter.unusedSimpArgs false
set_option linter.unusedVariables false
namespace Go.Sh

/-- Where a continuation is named, and what of the frame it takes: 'live' by its types, 'keep' as it was. -/
inductive Plan where
  | leaf
  | two (a b : Plan)
  | one (a : Plan)
  | loop (live : List (Nat × TypeId)) (keep : List Nat) (a : Plan)
  | join (live : List (Nat × TypeId)) (keep : List Nat) (a : Plan)
  | scope (live : List (Nat × TypeId)) (keep : List Nat) (a b : Plan)

inductive Ex where
  | normal | exit (id : Nat) | ret | goto (l : Nat)

abbrev Post := Ex → Env → Dec → Heap → Prop

def Post.then (Q : Post) (f : Env → Dec → Heap → Prop) : Post
  | .normal => f
  | ex => Q ex

/-- A jump to a label. -/
def Post.jump (l : Nat) (Q : Post) (f : Env → Dec → Heap → Prop) : Post
  | .goto l' => match Nat.beq l' l with
    | true => f
    | false => fun _ _ _ => False
  | ex => Q ex

def Post.block (id : Nat) (Q : Post) : Post
  | .exit id' => match Nat.beq id' id with
    | true => Q .normal
    | false => Q (.exit id')
  | ex => Q ex

/-- Every value of the slots' types. -/
def allT (T : Tab) : List (Nat × TypeId) → (List Value → Prop) → Prop
  | [], f => f []
  | (_, t) :: r, f => match ti T t with
    | some i => (match i.d with
      | .int k => ∀ n : Int, allT T r fun l => f (.int k n :: l)
      | .bool => ∀ b : Bool, allT T r fun l => f (.bool b :: l)
      | .str => ∀ s : ByteArray, allT T r fun l => f (.string s :: l)
      | .ptr _ => ∀ p : Option Addr, allT T r fun l => f (.pointer p :: l)
      | .sl _ => ∀ (p : Option Addr) (m c : Nat), allT T r fun l => f (.slice p m c :: l)
      | .map _ _ => ∀ p : Option Nat, allT T r fun l => f (.map p :: l)
      | .arr _ _ => ∀ cs : Array Value, allT T r fun l => f (.agg cs :: l)
      | .struct _ => ∀ cs : Array Value, allT T r fun l => f (.agg cs :: l)
      | .fn => ∀ (g : Nat) (x y : Array Value), allT T r fun l => f (.func (.func g) x y :: l)
      | _ => ∀ v : Value, allT T r fun l => f (v :: l))
    | none => ∀ a : Addr, allT T r fun l => f (.pointer (some a) :: l)      -- type 0: an address

def zipE : List (Nat × TypeId) → List Value → Env
  | (s, _) :: r, v :: l => (s, v) :: zipE r l
  | _, _ => []

def keepE (e : Env) : List Nat → Env
  | [] => []
  | s :: r => match look e s with
    | some v => (s, v) :: keepE e r
    | none => keepE e r

def getV (e : Env) : List (Nat × TypeId) → (List Value → Prop) → Prop
  | [], f => f []
  | (s, _) :: r, f => match look e s with
    | some v => getV e r fun l => f (v :: l)
    | none => False

/-- The operations of a code. -/
def opsOf : Code → List Oper
  | .region _ ops _ => ops.toList
  | .seq a b => opsOf a ++ opsOf b
  | .cond _ a b => opsOf a ++ opsOf b
  | .block _ a => opsOf a
  | .loop a => opsOf a
  | .scope a => opsOf a
  | _ => []

def memB (l : List Nat) (d : Nat) : Bool :=
  match l with
  | [] => false
  | x :: r => match Nat.beq x d with
    | true => true
    | false => memB r d

def keepOk (keep : List Nat) : List Oper → Bool
  | [] => true
  | o :: r => match o.dst with
    | some d => match memB keep d with
      | true => false
      | false => keepOk keep r
    | none => keepOk keep r

def vc (P : Program) (T : Tab) (n : Nat) : Plan → Code → Env → Dec → Heap → Post → Prop
  | .join live keep p, c, e, dec, H, Q => match keepOk keep (opsOf c) with
    | true => ∀ J : List Value → Heap → Prop, (allT T live fun vs => ∀ H', Q .normal (zipE live vs ++ keepE e keep) [] H' → J vs H') →
        vc P T n p c e dec H (Q.then fun e' _ H' => getV e' live fun vs => J vs H')
    | false => False
  | .loop live keep p, .loop c, e, dec, H, Q => match keepOk keep (opsOf c) with
    | true => ∀ X : List Value → Heap → Prop, (allT T live fun vs => ∀ H',
        vc P T n p c (zipE live vs ++ keepE e keep) [] H' (Q.then fun e' _ H'' => getV e' live fun vs' => X vs' H'') → X vs H') → getV e live fun vs => X vs H
    | false => False
  | .scope live keep _ pb, .scope (.seq (.label l) y), e, dec, H, Q => match keepOk keep (opsOf y) with
    | true => ∀ X : List Value → Heap → Prop, (allT T live fun vs => ∀ H',
          vc P T n pb y (zipE live vs ++ keepE e keep) [] H' (Q.jump l fun e' _ H'' => getV e' live fun vs' => X vs' H'') → X vs H') → getV e live fun vs => X vs H
    | false => False
  | .scope live keep pa pb, .scope (.seq x (.seq (.label l) y)), e, dec, H, Q => match keepOk keep (opsOf y), findLabel x l with
    | true, none => vc P T n pa x e dec H fun
      | .normal => fun e dec H => ∀ X : List Value → Heap → Prop, (allT T live fun vs => ∀ H',
          vc P T n pb y (zipE live vs ++ keepE e keep) [] H' (Q.jump l fun e' _ H'' => getV e' live fun vs' => X vs' H'') → X vs H') → getV e live fun vs => X vs H
      | .goto _ => fun _ _ _ => False
      | ex => Q ex
    | _, _ => False
  | _, .skip, e, dec, H, Q => Q .normal e dec H
  | _, .goto l, e, dec, H, Q => Q (.goto l) e dec H
  | _, .region _ ops false, e, dec, H, Q => vcOps P T n ops ops.toList e dec H (Q .normal)
  | _, .region _ ops true, e, dec, H, Q => match Region.noSelect ops with
    | true => vcAny P T n ops (Q .normal) ops.size (Array.replicate ops.size false) [] e dec H
    | false => False
  | .two pa pb, .seq a b, e, dec, H, Q => vc P T n pa a e dec H (Q.then fun e dec H => vc P T n pb b e dec H Q)
  | .two pa pb, .cond c a b, e, dec, H, Q => match decd dec c with
    | some true => vc P T n pa a e dec H Q
    | some false => vc P T n pb b e dec H Q
    | none => match c with
      | .tmp s => match look e s with
        | some (.bool t) => (t = true → vc P T n pa a ((s, .bool true) :: e) ((s, some true) :: dec) H Q) ∧ (t = false → vc P T n pb b ((s, .bool false) :: e) ((s, some false) :: dec) H Q)
        | _ => False
      | _ => False
  | .one p, .block id a, e, dec, H, Q => vc P T n p a e dec H (Q.block id)
  | _, .exit id, e, dec, H, Q => Q (.exit id) e dec H
  | _, .ret, e, dec, H, Q => Q .ret e dec H
  | _, _, _, _, _, _ => False

/-! ### it is right -/

variable {P : Program}

/-- The loop's wp at the head of a round. -/
def LW (P : Program) (c : Code) (Q : Exit → Act → World → Prop) (a : Act) (w : World) : Prop :=
  ∀ (b : Frame) (k : List Item) (cs : List Frame), ∃ e a' w', Q e a' w' ∧ Arrives P (lone (b.at a (.code c :: .inLoop c :: k)) cs w) b k cs e a' w'

theorem LW.loop {c : Code} {Q : Exit → Act → World → Prop} {a : Act} {w : World} (h : LW P c Q a w) : (Code.loop c).wp P Q a w :=
  fun b k cs => let ⟨e, a', w', q, r⟩ := h b k cs; ⟨e, a', w', q, .of_steps (.one step_loop) r⟩

theorem LW.round {c : Code} {Q : Exit → Act → World → Prop} {a : Act} {w : World} (h : c.wp P (Exit.then (LW P c Q) Q) a w) : LW P c Q a w := by
  intro b k cs
  obtain ⟨e, a₁, w₁, hq, harr⟩ := h b (.inLoop c :: k) cs
  cases e with
  | normal =>
    obtain ⟨e₂, a₂, w₂, hq₂, harr₂⟩ := hq b k cs
    exact ⟨e₂, a₂, w₂, hq₂, .of_steps (Steps.trans harr (.one step_inLoop)) harr₂⟩
  | exit id => exact ⟨_, a₁, w₁, hq, .pass (x := .inLoop c) rfl (fun _ _ => .inl (by simp)) harr⟩
  | goto l => exact ⟨_, a₁, w₁, hq, .pass (x := .inLoop c) rfl (fun _ _ => .inl (by simp)) harr⟩
  | ret => exact ⟨_, a₁, w₁, hq, .pass (x := .inLoop c) rfl (fun _ _ => .inl (by simp)) harr⟩
  | panic ch => exact ⟨_, a₁, w₁, hq, .pass (x := .inLoop c) rfl (fun _ _ => .inl (by simp)) harr⟩
  | outgrown => exact ⟨_, a₁, w₁, hq, .pass (x := .inLoop c) rfl (fun _ _ => .inl (by simp)) harr⟩

def Ex.real : Ex → Exit
  | .normal => .normal
  | .exit id => .exit id
  | .ret => .ret
  | .goto l => .goto l

/-- The wp at a label. -/
def SW (P : Program) (c rest : Code) (Q : Exit → Act → World → Prop) (a : Act) (w : World) : Prop :=
  ∀ (b : Frame) (k : List Item) (cs : List Frame), ∃ e a' w', Q e a' w' ∧ Arrives P (lone (b.at a (.code rest :: .inScope c :: k)) cs w) b k cs e a' w'

theorem SW.arr {c rest : Code} {l : Nat} {Q : Exit → Act → World → Prop} (hf : findLabel c l = some rest) {b : Frame} {k : List Item} {cs : List Frame} {m : Machine} {e : Exit} {a₁ : Act} {w₁ : World}
    (hq : Exit.jump l (SW P c rest Q) Q e a₁ w₁) (harr : Arrives P m b (.inScope c :: k) cs e a₁ w₁) : ∃ e a' w', Q e a' w' ∧ Arrives P m b k cs e a' w' := by
  have hg : gotoIn l (.inScope c :: k) = some (.code rest :: .inScope c :: k) := by simp [gotoIn, hf]
  cases e with
  | normal => exact ⟨.normal, a₁, w₁, hq, Steps.trans harr (.one step_inScope)⟩
  | exit id => exact ⟨.exit id, a₁, w₁, hq, fun k' hk => harr k' (by simp [exitTo, hk])⟩
  | goto l' =>
    obtain ⟨rfl, hJ⟩ := hq
    obtain ⟨e₂, a₂, w₂, hq₂, harr₂⟩ := hJ b k cs
    exact ⟨e₂, a₂, w₂, hq₂, .of_steps (harr _ hg) harr₂⟩
  | ret => exact ⟨_, a₁, w₁, hq, harr⟩
  | panic ch => exact ⟨_, a₁, w₁, hq, harr⟩
  | outgrown => exact ⟨_, a₁, w₁, hq, harr⟩

theorem SW.round {c rest : Code} {l : Nat} {Q : Exit → Act → World → Prop} (hf : findLabel c l = some rest) {a : Act} {w : World} (h : rest.wp P (Exit.jump l (SW P c rest Q) Q) a w) : SW P c rest Q a w := by
  intro b k cs
  obtain ⟨e, a₁, w₁, hq, harr⟩ := h b (.inScope c :: k) cs
  exact SW.arr hf hq harr

theorem SW.scope {c rest : Code} {l : Nat} {Q : Exit → Act → World → Prop} (hf : findLabel c l = some rest) {a : Act} {w : World} (h : c.wp P (Exit.jump l (SW P c rest Q) Q) a w) : (Code.scope c).wp P Q a w := by
  intro b k cs
  obtain ⟨e, a₁, w₁, hq, harr⟩ := h b (.inScope c :: k) cs
  obtain ⟨e₂, a₂, w₂, hq₂, harr₂⟩ := SW.arr hf hq harr
  exact ⟨e₂, a₂, w₂, hq₂, .of_steps (.one step_scope) harr₂⟩

/-- What a post of the machine owes to a post of ours. -/
def Pays (n : Nat) (w0 : World) (U : Act → Prop) (Q : Post) (Q' : Exit → Act → World → Prop) : Prop :=
  ∀ ex e dec H a w, Q ex e dec H → Rep n e a → DecOk dec a → w.heap = H → Same w0 w → U a → Q' ex.real a w

theorem memB_ok {l : List Nat} {d : Nat} (h : d ∈ l) : memB l d = true := by
  induction l with
  | nil => cases h
  | cons x r ih =>
    unfold memB
    split
    · rfl
    · rename_i hb
      rcases List.mem_cons.1 h with rfl | h
      · rw [Nat.beq_refl] at hb; cases hb
      · exact ih h

theorem keepOk_ok {keep : List Nat} {l : List Oper} (h : keepOk keep l = true) : ∀ o ∈ l, ∀ s ∈ keep, o.dst ≠ some s := by
  induction l with
  | nil => intro o ho; cases ho
  | cons o r ih =>
    intro o' ho' s hs heq
    unfold keepOk at h
    rcases List.mem_cons.1 ho' with rfl | ho'
    · rw [heq] at h
      simp only [memB_ok hs] at h
      cases h
    · refine ih ?_ o' ho' s hs heq
      cases hd : o.dst with
      | none => rw [hd] at h; exact h
      | some d =>
        rw [hd] at h
        simp only [] at h
        cases hm : memB keep d with
        | true => rw [hm] at h; cases h
        | false => rw [hm] at h; exact h

/-- Slots that hold what they held. -/
def Kept (keep : List Nat) (a0 a : Act) : Prop := ∀ s ∈ keep, a.tmps[s]? = a0.tmps[s]?

theorem Kept.put {keep : List Nat} {a0 a : Act} (h : Kept keep a0 a) {o : Oper} (ho : ∀ s ∈ keep, o.dst ≠ some s) (v : Value) : Kept keep a0 (a.put o.dst v) := by
  intro s hs
  cases hd : o.dst with
  | none => exact h s hs
  | some d =>
    have : d ≠ s := fun he => ho s hs (by rw [hd, he])
    simp only [Act.put]
    rw [Array.getElem?_setIfInBounds_ne this]
    exact h s hs

theorem look_keepE {e : Env} : ∀ {keep : List Nat} {t : Nat} {v : Value}, look (keepE e keep) t = some v → t ∈ keep ∧ look e t = some v
  | [], _, _, h => by cases h
  | s :: r, t, v, h => by
    unfold keepE at h
    split at h
    · rename_i u hu
      by_cases hst : s = t
      · subst hst; rw [look_cons_eq] at h; cases h; exact ⟨List.mem_cons_self, hu⟩
      · rw [look_cons_ne u _ hst] at h
        have := look_keepE h
        exact ⟨List.mem_cons_of_mem _ this.1, this.2⟩
    · have := look_keepE h
      exact ⟨List.mem_cons_of_mem _ this.1, this.2⟩

theorem look_append {e1 e2 : Env} {t : Nat} : look (e1 ++ e2) t = (look e1 t).or (look e2 t) := by
  induction e1 with
  | nil => rfl
  | cons x r ih =>
    obtain ⟨s, v⟩ := x
    by_cases hst : s = t
    · subst hst; rw [List.cons_append, look_cons_eq, look_cons_eq]; rfl
    · rw [List.cons_append, look_cons_ne v _ hst, look_cons_ne v _ hst, ih]

theorem getV_get {e : Env} : ∀ {live : List (Nat × TypeId)} {f : List Value → Prop}, getV e live f → ∃ vs, f vs ∧ (∀ t v, look (zipE live vs) t = some v → look e t = some v)
  | [], f, h => ⟨[], h, fun t v hh => by cases hh⟩
  | (s, ty) :: r, f, h => by
    unfold getV at h
    split at h
    · rename_i u hu
      obtain ⟨vs, hf, hz⟩ := getV_get h
      refine ⟨_, hf, fun t v hh => ?_⟩
      unfold zipE at hh
      by_cases hst : s = t
      · subst hst; rw [look_cons_eq] at hh; cases hh; exact hu
      · rw [look_cons_ne u _ hst] at hh; exact hz t v hh
    · exact h.elim

theorem allT_imp {T : Tab} : ∀ {live : List (Nat × TypeId)} {f g : List Value → Prop}, (∀ vs, f vs → g vs) → allT T live f → allT T live g
  | [], _, _, hfg, h => hfg _ h
  | (s, t) :: r, f, g, hfg, h => by
    unfold allT at h ⊢
    split <;> rename_i hti <;> simp only [hti] at h
    · split <;> rename_i hd <;> simp only [hd] at h
      case h_5 => exact fun p m c => allT_imp (fun vs hh => hfg _ hh) (h p m c)
      case h_9 => exact fun p m c => allT_imp (fun vs hh => hfg _ hh) (h p m c)
      all_goals exact fun x => allT_imp (fun vs hh => hfg _ hh) (h x)
    · exact fun x => allT_imp (fun vs hh => hfg _ hh) (h x)

theorem allT_true {T : Tab} : ∀ {live : List (Nat × TypeId)} {f : List Value → Prop}, (∀ vs, f vs) → allT T live f
  | [], _, h => h _
  | (s, t) :: r, f, h => by
    unfold allT
    split
    · split
      case h_5 => exact fun p m c => allT_true (fun vs => h _)
      case h_9 => exact fun p m c => allT_true (fun vs => h _)
      all_goals exact fun x => allT_true (fun vs => h _)
    · exact fun x => allT_true (fun vs => h _)

theorem rep_live {n : Nat} {e e0 : Env} {a a0 : Act} (hr : Rep n e a) (hr0 : Rep n e0 a0) {keep : List Nat} (hk : Kept keep a0 a) {live : List (Nat × TypeId)} {vs : List Value}
    (hz : ∀ t v, look (zipE live vs) t = some v → look e t = some v) : Rep n (zipE live vs ++ keepE e0 keep) a := by
  refine ⟨hr.size, hr.defers, fun t v h => ?_⟩
  rw [look_append] at h
  cases hl : look (zipE live vs) t with
  | some u =>
    rw [hl] at h
    cases h
    exact hr.val t v (hz t v hl)
  | none =>
    rw [hl] at h
    obtain ⟨h1, h2⟩ := look_keepE h
    rw [hk t h1]
    exact hr0.val t v h2

theorem DecOk.nil (a : Act) : DecOk [] a := fun t b h => by cases h

set_option maxHeartbeats 1000000 in
theorem vc_sound {T : Tab} (hT : TabOk P T) (hm : P.follows .mixedOrders = true) {n : Nat} (w0 : World) : ∀ (p : Plan) (c : Code) (e : Env) (dec : Dec) (H : Heap) (Q : Post)
    (Q' : Exit → Act → World → Prop) (a : Act) (w : World) (U : Act → Prop), vc P T n p c e dec H Q → Rep n e a → DecOk dec a → w.heap = H → Same w0 w → U a →
    (∀ o ∈ opsOf c, ∀ a v, U a → U (a.put o.dst v)) → Pays n w0 U Q Q' → c.wp P Q' a w := by
  have leafs : ∀ (p : Plan) (c : Code) (e : Env) (dec : Dec) (H : Heap) (Q : Post) (Q' : Exit → Act → World → Prop) (a : Act) (w : World) (U : Act → Prop),
      (match c with
        | .skip => Q .normal e dec H
        | .region _ ops false => vcOps P T n ops ops.toList e dec H (Q .normal)
        | .region _ ops true => match Region.noSelect ops with
          | true => vcAny P T n ops (Q .normal) ops.size (Array.replicate ops.size false) [] e dec H
          | false => False
        | .exit id => Q (.exit id) e dec H
        | .goto l => Q (.goto l) e dec H
        | .ret => Q .ret e dec H
        | _ => False) → Rep n e a → DecOk dec a → w.heap = H → Same w0 w → U a →
      (∀ o ∈ opsOf c, ∀ a v, U a → U (a.put o.dst v)) → Pays n w0 U Q Q' → c.wp P Q' a w := by
    intro p c e dec H Q Q' a w U h hr hd hw hs hu hU hpay
    split at h
    · exact wp_skip (hpay _ _ _ _ _ _ h hr hd hw hs hu)
    · rename_i id ops
      exact wp_region_list (vcOps_sound hT w0 U (fun e dec H a w hk hr hd hw hs hu => hpay .normal e dec H a w hk hr hd hw hs hu) ops.toList e dec H a w h hr hd hw hs hu hU)
    · rename_i id ops
      split at h
      · rename_i hsel
        refine Code.wp_mono (Q := fun ex a w => ex = .normal ∧ Q' .normal a w) (fun ex a w hq => by obtain ⟨rfl, hq⟩ := hq; exact hq) ?_
        refine wp_region_any hm (wpAny_of_T _ (fun _ => False) _ _ _ ?_)
        refine vcAny_sound hT hsel w0 U (fun i o ho => hU o (by simpa [opsOf] using Array.mem_of_getElem? ho)) (fun c a w hq => by cases hq.1)
          (fun e dec H a w hk hr hd hw hs hu => ⟨rfl, hpay .normal e dec H a w hk hr hd hw hs hu⟩) _ _ _ _ _ _ _ _ _ h hr hd (by exact hw) (hs.trans ⟨rfl, Out.of rfl (fun _ => rfl)⟩) hu ?_ (fun x hx => hx.elim)
        intro j oj hj hl
        rw [getD_replicate_false] at hl
        cases hl
      · exact h.elim
    · exact wp_exit (hpay _ _ _ _ _ _ h hr hd hw hs hu)
    · exact wp_goto (hpay _ _ _ _ _ _ h hr hd hw hs hu)
    · exact wp_ret (hpay _ _ _ _ _ _ h hr hd hw hs hu)
    · exact h.elim
  intro p
  induction p with
  | leaf =>
    intro c e dec H Q Q' a w U h
    refine leafs .leaf c e dec H Q Q' a w U ?_
    cases c <;> first | exact h | (rename_i id ops draw; cases draw <;> exact h)
  | join live keep p ih =>
    intro c e dec H Q Q' a w U h hr hd hw hs hu hU hpay
    unfold vc at h
    split at h
    · rename_i hkeep
      have hko := keepOk_ok hkeep
      have h := h (fun vs H' => ∀ a' w', Rep n (zipE live vs ++ keepE e keep) a' → w'.heap = H' → Same w0 w' → U a' → Q' .normal a' w')
        (allT_true fun vs H' hq a' w' hr' hw' hs' hu' => hpay .normal _ _ _ a' w' hq hr' (DecOk.nil _) hw' hs' hu')
      refine ih c e dec H _ Q' a w (fun a' => U a' ∧ Kept keep a a') h hr hd hw hs ⟨hu, fun _ _ => rfl⟩ (fun o ho a v hua => ⟨hU o ho a v hua.1, hua.2.put (hko o ho) v⟩) ?_
      intro ex e' dec' H' a' w' hq hr' hd' hw' hs' hu'
      cases ex with
      | normal =>
        obtain ⟨vs, hJ, hz⟩ := getV_get hq
        exact hJ a' w' (rep_live hr' hr hu'.2 hz) hw' hs' hu'.1
      | exit id => exact hpay _ _ _ _ _ _ hq hr' hd' hw' hs' hu'.1
      | goto id => exact hpay _ _ _ _ _ _ hq hr' hd' hw' hs' hu'.1
      | ret => exact hpay _ _ _ _ _ _ hq hr' hd' hw' hs' hu'.1
    · exact h.elim
  | loop live keep p ih =>
    intro c e dec H Q Q' a w U h hr hd hw hs hu hU hpay
    cases c with
    | loop c =>
      unfold vc at h
      split at h
      · rename_i hkeep
        have hko := keepOk_ok hkeep
        have h := h (fun vs H' => ∀ a' w', Rep n (zipE live vs ++ keepE e keep) a' → w'.heap = H' → Same w0 w' → (U a' ∧ Kept keep a a') → LW P c Q' a' w')
          (allT_true fun vs H' hv a' w' hr' hw' hs' hu' => by
            refine LW.round ?_
            refine ih c _ _ H' _ (Exit.then (LW P c Q') Q') a' w' (fun a'' => U a'' ∧ Kept keep a a'') hv hr' (DecOk.nil _) hw' hs' hu' (fun o ho a v hua => ⟨hU o ho a v hua.1, hua.2.put (hko o ho) v⟩) ?_
            intro ex e2 dec2 H2 a2 w2 hq hr2 hd2 hw2 hs2 hu2
            cases ex with
            | normal =>
              obtain ⟨vs', hX, hz⟩ := getV_get hq
              exact hX a2 w2 (rep_live hr2 hr hu2.2 hz) hw2 hs2 hu2
            | exit id => exact hpay _ _ _ _ _ _ hq hr2 hd2 hw2 hs2 hu2.1
            | goto id => exact hpay _ _ _ _ _ _ hq hr2 hd2 hw2 hs2 hu2.1
            | ret => exact hpay _ _ _ _ _ _ hq hr2 hd2 hw2 hs2 hu2.1)
        obtain ⟨vs, hX, hz⟩ := getV_get h
        exact LW.loop (hX a w (rep_live hr hr (fun _ _ => rfl) hz) hw hs ⟨hu, fun _ _ => rfl⟩)
      · exact h.elim
    | region id ops draw =>
      refine leafs .leaf (.region id ops draw) e dec H Q Q' a w U ?_ hr hd hw hs hu hU hpay
      cases draw <;> exact h
    | skip => exact leafs .leaf _ e dec H Q Q' a w U h hr hd hw hs hu hU hpay
    | exit id => exact leafs .leaf _ e dec H Q Q' a w U h hr hd hw hs hu hU hpay
    | goto id => exact leafs .leaf _ e dec H Q Q' a w U h hr hd hw hs hu hU hpay
    | ret => exact leafs .leaf _ e dec H Q Q' a w U h hr hd hw hs hu hU hpay
    | _ => exact h.elim
  | one p ih =>
    intro c e dec H Q Q' a w U h hr hd hw hs hu hU hpay
    cases c with
    | block id c =>
      refine wp_block (ih c e dec H _ _ a w U h hr hd hw hs hu hU ?_)
      intro ex e' dec' H' a' w' hq hr' hd' hw' hs' hu'
      cases ex with
      | normal => exact hpay .normal _ _ _ _ _ hq hr' hd' hw' hs' hu'
      | ret => exact hpay .ret _ _ _ _ _ hq hr' hd' hw' hs' hu'
      | goto id => exact hpay (.goto id) _ _ _ _ _ hq hr' hd' hw' hs' hu'
      | exit id' =>
        simp only [Post.block] at hq
        simp only [Ex.real, Exit.inBlock]
        cases hb : Nat.beq id' id with
        | true =>
          rw [hb] at hq
          rw [if_pos (Nat.eq_of_beq_eq_true hb)]
          exact hpay .normal _ _ _ _ _ hq hr' hd' hw' hs' hu'
        | false =>
          rw [hb] at hq
          rw [if_neg (fun he => by rw [he, Nat.beq_refl] at hb; cases hb)]
          exact hpay (.exit id') _ _ _ _ _ hq hr' hd' hw' hs' hu'
    | region id ops draw =>
      refine leafs .leaf (.region id ops draw) e dec H Q Q' a w U ?_ hr hd hw hs hu hU hpay
      cases draw <;> exact h
    | skip => exact leafs .leaf _ e dec H Q Q' a w U h hr hd hw hs hu hU hpay
    | exit id => exact leafs .leaf _ e dec H Q Q' a w U h hr hd hw hs hu hU hpay
    | goto id => exact leafs .leaf _ e dec H Q Q' a w U h hr hd hw hs hu hU hpay
    | ret => exact leafs .leaf _ e dec H Q Q' a w U h hr hd hw hs hu hU hpay
    | _ => exact h.elim
  | two pa pb iha ihb =>
    intro c e dec H Q Q' a w U h hr hd hw hs hu hU hpay
    cases c with
    | seq x y =>
      have hUx : ∀ o ∈ opsOf x, ∀ a v, U a → U (a.put o.dst v) := fun o ho => hU o (List.mem_append_left _ ho)
      have hUy : ∀ o ∈ opsOf y, ∀ a v, U a → U (a.put o.dst v) := fun o ho => hU o (List.mem_append_right _ ho)
      refine wp_seq (iha x e dec H _ _ a w U h hr hd hw hs hu hUx ?_)
      intro ex e' dec' H' a' w' hq hr' hd' hw' hs' hu'
      cases ex with
      | normal => exact ihb y e' dec' H' Q Q' a' w' U hq hr' hd' hw' hs' hu' hUy hpay
      | ret => exact hpay .ret _ _ _ _ _ hq hr' hd' hw' hs' hu'
      | goto id => exact hpay (.goto id) _ _ _ _ _ hq hr' hd' hw' hs' hu'
      | exit id' => exact hpay (.exit id') _ _ _ _ _ hq hr' hd' hw' hs' hu'
    | cond x t f =>
      have hUx : ∀ o ∈ opsOf t, ∀ a v, U a → U (a.put o.dst v) := fun o ho => hU o (List.mem_append_left _ ho)
      have hUy : ∀ o ∈ opsOf f, ∀ a v, U a → U (a.put o.dst v) := fun o ho => hU o (List.mem_append_right _ ho)
      unfold vc at h
      split at h
      · rename_i hc
        exact wp_cond_true (decd_ok hd hc) (iha t e dec H Q Q' a w U h hr hd hw hs hu hUx hpay)
      · rename_i hc
        exact wp_cond_false (decd_ok hd hc) (ihb f e dec H Q Q' a w U h hr hd hw hs hu hUy hpay)
      · split at h
        · rename_i s _
          split at h
          · rename_i b hb
            have hv := hr.val s _ hb
            have hev : a.eval (.tmp s) = .bool b := hr.ev (x := .tmp s) hb
            cases b with
            | true => exact wp_cond_true hev (iha t _ _ H Q Q' a w U (h.1 rfl) (hr.cons hv) (hd.cons hv) hw hs hu hUx hpay)
            | false => exact wp_cond_false hev (ihb f _ _ H Q Q' a w U (h.2 rfl) (hr.cons hv) (hd.cons hv) hw hs hu hUy hpay)
          · exact h.elim
        · exact h.elim
    | region id ops draw =>
      refine leafs .leaf (.region id ops draw) e dec H Q Q' a w U ?_ hr hd hw hs hu hU hpay
      cases draw <;> exact h
    | skip => exact leafs .leaf _ e dec H Q Q' a w U h hr hd hw hs hu hU hpay
    | exit id => exact leafs .leaf _ e dec H Q Q' a w U h hr hd hw hs hu hU hpay
    | goto id => exact leafs .leaf _ e dec H Q Q' a w U h hr hd hw hs hu hU hpay
    | ret => exact leafs .leaf _ e dec H Q Q' a w U h hr hd hw hs hu hU hpay
    | _ => exact h.elim

  | scope live keep pa pb iha ihb =>
    intro c e dec H Q Q' a w U h hr hd hw hs hu hU hpay
    -- the label's rounds
    have rounds : ∀ (c y : Code) (l : Nat) (e : Env) (dec : Dec) (H : Heap) (a : Act) (w : World), findLabel c l = some (.seq .skip y) → (∀ o ∈ opsOf y, ∀ a v, U a → U (a.put o.dst v)) → keepOk keep (opsOf y) = true → Rep n e a → w.heap = H → Same w0 w → U a →
        (∀ X : List Value → Heap → Prop, (allT T live fun vs => ∀ H', vc P T n pb y (zipE live vs ++ keepE e keep) [] H' (Q.jump l fun e' _ H'' => getV e' live fun vs' => X vs' H'') → X vs H') → getV e live fun vs => X vs H) →
        y.wp P (Exit.jump l (SW P c (.seq .skip y) Q') Q') a w := by
      intro c y l e dec H a w hf hU hkeep hr hw hs hu h
      have hko := keepOk_ok hkeep
      have h := h (fun vs H' => ∀ a' w', Rep n (zipE live vs ++ keepE e keep) a' → w'.heap = H' → Same w0 w' → (U a' ∧ Kept keep a a') → y.wp P (Exit.jump l (SW P c (.seq .skip y) Q') Q') a' w')
        (allT_true fun vs H' hv a' w' hr' hw' hs' hu' => by
          refine ihb y _ _ H' _ _ a' w' (fun a'' => U a'' ∧ Kept keep a a'') hv hr' (DecOk.nil _) hw' hs' hu' (fun o ho a v hua => ⟨hU o ho a v hua.1, hua.2.put (hko o ho) v⟩) ?_
          intro ex e2 dec2 H2 a2 w2 hq hr2 hd2 hw2 hs2 hu2
          cases ex with
          | normal => exact hpay _ _ _ _ _ _ hq hr2 hd2 hw2 hs2 hu2.1
          | exit id => exact hpay _ _ _ _ _ _ hq hr2 hd2 hw2 hs2 hu2.1
          | ret => exact hpay _ _ _ _ _ _ hq hr2 hd2 hw2 hs2 hu2.1
          | goto l' =>
            simp only [Post.jump] at hq
            cases hb : Nat.beq l' l with
            | false => rw [hb] at hq; exact hq.elim
            | true =>
              rw [hb] at hq
              obtain ⟨vs', hX, hz⟩ := getV_get hq
              refine ⟨Nat.eq_of_beq_eq_true hb, SW.round hf (wp_seq (wp_skip ?_))⟩
              exact hX a2 w2 (rep_live hr2 hr hu2.2 hz) hw2 hs2 hu2)
      obtain ⟨vs, hX, hz⟩ := getV_get h
      exact hX a w (rep_live hr hr (fun _ _ => rfl) hz) hw hs ⟨hu, fun _ _ => rfl⟩
    cases c with
    | scope c =>
      cases c with
      | seq x y =>
        cases x with
        | label l =>
          unfold vc at h
          split at h
          · rename_i hkeep
            refine SW.scope (l := l) (rest := .seq .skip y) (by simp [findLabel]) (wp_seq (wp_label ?_))
            exact rounds _ y l e dec H a w (by simp [findLabel]) (fun o ho => hU o (by simpa [opsOf] using ho)) hkeep hr hw hs hu h
          · exact h.elim
        | _ =>
          cases y with
          | seq x2 y =>
            cases x2 with
            | label l =>
              unfold vc at h
              split at h
              · rename_i hkeep hfl
                refine SW.scope (l := l) (rest := .seq .skip y) (by rw [findLabel, hfl]; simp [findLabel]) (wp_seq ?_)
                refine iha _ e dec H _ _ a w U h hr hd hw hs hu (fun o ho => hU o (List.mem_append_left _ ho)) ?_
                intro ex e' dec' H' a' w' hq hr' hd' hw' hs' hu'
                cases ex with
                | normal => exact wp_seq (wp_label (rounds _ y l e' dec' H' a' w' (by rw [findLabel, hfl]; simp [findLabel]) (fun o ho => hU o (List.mem_append_right _ (by simpa [opsOf] using ho))) hkeep hr' hw' hs' hu' hq))
                | exit id => exact hpay _ _ _ _ _ _ hq hr' hd' hw' hs' hu'
                | ret => exact hpay _ _ _ _ _ _ hq hr' hd' hw' hs' hu'
                | goto id => exact hq.elim
              · exact h.elim
            | _ => exact h.elim
          | _ => exact h.elim
      | _ => exact h.elim
    | region id ops draw =>
      refine leafs .leaf (.region id ops draw) e dec H Q Q' a w U ?_ hr hd hw hs hu hU hpay
      cases draw <;> exact h
    | skip => exact leafs .leaf _ e dec H Q Q' a w U h hr hd hw hs hu hU hpay
    | exit id => exact leafs .leaf _ e dec H Q Q' a w U h hr hd hw hs hu hU hpay
    | goto id => exact leafs .leaf _ e dec H Q Q' a w U h hr hd hw hs hu hU hpay
    | ret => exact leafs .leaf _ e dec H Q Q' a w U h hr hd hw hs hu hU hpay
    | _ => exact h.elim

/-! ### functions -/

def argE : Nat → List Value → Env
  | _, [] => []
  | i, v :: r => (i, v) :: argE (i + 1) r

/-- What a function hands back. -/
def resQ (T : Tab) (e : Env) (H : Heap) : List ResultVar → (List Value → Prop) → Prop
  | [], f => f []
  | .tmp t :: r, f => match look e t with
    | some v => resQ T e H r fun l => f (v :: l)
    | none => False
  | .cell t ty :: r, f => match look e t with
    | some (.pointer (some a)) => withT T ty fun i => ld i H a fun v => resQ T e H r fun l => f (v :: l)
    | _ => False

def retV : List Value → Value
  | [v] => v
  | l => .tuple l.toArray

/-- A function's body, over heaps. -/
def vcFun (P : Program) (T : Tab) (fn : Func) (p : Plan) (args : List Value) (H : Heap) (R : Value → Heap → Prop) : Prop :=
  match fn.body with
  | some c => match Nat.ble args.length fn.ntmps with
    | true => vc P T fn.ntmps p c (argE 0 args) [] H fun
      | .normal => fun e _ H' => resQ T e H' fn.results.toList fun l => R (retV l) H'
      | .ret => fun e _ H' => resQ T e H' fn.results.toList fun l => R (retV l) H'
      | .exit _ => fun _ _ _ => False
      | .goto _ => fun _ _ _ => False
    | false => False
  | none => False

theorem look_argE : ∀ {args : List Value} {i t : Nat} {v : Value}, look (argE i args) t = some v → i ≤ t ∧ args[t - i]? = some v
  | [], _, _, _, h => by cases h
  | u :: r, i, t, v, h => by
    unfold argE at h
    by_cases hit : i = t
    · subst hit; rw [look_cons_eq] at h; cases h; simp
    · rw [look_cons_ne u _ hit] at h
      obtain ⟨h1, h2⟩ := look_argE h
      refine ⟨by omega, ?_⟩
      have : t - i = (t - (i + 1)) + 1 := by omega
      rw [this, List.getElem?_cons_succ]
      exact h2

theorem resQ_sound {T : Tab} (hT : TabOk P T) {n : Nat} {e : Env} {a : Act} (hr : Rep n e a) (w : World) : ∀ {l : List ResultVar} {f : List Value → Prop}, resQ T e w.heap l f →
    ∃ vs, f vs ∧ (l.mapM fun x => (match x with
      | .tmp t => pure (a.tmps.getD t undef)
      | .cell x t => do loadVar t (← asAddr (a.tmps.getD x undef)) : Sem Value)).run P w = .ok vs w
  | [], f, h => ⟨[], h, rfl⟩
  | .tmp t :: r, f, h => by
    unfold resQ at h
    split at h
    · rename_i v hv
      obtain ⟨vs, hf, hrun⟩ := resQ_sound hT hr w h
      refine ⟨_, hf, ?_⟩
      have h1 : a.tmps.getD t undef = v := hr.ev (x := .tmp t) hv
      rw [List.mapM_cons]
      simp only [h1, Sem.run_bind, Sem.run_pure, Result.andThen_ok, hrun]
    · exact h.elim
  | .cell t ty :: r, f, h => by
    unfold resQ at h
    split at h
    · rename_i ad hv
      have hq := withT_get h; clear h; obtain ⟨i, hi, h⟩ := hq
      obtain ⟨v, h, hld⟩ := ld_sound (hT.get hi) h
      obtain ⟨vs, hf, hrun⟩ := resQ_sound hT hr w h
      refine ⟨_, hf, ?_⟩
      have h1 : a.tmps.getD t undef = .pointer (some ad) := hr.ev (x := .tmp t) hv
      have h2 : (asAddr (a.tmps.getD t undef)).run P w = .ok ad w := by rw [h1]; rfl
      rw [List.mapM_cons]
      simp only [Sem.run_bind, h2, Sem.run_pure, Result.andThen_ok, hld w (Ext.refl _)]
      rw [hrun]
      rfl
    · exact h.elim

theorem results_run {T : Tab} (hT : TabOk P T) {n : Nat} {fn : Func} {e : Env} {a : Act} (hr : Rep n e a) (w : World) {f : List Value → Prop} (h : resQ T e w.heap fn.results.toList f) :
    ∃ vs, f vs ∧ (results fn a.tmps).run P w = .ok (retV vs) w := by
  obtain ⟨vs, hf, hrun⟩ := resQ_sound (P := P) hT hr w h
  refine ⟨vs, hf, ?_⟩
  unfold results
  rw [Array.mapM_eq_mapM_toList]
  simp only [Sem.run_bind, Sem.run_map]
  have : ∀ g : ResultVar → Sem Value, (∀ x, g x = (match x with
      | .tmp t => pure (a.tmps.getD t undef)
      | .cell x t => do loadVar t (← asAddr (a.tmps.getD x undef)) : Sem Value)) → (fn.results.toList.mapM g).run P w = .ok vs w := by
    intro g hg
    have : g = _ := funext hg
    rw [this]
    exact hrun
  rw [this _ (fun x => by cases x <;> rfl)]
  simp only [Result.andThen_ok, Sem.run_pure]
  match vs with
  | [] => rfl
  | [v] => rfl
  | v :: u :: r => simp [retV]

/-- WHAT IS SAID OF A FUNCTION's BODY IS SAID OF ITS CALL. -/
theorem vcFun_sound {T : Tab} (hT : TabOk P T) (hm : P.follows .mixedOrders = true) {g : FuncId} {fn : Func} (hg : P.funcs[g]? = some fn) (hc : callable P g) {p : Plan} {args : List Value} {H : Heap}
    {R : Value → Heap → Prop} (h : vcFun P T fn p args H R) : CallsH P g args.toArray H R := by
  refine ⟨hc, fun w hw => ?_⟩
  unfold vcFun at h
  split at h
  · rename_i c hb
    split at h
    · rename_i hlen
      have hlen' : args.length ≤ fn.ntmps := Nat.le_of_ble_eq_true hlen
      refine calls_of_wp hg hb ?_
      refine vc_sound hT hm w p c _ _ H _ _ _ w (fun _ => True) h ⟨by simp; omega, rfl, fun t v hv => ?_⟩ (DecOk.nil _) hw (Same.refl w) trivial (fun _ _ _ _ _ => trivial) ?_
      · obtain ⟨_, h2⟩ := look_argE hv
        simp only [Nat.sub_zero] at h2
        have hlt : t < args.length := (List.getElem?_eq_some_iff.1 h2).1
        rw [Array.getElem?_append_left (by simpa using hlt)]
        simpa using h2
      · intro ex e dec H' a' w' hq hr' hd' hw' hs' _
        have fin : resQ T e w'.heap fn.results.toList (fun l => R (retV l) H') → a'.defers = [] ∧ ∃ v, (results fn a'.tmps).run P w' = .ok v w' ∧ ∃ u, Ending.returned v = .returned u ∧ w'.os = w.os ∧ Out w w' ∧ R u w'.heap := by
          intro hres
          obtain ⟨vs, hf, hrun⟩ := results_run hT hr' w' hres
          exact ⟨hr'.defers, _, hrun, _, rfl, hs'.os, hs'.output, hw' ▸ hf⟩
        cases ex with
        | normal => exact fin (hw' ▸ hq)
        | ret => exact fin (hw' ▸ hq)
        | exit id => exact hq.elim
        | goto id => exact hq.elim
    · exact h.elim
  · exact h.elim

end Go.Sh
