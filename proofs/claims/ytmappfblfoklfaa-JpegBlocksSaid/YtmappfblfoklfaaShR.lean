/-
  OWN WORK. The shallow layer, part 11: calls; an operation of whatever kind; regions.
-/
import Derived.Test.YtmappfblfoklfaaShEv
import Derived.OrdersHeld
set_option linter.unusedSimpArgs false
set_option linter.unusedVariables false
namespace Go.Sh

/-! ### calls -/

/-- A function that has a body. -/
def callable (P : Program) (g : FuncId) : Prop := ∃ fn, P.funcs[g]? = some fn ∧ (fn.name == "runtime.NumGoroutine") = false ∧ fn.body.isNone = false

/-- A CALL, over heaps: it returns, and what it returns, with the heap behind it, meets R; nothing is printed, the outside stays. -/
def CallsH (P : Program) (g : FuncId) (args : Array Value) (H : Heap) (R : Value → Heap → Prop) : Prop :=
  callable P g ∧ ∀ w : World, w.heap = H → Calls P g args w fun e w' => ∃ v, e = .returned v ∧ w'.os = w.os ∧ Out w w' ∧ R v w'.heap

theorem CallsH.mono {P : Program} {g : FuncId} {args : Array Value} {H : Heap} {R R' : Value → Heap → Prop} (h : CallsH P g args H R) (hr : ∀ v H', R v H' → R' v H') : CallsH P g args H R' :=
  ⟨h.1, fun w hw => (h.2 w hw).mono fun _ _ ⟨v, h1, h2, h3, h4⟩ => ⟨v, h1, h2, h3, hr _ _ h4⟩⟩

def exTs (T : Tab) : List TypeId → (List Value → Prop) → Prop
  | [], f => f []
  | t :: r, f => withT T t fun i => exT i fun v => exTs T r fun l => f (v :: l)

/-- A result of a type's form. -/
def exR (T : Tab) (t : TypeId) (v : Value) (f : Value → Prop) : Prop :=
  withT T t fun i => match i.d with
    | .tuple ts => exTs T ts fun l => v = .tuple l.toArray ∧ f (.tuple l.toArray)
    | _ => exT i fun u => v = u ∧ f u

theorem exTs_get {T : Tab} : ∀ {ts : List TypeId} {f : List Value → Prop}, exTs T ts f → ∃ l, f l
  | [], _, h => ⟨[], h⟩
  | t :: r, f, h => by
    obtain ⟨i, _, h⟩ := withT_get h
    obtain ⟨v, h⟩ := exT_get h
    obtain ⟨l, h⟩ := exTs_get h
    exact ⟨_, h⟩

theorem exR_get {T : Tab} {t : TypeId} {v : Value} {f : Value → Prop} (h : exR T t v f) : f v := by
  unfold exR at h
  have hq := withT_get h; clear h; obtain ⟨i, hi, h⟩ := hq
  split at h
  · obtain ⟨l, rfl, hf⟩ := exTs_get h; exact hf
  · obtain ⟨u, rfl, hf⟩ := exT_get h; exact hf

/-! ### one operation -/

def quietOp (o : Oper) : Bool :=
  match o.op with
  | .move _ | .assign _ | .pick _ _ _ | .load _ _ | .nilCheck _ | .binOp _ _ _ _ _ | .unOp _ _ _ | .convert _ _ _ | .slice _ _ _ _ _ | .fieldAddr _ _ _ | .field _ _ _ | .indexAddr _ _ _ | .index _ _ _
  | .extract _ _ | .makeFunc _ _ _ | .build _ _ | .lookup _ _ _ _ | .entry _ => true
  | .call { callee := .builtin .len, .. } | .call { callee := .builtin .cap, .. } | .call { callee := .builtin .max, .. } | .call { callee := .builtin .min, .. } => true
  | _ => false

def vcCall (P : Program) (T : Tab) (e : Env) (f : Operand) (args : Array Operand) (ty : TypeId) (H : Heap) (K : Value → Heap → Prop) : Prop :=
  wv e f fun
    | .func (.func g) x y => wvs e args.toList fun vs => CallsH P g (x.toList ++ vs ++ y.toList).toArray H fun v H' => exR T ty v fun u => K u H'
    | _ => False

def vcOne (ht : TypeId × TypeId) (P : Program) (T : Tab) (e : Env) (dec : Dec) (o : Oper) (H : Heap) (K : Value → Heap → Prop) : Prop :=
  match quietOp o with
  | true => vcQ2 ht T e dec o H fun v => K v H
  | false => match o.op with
    | .call { callee := .value f, args, .. } => vcCall P T e f args o.type H K
    | _ => vcE T e o H K

/-- What an operation comes to, of whatever kind. -/
def Does (P : Program) (a : Act) (o : Oper) (w : World) (K : Value → Heap → Prop) : Prop :=
  ∀ (next : Act → World → Prop) (Q : Exit → Act → World → Prop), (∀ v w', w'.os = w.os → Out w w' → K v w'.heap → next (a.put o.dst v) w') → o.wp P a w next Q

theorem Does.of_ends {P : Program} {a : Act} {o : Oper} {w : World} {K : Value → Heap → Prop} (h : Ends P (execOp a.eval o) w K) : Does P a o w K := by
  intro next Q hn
  obtain ⟨v, nx, w', hrun, hv, h1, h2, h3⟩ := h
  unfold Oper.wp
  rw [hrun]
  rcases hv with rfl | ⟨rfl, rfl⟩
  · exact hn v w' h1 h2 h3
  · exact hn undef w' h1 h2 h3

theorem vcOne_sound {ht : TypeId × TypeId} {P : Program} {T : Tab} (hT : TabOk P T) {e : Env} {dec : Dec} {n : Nat} {a : Act} (hr : Rep n e a) (hd : DecOk dec a) {o : Oper} {H : Heap} {K : Value → Heap → Prop}
    (h : vcOne ht P T e dec o H K) (w : World) (hw : w.heap = H) : Does P a o w K := by
  unfold vcOne at h
  split at h
  · obtain ⟨v, hf, hrun⟩ := vcQ2_sound hT hr hd h
    refine Does.of_ends ⟨v, .value v, w, hrun w (hw ▸ Ext.refl _), .inl rfl, rfl, Out.refl w, hw ▸ hf⟩
  · split at h
    · rename_i f args ats hop
      unfold vcCall at h
      have hq := wv_get h; clear h; obtain ⟨vf, hf, h⟩ := hq
      split at h
      · rename_i g x y
        have hq := wvs_get _ h; clear h; obtain ⟨vs, h, hv⟩ := hq
        have e1 : args.map a.eval = vs.toArray := by rw [← hv n a hr]; exact (map_toArr _ _)
        obtain ⟨⟨fn, hfn, hname, hbody⟩, hc⟩ := h
        intro next Q hn
        have ex : (x.toList ++ vs ++ y.toList).toArray = x ++ vs.toArray ++ y := by simp
        rw [ex] at hc
        have hrun : (execOp a.eval o).run P w = .ok (.enter g (x ++ vs.toArray ++ y)) w := by
          have h1 : ¬ fn.name = "runtime.NumGoroutine" := by simpa using hname
          have h2 : ¬ fn.body = none := by intro h; rw [h] at hbody; cases hbody
          simp [execOp, hop, resolve, hr.ev hf, Deferred.ofValue, invoke, callFunc, e1, hfn, h1, h2]
        unfold Oper.wp
        rw [hrun]
        refine (hc w hw).mono ?_
        rintro e' w' ⟨v, rfl, h1, h2, h3⟩
        exact hn v w' h1 h2 (exR_get h3)
      · exact h.elim
    · exact Does.of_ends (vcE_sound hT hr h w hw)

/-! ### what is known of bools -/

def decOf (dec : Dec) (o : Oper) : Option Bool :=
  match o.op with
  | .move x => decd dec x
  | .assign x => decd dec x
  | .pick c a b => match decd dec c with
    | some true => decd dec a
    | some false => decd dec b
    | none => none
  | .unOp .not _ x => match decd dec x with
    | some b => some (!b)
    | none => none
  | _ => none

def putD (dec : Dec) (dst : Option Tmp) (b : Option Bool) : Dec :=
  match dst with
  | some d => (d, b) :: dec
  | none => dec

def putE (e : Env) (dst : Option Tmp) (v : Value) : Env :=
  match dst with
  | some d => (d, v) :: e
  | none => e

def slotOk (n : Nat) (dst : Option Tmp) : Bool :=
  match dst with
  | some d => Nat.blt d n
  | none => true

theorem DecOk.put {n : Nat} {dec : Dec} {a : Act} (h : DecOk dec a) (hs : a.tmps.size = n) {dst : Option Tmp} (hd : slotOk n dst = true) {v : Value} {b : Option Bool} (hb : ∀ t, b = some t → v = .bool t) :
    DecOk (putD dec dst b) (a.put dst v) := by
  cases dst with
  | none => exact h
  | some d =>
    have hdn : d < n := Nat.le_of_ble_eq_true hd
    intro t u hu
    simp only [putD, lookB] at hu
    simp only [Act.put]
    cases hdt : Nat.beq d t with
    | true =>
      rw [hdt] at hu
      have := Nat.eq_of_beq_eq_true hdt
      subst this
      rw [Array.getElem?_setIfInBounds_self_of_lt (by rw [hs]; exact hdn), hb u hu]
    | false =>
      rw [hdt] at hu
      have hne : d ≠ t := fun he => by rw [he, Nat.beq_refl] at hdt; cases hdt
      rw [Array.getElem?_setIfInBounds_ne hne]
      exact h t u hu

theorem Rep.putE {n : Nat} {e : Env} {a : Act} (h : Rep n e a) {dst : Option Tmp} (hd : slotOk n dst = true) (v : Value) : Rep n (Sh.putE e dst v) (a.put dst v) := by
  cases dst with
  | none => exact h
  | some d => exact h.put v (Nat.le_of_ble_eq_true hd)

theorem decOf_ok {P : Program} {dec : Dec} {a : Act} (h : DecOk dec a) {o : Oper} {b : Bool} (hb : decOf dec o = some b) (w : World) : (execOp a.eval o).run P w = .ok (.value (.bool b)) w := by
  unfold decOf at hb
  split at hb
  · rename_i hop; simp [execOp, hop, decd_ok h hb]
  · rename_i hop; simp [execOp, hop, decd_ok h hb]
  · rename_i c x y hop
    split at hb
    · rename_i hc; simp [execOp, hop, decd_ok h hc, asBool, decd_ok h hb]
    · rename_i hc; simp [execOp, hop, decd_ok h hc, asBool, decd_ok h hb]
    · cases hb
  · rename_i x hop
    split at hb
    · rename_i b' hx
      cases hb
      simp [execOp, hop, decd_ok h hx, Op.unary]
    · cases hb
  · cases hb

/-! ### guards -/

inductive Gd where
  | run | skip | split (s : Nat) (t want : Bool) | bad

/-- Is an operation carried out? 'dst': of the operations of its region. -/
def gdOf (ops : Array Oper) (e : Env) (dec : Dec) (o : Oper) : Gd :=
  match o.guard with
  | none => .run
  | some (j, want) => match ops[j]? with
    | some oj => match oj.dst with
      | some s => match lookB dec s with
        | some b => match b, want with
          | true, true => .run
          | false, false => .run
          | _, _ => .skip
        | none => match look e s with
          | some (.bool t) => .split s t want
          | some (.tuple _) => .skip
          | _ => .bad
      | none => .bad
    | none => .bad

theorem wanted_run {ops : Array Oper} {n : Nat} {e : Env} {dec : Dec} {a : Act} (hr : Rep n e a) (hd : DecOk dec a) {o : Oper} (h : gdOf ops e dec o = .run) : Region.wanted o (yielded ops a.tmps) = true := by
  unfold gdOf at h
  unfold Region.wanted
  split at h
  · rename_i hg; rw [hg]
  · rename_i j want hg
    rw [hg]
    split at h
    · rename_i oj hoj
      split at h
      · rename_i s hs
        split at h
        · rename_i b hb
          have hv := hd s b hb
          have hy : yielded ops a.tmps j = some b := by simp [yielded, hoj, hs, hv]
          split at h
          · simp [hy]
          · simp [hy]
          · cases h
        · split at h <;> cases h
      · cases h
    · cases h

theorem wanted_skip {ops : Array Oper} {n : Nat} {e : Env} {dec : Dec} {a : Act} (hr : Rep n e a) (hd : DecOk dec a) {o : Oper} (h : gdOf ops e dec o = .skip) : Region.wanted o (yielded ops a.tmps) = false := by
  unfold gdOf at h
  unfold Region.wanted
  split at h
  · cases h
  · rename_i j want hg
    rw [hg]
    split at h
    · rename_i oj hoj
      split at h
      · rename_i s hs
        split at h
        · rename_i b hb
          have hv := hd s b hb
          have hy : yielded ops a.tmps j = some b := by simp [yielded, hoj, hs, hv]
          split at h
          · cases h
          · cases h
          · rename_i h1 h2
            simp only [hy]
            cases b <;> cases want <;> simp_all
        · split at h
          · cases h
          · rename_i vs hv
            have hv' := hr.val s _ hv
            have hy : yielded ops a.tmps j = none := by simp [yielded, hoj, hs, hv']
            simp [hy]
          · cases h
      · cases h
    · cases h

theorem wanted_split {ops : Array Oper} {n : Nat} {e : Env} {dec : Dec} {a : Act} (hr : Rep n e a) (hd : DecOk dec a) {o : Oper} {s : Nat} {t want : Bool} (h : gdOf ops e dec o = .split s t want) :
    Region.wanted o (yielded ops a.tmps) = (t == want) ∧ a.tmps[s]? = some (.bool t) := by
  unfold gdOf at h
  unfold Region.wanted
  split at h
  · cases h
  · rename_i j want' hg
    rw [hg]
    split at h
    · rename_i oj hoj
      split at h
      · rename_i s' hs
        split at h
        · split at h <;> cases h
        · split at h
          · rename_i t' hv
            cases h
            have hv' := hr.val _ _ hv
            have hy : yielded ops a.tmps j = some t := by simp [yielded, hoj, hs, hv']
            refine ⟨?_, hv'⟩
            simp only [hy]
            cases t <;> cases want <;> rfl
          · cases h
          · cases h
      · cases h
    · cases h

theorem DecOk.cons {dec : Dec} {a : Act} (h : DecOk dec a) {s : Nat} {b : Bool} (hs : a.tmps[s]? = some (.bool b)) : DecOk ((s, some b) :: dec) a := by
  intro t u hu
  simp only [lookB] at hu
  cases hst : Nat.beq s t with
  | true =>
    rw [hst] at hu
    have := Nat.eq_of_beq_eq_true hst
    subst this
    cases hu
    exact hs
  | false => rw [hst] at hu; exact h t u hu

theorem Rep.cons {n : Nat} {e : Env} {a : Act} (h : Rep n e a) {s : Nat} {v : Value} (hs : a.tmps[s]? = some v) : Rep n ((s, v) :: e) a := by
  refine ⟨h.size, h.defers, fun t u hu => ?_⟩
  by_cases hst : s = t
  · subst hst; rw [look_cons_eq] at hu; cases hu; exact hs
  · rw [look_cons_ne v e hst] at hu; exact h.val t u hu

/-- A guarded step: what is carried out ('yes'), or passed over ('no'), with what is known then. -/
def gdQ (ops : Array Oper) (e : Env) (dec : Dec) (o : Oper) (yes no : Env → Dec → Prop) : Prop :=
  match gdOf ops e dec o with
  | .run => yes e dec
  | .skip => no e dec
  | .split s t want => match want with
    | true => (t = true → yes ((s, .bool true) :: e) ((s, some true) :: dec)) ∧ (t = false → no ((s, .bool false) :: e) ((s, some false) :: dec))
    | false => (t = true → no ((s, .bool true) :: e) ((s, some true) :: dec)) ∧ (t = false → yes ((s, .bool false) :: e) ((s, some false) :: dec))
  | .bad => False

theorem gdQ_get {ops : Array Oper} {n : Nat} {e : Env} {dec : Dec} {a : Act} (hr : Rep n e a) (hd : DecOk dec a) {o : Oper} {yes no : Env → Dec → Prop} (h : gdQ ops e dec o yes no) :
    ∃ e' dec', Rep n e' a ∧ DecOk dec' a ∧ ((Region.wanted o (yielded ops a.tmps) = true ∧ yes e' dec') ∨ (Region.wanted o (yielded ops a.tmps) = false ∧ no e' dec')) := by
  unfold gdQ at h
  split at h
  · rename_i hg; exact ⟨e, dec, hr, hd, .inl ⟨wanted_run hr hd hg, h⟩⟩
  · rename_i hg; exact ⟨e, dec, hr, hd, .inr ⟨wanted_skip hr hd hg, h⟩⟩
  · rename_i s t want hg
    obtain ⟨hw, hv⟩ := wanted_split hr hd hg
    split at h
    · cases t with
      | true => exact ⟨_, _, hr.cons hv, hd.cons hv, .inl ⟨hw, h.1 rfl⟩⟩
      | false => exact ⟨_, _, hr.cons hv, hd.cons hv, .inr ⟨hw, h.2 rfl⟩⟩
    · cases t with
      | true => exact ⟨_, _, hr.cons hv, hd.cons hv, .inr ⟨hw, h.1 rfl⟩⟩
      | false => exact ⟨_, _, hr.cons hv, hd.cons hv, .inl ⟨hw, h.2 rfl⟩⟩
  · exact h.elim

/-! ### a region in the order of the text -/

/-- The types of a map entry's key and value, off the operations that take them out. -/
def hintOf (d : Option Tmp) (j : Nat) : List Oper → TypeId
  | [] => 0
  | o :: r => match o.op, d with
    | .extract (.tmp s) k, some d => match Nat.beq s d && Nat.beq k j with
      | true => o.type
      | false => hintOf (some d) j r
    | _, _ => hintOf d j r

def vcOps (P : Program) (T : Tab) (n : Nat) (ops : Array Oper) : List Oper → Env → Dec → Heap → (Env → Dec → Heap → Prop) → Prop
  | [], e, dec, H, K => K e dec H
  | o :: r, e, dec, H, K => match slotOk n o.dst with
    | false => False
    | true => gdQ ops e dec o
      (fun e dec => vcOne (hintOf o.dst 0 r, hintOf o.dst 1 r) P T e dec o H fun v H' => vcOps P T n ops r (putE e o.dst v) (putD dec o.dst (decOf dec o)) H' K)
      (fun e dec => vcOps P T n ops r (putE e o.dst undef) (putD dec o.dst none) H K)

/-- The world's outside is as it was. -/
structure Same (w w' : World) : Prop where
  os : w'.os = w.os
  output : Out w w'

theorem Same.refl (w : World) : Same w w := ⟨rfl, Out.refl w⟩
theorem Same.trans {a b c : World} (h : Same a b) (h' : Same b c) : Same a c := ⟨h'.os.trans h.os, h.output.trans h'.output⟩

theorem decOf_val {ht : TypeId × TypeId} {P : Program} {T : Tab} (hT : TabOk P T) {e : Env} {dec : Dec} {n : Nat} {a : Act} (hr : Rep n e a) (hd : DecOk dec a) {o : Oper} {H : Heap} {K : Value → Heap → Prop}
    (h : vcOne ht P T e dec o H K) (w : World) (hw : w.heap = H) : Does P a o w fun v H' => K v H' ∧ ∀ b, decOf dec o = some b → v = .bool b := by
  cases hq : quietOp o with
  | true =>
    unfold vcOne at h
    simp only [hq] at h
    obtain ⟨v, hf, hrun⟩ := vcQ2_sound hT hr hd h
    have hrw := hrun w (hw ▸ Ext.refl _)
    refine Does.of_ends ⟨v, .value v, w, hrw, .inl rfl, rfl, Out.refl w, hw ▸ hf, fun b hb => ?_⟩
    have := decOf_ok (P := P) hd hb w
    rw [hrw] at this
    simpa using this
  | false =>
    have hn : decOf dec o = none := by
      unfold decOf
      unfold quietOp at hq
      split <;> simp_all
    intro next Q hnx
    exact vcOne_sound hT hr hd h w hw next Q fun v w' h1 h2 h3 => hnx v w' h1 h2 ⟨h3, fun b hb => by rw [hn] at hb; cases hb⟩

theorem vcOps_sound {P : Program} {T : Tab} (hT : TabOk P T) {n : Nat} {ops : Array Oper} {Q : Exit → Act → World → Prop} {K : Env → Dec → Heap → Prop} (w0 : World) (U : Act → Prop)
    (hK : ∀ e dec H a w, K e dec H → Rep n e a → DecOk dec a → w.heap = H → Same w0 w → U a → Q .normal a w) :
    ∀ (l : List Oper) (e : Env) (dec : Dec) (H : Heap) (a : Act) (w : World), vcOps P T n ops l e dec H K → Rep n e a → DecOk dec a → w.heap = H → Same w0 w → U a → (∀ o ∈ l, ∀ a v, U a → U (a.put o.dst v)) → wpList P ops Q l a w
  | [], e, dec, H, a, w, h, hr, hd, hw, hs, hu, _ => hK e dec H a w h hr hd hw hs hu
  | o :: r, e, dec, H, a, w, h, hr, hd, hw, hs, hu, hU => by
    unfold vcOps at h
    split at h
    · exact h.elim
    · rename_i hslot
      obtain ⟨e', dec', hr', hd', h⟩ := gdQ_get hr hd h
      unfold wpList
      rcases h with ⟨hwant, h⟩ | ⟨hwant, h⟩
      · rw [if_pos hwant]
        refine .inl (decOf_val hT hr' hd' h w hw _ _ fun v w' h1 h2 h3 => ?_)
        exact vcOps_sound hT w0 U hK r _ _ _ _ w' h3.1 (hr'.putE hslot v) (hd'.put hr'.size hslot h3.2) rfl (hs.trans ⟨h1, h2⟩) (hU o List.mem_cons_self _ _ hu) (fun o' ho' => hU o' (List.mem_cons_of_mem _ ho'))
      · rw [if_neg (by rw [hwant]; exact Bool.false_ne_true)]
        exact vcOps_sound hT w0 U hK r _ _ _ _ w h (hr'.putE hslot undef) (hd'.put hr'.size hslot (fun t ht => by cases ht)) hw hs (hU o List.mem_cons_self _ _ hu) (fun o' ho' => hU o' (List.mem_cons_of_mem _ ho'))

end Go.Sh
