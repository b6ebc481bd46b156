/-
  OWN WORK. Steps on planes, whatever they come to; the operations' slice.
-/
import Derived.Test.YtcbnifopfdgniaaTileFills
set_option linter.unusedVariables false
set_option linter.unusedSimpArgs false
namespace Go.Proofs
open Go.Sh Go.Tile

/-- A step on the plane number k leaves what is seen of all others. -/
def Beside (k : Nat) (s s' : St) : Prop := ∃ f, Views s s' f ∧ ∀ j X Y v, j ≠ k → f j X Y v = v

theorem Beside.refl (k : Nat) (s : St) : Beside k s s := ⟨_, Views.refl s, fun _ _ _ _ _ => rfl⟩
theorem Beside.trans {k : Nat} {a b c : St} : Beside k a b → Beside k b c → Beside k a c
  | ⟨_, h1, h2⟩, ⟨_, h3, h4⟩ => ⟨_, h1.trans h3, fun j X Y v hj => by rw [h4 j X Y _ hj, h2 j X Y v hj]⟩
theorem Beside.A {k : Nat} {s s' : St} : Beside k s s' → s'.A = s.A
  | ⟨_, h, _⟩ => h.A
theorem Beside.len {k : Nat} {s s' : St} : Beside k s s' → s'.pls.length = s.pls.length
  | ⟨_, h, _⟩ => h.len
theorem Beside.ptrs {k : Nat} {s s' : St} : Beside k s s' → ptrs s' = ptrs s
  | ⟨_, h, _⟩ => ptrs_views h
theorem Beside.like {k : Nat} {s s' : St} (h : Beside k s s') {j : Nat} {q : Pl} (hq : s.pls[j]? = some q) : ∃ q', s'.pls[j]? = some q' ∧ Like q q' ∧ (j ≠ k → ∀ X Y, pxAt s' q' X Y = pxAt s q X Y) := by
  obtain ⟨f, hv, hf⟩ := h
  obtain ⟨q', h1, h2, h3⟩ := hv.pl j q hq
  exact ⟨q', h1, h2, fun hj X Y => by rw [h3, hf j X Y _ hj]⟩

theorem c12g {cap : Int} {H : Heap} {s : St} (hin : In H s) (hok : Ok cap s) {k : Nat} {p : Pl} (hk : s.pls[k]? = some p) (x y v : Int) {R : Value → Heap → Prop}
    (h : ∀ H' s' r, Goes cap H s H' s' → Beside k s s' → R (.int .i64 r) H') : CallsH Try.prog 12 #[.pointer (some ⟨p.b, 0, none⟩), .int .i64 x, .int .i64 y, .int .i64 v] H R := by
  have st : ∀ r H', Ext H H' → R (.int .i64 r) H' := fun r H' e => h H' s r (Goes.of_ext hin hok e) (Beside.refl k s)
  refine c12 hin hok hk x y v (fun _ H' e => st _ H' e) (fun _ _ H' e => st _ H' e) (fun _ _ _ H' e => st _ H' e) (fun _ _ _ _ _ H' e => st _ H' e) (fun hh _ _ H' s' hg hw => h H' s' _ hg ⟨_, wrote_views hok hk hh hw, fun j X Y w hj => ?_⟩)
  unfold put1
  rw [if_neg (fun hc => hj hc.1)]

theorem c13g {cap : Int} {H : Heap} {s : St} (hin : In H s) (hok : Ok cap s) {k : Nat} {p : Pl} (hk : s.pls[k]? = some p) {x y w h v : Int} (bx : -9223372036854775808 ≤ x ∧ x ≤ 9223372036854775807)
    (by_ : -9223372036854775808 ≤ y ∧ y ≤ 9223372036854775807) (bw : -9223372036854775808 ≤ w ∧ w ≤ 9223372036854775807) (bh : -9223372036854775808 ≤ h ∧ h ≤ 9223372036854775807) {R : Value → Heap → Prop}
    (hR : ∀ H' s' r, Goes cap H s H' s' → Beside k s s' → R (.int .i64 r) H') : CallsH Try.prog 13 #[.pointer (some ⟨p.b, 0, none⟩), .int .i64 x, .int .i64 y, .int .i64 w, .int .i64 h, .int .i64 v] H R := by
  have st : ∀ r H', Ext H H' → R (.int .i64 r) H' := fun r H' e => hR H' s r (Goes.of_ext hin hok e) (Beside.refl k s)
  refine c13 hin hok hk bx.1 bx.2 by_.1 by_.2 bw.1 bw.2 bh.1 bh.2 (fun _ H' e => st _ H' e) (fun hv cs _ => ⟨fun _ H' e => st _ H' e, fun _ H' s' hg hp => ?_⟩)
  obtain ⟨p', pt⟩ := painted hv hp hok hk
  refine hR H' s' _ hg ⟨_, pt.views, fun j X Y w hj => ?_⟩
  unfold putAll
  rw [if_neg (fun hc => hj hc.1)]

/-- An operation's seven numbers. -/
structure OpV where
  kd : Int
  n : Int
  x : Int
  y : Int
  w : Int
  h : Int
  v : Int

def OpV.cells (o : OpV) : Array Value := #[.int .i64 o.kd, .int .i64 o.n, .int .i64 o.x, .int .i64 o.y, .int .i64 o.w, .int .i64 o.h, .int .i64 o.v]

def i64 (a : Int) : Prop := -9223372036854775808 ≤ a ∧ a ≤ 9223372036854775807

def OpV.ok (o : OpV) : Prop := i64 o.n ∧ i64 o.x ∧ i64 o.y ∧ i64 o.w ∧ i64 o.h

/-- A slice of operations. -/
def OpsIn (H : Heap) (p : Option Addr) (l : Nat) : Prop := ∀ i : Nat, i < l → ∃ a, p = some a ∧ ∃ o : OpV, o.ok ∧ rowIn H (a.add (i * 7)) o.cells

theorem OpsIn.ext {H H' : Heap} {p : Option Addr} {l : Nat} (h : OpsIn H p l) (he : Ext H H') : OpsIn H' p l := fun i hi => by
  obtain ⟨a, h1, o, h2, h3⟩ := h i hi
  exact ⟨a, h1, o, h2, fun j v hv => he.cell (h3 j v hv)⟩

theorem c11 {cap : Int} {H : Heap} {s : St} (hin : In H s) (hok : Ok cap s) {k : Nat} {p : Pl} (hk : s.pls[k]? = some p) {o : OpV} (ho : o.ok) {R : Value → Heap → Prop}
    (hR : ∀ H' s', Goes cap H s H' s' → Beside k s s' → R (.tuple #[]) H') : CallsH Try.prog 11 #[.pointer (some ⟨p.b, 0, none⟩), .agg o.cells] H R := by
  refine Try.s11 ?_
  unfold Try.S11 alc
  have e1 : Ext H (H.push (.cells o.cells 31)) := Ext.push _ _
  have hb := get_push_self H (.cells o.cells 31)
  have rd : ∀ {i : Nat} {z : Int}, o.cells[i]? = some (Value.int .i64 z) → cell (H.push (.cells o.cells 31)) (Addr.add ⟨H.size, 0, none⟩ i) = some (Value.int .i64 z) := fun hz => by rw [add_none, Nat.zero_add]; exact cell_get hb hz
  have hin1 := hin.ext e1
  refine ⟨o.kd, rd rfl, br_eq (fun _ => ⟨o.x, rd rfl, o.y, rd rfl, o.v, rd rfl, ?_⟩) (fun _ => ⟨o.x, rd rfl, o.y, rd rfl, o.w, rd rfl, o.h, rd rfl, o.v, rd rfl, ?_⟩)⟩
  · exact c12g hin1 hok hk _ _ _ fun H' s' r hg hb => ⟨r, rfl, hR H' s' ((Goes.of_ext hin hok e1).trans hg) hb⟩
  · exact c13g hin1 hok hk ho.2.1 ho.2.2.1 ho.2.2.2.1 ho.2.2.2.2 fun H' s' r hg hb => ⟨r, rfl, hR H' s' ((Goes.of_ext hin hok e1).trans hg) hb⟩

/-- The operation's copy: what a round reads. -/
theorem copy_op {H : Heap} {z : Array Value} {o : OpV} {f : Heap → Prop} (hz : z.size = 7) (h : ∀ H', Ext H H' → H'[H.size]? = some (.cells o.cells 31) → f H') :
    stAt (H.push (.cells z 31)) ⟨H.size, 0, none⟩ (Array.toList o.cells) f := by
  refine stAt_whole (get_push_self _ _) (by simp [OpV.cells, hz]) (by simp [OpV.cells, Value.oneCell']) ?_
  refine h _ (fun b u hb => get_set_ne (Nat.ne_of_gt (lt_of_get hb)) (get_push hb)) (get_set_self (get_push_self _ _))

end Go.Proofs
