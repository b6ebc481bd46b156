/-
  OWN WORK. The shallow layer, part 6: operations that build, look up, make or write memory.
-/
import Derived.Test.YtmappfblfoklfaaShK
namespace Go.Sh

def setL (cells : List Value) (off : Nat) (l : List Value) : List Value := cells.take off ++ l ++ cells.drop (off + l.length)

/-- A composite's parts laid over its zero cells; N: how many cells there are. -/
def buildQ (N : Nat) (place : Nat → Option (Nat × Nat)) : List Value → List (Nat × Value) → (List Value → Prop) → Prop
  | cells, [], f => f cells
  | cells, (i, v) :: rest, f => match place i with
    | none => False
    | some (off, sz) => match v with
      | .agg cs => cs.size = sz ∧ off + sz ≤ N ∧ buildQ N place (setL cells off cs.toList) rest f
      | v => match Nat.beq sz 1 && Nat.blt off N with
        | true => buildQ N place (cells.set off v) rest f
        | false => False

def placesOf (T : Tab) : List (Nat × TypeId) → Option (List (Nat × Nat))
  | [] => some []
  | (off, t) :: r => match ti T t, placesOf T r with
    | some i, some l => some ((off, i.size) :: l)
    | _, _ => none

def parts (e : Env) : List (Nat × Operand) → (List (Nat × Value) → Prop) → Prop
  | [], f => f []
  | (i, x) :: r, f => wv e x fun v => parts e r fun l => f ((i, v) :: l)

def reps : Nat → List Value → List Value
  | 0, _ => []
  | n + 1, l => l ++ reps n l

/-- What a map gives at a key. -/
def lookV (k : Value) (es : List MapEntry) (zero : Value) : Value :=
  match findE k es 0 with
  | some (_, v) => v
  | none => zero

def lookQ (kd : D) (et : TI) (ek : D) (x k : Value) (ok : Bool) (H : Heap) (f : Value → Prop) : Prop :=
  match x with
  | .map p => ∃ r, p = some r ∧ ∃ es c, H[r]? = some (.map es c) ∧ kForm kd ek k ∧ (∀ e ∈ es.toList, kForm kd ek e.key) ∧
      exT et fun u => lookV k es.toList et.zero = u ∧ f (match ok with | true => .tuple #[u, .bool (findE k es.toList 0).isSome] | false => u)
  | _ => False

/-- With a map's type: key, element, and (of an array as key) the key's element. -/
def withM (T : Tab) (t : TypeId) (f : TI → TI → TI → D → Prop) : Prop :=
  withT T t fun i => match i.d with
    | .map k e => withT T k fun kt => withT T e fun et => match kt.d with
      | .arr _ el => withT T el fun j => match Nat.beq j.size 1 with
        | true => f i kt et j.d
        | false => False
      | _ => f i kt et .other
    | _ => False

/-- A quiet operation. -/
def vcQ2 (ht : TypeId × TypeId) (T : Tab) (e : Env) (dec : Dec) (o : Oper) (H : Heap) (f : Value → Prop) : Prop :=
  match o.op with
  | .build t ps => parts e ps.toList fun l => withT T t fun i => match Nat.beq i.zero.cells.size i.size with
   | false => False
   | true => match i.d with
    | .struct fs => match placesOf T fs with
      | some pl => buildQ i.size (fun j => pl[j]?) i.zero.cells.toList l fun cs => f (.agg cs.toArray)
      | none => False
    | .arr _ el => withT T el fun j => buildQ i.size (fun k => some (k * j.size, j.size)) i.zero.cells.toList l fun cs => f (.agg cs.toArray)
    | _ => False
  | .lookup t m k ok => wv e m fun vm => wv e k fun vk => withM T t fun _ kt et ek => lookQ kt.d et ek vm vk ok H f
  | .entry it => wv e it fun
    | .pointer (some ⟨r, 0, _⟩) => ∃ m since seen stepped stamp es x, H[r]? = some (.mapIter (some m) since seen stepped) ∧ seen.back? = some stamp ∧
        H[m]? = some (.map es stepped) ∧ es.find? (·.born == stamp) = some x ∧
        withT T ht.1 fun ik => exT ik fun k => x.key = k ∧ withT T ht.2 fun iv => exT iv fun v => x.val = v ∧ f (.tuple #[k, v])
    | _ => False
  | _ => vcQ T e dec o H f

/-- A cell that may be written, and the heap behind it. -/
def stAt (H : Heap) (a : Addr) (vs : List Value) (f : Heap → Prop) : Prop :=
  ∃ c T, H[a.block]? = some (.cells c T (0, 0)) ∧ a.spot = none ∧ a.off + vs.length ≤ c.size ∧ (∀ v ∈ vs, v.oneCell' = true) ∧
    f (H.setIfInBounds a.block (.cells (setL c.toList a.off vs).toArray T (0, 0)))

/-- A slice's first n cells. -/
def rowOf (H : Heap) (p : Option Addr) (n : Nat) (xs : Array Value) : Prop :=
  match p with
  | none => xs = #[]
  | some a => xs.size = n ∧ rowIn H a xs

def appQ (size bytes : Nat) (zero : Array Value) (H : Heap) (p : Option Addr) (l c : Nat) (q : Option Addr) (n : Nat) (el : TypeId) (K : Option Addr → Nat → Nat → Heap → Prop) : Prop :=
  (l + n) * bytes ≤ 70368744177664 ∧ l + n ≤ 9223372036854775807 ∧ ∃ xs, rowOf H q (n * size) xs ∧
    (l + n ≤ c → (match p with
      | none => K none (l + n) c H
      | some a => stAt H (a.add (l * size)) xs.toList fun H' => K (some a) (l + n) c H')) ∧
    (c < l + n → ∃ ys, rowOf H p (l * size) ys ∧ ∀ c' : Nat, l + n ≤ c' →
      K (some ⟨H.size, 0, none⟩) (l + n) c' (H.push (.cells (ys ++ xs ++ Builtin.zeroCells zero (c' - (l + n))) el)))

/-- Append of noughts: append(s, make([]T, n)...). -/
def appZ (size bytes : Nat) (zero : Array Value) (H : Heap) (p : Option Addr) (l c : Nat) (n : Int) (el : TypeId) (K : Option Addr → Nat → Nat → Heap → Prop) : Prop :=
  0 ≤ n ∧ n ≤ 1099511627776 ∧ (l + n.toNat) * bytes ≤ 70368744177664 ∧ l + n.toNat ≤ 9223372036854775807 ∧
    (l + n.toNat ≤ c → (match p with
      | none => K none (l + n.toNat) c H
      | some a => stAt H (a.add (l * size)) (reps n.toNat zero.toList) fun H' => K (some a) (l + n.toNat) c H')) ∧
    (c < l + n.toNat → ∃ ys, rowOf H p (l * size) ys ∧ ∀ c' : Nat, l + n.toNat ≤ c' →
      K (some ⟨H.size, 0, none⟩) (l + n.toNat) c' (H.push (.cells (ys ++ (reps n.toNat zero.toList).toArray ++ Builtin.zeroCells zero (c' - (l + n.toNat))) el)))

/-- Cells are written behind a pointer, if there is one. -/
def copQ (H : Heap) (p : Option Addr) (xs : Array Value) (K : Heap → Prop) : Prop :=
  match p with
  | none => K H
  | some a => stAt H a xs.toList K

/-- Which entries of a map may come next. -/
def nextQ (H : Heap) (r : Nat) (Kd : Heap → Prop) (Kn : MapEntry → Heap → Prop) : Prop :=
  (∃ since seen last, H[r]? = some (.mapIter none since seen last) ∧ Kd H) ∨
  ∃ m since seen last es clock, H[r]? = some (.mapIter (some m) since seen last) ∧ H[m]? = some (.map es clock) ∧ (!seen.isEmpty && !es.isEmpty && es.all (·.born ≥ last)) = false ∧
    ((es.filter fun e => !seen.contains e.born && decide (e.born < since)).isEmpty → Kd H) ∧
    ∀ e ∈ es.toList, seen.contains e.born = false → Kn e (H.setIfInBounds r (.mapIter (some m) since (seen.push e.born) clock))

/-- A store into a map. -/
def updQ (kd ek : D) (x k v : Value) (H : Heap) (K : Heap → Prop) : Prop :=
  match x with
  | .map p => ∃ r, p = some r ∧ ∃ es c, H[r]? = some (.map es c) ∧ kForm kd ek k ∧ (∀ e ∈ es.toList, kForm kd ek e.key) ∧
      (findE k es.toList 0 = none → K (H.setIfInBounds r (.map (es.push { key := k, val := v, born := c }) (c + 1)))) ∧
      (∀ n u, findE k es.toList 0 = some (n, u) → K (H.setIfInBounds r (.map (es.modify n fun e => { e with val := v }) c)))
  | _ => False

/-- An operation that makes or writes memory (no call of a Go function). -/
def vcE (T : Tab) (e : Env) (o : Oper) (H : Heap) (K : Value → Heap → Prop) : Prop :=
  match o.op with
  | .alloc t => withT T t fun i => K (.pointer (some ⟨H.size, 0, none⟩)) (H.push (.cells i.zero.cells t))
  | .box t x => wv e x fun v => K (.pointer (some ⟨H.size, 0, none⟩)) (H.push (.cells v.cells t))
  | .buildSlice t len ps => parts e ps.toList fun l => withT T t fun i => match i.d with
    | .sl el => withT T el fun j => match Nat.blt 16777216 (len * j.size) || !(Nat.beq j.zero.cells.size j.size) with
      | true => False
      | false => buildQ (len * j.size) (fun k => some (k * j.size, j.size)) (reps len j.zero.cells.toList) l fun cs =>
        K (.slice (some ⟨H.size, 0, none⟩) len len) (H.push (.cells cs.toArray el))
    | _ => False
  | .makeSlice t x y => wv e x fun vx => wv e y fun vy => withT T t fun i => match i.d, vx, vy with
    | .sl el, .int _ l, .int _ c => withT T el fun j => 0 ≤ l ∧ l ≤ c ∧ j.bytes * c ≤ 281474976710656 ∧ c ≤ 281474976710656 ∧
        match Nat.beq j.zero.cells.size j.size && Nat.blt 0 j.size with
        | true => K (.slice (some ⟨H.size, 0, none⟩) l.toNat c.toNat) (H.push (.cells (reps c.toNat j.zero.cells.toList).toArray el))
        | false => False
    | _, _, _ => False
  | .makeMap _ none => K (.map (some H.size)) (H.push (.map #[] 0))
  | .store t x y => wv e x fun vx => wv e y fun vy => withT T t fun i => match vx with
    | .pointer (some a) => match vy with
      | .agg cs => cs.size = i.size ∧ stAt H a cs.toList fun H' => K undef H'
      | v => match Nat.beq i.size 1 with
        | true => stAt H a [v] fun H' => K undef H'
        | false => False
    | _ => False
  | .mapUpdate t m k x => wv e m fun vm => wv e k fun vk => wv e x fun vx => withM T t fun _ kt _ ek => updQ kt.d ek vm vk vx H fun H' => K undef H'
  | .range t x => wv e x fun vx => withT T t fun i => match i.d, vx with
    | .map _ _, .map p => ∃ m, p = some m ∧ ∃ es c, H[m]? = some (.map es c) ∧ K (.pointer (some ⟨H.size, 0, none⟩)) (H.push (.mapIter (some m) c #[] c))
    | _, _ => False
  | .next it false => wv e it fun
    | .pointer (some ⟨r, 0, _⟩) => nextQ H r (fun H' => K (.tuple #[.bool false]) H') fun e H' => K (.tuple #[.bool true, e.key, e.val]) H'
    | _ => False
  | .call { callee := .builtin op, args, argTypes } => wvs e args.toList fun vs => match op, vs, argTypes.toList with
    | .append, [.slice p l c, .slice q n _], [t, u] => withT T t fun i => withT T u fun iu => match i.d, iu.d with
      | .sl el, .sl _ => withT T el fun j => appQ j.size j.bytes j.zero.cells H p l c q n el fun p l c H' => K (.slice p l c) H'
      | _, _ => False
    | .append, [.slice p l c, .int .i64 n], [t, u] => withT T t fun i => withT T u fun iu => match i.d, iu.d with
      | .sl el, .int _ => withT T el fun j => match Nat.beq j.zero.cells.size j.size && Nat.blt 0 j.size with
        | true => appZ j.size j.bytes j.zero.cells H p l c n el fun p l c H' => K (.slice p l c) H'
        | false => False
      | _, _ => False
    | .copy, [.slice p l _, .slice q n _], [t, _] => withT T t fun i => match i.d with
      | .sl el => withT T el fun j => ∃ xs, rowOf H q (min n l * j.size) xs ∧ match p with
        | none => K (.int .i64 (min n l : Nat)) H
        | some a => stAt H a xs.toList fun H' => K (.int .i64 (min n l : Nat)) H'
      | _ => False
    | .clear, [.map p], [t] => withT T t fun _ => ∃ r, p = some r ∧ ∃ es c, H[r]? = some (.map es c) ∧ K (.tuple #[]) (H.setIfInBounds r (.map #[] c))
    | _, _, _ => False
  | _ => False

end Go.Sh
