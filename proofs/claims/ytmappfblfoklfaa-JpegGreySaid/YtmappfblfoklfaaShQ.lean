/-
  OWN WORK. The shallow layer, part 2: the operations that leave the world alone.
-/
import Derived.Test.YtmappfblfoklfaaShBase
namespace Go.Sh

abbrev Tab := List (TypeId × TI)
abbrev Dec := List (Nat × Option Bool)

/-- The operand's value. -/
def wv (e : Env) (x : Operand) (f : Value → Prop) : Prop :=
  match ev e x with
  | some v => f v
  | none => False

def decd (dec : Dec) : Operand → Option Bool
  | .tmp t => lookB dec t
  | .const (.bool b) => some b
  | _ => none

/-- A value of a type's form. -/
def exT (i : TI) (f : Value → Prop) : Prop :=
  match i.d with
  | .int k => ∃ n : Int, f (.int k n)
  | .bool => ∃ b : Bool, f (.bool b)
  | .str => ∃ s : ByteArray, f (.string s)
  | .ptr _ => ∃ p : Option Addr, f (.pointer p)
  | .sl _ => ∃ (p : Option Addr) (l c : Nat), f (.slice p l c)
  | .map _ _ => ∃ r : Option Nat, f (.map r)
  | .arr _ _ => ∃ cs : Array Value, f (.agg cs)
  | .struct _ => ∃ cs : Array Value, f (.agg cs)
  | .fn => ∃ (g : Nat) (x y : Array Value), f (.func (.func g) x y)
  | _ => ∃ v : Value, f v

theorem exT_val {i : TI} {f : Value → Prop} (h : exT i f) : ∃ v, f v := by
  unfold exT at h
  split at h
  case h_5 => obtain ⟨p, l, c, h⟩ := h; exact ⟨_, h⟩
  case h_9 => obtain ⟨p, l, c, h⟩ := h; exact ⟨_, h⟩
  all_goals (obtain ⟨x, h⟩ := h; exact ⟨_, h⟩)

/-- Cells in a row. -/
def rowIn (H : Heap) (a : Addr) (cs : Array Value) : Prop := ∀ j v, cs[j]? = some v → cell H (a.add j) = some v

def isAggD : D → Bool
  | .arr _ _ | .struct _ => true
  | _ => false

/-- What is read of a variable of a type. -/
def ld (i : TI) (H : Heap) (a : Addr) (f : Value → Prop) : Prop :=
  match i.d with
  | .arr _ _ => ∃ cs : Array Value, cs.size = i.size ∧ rowIn H a cs ∧ f (.agg cs)
  | .struct _ => ∃ cs : Array Value, cs.size = i.size ∧ rowIn H a cs ∧ f (.agg cs)
  | _ => exT i fun v => cell H a = some v ∧ f v

/-- The bytes of a slice, and the text of bytes. -/
def bsOf (H : Heap) (p : Option Addr) (l : Nat) (xs : List Int) : Prop :=
  match p with
  | none => xs = []
  | some a => xs.length = l ∧ rowIn H a (xs.map (Value.int .u8)).toArray
def textOf (xs : List Int) : ByteArray := xs.foldl (fun r n => r.push (UInt8.ofNat n.toNat)) ByteArray.empty

/-- A part of an aggregate, from a cell on. -/
def partQ (i : TI) (cs : Array Value) (off : Nat) (f : Value → Prop) : Prop :=
  match i.d with
  | .arr _ _ => f (.agg (cs.extract off (off + i.size)))
  | .struct _ => f (.agg (cs.extract off (off + i.size)))
  | _ => exT i fun v => cs[off]? = some v ∧ f v

def fieldOf : D → Nat → Option (Nat × TypeId)
  | .struct fs, j => fs[j]?
  | _, _ => none

def andI (k : IntKind) (x y : Int) : Int := k.wrap (BitVec.ofInt k.bits x &&& BitVec.ofInt k.bits y).toNat
def orI (k : IntKind) (x y : Int) : Int := k.wrap (BitVec.ofInt k.bits x ||| BitVec.ofInt k.bits y).toNat
def xorI (k : IntKind) (x y : Int) : Int := k.wrap (BitVec.ofInt k.bits x ^^^ BitVec.ofInt k.bits y).toNat
def andNotI (k : IntKind) (x y : Int) : Int := k.wrap (BitVec.ofInt k.bits x &&& ~~~ BitVec.ofInt k.bits y).toNat
def shlI (k : IntKind) (x y : Int) : Int := k.wrap (x * 2 ^ (min y.toNat k.bits))
def shrI (k : IntKind) (x y : Int) : Int := x.fdiv (2 ^ (min y.toNat k.bits))

/-- Operators. -/
def binQ (op : BinOp) (x y : Value) (f : Value → Prop) : Prop :=
  match op, x, y with
  | .shl, .int k a, .int _ b => 0 ≤ b ∧ f (.int k (shlI k a b))
  | .shr, .int k a, .int _ b => 0 ≤ b ∧ f (.int k (shrI k a b))
  | .add, .int k a, .int k' b => match decide (k = k') with | true => f (.int k (k.wrap (a + b))) | false => False
  | .sub, .int k a, .int k' b => match decide (k = k') with | true => f (.int k (k.wrap (a - b))) | false => False
  | .mul, .int k a, .int k' b => match decide (k = k') with | true => f (.int k (k.wrap (a * b))) | false => False
  | .quo, .int k a, .int k' b => match decide (k = k') with | true => b ≠ 0 ∧ f (.int k (k.wrap (a.tdiv b))) | false => False
  | .rem, .int k a, .int k' b => match decide (k = k') with | true => b ≠ 0 ∧ f (.int k (a.tmod b)) | false => False
  | .and, .int k a, .int k' b => match decide (k = k') with | true => f (.int k (andI k a b)) | false => False
  | .or, .int k a, .int k' b => match decide (k = k') with | true => f (.int k (orI k a b)) | false => False
  | .xor, .int k a, .int k' b => match decide (k = k') with | true => f (.int k (xorI k a b)) | false => False
  | .andNot, .int k a, .int k' b => match decide (k = k') with | true => f (.int k (andNotI k a b)) | false => False
  | .eql, .int k a, .int k' b => match decide (k = k') with | true => f (.bool (a == b)) | false => False
  | .neq, .int k a, .int k' b => match decide (k = k') with | true => f (.bool (a != b)) | false => False
  | .lss, .int k a, .int k' b => match decide (k = k') with | true => f (.bool (decide (a < b))) | false => False
  | .leq, .int k a, .int k' b => match decide (k = k') with | true => f (.bool (decide (a ≤ b))) | false => False
  | .gtr, .int k a, .int k' b => match decide (k = k') with | true => f (.bool (decide (a > b))) | false => False
  | .geq, .int k a, .int k' b => match decide (k = k') with | true => f (.bool (decide (a ≥ b))) | false => False
  | _, _, _ => False

/-- '==' on what is no number: one side nil, or two bools, or two texts. -/
def eqQ (d : D) (x y : Value) (f : Bool → Prop) : Prop :=
  match d, x, y with
  | .ptr _, .pointer p, .pointer none => f p.isNone
  | .map _ _, .map p, .map none => f p.isNone
  | .sl _, .slice p _ _, .slice none _ _ => f p.isNone
  | .bool, .bool a, .bool b => f (a == b)
  | .str, .string a, .string b => f (a == b)
  | _, _, _ => False

/-- '==' on arrays of numbers. -/
def eqA (n : Nat) (d : D) (sz : Nat) (x y : Value) (f : Bool → Prop) : Prop :=
  match d, x, y with
  | .int k, .agg xs, .agg ys => sz = 1 ∧ ∃ as bs : List Int, as.length = n ∧ bs.length = n ∧ xs = (as.map (Value.int k)).toArray ∧ ys = (bs.map (Value.int k)).toArray ∧ f (decide (as = bs))
  | _, _, _ => False

def unQ (op : UnOp) (x : Value) (f : Value → Prop) : Prop :=
  match op, x with
  | .neg, .int k n => f (.int k (k.wrap (0 - n)))
  | .xor, .int k n => f (.int k (xorI k (if k.signed then -1 else k.max) n))
  | .not, .bool b => f (.bool !b)
  | _, _ => False

def optV (e : Env) : Option Operand → (Option Value → Prop) → Prop
  | none, f => f none
  | some x, f => wv e x fun v => f (some v)

/-- A slice expression's bounds: low .. high of a slice of length 'len' and capacity 'cap' (two indexes). -/
def boundsQ (len cap : Nat) (lo hi : Option Value) (f : Nat → Nat → Prop) : Prop :=
  match hi with
  | some (.int _ h) => 0 ≤ h ∧ h ≤ cap ∧ (match lo with
      | some (.int _ l) => 0 ≤ l ∧ l ≤ h ∧ f l.toNat h.toNat
      | none => f 0 h.toNat
      | _ => False)
  | none => (match lo with
      | some (.int _ l) => 0 ≤ l ∧ l ≤ len ∧ f l.toNat len
      | none => f 0 len
      | _ => False)
  | _ => False

def sliceQ (i : TI) (sz : Nat) (x : Value) (lo hi : Option Value) (f : Value → Prop) : Prop :=
  match i.d, x with
  | .sl _, .slice a len cap => boundsQ len cap lo hi fun l h => f (.slice (if cap = l then a else a.map (·.add (l * sz))) (h - l) (cap - l))
  | .arr n _, .pointer (some a) => boundsQ n n lo hi fun l h => f (.slice (some (if n = l then a else a.add (l * sz))) (h - l) (n - l))
  | _, _ => False

def lenQ (i : TI) (x : Value) (H : Heap) (f : Value → Prop) : Prop :=
  match i.d, x with
  | .sl _, .slice _ n _ => f (.int .i64 n)
  | .str, .string s => f (.int .i64 s.size)
  | .arr n _, _ => f (.int .i64 n)
  | .map _ _, .map p => ∃ r, p = some r ∧ ∃ es c, H[r]? = some (.map es c) ∧ f (.int .i64 es.size)
  | _, _ => False

def elemD : D → Option TypeId
  | .sl e | .arr _ e => some e
  | _ => none

/-- The address of an element. -/
def idxQ (d : D) (sz : Nat) (x i : Value) (f : Value → Prop) : Prop :=
  match d, x, i with
  | .sl _, .slice p len _, .int _ n => ∃ a, p = some a ∧ 0 ≤ n ∧ n < len ∧ f (.pointer (some (a.add (n.toNat * sz))))
  | .arr len _, .pointer (some a), .int _ n => 0 ≤ n ∧ n < len ∧ f (.pointer (some (a.add (n.toNat * sz))))
  | _, _, _ => False

def mm (op : Builtin) (x y : Value) (f : Value → Prop) : Prop :=
  match op, x, y with
  | .max, .int k a, .int _ b => f (.int k (max a b))
  | .min, .int k a, .int _ b => f (.int k (min a b))
  | _, _, _ => False

def mmAll (op : Builtin) (x : Value) : List Value → (Value → Prop) → Prop
  | [], f => f x
  | y :: r, f => mm op x y fun z => mmAll op z r f

def wvs (e : Env) : List Operand → (List Value → Prop) → Prop
  | [], f => f []
  | x :: r, f => wv e x fun v => wvs e r fun vs => f (v :: vs)

def withT (T : Tab) (t : TypeId) (f : TI → Prop) : Prop :=
  match ti T t with
  | some i => f i
  | none => False

/-- AN OPERATION THAT LEAVES THE WORLD ALONE: what it yields. -/
def vcQ (T : Tab) (e : Env) (dec : Dec) (o : Oper) (H : Heap) (f : Value → Prop) : Prop :=
  match o.op with
  | .move x => wv e x f
  | .assign x => wv e x f
  | .pick c a b => match decd dec c with
    | some true => wv e a f
    | some false => wv e b f
    | none => False
  | .load t x => wv e x fun
    | .pointer (some a) => withT T t fun i => ld i H a f
    | _ => False
  | .nilCheck x => wv e x fun
    | .pointer p => ∃ a, p = some a ∧ f (.pointer (some a))
    | .func (.func g) x y => f (.func (.func g) x y)
    | _ => False
  | .binOp op t x y _ => wv e x fun vx => wv e y fun vy => match vx with
    | .int k a => binQ op (.int k a) vy f
    | vx => withT T t fun i => match i.d with
      | .arr n el => withT T el fun j => match op with
        | .eql => eqA n j.d j.size vx vy fun b => f (.bool b)
        | .neq => eqA n j.d j.size vx vy fun b => f (.bool !b)
        | _ => False
      | d => match op with
        | .eql => eqQ d vx vy fun b => f (.bool b)
        | .neq => eqQ d vx vy fun b => f (.bool !b)
        | _ => False
  | .unOp op _ x => wv e x fun vx => unQ op vx f
  | .convert s d x => wv e x fun
    | .int _ n => withT T s fun _ => withT T d fun i => match i.d with
      | .int k => f (.int k (k.wrap n))
      | _ => False
    | .slice p l _ => match Nat.beq d 9 with
      | true => withT T s fun i => withT T d fun j => match i.d, j.d with
        | .sl el, .str => withT T el fun k => match k.d with
          | .int .u8 => ∃ xs : List Int, bsOf H p l xs ∧ f (.string (textOf xs))
          | _ => False
        | _, _ => False
      | false => False
    | _ => False
  | .slice t x lo hi none => wv e x fun vx => optV e lo fun l => optV e hi fun h => withT T t fun i => match elemD i.d with
    | some el => withT T el fun j => sliceQ i j.size vx l h f
    | none => False
  | .fieldAddr s x j => wv e x fun
    | .pointer (some a) => withT T s fun i => match fieldOf i.d j with
      | some (off, ty) => withT T ty fun k => match Nat.beq k.size 0 with
        | true => False
        | false => f (.pointer (some (a.add off)))
      | none => False
    | _ => False
  | .field s x j => wv e x fun
    | .agg cs => withT T s fun i => match fieldOf i.d j with
      | some (off, ty) => withT T ty fun k => partQ k cs off f
      | none => False
    | _ => False
  | .indexAddr t x i => wv e x fun vx => wv e i fun vi => withT T t fun j => match elemD j.d with
    | some el => withT T el fun k => idxQ j.d k.size vx vi f
    | none => False
  | .index t x i => wv e x fun vx => wv e i fun vi => withT T t fun j => match j.d, vx, vi with
    | .arr len el, .agg cs, .int _ n => withT T el fun k => 0 ≤ n ∧ n < len ∧ partQ k cs (n.toNat * k.size) f
    | _, _, _ => False
  | .extract x j => wv e x fun
    | .tuple vs => match vs.toList[j]? with
      | some v => f v
      | none => False
    | _ => False
  | .makeFunc fn first captured => wvs e first.toList fun a => wvs e captured.toList fun b => f (.func fn a.toArray b.toArray)
  | .call { callee := .builtin op, args, argTypes } => wvs e args.toList fun vs => match op, vs with
    | .len, [x] => (match argTypes.toList with
      | [t] => withT T t fun i => lenQ i x H f
      | _ => False)
    | .cap, [.slice _ _ c] => (match argTypes.toList with
      | [t] => withT T t fun i => match i.d with
        | .sl _ => f (.int .i64 c)
        | _ => False
      | _ => False)
    | .max, x :: r => mmAll .max x r f
    | .min, x :: r => mmAll .min x r f
    | _, _ => False
  | _ => False

end Go.Sh
