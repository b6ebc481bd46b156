/-
  OWN WORK. A stream that is read, plain: bits, symbols, copies, blocks.
-/
import Derived.Test.YtdigjlhobhpfpaaFlA
import Derived.Test.YtdigjlhobhpfpaaHuffL
set_option linter.unusedVariables false
set_option linter.unusedSimpArgs false
namespace Go.Proofs
open Go.Sh

/-- n bits. -/
def getM (B : List Int) (n at_ : Nat) : Except Int (Int × Nat) :=
  if at_ + n ≤ 8 * B.length then .ok (numB false B at_ n, at_ + n) else .error 20

/-- The symbol whose code is n bits that are v; does a code begin with them? -/
def findM (ls : List Int) (n : Nat) (v : Int) : Option Nat := (List.range ls.length).find? fun s => ls.getD s 0 == (n : Int) && codeM ls s == v
def begM (ls : List Int) (n : Nat) (v : Int) : Bool := (List.range ls.length).any fun s => decide ((n : Int) < ls.getD s 0) && codeM ls s / 2 ^ ((ls.getD s 0).toNat - n) == v

theorem findM_some {ls : List Int} {n s : Nat} {v : Int} (h : findM ls n v = some s) : ls[s]? = some (n : Int) ∧ codeM ls s = v := by
  unfold findM at h
  have h1 := List.find?_some h
  have h2 := List.mem_range.1 (List.mem_of_find?_eq_some h)
  simp only [Bool.and_eq_true, beq_iff_eq] at h1
  exact ⟨by rw [get_gD ls 0 h2, h1.1], h1.2⟩
theorem findM_none {ls : List Int} {n : Nat} {v : Int} (h : findM ls n v = none) {s : Nat} (hs : ls[s]? = some (n : Int)) : codeM ls s ≠ v := fun hc => by
  unfold findM at h
  rw [List.find?_eq_none] at h
  have := h s (List.mem_range.2 (List.getElem?_eq_some_iff.1 hs).1)
  rw [gD_get hs, hc] at this
  simp at this
theorem findM_eq {ls : List Int} (ok : OkC ls) {n s : Nat} {v : Int} (hn : 0 < n) (hs : ls[s]? = some (n : Int)) (hc : codeM ls s = v) : findM ls n v = some s := by
  cases h : findM ls n v with
  | none => exact absurd hc (findM_none h hs)
  | some t =>
    obtain ⟨h1, h2⟩ := findM_some h
    by_cases he : t = s
    · rw [he]
    · have := no_prefix ok he h1 hs hn (Nat.le_refl n)
      rw [Nat.sub_self, Int.pow_zero, Int.ediv_one] at this
      exact absurd (hc.trans h2.symm) this
theorem begM_true {ls : List Int} (hr : ∀ x ∈ ls, 0 ≤ x ∧ x ≤ 16) {n : Nat} {v : Int} (h : begM ls n v = true) : ∃ s m : Nat, ls[s]? = some (m : Int) ∧ n < m ∧ codeM ls s / 2 ^ (m - n) = v := by
  unfold begM at h
  rw [List.any_eq_true] at h
  obtain ⟨s, h1, h2⟩ := h
  have h1 := List.mem_range.1 h1
  simp only [Bool.and_eq_true, decide_eq_true_eq, beq_iff_eq] at h2
  have hs := get_gD ls 0 h1
  have := hr _ (List.mem_of_getElem? hs)
  refine ⟨s, (ls.getD s 0).toNat, by rw [hs]; congr 1; omega, by omega, h2.2⟩
theorem begM_false {ls : List Int} {n : Nat} {v : Int} (h : begM ls n v = false) {s m : Nat} (hs : ls[s]? = some (m : Int)) (hm : n < m) : codeM ls s / 2 ^ (m - n) ≠ v := fun hc => by
  unfold begM at h
  rw [List.any_eq_false] at h
  have := h s (List.mem_range.2 (List.getElem?_eq_some_iff.1 hs).1)
  rw [gD_get hs] at this
  simp only [Int.toNat_natCast, hc, beq_self_eq_true, Bool.and_true, decide_eq_true_eq] at this
  omega
theorem begM_mk {ls : List Int} {n s m : Nat} {v : Int} (hs : ls[s]? = some (m : Int)) (hm : n < m) (hc : codeM ls s / 2 ^ (m - n) = v) : begM ls n v = true := by
  cases h : begM ls n v with
  | true => rfl
  | false => exact absurd hc (begM_false h hs hm)

/-- A symbol. -/
def symG (ls B : List Int) : Nat → Nat → Int → Nat → Except Int (Nat × Nat)
  | 0, _, _, _ => .error 21
  | f + 1, n, v, at_ => match getM B 1 at_ with
    | .error e => .error e
    | .ok (b, at') => match findM ls (n + 1) (2 * v + b) with
      | some s => .ok (s, at')
      | none => if begM ls (n + 1) (2 * v + b) then symG ls B f (n + 1) (2 * v + b) at' else .error 21
def symM (ls B : List Int) (at_ : Nat) : Except Int (Nat × Nat) := symG ls B 17 0 0 at_

/-- A length's least, a distance's least, and their extra bits. -/
def lenB (s : Nat) : Nat × Nat := if s < 265 then (s - 254, 0) else if s = 285 then (258, 0) else (3 + (4 + (s - 257) % 4) * 2 ^ ((s - 257) / 4 - 1), (s - 257) / 4 - 1)
def dstB (s : Nat) : Nat × Nat := if s < 4 then (1 + s, 0) else (1 + (2 + s % 2) * 2 ^ (s / 2 - 1), s / 2 - 1)

/-- n bytes, each what stood d ahead. -/
def copyM (d : Nat) : Nat → List Int → List Int
  | 0, out => out
  | n + 1, out => copyM d n (out ++ [out.getD (out.length - d) 0])
theorem copyM_len (d : Nat) : ∀ (n : Nat) (out : List Int), (copyM d n out).length = out.length + n
  | 0, out => rfl
  | n + 1, out => by rw [copyM, copyM_len d n, List.length_append, List.length_singleton]; omega

/-- A copy. -/
def copiesM (B : List Int) (most : Int) (dl : List Int) (s at_ : Nat) (out : List Int) : Except Int (Nat × List Int) :=
  if s > 285 then .error 25 else
  match getM B (lenB s).2 at_ with
  | .error e => .error e
  | .ok (x, at1) => match symM dl B at1 with
    | .error e => .error e
    | .ok (t, at2) => if t > 29 then .error 25 else match getM B (dstB t).2 at2 with
      | .error e => .error e
      | .ok (y, at3) =>
        if (dstB t).1 + y > out.length then .error 22 else if (lenB s).1 + x > most - out.length then .error 24 else .ok (at3, copyM ((dstB t).1 + y.toNat) ((lenB s).1 + x.toNat) out)

/-- A block's symbols. -/
def symsM (B : List Int) (most : Int) (ll dl : List Int) : Nat → Nat → List Int → Except Int (Nat × List Int)
  | 0, _, _ => .error 20
  | f + 1, at_, out => match symM ll B at_ with
    | .error e => .error e
    | .ok (s, at1) => if s = 256 then .ok (at1, out) else if s > 256 then (match copiesM B most dl s at1 out with
        | .error e => .error e
        | .ok (at2, out2) => symsM B most ll dl f at2 out2)
      else if (out.length : Int) ≥ most then .error 24 else symsM B most ll dl f at1 (out ++ [(s : Int)])
def symbolsM (B : List Int) (most : Int) (ll dl : List Int) (at_ : Nat) (out : List Int) : Except Int (Nat × List Int) := symsM B most ll dl (8 * B.length + 1) at_ out

/-- n bytes. -/
def bytesM (B : List Int) : Nat → Nat → List Int → Except Int (Nat × List Int)
  | 0, at_, out => .ok (at_, out)
  | n + 1, at_, out => match getM B 8 at_ with
    | .error e => .error e
    | .ok (c, at1) => bytesM B n at1 (out ++ [c])
/-- A block of kind 0. -/
def storedM (B : List Int) (most : Int) (at_ : Nat) (out : List Int) : Except Int (Nat × List Int) :=
  match getM B 16 ((at_ + 7) / 8 * 8) with
  | .error e => .error e
  | .ok (n, at1) => match getM B 16 at1 with
    | .error e => .error e
    | .ok (m, at2) => if m ≠ 65535 - n then .error 25 else if n > most - out.length then .error 24 else bytesM B n.toNat at2 out

/-- The fixed codes' lengths. -/
def fixL : List Int := List.replicate 144 8 ++ List.replicate 112 9 ++ List.replicate 24 7 ++ List.replicate 8 8
def fixD : List Int := List.replicate 32 5
def ordL : List Nat := [16, 17, 18, 0, 8, 7, 9, 6, 10, 5, 11, 4, 12, 3, 13, 2, 14, 1, 15]

/-- The first lengths, and all. -/
def firstM (B : List Int) : List Nat → Nat → List Int → Except Int (Nat × List Int)
  | [], at_, fs => .ok (at_, fs)
  | s :: r, at_, fs => match getM B 3 at_ with
    | .error e => .error e
    | .ok (v, at1) => firstM B r at1 (fs.set s v)
def rightM (ls : List Int) (single none_ : Bool) : Bool :=
  (decide (ls.length ≤ 300) && ls.all fun n => decide (0 ≤ n ∧ n ≤ 16)) && (wtM ls == 65536 || (single && wtM ls == 32768 && ls.countP (fun x => decide (x > 0)) == 1) || (none_ && wtM ls == 0))
def listM (B : List Int) (first : List Int) (total : Nat) : Nat → Nat → List Int → Except Int (Nat × List Int)
  | 0, _, _ => .error 20
  | f + 1, at_, ls => if ls.length ≥ total then .ok (at_, ls) else match symM first B at_ with
    | .error e => .error e
    | .ok (s, at1) =>
      if s = 16 then (match getM B 2 at1 with
        | .error e => .error e
        | .ok (x, at2) => match ls.getLast? with
          | none => .error 21
          | some v => if 3 + x > (total : Int) - ls.length then .error 21 else listM B first total f at2 (ls ++ List.replicate (3 + x).toNat v))
      else if s = 17 then (match getM B 3 at1 with
        | .error e => .error e
        | .ok (x, at2) => if 3 + x > (total : Int) - ls.length then .error 21 else listM B first total f at2 (ls ++ List.replicate (3 + x).toNat 0))
      else if s = 18 then (match getM B 7 at1 with
        | .error e => .error e
        | .ok (x, at2) => if 11 + x > (total : Int) - ls.length then .error 21 else listM B first total f at2 (ls ++ List.replicate (11 + x).toNat 0))
      else listM B first total f at1 (ls ++ [(s : Int)])
def tablesM (B : List Int) (at_ : Nat) : Except Int (Nat × List Int × List Int) :=
  match getM B 5 at_ with
  | .error e => .error e
  | .ok (hl, at1) => match getM B 5 at1 with
    | .error e => .error e
    | .ok (hd, at2) => match getM B 4 at2 with
      | .error e => .error e
      | .ok (hc, at3) => if hl > 29 ∨ hd > 29 then .error 25 else match firstM B (ordL.take (hc.toNat + 4)) at3 (List.replicate 19 0) with
        | .error e => .error e
        | .ok (at4, first) => if rightM first false false = false then .error 21 else match listM B first (hl.toNat + hd.toNat + 258) (8 * B.length + 2) at4 [] with
          | .error e => .error e
          | .ok (at5, ls) => if rightM (ls.take (hl.toNat + 257)) true false = false ∨ rightM (ls.drop (hl.toNat + 257)) true true = false then .error 21 else .ok (at5, ls.take (hl.toNat + 257), ls.drop (hl.toNat + 257))

/-- Blocks; T: the tables of a block of kind 2. -/
abbrev TabT := List Int → Nat → Except Int (Nat × List Int × List Int)
def blocksM (T : TabT) (B : List Int) (most : Int) : Nat → Nat → List Int → Except Int (Nat × List Int)
  | 0, _, _ => .error 20
  | f + 1, at_, out => match getM B 1 at_ with
    | .error e => .error e
    | .ok (last, at1) => match getM B 2 at1 with
      | .error e => .error e
      | .ok (kind, at2) =>
        match (if kind = 0 then storedM B most at2 out else if kind = 1 then symbolsM B most fixL fixD at2 out else if kind = 2 then (match T B at2 with
          | .error e => .error e
          | .ok (at3, ll, dl) => symbolsM B most ll dl at3 out) else .error 25) with
        | .error e => .error e
        | .ok (at3, out3) => if last = 1 then .ok (at3, out3) else blocksM T B most f at3 out3
def inflM (T : TabT) (B : List Int) (most : Int) : Except Int (List Int × Nat) :=
  match blocksM T B (max most 0) (8 * B.length + 1) 0 [] with
  | .error e => .error e
  | .ok (at_, out) => .ok (out, (at_ + 7) / 8)
/-- No tables. -/
def noT : TabT := fun _ _ => .error 99

end Go.Proofs
