/-
  OWN WORK. TilePlays over heaps: it answers true, and leaves all that was there.
-/
import Derived.Test.YtcbnifopfdgniaaTileCg
set_option linter.unusedVariables false
set_option linter.unusedSimpArgs false
namespace Go.Proofs
open Go.Sh Go.Tile

def newBk (B lb pb tb : Nat) (w h cap : Int) : Bk :=
  ⟨B, w, h, (w + 15) / 16, cap, 0, lb, 1, [⟨List.replicate (w * h).toNat 0, List.replicate ((w + 15) / 16 * ((h + 15) / 16)).toNat 0, pb, tb, (w * h).toNat, ((w + 15) / 16 * ((h + 15) / 16)).toNat⟩]⟩

theorem newBk_dim {B lb pb tb : Nat} {w h cap : Int} (w0 : 1 ≤ w) (w1 : w ≤ 60) (h0 : 0 ≤ h) (h1 : h ≤ 60) : BDim (newBk B lb pb tb w h cap) := by
  have a1 : 0 ≤ w * h := Int.mul_nonneg (by omega) (by omega)
  have a2 : 0 ≤ (w + 15) / 16 * ((h + 15) / 16) := Int.mul_nonneg (by omega) (by omega)
  refine ⟨w0, w1, h0, h1, rfl, fun p hp => ?_, fun p hp => ?_⟩
  · simp only [newBk, List.mem_singleton] at hp; subst hp; simp [newBk]; omega
  · simp only [newBk, List.mem_singleton] at hp; subst hp; simp [newBk]; omega

theorem newBk_rel {A m b B lb pb tb : Nat} {w h cap c : Int} (w0 : 1 ≤ w) (h0 : 0 ≤ h) : Rel (newS A c (newPl m b w h)) (newBk B lb pb tb w h cap) := by
  have one : ∀ {α : Type} {x y : α} {j : Nat}, [x][j]? = some y → j = 0 ∧ y = x := fun {α x y j} hh => by
    cases j with
    | zero => simp at hh; exact ⟨rfl, hh.symm⟩
    | succ j => simp at hh
  have z0 : ∀ K L, tlAt (newBk B lb pb tb w h cap) ⟨List.replicate (w * h).toNat 0, List.replicate ((w + 15) / 16 * ((h + 15) / 16)).toNat 0, pb, tb, (w * h).toNat, ((w + 15) / 16 * ((h + 15) / 16)).toNat⟩ K L = 0 := fun K L => by
    unfold tlAt
    rw [List.getD_eq_getElem?_getD]
    simp only [List.getElem?_replicate]
    split <;> rfl
  refine ⟨rfl, fun p hp => ?_, fun j p q hp hq X Y x0 x1 y0 y1 => ?_, fun p hp K L hn => ?_, fun j p q hp hq K L hin => ?_, fun q hq t ht => ?_, fun j p q j' p' q' hp hq hp' hq' K L K' L' hin hin' hnz => ?_, fun p hp p' hp' K L K' L' t ht => ?_⟩
  · simp only [newS, List.mem_singleton] at hp; subst hp; exact ⟨rfl, rfl⟩
  · obtain ⟨rfl, rfl⟩ := one hp
    obtain ⟨_, rfl⟩ := one hq
    rw [new_px]
    have x1 : X < w := x1
    have y1 : Y < h := y1
    have m0 : 0 ≤ Y * w := Int.mul_nonneg y0 (by omega)
    have m1 : (Y + 1) * w ≤ h * w := Int.mul_le_mul_of_nonneg_right (by omega) (by omega)
    rw [Int.add_mul, Int.mul_comm h w] at m1
    show (List.replicate (w * h).toNat (0 : Int))[(Y * w + X).toNat]? = some 0
    rw [List.getElem?_replicate, if_pos (by omega)]
  · simp only [newS, List.mem_singleton] at hp; subst hp; exact absurd rfl hn
  · obtain ⟨rfl, rfl⟩ := one hp
    obtain ⟨_, rfl⟩ := one hq
    exact ⟨fun _ => rfl, fun _ => z0 K L⟩
  · simp only [newBk, List.mem_singleton] at hq; subst hq
    have := (List.mem_replicate.1 ht).2
    show 0 ≤ t ∧ t ≤ 0
    omega
  · obtain ⟨_, rfl⟩ := one hq
    exact absurd (z0 K L) hnz
  · simp only [newS, List.mem_singleton] at hp; subst hp; cases ht

set_option maxHeartbeats 4000000 in
theorem law7 {H : Heap} {op : Option Addr} {ol oc : Nat} {cap w h : Int} (hops : OpsIn H op ol) :
    CallsH Try.prog 7 #[.int .i64 cap, .int .i64 w, .int .i64 h, .slice op ol oc] H (fun u H' => u = .bool true ∧ Ext H H') := by
  refine Try.s7 ?_
  generalize hRd : (fun (u : Value) (H' : Heap) => u = Value.bool true ∧ Ext H H') = R
  have R1 : ∀ H', Ext H H' → R (.bool true) H' := fun H' e => by subst hRd; exact ⟨rfl, e⟩
  clear hRd
  unfold Try.S7
  refine c8 fun H1 e1 => ⟨_, rfl, br_f rfl ?_⟩
  by_cases hc : cap < 0 ∨ 1048576 < cap
  · refine c9_none hc ⟨_, rfl, ?_⟩
    intro J hJ
    have fin : J [] H1 := hJ H1 (br_t rfl (R1 _ e1))
    refine br_dec (fun h0 => br_f rfl fin) (fun h0 => br_f ?_ fin)
    have : decide (cap > 1048576) = true := decide_eq_true (by omega)
    rw [this]; rfl
  have c0 : 0 ≤ cap := by omega
  have c1 : cap ≤ 1048576 := by omega
  refine c9 c0 c1 ⟨_, rfl, ?_⟩
  intro J hJ
  suffices hmain : J [] (H1.push (arenaO cap)) by
    refine br_dec (fun h0 => by omega) (fun h0 => br_f ?_ hmain)
    have : decide (cap > 1048576) = false := decide_eq_false (by omega)
    rw [this]; rfl
  refine hJ _ (br_f rfl ?_)
  have e1a : Ext H (H1.push (arenaO cap)) := e1.trans (Ext.push _ _)
  by_cases hb : w < 0 ∨ 32768 < w ∨ h < 0 ∨ 32768 < h
  · refine c10_none hb ⟨_, _, rfl, ?_⟩
    intro J2 hJ2
    have fin : J2 [] (H1.push (arenaO cap)) := hJ2 _ (fun J3 hJ3 => br_t rfl (R1 _ e1a))
    refine br_dec (fun _ => br_f rfl (br_f rfl fin)) (fun a1 => br_dec (fun _ => br_f rfl (br_f rfl fin)) (fun a2 => br_dec (fun _ => br_f rfl (br_f rfl fin)) (fun a3 => br_f ?_ (br_f rfl fin))))
    have : decide (h > 32768) = true := decide_eq_true (by omega)
    rw [this]; rfl
  refine c10 (by omega) (by omega) (by omega) (by omega) ⟨_, _, rfl, ?_⟩
  simp only [Array.size_push]
  intro J2 hJ2
  have a0 := at_new e1 (c := cap) (w := w) (h := h) c0 c1 (by omega) (by omega) (by omega) (by omega)
  suffices hmain : J2 [] (((H1.push (arenaO cap)).push (.map #[] 0)).push (planeO H1.size (newPl (H1.size + 1) (H1.size + 1 + 1) w h))) by
    refine br_dec (fun h0 => by omega) (fun _ => br_dec (fun h0 => by omega) (fun _ => br_dec (fun h0 => by omega) (fun _ => br_f ?_ (br_f rfl hmain))))
    have : decide (h > 32768) = false := decide_eq_false (by omega)
    rw [this]; rfl
  refine hJ2 _ fun J3 hJ3 => br_f rfl ?_
  have a0e : Ext H (((H1.push (arenaO cap)).push (.map #[] 0)).push (planeO H1.size (newPl (H1.size + 1) (H1.size + 1 + 1) w h))) := a0.ext
  refine br_dec (fun _ => R1 _ a0e) (fun w60 => br_dec (fun _ => R1 _ a0e) (fun h60 => br_dec (fun _ => R1 _ a0e) (fun o40 => br_eq (fun _ => R1 _ a0e) (fun wz => hJ3 _ ?_))))
  have w1 : 1 ≤ w := by omega
  have w2 : w ≤ 60 := by omega
  have h0 : 0 ≤ h := by omega
  have h2 : h ≤ 60 := by omega
  have rel0 : ∀ B lb pb tb, Rel (newS H1.size cap (newPl (H1.size + 1) (H1.size + 1 + 1) w h)) (newBk B lb pb tb w h cap) := fun B lb pb tb => newBk_rel w1 h0
  generalize hp0 : newPl (H1.size + 1) (H1.size + 1 + 1) w h = p0 at a0 rel0 ⊢
  generalize ((H1.push (arenaO cap)).push (.map #[] 0)).push (planeO H1.size p0) = H2 at a0 ⊢
  have hb0 : p0.b = H1.size + 1 + 1 := by subst hp0; rfl
  have hA : (newS H1.size cap p0).A = H1.size := rfl
  have hpl : (newS H1.size cap p0).pls = [p0] := rfl
  generalize newS H1.size cap p0 = s0 at a0 hA hpl rel0
  rw [← hb0]
  generalize H1.size = A at hA ⊢
  have ew1 : IntKind.wrap .i64 (w + 15) = w + 15 := wrap_id (by omega) (by omega)
  have ew2 : Int.tdiv (w + 15) 16 = (w + 15) / 16 := Int.tdiv_eq_ediv_of_nonneg (by omega)
  have ew3 : IntKind.wrap .i64 ((w + 15) / 16) = (w + 15) / 16 := wrap_id (by omega) (by omega)
  have eh1 : IntKind.wrap .i64 (h + 15) = h + 15 := wrap_id (by omega) (by omega)
  have eh2 : Int.tdiv (h + 15) 16 = (h + 15) / 16 := Int.tdiv_eq_ediv_of_nonneg (by omega)
  have eh3 : IntKind.wrap .i64 ((h + 15) / 16) = (h + 15) / 16 := wrap_id (by omega) (by omega)
  have d0 := newBk_dim (B := 0) (lb := 0) (pb := 0) (tb := 0) (cap := cap) w1 w2 h0 h2
  obtain ⟨z1, z2, z3, z4, z5, z6⟩ := d0.size
  have z1 : 0 ≤ w * h := z1
  have z2 : w * h ≤ 3600 := z2
  have z3 : 0 ≤ (w + 15) / 16 * ((h + 15) / 16) := z3
  have z4 : (w + 15) / 16 * ((h + 15) / 16) ≤ 16 := z4
  have ewh : IntKind.wrap .i64 (w * h) = w * h := wrap_id (by omega) (by omega)
  have ett : IntKind.wrap .i64 ((w + 15) / 16 * ((h + 15) / 16)) = (w + 15) / 16 * ((h + 15) / 16) := wrap_id (by omega) (by omega)
  unfold alc
  refine ⟨by omega, _, rfl, (w + 15) / 16, ?_, by omega, ?_⟩
  · rw [ew1, ew2, ew3, add_none, Nat.zero_add]
    exact cell_get (get_push_self _ _) rfl
  rw [ew1, ew2, ew3, eh1, eh2, eh3, ewh, ett]
  have e2 : Ext H2 (H2.push (.cells #[.int .i64 w, .int .i64 h, .int .i64 ((w + 15) / 16), .int .i64 cap, .int .i64 0, .slice none 0 0] 49)) := Ext.push _ _
  have hB := get_push_self H2 (.cells #[.int .i64 w, .int .i64 h, .int .i64 ((w + 15) / 16), .int .i64 cap, .int .i64 0, .slice none 0 0] 49)
  have hBs : (H2.push (.cells #[.int .i64 w, .int .i64 h, .int .i64 ((w + 15) / 16), .int .i64 cap, .int .i64 0, .slice none 0 0] 49)).size = H2.size + 1 := by simp
  generalize H2.push (.cells #[.int .i64 w, .int .i64 h, .int .i64 ((w + 15) / 16), .int .i64 cap, .int .i64 0, .slice none 0 0] 49) = H3 at e2 hB hBs ⊢
  generalize hN1 : (w * h).toNat = N1
  generalize hN2 : ((w + 15) / 16 * ((h + 15) / 16)).toNat = N2
  -- the plays
  have plays : ∀ (H9 : Heap) (lp : Option Addr) (k : Bk) (X : List Value → Heap → Prop), PB cap H H9 A lp 1 1 s0 k → k.B = H2.size → k.w = w → k.h = h → k.next = 0 →
      (∀ l36p : Option Addr, ∀ l36l : Nat, ∀ l36c : Nat, ∀ t37 : Int, ∀ H_38 : Heap, (br (decide ((t37 : Int) < ((ol : Nat) : Int)))
 (∃ a39 : Addr, op = some a39 ∧ 0 ≤ t37 ∧ t37 < ((ol : Nat) : Int) ∧ ∃ v40 : Array Value, v40.size = 7 ∧ rowIn H_38 (Addr.add a39 (Int.toNat t37 * 7)) v40 ∧ (v40.size = 7 ∧ stAt (H_38.push (.cells #[Value.int .i64 0, Value.int .i64 0, Value.int .i64 0, Value.int .i64 0, Value.int .i64 0, Value.int .i64 0, Value.int .i64 0] 31)) ⟨H_38.size, 0, none⟩ (Array.toList v40) fun H_43 => ∃ v44 : Array Value, v44.size = 7 ∧ rowIn H_43 ⟨H_38.size, 0, none⟩ v44 ∧ CallsH Try.prog 21 #[Value.pointer (some ⟨H2.size, 0, none⟩), Value.slice l36p l36l l36c, Value.agg v44] H_43 fun r45 H_46 => ∃ r47p : Option Addr, ∃ r47l : Nat, ∃ r47c : Nat, ∃ r48 : Bool, r45 = Value.tuple #[Value.slice r47p r47l r47c, Value.bool r48] ∧ br (!r48) (R (Value.bool false) H_46) (CallsH Try.prog 22 #[Value.pointer (some ⟨H2.size, 0, none⟩), Value.pointer (some ⟨A, 0, none⟩), Value.slice r47p r47l r47c] H_46 fun r49 H_50 => ∃ r51 : Bool, r49 = Value.bool r51 ∧ br (!r51)
 (R (Value.bool false) H_50)
 (br (decide ((((r47l : Nat) : Int) : Int) > 8))
 (R (Value.bool true) H_50)
 (X [Value.slice r47p r47l r47c, Value.int .i64 (IntKind.wrap .i64 (t37 + 1))] H_50)))))
 (CallsH Try.prog 23 #[Value.pointer (some ⟨p0.b, 0, none⟩)] H_38 fun r52 H_53 => ∃ r54 : Int, ∃ r55 : Int, r52 = Value.tuple #[Value.int .i64 r54, Value.int .i64 r55] ∧ br ((r54 : Int) == w) (br ((r55 : Int) == h) (CallsH Try.prog 20 #[Value.pointer (some ⟨p0.b, 0, none⟩), Value.int .i64 (-1), Value.int .i64 0] H_53 fun r56 H_57 => ∃ r58 : Int, r56 = Value.int .i64 r58 ∧ br ((r58 : Int) == 0) (CallsH Try.prog 20 #[Value.pointer (some ⟨p0.b, 0, none⟩), Value.int .i64 w, Value.int .i64 0] H_57 fun r59 H_60 => ∃ r61 : Int, r59 = Value.int .i64 r61 ∧ br ((r61 : Int) == 0) (CallsH Try.prog 20 #[Value.pointer (some ⟨p0.b, 0, none⟩), Value.int .i64 0, Value.int .i64 h] H_60 fun r62 H_63 => ∃ r64 : Int, r62 = Value.int .i64 r64 ∧ R (Value.bool ((r64 : Int) == 0)) H_63) (R (Value.bool false) H_60)) (R (Value.bool false) H_57)) (R (Value.bool false) H_53)) (R (Value.bool false) H_53))) → X [Value.slice l36p l36l l36c, Value.int .i64 t37] H_38) → X [Value.slice lp 1 1, Value.int .i64 0] H9 := by
    intro H9 lp k X pb0 kB kw kh kn hX
    have loop : ∀ (m t : Nat) (s : St) (k : Bk) (H4 : Heap) (lp : Option Addr) (ll lc : Nat), ol - t = m → t ≤ ol → ll ≤ 8 → PB cap H H4 A lp ll lc s k → k.B = H2.size → k.w = w → k.h = h → k.next ≤ 16 * t → (ptrs s)[0]? = some (Value.pointer (some ⟨p0.b, 0, none⟩)) →
        X [Value.slice lp ll lc, Value.int .i64 t] H4 := by
      intro m
      induction m with
      | zero =>
        intro t s k H4 lp ll lc hm ht hll pb kB kw kh kn hpt
        refine hX lp ll lc t H4 (br_n (by omega) ?_)
        obtain ⟨p, hp, hpe⟩ : ∃ p, s.pls[0]? = some p ∧ p.b = p0.b := by
          unfold ptrs at hpt
          rw [List.getElem?_map] at hpt
          obtain ⟨p, hp, he⟩ := Option.map_eq_some_iff.1 hpt
          exact ⟨p, hp, by simpa using he⟩
        have hpm := List.mem_of_getElem? hp
        have hwh := pb.rel.wh p hpm
        have hok := pb.pi.at_.ok
        have out : ∀ X Y, ¬ (0 ≤ X ∧ X < w ∧ 0 ≤ Y ∧ Y < h) → pxAt s p X Y = 0 := fun X Y hn => by
          have : p.has X Y = false := by unfold Pl.has; rw [hwh.1, hwh.2, kw, kh]; exact decide_eq_false hn
          simp [pxAt, this]
        rw [← hpe]
        refine c23 (pb.pi.at_.inn.plane p hpm) ⟨_, _, rfl, ?_⟩
        rw [hwh.1, hwh.2, kw, kh]
        refine br_eq (fun _ => br_eq (fun _ => ?_) (fun hh => absurd rfl hh)) (fun hh => absurd rfl hh)
        refine c20 pb.pi.at_.inn hok hpm _ _ fun H5 e5 => ⟨_, rfl, ?_⟩
        rw [out _ _ (by omega)]
        refine br_t rfl (c20 (pb.ext e5).pi.at_.inn hok hpm _ _ fun H6 e6 => ⟨_, rfl, ?_⟩)
        rw [out _ _ (by omega)]
        refine br_t rfl (c20 ((pb.ext e5).ext e6).pi.at_.inn hok hpm _ _ fun H7 e7 => ⟨_, rfl, ?_⟩)
        rw [out _ _ (by omega)]
        exact R1 _ (pb.extAll.trans (e5.trans (e6.trans e7)))
      | succ m ih =>
        intro t s k H4 lp ll lc hm ht hll pb kB kw kh kn hpt
        have ew : IntKind.wrap .i64 ((t : Int) + 1) = ((t + 1 : Nat) : Int) := by rw [wrap_id (by omega) (by omega)]; omega
        obtain ⟨ao, rfl, o, hoo, hrow⟩ := (hops.ext pb.extAll) t (by omega)
        refine hX lp ll lc t H4 (br_y (by omega) ⟨_, rfl, by omega, by omega, o.cells, rfl, by simpa using hrow, rfl, copy_op rfl fun H5 e5 hop => ⟨o.cells, rfl, rowIn_whole hop, ?_⟩⟩)
        have pb5 := pb.ext e5
        rw [← kB]
        refine c21 pb5 (by omega) (by omega) hoo fun H6 lp' ll' lc' s' k' nx hll' => ⟨lp', ll', lc', true, rfl, br_f rfl ?_⟩
        have nxn := nx.next
        rw [← nx.B]
        refine c22 nx.pb (by omega) (by omega) fun H7 e7 => ⟨true, rfl, br_f rfl ?_⟩
        refine br_dec (fun _ => R1 _ (nx.pb.extAll.trans e7)) (fun hle => ?_)
        rw [ew]
        exact ih (t + 1) s' k' H7 lp' ll' lc' (by omega) (by omega) (by omega) (nx.pb.ext e7) (by rw [nx.B, kB]) (by rw [nx.w, kw]) (by rw [nx.h, kh]) (by omega) (nx.ptrs 0 _ hpt)
    refine loop ol 0 s0 k H9 lp 1 1 (by omega) (by omega) (by omega) pb0 kB kw kh (by omega) ?_
    unfold ptrs; rw [hpl]; rfl
  -- the book is laid
  have hsz2 := a0.ext.size
  have build : ∀ (Hx : Heap) (pb tb : Nat), Ext H3 Hx → SL H3.size Hx (some ⟨pb, 0, none⟩) N1 N1 3 (ints (List.replicate N1 0)) → SL H3.size Hx (some ⟨tb, 0, none⟩) N2 N2 3 (ints (List.replicate N2 0)) → pb ≠ tb →
      ∀ f : Heap → Prop, (∀ H8, (∀ H9 lp, Ext H8 H9 → SL H.size H9 lp 1 1 26 (ptrs s0) → PB cap H H9 A lp 1 1 s0 (newBk H2.size Hx.size pb tb w h cap)) → H.size ≤ H8.size → f H8) →
      stAt (Hx.push (.cells #[Value.slice (some ⟨pb, 0, none⟩) N1 N1, Value.slice (some ⟨tb, 0, none⟩) N2 N2] 51)) ⟨H2.size, 5, none⟩ [Value.slice (some ⟨Hx.size, 0, none⟩) 1 1] f := by
    intro Hx pb tb ex spx stx hpt f hf
    have hxs := ex.size
    have hpb : H3.size ≤ pb ∧ pb < Hx.size := ⟨by rcases spx.at_ with ⟨a, _⟩ | ⟨b, cs, a, a2, _⟩ <;> cases a; exact a2, spx.some_lt⟩
    have htb : H3.size ≤ tb ∧ tb < Hx.size := ⟨by rcases stx.at_ with ⟨a, _⟩ | ⟨b, cs, a, a2, _⟩ <;> cases a; exact a2, stx.some_lt⟩
    have e3 : Ext Hx (Hx.push (.cells #[Value.slice (some ⟨pb, 0, none⟩) N1 N1, Value.slice (some ⟨tb, 0, none⟩) N2 N2] 51)) := Ext.push _ _
    have hl := get_push_self Hx (.cells #[Value.slice (some ⟨pb, 0, none⟩) N1 N1, Value.slice (some ⟨tb, 0, none⟩) N2 N2] 51)
    have hls : (Hx.push (.cells #[Value.slice (some ⟨pb, 0, none⟩) N1 N1, Value.slice (some ⟨tb, 0, none⟩) N2 N2] 51)).size = Hx.size + 1 := by simp
    generalize Hx.push (.cells #[Value.slice (some ⟨pb, 0, none⟩) N1 N1, Value.slice (some ⟨tb, 0, none⟩) N2 N2] 51) = H4 at e3 hl hls
    have hB4 := e3 _ _ (ex _ _ hB)
    refine stAt_one hB4 (by simp) rfl ?_
    have hk : ∀ (b : Nat) (o : Obj), H4[b]? = some o → b ≠ H2.size → (H4.setIfInBounds H2.size (.cells (#[.int .i64 w, .int .i64 h, .int .i64 ((w + 15) / 16), .int .i64 cap, .int .i64 0, .slice none 0 0].setIfInBounds 5 (.slice (some ⟨Hx.size, 0, none⟩) 1 1)) 49))[b]? = some o := fun b o hb hn => get_set_ne (Ne.symm hn) hb
    have hB5 : (H4.setIfInBounds H2.size (.cells (#[.int .i64 w, .int .i64 h, .int .i64 ((w + 15) / 16), .int .i64 cap, .int .i64 0, .slice none 0 0].setIfInBounds 5 (.slice (some ⟨Hx.size, 0, none⟩) 1 1)) 49))[H2.size]? = some (bookO (newBk H2.size Hx.size pb tb w h cap)) := get_set_self hB4
    have hsz5 : (H4.setIfInBounds H2.size (.cells (#[.int .i64 w, .int .i64 h, .int .i64 ((w + 15) / 16), .int .i64 cap, .int .i64 0, .slice none 0 0].setIfInBounds 5 (.slice (some ⟨Hx.size, 0, none⟩) 1 1)) 49)).size = H4.size := by simp
    generalize H4.setIfInBounds H2.size (.cells (#[.int .i64 w, .int .i64 h, .int .i64 ((w + 15) / 16), .int .i64 cap, .int .i64 0, .slice none 0 0].setIfInBounds 5 (.slice (some ⟨Hx.size, 0, none⟩) 1 1)) 49) = H5 at hk hB5 hsz5
    have z0 : ∀ {b n c : Nat} {l : List Value}, SL H3.size Hx (some ⟨b, 0, none⟩) n c 3 l → b ≠ H2.size → SL 0 H5 (some ⟨b, 0, none⟩) n c 3 l := fun x hn => ((x.ext e3).keep1 fun o ho => hk _ _ ho hn) |> fun x => ⟨x.len, x.le, x.at_.imp id fun ⟨b, cs, a1, _, a3⟩ => ⟨b, cs, a1, Nat.zero_le _, a3⟩⟩
    have bin5 : BIn H5 (newBk H2.size Hx.size pb tb w h cap) := by
      refine ⟨hB5, ⟨_, hk _ _ hl (by show Hx.size ≠ H2.size; omega), ⟨Nat.le_refl _, rfl⟩, fun i p hp => ?_⟩, fun p hp => ?_, fun p hp => ?_⟩
      · match i, hp with
        | 0, hp => simp [newBk] at hp; subst hp; simp [BPl.pxV, BPl.tlV, hN1, hN2]
        | i + 1, hp => simp [newBk] at hp
      · simp only [newBk, List.mem_singleton] at hp; subst hp
        simp only [hN1, List.length_replicate]
        exact z0 spx (by omega)
      · simp only [newBk, List.mem_singleton] at hp; subst hp
        simp only [hN2, List.length_replicate]
        exact z0 stx (by omega)
    have a2 : At cap H H5 s0 := by
      have a1 := a0.step (e2.trans (ex.trans e3))
      have hin := a0.inn
      have lt2 : ∀ {b : Nat} {o : Obj}, H2[b]? = some o → H5[b]? = some o := fun {b o} hb => hk b o (e3 _ _ (ex _ _ (e2 _ _ hb))) (by have := lt_of_get hb; omega)
      exact ⟨⟨lt2 hin.arena, fun p hp => lt2 (hin.plane p hp), fun p hp => lt2 (hin.map p hp), fun z hz => lt2 (hin.tile z hz)⟩, a0.ok, fun b o hb => lt2 (a0.ext b o hb), a1.low⟩
    refine hf H5 (fun H9 lp e9 sl9 => ?_) (by omega)
    refine ⟨⟨a2.step e9, sl9, hA⟩, bin5.ext e9, rel0 _ _ _ _, newBk_dim w1 w2 h0 h2, ?_, rfl, Int.le_refl _, by show H.size ≤ H2.size; omega, by show H.size ≤ Hx.size; omega, fun q hq => ?_⟩
    · refine ⟨by show H2.size ≠ Hx.size; omega, by simp [newBk], by simp [newBk], fun p hp q hq => ?_, fun p hp => ?_⟩
      · simp only [newBk, List.mem_singleton] at hp hq; subst hp hq; exact hpt
      · simp only [newBk, List.mem_singleton] at hp; subst hp
        show pb ≠ H2.size ∧ pb ≠ Hx.size ∧ tb ≠ H2.size ∧ tb ≠ Hx.size
        omega
    · simp only [newBk, List.mem_singleton] at hq; subst hq
      show H.size ≤ pb ∧ H.size ≤ tb
      omega
  have hps : ptrs s0 = [Value.pointer (some ⟨p0.b, 0, none⟩)] := by unfold ptrs; rw [hpl]; rfl
  have pl1 : ∀ {Hx : Heap} {pb tb : Nat}, (List.toArray (setL [Value.slice none 0 0, Value.slice none 0 0] 0 (Array.toList #[Value.slice (some ⟨pb, 0, none⟩) N1 N1, Value.slice (some ⟨tb, 0, none⟩) N2 N2]))) = #[Value.slice (some ⟨pb, 0, none⟩) N1 N1, Value.slice (some ⟨tb, 0, none⟩) N2 N2] := fun {_ _ _} => rfl
  refine ⟨⟨z1, Int.le_refl _, by omega, by omega, Ext.push _ _, z3, Int.le_refl _, by omega, by omega, rfl, by omega, _, rfl, ?_⟩, ⟨z3, Int.le_refl _, by omega, by omega, z1, Int.le_refl _, by omega, by omega, rfl, by omega, _, rfl, ?_⟩⟩
  · simp only [add_none, Nat.zero_add]
    refine build _ H3.size (H3.push _).size ((Ext.push _ _).trans (Ext.push _ _)) ((zeros_sl (Nat.le_refl _) (get_push_self _ _)).ext (Ext.push _ _)) (zeros_sl (by simp) (get_push_self _ _)) (by simp) _ fun H8 pb8 hsz8 => ?_
    intro X hX
    exact plays _ _ _ X (pb8 _ _ (Ext.push _ _) (by rw [hps]; exact SL.one hsz8 (get_push_self _ _))) rfl rfl rfl rfl hX
  · simp only [add_none, Nat.zero_add]
    refine build _ (H3.push _).size H3.size ((Ext.push _ _).trans (Ext.push _ _)) (zeros_sl (by simp) (get_push_self _ _)) ((zeros_sl (Nat.le_refl _) (get_push_self _ _)).ext (Ext.push _ _)) (by simp) _ fun H8 pb8 hsz8 => ?_
    intro X hX
    exact plays _ _ _ X (pb8 _ _ (Ext.push _ _) (by rw [hps]; exact SL.one hsz8 (get_push_self _ _))) rfl rfl rfl rfl hX

end Go.Proofs
