/-
  OWN WORK. Several texts in one: FlS, FlT, FlU, FlP, FlV, FmA, OpBytes.
-/
import Derived.Test.YtckbndhljfijhaaMgFlateRightE
import Derived.Test.YtckbndhljfijhaaMgFlateRightD
import Derived.Test.YtckbndhljfijhaaRows
import Derived.Test.YtckbndhljfijhaaMgFlateRightB
import Derived.ChangeSlices

set_option linter.unusedVariables false
set_option linter.unusedSimpArgs false
namespace Go.Proofs
open Go.Sh
variable {H0 H : Heap} {σ : List Rs} {R : Value → Heap → Prop}
theorem perm24 (a b c d e f : Rs) (τ : List Rs) : (a :: b :: c :: d :: e :: f :: τ).Perm (c :: d :: e :: f :: a :: b :: τ) := (List.perm_append_comm (l₁ := [a, b]) (l₂ := [c, d, e, f])).append_right τ
theorem cntH_step {all : List Int} {k : Nat} {n : Int} (h : all[k]? = some n) : cntH (all.take (k + 1)) = bump (cntH (all.take k)) n := by
 unfold cntH
 rw [List.take_add_one, h, Option.toList_some, List.foldl_append]; rfl
set_option maxHeartbeats 1000000 in
theorem c22 (hs : St H0 H σ) {i k b m : Nat} {ws : List Int} {ts : List Tok} {q : Option Addr} (hi : σ[i]? = some (wrR b false ws)) (hk : σ[k]? = some (.sl q ts.length m 82 3 (tokL ts)))
    (hik : i ≠ k) (hr : ∀ t ∈ ts, TokR t) (hl : ws.length + 50 * ts.length + 10000 ≤ 1000000000) {last : Int} (h01 : 0 ≤ last ∧ last < 2)
    (hR : ∀ H', St H0 H' (σ.set i (wrR b false (ws ++ dynB ts last))) → R (.tuple #[]) H') :
    CallsH Try.prog 22 #[.agg #[.pointer (some ⟨b, 0, none⟩)], .slice q ts.length m, .int .i64 last] H R := by
  have dy := dyn_of hr (by omega)
  have hcl := (cntL_ok hr)
  have hcd := (cntD_ok hr)
  refine Try.s22 ?_
  unfold Try.S22
  refine hs.alc fun b4 H5 hs5 => ?_
  refine c49 (hs5.rs (k + 1) (by rw [List.getElem?_cons_succ]; exact hk)) hr (by omega) fun b1 b2 H7 hs7 => ⟨_, _, _, _, _, _, rfl, ?_⟩
  have hs7 := hs5.call hs7
  have wl : (litL ts).length = (cntL ts).length := by rw [dy.ll, hcl.1]
  have wd : (dstL ts).length = (cntD ts).length := by rw [dy.dl, hcd.1]
  refine c50 (hs7.is 0 rfl) (by rw [hcl.1]; decide) (by rw [hcl.1]; decide) (fun x hx => (hcl.2.1 x hx).1) dy.lo wl fun bl H11 hs11 => ⟨_, _, _, rfl, ?_⟩
  have hs11 := hs7.call hs11
  refine c50 (hs11.is 2 rfl) (by rw [hcd.1]; decide) (by rw [hcd.1]; decide) (fun x hx => (hcd.2.1 x hx).1) dy.do_ wd fun bd H14 hs14 => ⟨_, _, _, rfl, ?_⟩
  have hs14 := hs11.call hs14
  change St H0 H14 (.sl (some ⟨bd, 0, none⟩) (dstL ts).length (dstL ts).length 3 1 (ints (dstL ts)) :: .sl (some ⟨bl, 0, none⟩) (litL ts).length (litL ts).length 3 1 (ints (litL ts)) :: _ :: _ :: _ :: σ) at hs14
  refine c19 (ll := litL ts) (dl := dstL ts) (hs14.is 1 rfl) (hs14.is 0 rfl) dy.l.ok dy.d.ok fun q3 q4 H17 hs17 => ⟨_, rfl, ?_⟩
  have hs17 := hs14.call hs17
  refine hs17.alc fun b19 H20 hs20 => ⟨rfl, hs20.putAll 0 rfl rfl (by simp [Value.oneCell']) fun H21 hs21 => ?_⟩
  rw [List.set_cons_zero] at hs21
  have hs21 := (hs21.del 5).del 5
  refine ⟨_, _, _, hs21.get 0 (j := 0) rfl rfl, _, _, _, hs21.get 0 (j := 1) rfl rfl, hs21.alc fun b24 H25 hs25 => ?_⟩
  refine c51 (hs25.block 0 rfl) (hs25.rs 5 rfl) (hs25.rs 4 rfl) (by rw [dy.ll, dy.dl]; decide) fun H27 pa ca fa ea => ⟨_, _, _, rfl, by decide, by decide, by decide, by decide, ?_⟩
  have hs27 := hs25.newSl ea fa
  rw [← ints_append] at hs27
  -- the codes are kept
  have hs27 : St H0 H27 (.pers (SetI (some ⟨bl, 0, none⟩) (some ⟨bd, 0, none⟩) q3 q4 (litL ts) (dstL ts)) :: .sl pa ((litL ts).length + (dstL ts).length) ca 3 1 (ints (litL ts ++ dstL ts)) :: .cell b19 #[.slice (some ⟨bl, 0, none⟩) (litL ts).length (litL ts).length, .slice (some ⟨bd, 0, none⟩) (dstL ts).length (dstL ts).length, .slice q3 (litL ts).length (litL ts).length, .slice q4 (dstL ts).length (dstL ts).length] 48 :: .cell b4 #[.pointer (some ⟨b, 0, none⟩)] 43 :: σ) := by
    have h1 := hs27.del 1
    have h2 : St H0 H27 ([.sl q4 (dstL ts).length (dstL ts).length 3 1 (ints (codesM (dstL ts))), .sl q3 (litL ts).length (litL ts).length 3 1 (ints (codesM (litL ts))), .sl (some ⟨bd, 0, none⟩) (dstL ts).length (dstL ts).length 3 1 (ints (dstL ts)), .sl (some ⟨bl, 0, none⟩) (litL ts).length (litL ts).length 3 1 (ints (litL ts))] ++
        (.sl pa ((litL ts).length + (dstL ts).length) ca 3 1 (ints (litL ts ++ dstL ts)) :: .cell b19 #[.slice (some ⟨bl, 0, none⟩) (litL ts).length (litL ts).length, .slice (some ⟨bd, 0, none⟩) (dstL ts).length (dstL ts).length, .slice q3 (litL ts).length (litL ts).length, .slice q4 (dstL ts).length (dstL ts).length] 48 :: .cell b4 #[.pointer (some ⟨b, 0, none⟩)] 43 :: σ)) :=
      h1.perm (perm24 _ _ _ _ _ _ _)
    exact h2.persOf fun H' h => ⟨h.is 3 rfl, h.is 2 rfl, h.is 1 rfl, h.is 0 rfl⟩
  have hal : (litL ts ++ dstL ts).length = 316 := by rw [List.length_append, dy.ll, dy.dl]
  have hal2 : (litL ts).length + (dstL ts).length = 316 := by rw [dy.ll, dy.dl]
  have hall := dy.all
  refine hs27.alc fun b29 H30 hs30 => ?_
  have hs30 := st_zeros hs30 0 rfl
  rw [List.set_cons_zero] at hs30
  intro X31 hX31
  -- the counts of the lengths
  have cnts : ∀ t, t ≤ 316 → ∀ H33, St H0 H33 (.sl (some ⟨b29, 0, none⟩) 19 19 3 1 (ints (cntH ((litL ts ++ dstL ts).take t))) :: .pers (SetI (some ⟨bl, 0, none⟩) (some ⟨bd, 0, none⟩) q3 q4 (litL ts) (dstL ts)) :: .sl pa ((litL ts).length + (dstL ts).length) ca 3 1 (ints (litL ts ++ dstL ts)) :: .cell b19 #[.slice (some ⟨bl, 0, none⟩) (litL ts).length (litL ts).length, .slice (some ⟨bd, 0, none⟩) (dstL ts).length (dstL ts).length, .slice q3 (litL ts).length (litL ts).length, .slice q4 (dstL ts).length (dstL ts).length] 48 :: .cell b4 #[.pointer (some ⟨b, 0, none⟩)] 43 :: σ) → X31 [.int .i64 (t : Nat)] H33 := upto fun t ht ih H33 hs33 => by
    refine hX31 _ H33 (br_dec (fun hlt => ?_) (fun hge => ?_))
    · have hlt : t < 316 := by omega
      have hA : IS H33 pa ((litL ts).length + (dstL ts).length) (kints .i64 (litL ts ++ dstL ts)) := hs33.is 2 rfl
      have hg := get_gD (litL ts ++ dstL ts) 0 (i := t) (by omega)
      have hm := hall _ (List.mem_of_getElem? hg)
      have ih := ih hlt
      rw [cntH_step hg] at ih
      generalize (litL ts ++ dstL ts).getD t 0 = n at hg hm ih
      refine hA.rd (by omega) (by omega) (by rw [Int.toNat_natCast]; exact hg) ?_
      obtain ⟨s, rfl⟩ := Int.eq_ofNat_of_zero_le hm.1
      have hC : IS H33 (some ⟨b29, 0, none⟩) 19 (kints .i64 (cntH ((litL ts ++ dstL ts).take t))) := hs33.is 0 rfl
      have hcl : (cntH ((litL ts ++ dstL ts).take t)).length = 19 := by unfold cntH; rw [foldl_bump_len, List.length_replicate]
      have hcr := cnt_rng (l := (litL ts ++ dstL ts).take t) (o := List.replicate 19 0) (s := s) (fun x hx => by have := hall x (List.mem_of_mem_take hx); rw [List.length_replicate]; omega) (fun x hx => by rw [(List.mem_replicate.1 hx).2]; omega)
      rw [List.length_take] at hcr
      refine hC.rd (by omega) (by omega) (by rw [Int.toNat_natCast]; exact bump_get (by omega)) ⟨_, rfl, by omega, by omega, ?_⟩
      rw [Int.toNat_natCast, add_none, Nat.zero_add, Nat.mul_one]
      refine st_bump hs33 0 rfl (by omega) (by unfold cntH; omega) fun H39 hs39 => ?_
      rw [wrap_id (by omega) (by omega)]
      exact ih H39 hs39
    · have : t = 316 := by omega
      subst this
      rw [List.take_of_length_le (by omega)] at hs33
      obtain ⟨h1, h2, _, _⟩ := bumps_ok (l := litL ts ++ dstL ts) (o := List.replicate 19 0) (fun x hx => by have := hall x hx; rw [List.length_replicate]; omega) (fun x hx => by rw [(List.mem_replicate.1 hx).2]; omega)
      rw [List.length_replicate] at h1
      have hcl : (cntH (litL ts ++ dstL ts)).length = 19 := h1
      refine c53 hs33 (i := 0) rfl hcl (by rw [hcl]; decide) (by rw [hcl]; decide) (fun x hx => by have := h2 x hx; omega) fun H41 hs41 => ⟨_, _, _, rfl, ?_⟩
      rw [List.set_cons_zero] at hs41
      refine c52 (hs41.is 0 rfl) (by decide) (fun _ _ hn => absurd dy.ho hn) fun _ H44 bf ff ef => ⟨_, _, _, _, rfl, ?_⟩
      have hs44 := hs41.newSl ef ff
      change St H0 H44 (.sl (some ⟨bf, 0, none⟩) 19 19 3 1 (ints (hdrL ts)) :: _) at hs44
      refine c47 (hs44.is 0 rfl) (fun hn => absurd dy.h.ok hn) fun _ H48 bc fc ec => ⟨_, _, _, _, rfl, ?_⟩
      have hs48 := (hs44.newSl ec fc).del 2
      have hs48 : St H0 H48 (.sl (some ⟨bc, 0, none⟩) 19 19 3 1 (ints (codesM (hdrL ts))) :: .sl (some ⟨bf, 0, none⟩) 19 19 3 1 (ints (hdrL ts)) :: .pers (SetI (some ⟨bl, 0, none⟩) (some ⟨bd, 0, none⟩) q3 q4 (litL ts) (dstL ts)) :: .sl pa ((litL ts).length + (dstL ts).length) ca 3 1 (ints (litL ts ++ dstL ts)) ::
          .cell b19 #[.slice (some ⟨bl, 0, none⟩) (litL ts).length (litL ts).length, .slice (some ⟨bd, 0, none⟩) (dstL ts).length (dstL ts).length, .slice q3 (litL ts).length (litL ts).length, .slice q4 (dstL ts).length (dstL ts).length] 48 :: .cell b4 #[.pointer (some ⟨b, 0, none⟩)] 43 :: σ.set i (wrR b false ws)) := by
        obtain ⟨g1, g2⟩ := List.getElem?_eq_some_iff.1 hi
        rw [← g2, List.set_getElem_self]; exact hs48
      generalize hP : Rs.pers (SetI (some ⟨bl, 0, none⟩) (some ⟨bd, 0, none⟩) q3 q4 (litL ts) (dstL ts)) = P at *
      generalize hA : Rs.sl pa ((litL ts).length + (dstL ts).length) ca 3 1 (ints (litL ts ++ dstL ts)) = A at *
      generalize hS : Rs.cell b19 #[.slice (some ⟨bl, 0, none⟩) (litL ts).length (litL ts).length, .slice (some ⟨bd, 0, none⟩) (dstL ts).length (dstL ts).length, .slice q3 (litL ts).length (litL ts).length, .slice q4 (dstL ts).length (dstL ts).length] 48 = S at *
      generalize hF : Rs.sl (some ⟨bf, 0, none⟩) 19 19 3 1 (ints (hdrL ts)) = F at *
      generalize hC : Rs.sl (some ⟨bc, 0, none⟩) 19 19 3 1 (ints (codesM (hdrL ts))) = C at *
      generalize hD : Rs.cell b4 #[.pointer (some ⟨b, 0, none⟩)] 43 = D at *
      have hW : ∀ x : List Int, (C :: F :: P :: A :: S :: D :: σ.set i (wrR b false x))[i + 6]? = some (wrR b false x) := fun x => by
        simp only [List.getElem?_cons_succ]; exact setget hi _
      have step : ∀ {H1 : Heap} {x : List Int}, St H0 H1 (C :: F :: P :: A :: S :: D :: σ.set i (wrR b false x)) → ∀ {v : Int} {n : Nat}, n ≤ 24 → 0 ≤ v → v < 2 ^ n → x.length + n ≤ 1000000000 → ∀ {K : Bool → Heap → Prop}, (∀ H2, St H0 H2 (C :: F :: P :: A :: S :: D :: σ.set i (wrR b false (x ++ bitsOf false v n))) → K true H2) →
          CallsH Try.prog 17 #[.pointer (some ⟨b, 0, none⟩), .int .i64 v, .int .i64 (n : Nat)] H1 fun r H2 => ∃ z, r = .bool z ∧ K z H2 := fun hs1 v n h1 h2 h3 h4 K hK =>
        put_ok hs1 (hW _) h1 h2 h3 h4 fun H2 hs2 => ⟨_, rfl, hK H2 (by simp only [List.set_cons_succ] at hs2; rw [setset] at hs2; exact hs2)⟩
      have gW : ∀ {H1 : Heap} {x : List Int}, St H0 H1 (C :: F :: P :: A :: S :: D :: σ.set i (wrR b false x)) → Sh.cell H1 ⟨b4, 0, none⟩ = some (.pointer (some ⟨b, 0, none⟩)) := fun hs1 => hs1.get 5 (j := 0) (by rw [← hD]; rfl) rfl
      have hbase : ws.length + 8000 ≤ 1000000000 := by omega
      refine ⟨_, gW hs48, step (n := 1) hs48 (by omega) h01.1 (by have := h01.2; omega) (by omega) fun H53 hs53 => ?_⟩
      refine ⟨_, gW hs53, step (n := 2) hs53 (by omega) (by omega) (by decide) (by rw [List.length_append, bitsOf_len]; omega) fun H57 hs57 => ?_⟩
      refine ⟨_, gW hs57, _, _, _, hs57.get 4 (j := 0) (by rw [← hS]; rfl) rfl, ?_⟩
      rw [show IntKind.wrap .i64 (((litL ts).length : Int) - 257) = 29 from by rw [dy.ll]; decide]
      refine step (n := 5) hs57 (by omega) (by omega) (by decide) (by simp only [List.length_append, bitsOf_len]; omega) fun H62 hs62 => ?_
      refine ⟨_, gW hs62, _, _, _, hs62.get 4 (j := 1) (by rw [← hS]; rfl) rfl, ?_⟩
      rw [show IntKind.wrap .i64 (((dstL ts).length : Int) - 1) = 29 from by rw [dy.dl]; decide]
      refine step (n := 5) hs62 (by omega) (by omega) (by decide) (by simp only [List.length_append, bitsOf_len]; omega) fun H67 hs67 => ?_
      refine ⟨_, gW hs67, step (n := 4) hs67 (by omega) (by omega) (by decide) (by simp only [List.length_append, bitsOf_len]; omega) fun H71 hs71 => ?_⟩
      refine c54 fun bo H74 hs74 => ⟨_, _, _, rfl, ?_⟩
      have hs74 := hs71.call hs74
      change St H0 H74 (.sl (some ⟨bo, 0, none⟩) 19 19 3 1 (ints (ordL.map Int.ofNat)) :: C :: F :: P :: A :: S :: D :: σ.set i (wrR b false _)) at hs74
      generalize hO : Rs.sl (some ⟨bo, 0, none⟩) 19 19 3 1 (ints (ordL.map Int.ofNat)) = O at *
      have hws : (ws ++ bitsOf false last 1 ++ bitsOf false 2 2 ++ bitsOf false 29 5 ++ bitsOf false 29 5 ++ bitsOf false 15 4).length = ws.length + 17 := by simp only [List.length_append, bitsOf_len]
      have hdef : ws ++ dynB ts last = (ws ++ bitsOf false last 1 ++ bitsOf false 2 2 ++ bitsOf false 29 5 ++ bitsOf false 29 5 ++ bitsOf false 15 4) ++ ordL.flatMap (fun s => bitsOf false ((hdrL ts).getD s 0) 3) ++ (litL ts ++ dstL ts).flatMap (fun n => symBits (hdrL ts) n.toNat) ++ toksB (litL ts) (dstL ts) ts := by
        unfold dynB; simp only [List.append_assoc]
      rw [hdef] at hR
      generalize (ws ++ bitsOf false last 1 ++ bitsOf false 2 2 ++ bitsOf false 29 5 ++ bitsOf false 29 5 ++ bitsOf false 15 4) = w0 at *
      have hWO : ∀ x : List Int, (O :: C :: F :: P :: A :: S :: D :: σ.set i (wrR b false x))[i + 7]? = some (wrR b false x) := fun x => by
        simp only [List.getElem?_cons_succ]; exact setget hi _
      have hh8 : ∀ x ∈ hdrL ts, 0 ≤ x ∧ x < 8 := fun x hx => by have := dy.h.rng x hx; omega
      intro X76 hX76
      have ords : ∀ t, t ≤ 19 → ∀ H1, St H0 H1 (O :: C :: F :: P :: A :: S :: D :: σ.set i (wrR b false (w0 ++ (ordL.take t).flatMap (fun s => bitsOf false ((hdrL ts).getD s 0) 3)))) → X76 [.int .i64 (t : Nat)] H1 := upto fun t ht ih H1 hs1 => by
        refine hX76 _ H1 (br_dec (fun hlt => ?_) (fun hge => ?_))
        · have hlt : t < 19 := by omega
          have hOI : IS H1 (some ⟨bo, 0, none⟩) 19 (kints .i64 (ordL.map Int.ofNat)) := hs1.is 0 (by rw [← hO]; rfl)
          have hFI : IS H1 (some ⟨bf, 0, none⟩) 19 (kints .i64 (hdrL ts)) := hs1.is 2 (by rw [← hF]; rfl)
          have ho := ordL_lt ⟨t, hlt⟩
          simp only at ho
          have hg := ordI_get hlt
          have hfl : ((ordL.take t).flatMap (fun s => bitsOf false ((hdrL ts).getD s 0) 3)).length ≤ 3 * t := by
            have : ∀ l : List Nat, (l.flatMap (fun s => bitsOf false ((hdrL ts).getD s 0) 3)).length = 3 * l.length := fun l => by
              induction l with
              | nil => rfl
              | cons x l ih => rw [List.flatMap_cons, List.length_append, ih, bitsOf_len, List.length_cons]; omega
            rw [this, List.length_take]; omega
          have ih := ih hlt
          have eo : ordL.take (t + 1) = ordL.take t ++ [ordL.getD t 0] := by rw [List.take_add_one, get_gD ordL 0 (by show t < 19; exact hlt)]; rfl
          rw [eo, List.flatMap_append, ← List.append_assoc, List.flatMap_singleton] at ih
          generalize ordL.getD t 0 = s at ho hg ih
          refine hOI.rd (by omega) (by omega) (by rw [Int.toNat_natCast]; exact hg) ⟨_, hs1.get 6 (j := 0) (by rw [← hD]; rfl) rfl, ?_⟩
          have hv := get_gD (hdrL ts) 0 (i := s) (by rw [dy.hl]; exact ho)
          have hvr := hh8 _ (List.mem_of_getElem? hv)
          refine hFI.rd (by omega) (by omega) (by rw [Int.toNat_natCast]; exact hv) ?_
          refine put_ok hs1 (hWO _) (n := 3) (by omega) hvr.1 (by have := hvr.2; omega) (by rw [List.length_append]; omega) fun H2 hs2 => ⟨_, rfl, ?_⟩
          simp only [List.set_cons_succ] at hs2
          rw [setset] at hs2
          rw [wrap_id (by omega) (by omega)]
          exact ih H2 hs2
        · have : t = 19 := by omega
          subst this
          rw [show ordL.take 19 = ordL from rfl] at hs1
          have hlen0 : (ordL.flatMap (fun s => bitsOf false ((hdrL ts).getD s 0) 3)).length = 57 := by simp [ordL, bitsOf_len]
          generalize hw1 : w0 ++ ordL.flatMap (fun s => bitsOf false ((hdrL ts).getD s 0) 3) = w1 at hs1 hR
          have hw1l : w1.length = ws.length + 74 := by rw [← hw1, List.length_append, hws, hlen0]
          intro X87 hX87
          have h16 : ∀ n ∈ litL ts ++ dstL ts, (symBits (hdrL ts) n.toNat).length ≤ 7 := fun n hn => by
            rw [symBits_len]
            have h3 := hall n hn
            have hv := get_gD (hdrL ts) 0 (i := n.toNat) (by rw [dy.hl]; omega)
            have := dy.h.rng _ (List.mem_of_getElem? hv)
            omega
          have fl : ∀ l : List Int, (∀ n ∈ l, (symBits (hdrL ts) n.toNat).length ≤ 7) → (l.flatMap (fun n => symBits (hdrL ts) n.toNat)).length ≤ 7 * l.length := by
            intro l
            induction l with
            | nil => intro _; simp
            | cons x l ih =>
              intro h
              have := h x List.mem_cons_self
              have := ih fun y hy => h y (List.mem_cons_of_mem _ hy)
              rw [List.flatMap_cons, List.length_append, List.length_cons]; omega
          have alls : ∀ t, t ≤ 316 → ∀ H1, St H0 H1 (O :: C :: F :: P :: A :: S :: D :: σ.set i (wrR b false (w1 ++ ((litL ts ++ dstL ts).take t).flatMap (fun n => symBits (hdrL ts) n.toNat)))) → X87 [.int .i64 (t : Nat)] H1 := upto fun t ht ih H1 hs1 => by
            have hflt := fl ((litL ts ++ dstL ts).take t) fun n hn => h16 n (List.mem_of_mem_take hn)
            rw [List.length_take] at hflt
            refine hX87 _ H1 (br_dec (fun hlt => ?_) (fun hge => ?_))
            · have hlt : t < 316 := by omega
              have hAI : IS H1 pa ((litL ts).length + (dstL ts).length) (kints .i64 (litL ts ++ dstL ts)) := hs1.is 4 (by rw [← hA]; rfl)
              have hFI : IS H1 (some ⟨bf, 0, none⟩) 19 (kints .i64 (hdrL ts)) := hs1.is 2 (by rw [← hF]; rfl)
              have hCI : IS H1 (some ⟨bc, 0, none⟩) 19 (kints .i64 (codesM (hdrL ts))) := hs1.is 1 (by rw [← hC]; rfl)
              have hg := get_gD (litL ts ++ dstL ts) 0 (i := t) (by omega)
              have hm := hall _ (List.mem_of_getElem? hg)
              have ih := ih hlt
              rw [List.take_add_one, hg, Option.toList_some, List.flatMap_append, ← List.append_assoc, List.flatMap_singleton] at ih
              generalize (litL ts ++ dstL ts).getD t 0 = n at hg hm ih
              refine hAI.rd (by omega) (by omega) (by rw [Int.toNat_natCast]; exact hg) ⟨_, rfl, rowIn_whole (hs1.block 6 (by rw [← hD]; rfl)), ?_⟩
              have hv := get_gD (hdrL ts) 0 (i := n.toNat) (by rw [dy.hl]; omega)
              have hvr := hh8 _ (List.mem_of_getElem? hv)
              refine hCI.rd (by omega) (by omega) (codesM_get (by rw [dy.hl]; omega)) (hFI.rd (by omega) (by omega) hv ?_)
              refine c43 hs1 (hWO _) (by omega) (by rw [List.length_append]; omega) fun H2 hs2 => ⟨rfl, ?_⟩
              simp only [List.set_cons_succ] at hs2
              rw [setset] at hs2
              rw [wrap_id (by omega) (by omega)]
              exact ih H2 hs2
            · have : t = 316 := by omega
              subst this
              rw [List.take_of_length_le (by omega)] at hs1 hflt
              refine ⟨_, rfl, rowIn_whole (hs1.block 6 (by rw [← hD]; rfl)), _, rfl, rowIn_whole (hs1.block 5 (by rw [← hS]; rfl)), ?_⟩
              refine c18 (j := 3) (k := k + 7) hs1 (hWO _) (by rw [← hP]; rfl) (by simp only [List.getElem?_cons_succ]; exact setget_ne hik _ hk) (by omega) (by omega) dy.c hr (by rw [List.length_append]; omega) fun H2 hs2 => ⟨rfl, hR H2 ?_⟩
              simp only [List.set_cons_succ] at hs2
              rw [setset] at hs2
              exact hs2.drop 7
          refine alls 0 (by omega) H1 ?_
          rw [List.take_zero, List.flatMap_nil, List.append_nil]; exact hs1
      refine ords 0 (by omega) H74 ?_
      rw [List.take_zero, List.flatMap_nil, List.append_nil]; exact hs74
  exact cnts 0 (by omega) H30 hs30
end Go.Proofs
namespace Go.Proofs
open Go.Sh
variable {H0 H : Heap} {σ : List Rs} {R : Value → Heap → Prop}
theorem p16 : (2 : Int) ^ 16 = 65536 := by decide
theorem p8 : (2 : Int) ^ 8 = 256 := by decide
theorem e288 : 288 = fixL.length := fixL_len.symm
theorem e32 : 32 = fixD.length := fixD_len.symm
theorem xor_16 {n : Nat} (h : n < 65536) : xorI .i64 (n : Int) (65535 : Int) = ((65535 - n : Nat) : Int) := by
 have e64 : (2 : Int) ^ 64 = 18446744073709551616 := by decide
 unfold xorI
 rw [show IntKind.bits .i64 = 64 from rfl, BitVec.toNat_xor, ofInt_nat (by omega) (by omega), ofInt_nat (by omega) (by omega), Int.toNat_natCast, show Int.toNat 65535 = 65535 from rfl]
 have hx := xor_all ⟨n, h⟩
 simp only at hx
 rw [hx, wrap_id (by omega) (by omega)]
theorem c23 {p : Option Addr} {l c : Nat} {b : List Int} (h : IS H p l (kints .u8 b)) (hr : ∀ x ∈ b, 0 ≤ x ∧ x < 256) (hlc : l ≤ c) (hl : l ≤ 100000000)
    (hR : ∀ q m B H', WOk false (storB b) B → St H H' [.sl q B.length m 5 1 (kints .u8 B)] → R (.slice q B.length m) H') : CallsH Try.prog 23 #[.slice p l c] H R := by
  have hbl := h.length
  refine Try.s23 ?_
  unfold Try.S23
  refine c16 (St.nil H) fun wb H3 hs3 => ⟨_, rfl, hs3.alc fun b5 H6 hs6 => ⟨rfl, hs6.putAll 0 rfl rfl (by simp [Value.oneCell']) fun H7 hs7 => ?_⟩⟩
  rw [List.set_cons_zero] at hs7
  intro X8 hX
  have fin : ∀ q l' c' H1, St H H1 [.cell b5 (Array.toList #[.pointer (some ⟨wb, 0, none⟩)]).toArray 43, wrR wb false (storB b)] → X8 [.slice q l' c', .bool true] H1 := fun q l' c' H1 hs1 => by
    refine hX _ _ _ _ H1 (br_f rfl ⟨_, hs1.get 0 (j := 0) rfl rfl, c21 hs1 (i := 1) rfl fun q lq m B H2 ok hlb hs2 => ⟨_, _, _, rfl, ?_⟩⟩)
    subst hlb
    exact hR q m B H2 ok (hs2.take 1)
  have loop : ∀ (f : Nat) (ws b' : List Int) (p' : Option Addr) (l' c' : Nat) (H1 : Heap), IS H p' l' (kints .u8 b') → (∀ x ∈ b', 0 ≤ x ∧ x < 256) → l' ≤ c' → b'.length < f → ws.length + 8 * b'.length + 48 * (b'.length / 65535 + 1) + 100 ≤ 1000000000 → storW f ws b' = storB b →
      St H H1 [.cell b5 (Array.toList #[.pointer (some ⟨wb, 0, none⟩)]).toArray 43, wrR wb false ws] → X8 [.slice p' l' c', .bool false] H1 := by
    intro f
    induction f with
    | zero => intro ws b' p' l' c' H1 h1 h2 h3 h4; omega
    | succ f ih =>
      intro ws b' p' l' c' H1 hI hr' hlc' hf hb he hs1
      have hbl' := hI.length
      rw [storW] at he
      refine hX _ _ _ _ H1 (br_t rfl ?_)
      have hmin : min ((l' : Nat) : Int) 65535 = ((min l' 65535 : Nat) : Int) := by omega
      rw [hmin]
      generalize hn : min l' 65535 = n at *
      have hn1 : n ≤ l' := by omega
      have hn2 : n ≤ 65535 := by omega
      intro J12 hJ12
      have mid : ∀ (last : Int) (H2 : Heap), last = (if n = l' then 1 else 0) → St H H2 [.cell b5 (Array.toList #[.pointer (some ⟨wb, 0, none⟩)]).toArray 43, wrR wb false (ws ++ bitsOf false last 1 ++ bitsOf false 0 2)] → J12 [] H2 := fun last H2 hlast hs2 => by
        refine hJ12 H2 ⟨_, hs2.get 0 (j := 0) rfl rfl, c55 hs2 (i := 1) rfl (by simp only [List.length_append, bitsOf_len]; omega) fun H3 hs3 => ⟨rfl, ?_⟩⟩
        simp only [List.set_cons_succ, List.set_cons_zero] at hs3
        have hfl : (fillM (ws ++ bitsOf false last 1 ++ bitsOf false 0 2) 0).length ≤ ws.length + 10 := by
          unfold fillM; simp only [List.length_append, bitsOf_len, List.length_replicate]; omega
        have hpart : partW ws last 0 (b'.take n) = fillM (ws ++ bitsOf false last 1 ++ bitsOf false 0 2) 0 ++ bitsOf false (n : Nat) 16 ++ bitsOf false ((65535 - n : Nat) : Int) 16 ++ byteBits (b'.take n) := by
          unfold partW
          rw [List.length_take, Nat.min_eq_left (by omega), show (65535 : Int) - (n : Nat) = ((65535 - n : Nat) : Int) from by omega]
        have hplen := partW_len ws last 0 (b'.take n)
        rw [List.length_take, Nat.min_eq_left (by omega)] at hplen
        generalize fillM (ws ++ bitsOf false last 1 ++ bitsOf false 0 2) 0 = w1 at *
        refine ⟨_, hs3.get 0 (j := 0) rfl rfl, put_ok hs3 (i := 1) rfl (n := 16) (by omega) (by omega) (by rw [p16]; omega) (by omega) fun H4 hs4 => ⟨_, rfl, ?_⟩⟩
        simp only [List.set_cons_succ, List.set_cons_zero] at hs4
        rw [xor_16 (by omega)]
        refine ⟨_, hs4.get 0 (j := 0) rfl rfl, put_ok hs4 (i := 1) rfl (n := 16) (by omega) (by omega) (by rw [p16]; omega) (by simp only [List.length_append, bitsOf_len]; omega) fun H5 hs5 => ⟨_, rfl, by omega, by omega, ?_⟩⟩
        simp only [List.set_cons_succ, List.set_cons_zero] at hs5
        intro X25 hX25
        have hIt : IS H (if c' = 0 then p' else Option.map (fun x => Addr.add x (0 * 1)) p') (n - 0) (kints .u8 (b'.take n)) := by
          rw [← kints_take]; exact is_till hI hn1
        have bytes : ∀ k, k ≤ n → ∀ H6, St H H6 [.cell b5 (Array.toList #[.pointer (some ⟨wb, 0, none⟩)]).toArray 43, wrR wb false (w1 ++ bitsOf false (n : Nat) 16 ++ bitsOf false ((65535 - n : Nat) : Int) 16 ++ byteBits (b'.take k))] → X25 [.int .i64 (k : Nat)] H6 := upto fun k hk ih2 H6 hs6 => by
          refine hX25 _ H6 (br_dec (fun hlt => ?_) (fun hge => ?_))
          · have hlt : k < n := by rw [Int.toNat_natCast, Nat.sub_zero] at hlt; omega
            have hg : (b'.take n)[k]? = some (b'.getD k 0) := by rw [List.getElem?_take_of_lt hlt]; exact get_gD b' 0 (by omega)
            have hv := hr' _ (List.mem_of_mem_take (List.mem_of_getElem? hg))
            have ih2 := ih2 hlt
            have eb : b'.take (k + 1) = b'.take k ++ [b'.getD k 0] := by rw [List.take_add_one, get_gD b' 0 (by omega)]; rfl
            rw [eb, byteBits_snoc, ← List.append_assoc] at ih2
            generalize b'.getD k 0 = v at hg hv ih2
            have hrd := (hIt.ext hs6.ext).rd (i := (k : Int)) (x := v) (K := fun c29 => ∃ Wr30, cell H6 (.add ⟨b5, 0, none⟩ 0) = some (.pointer Wr30) ∧ Try.C 17 #[.pointer Wr30, .int .i64 (IntKind.wrap .i64 c29), .int .i64 8] H6 fun r31 H32 => ∃ r33, r31 = .bool r33 ∧ X25 [.int .i64 (IntKind.wrap .i64 ((k : Int) + 1))] H32) (by omega) (by omega) (by rw [Int.toNat_natCast]; exact hg) ⟨_, hs6.get 0 (j := 0) rfl rfl, by
              rw [wrap_id (by omega) (by omega), wrap_id (by omega) (by omega)]
              refine put_ok hs6 (i := 1) rfl (n := 8) (by omega) hv.1 (by rw [p8]; exact hv.2) (by simp only [List.length_append, bitsOf_len, byteBits_len, List.length_take]; omega) fun H7 hs7 => ⟨_, rfl, ?_⟩
              simp only [List.set_cons_succ, List.set_cons_zero] at hs7
              exact ih2 H7 hs7⟩
            rw [Int.toNat_natCast]
            rw [Int.toNat_natCast] at hrd
            exact hrd
          · have : k = n := by rw [Int.toNat_natCast, Nat.sub_zero] at hge; omega
            subst this
            rw [← hpart] at hs6
            refine ⟨by omega, by omega, ?_⟩
            rw [Int.toNat_natCast]
            by_cases h65 : b'.length ≤ 65535
            · rw [if_pos h65] at he
              have hkl : k = l' := by omega
              rw [hlast, if_pos hkl, List.take_of_length_le (by omega), he] at hs6
              have e1 : (((k : Nat) : Int) == ((l' : Nat) : Int)) = true := by simp; omega
              rw [e1]
              exact fin _ _ _ H6 hs6
            · rw [if_neg h65] at he
              have hk6 : k = 65535 := by omega
              have hkl : ¬ k = l' := by omega
              rw [hlast, if_neg hkl] at hs6 hplen
              have e1 : (((k : Nat) : Int) == ((l' : Nat) : Int)) = false := by simp; omega
              rw [e1]
              rw [← hk6] at he
              have hd : (b'.drop k).length = b'.length - k := List.length_drop
              refine ih _ (b'.drop k) _ _ _ H6 ?_ (fun x hx => hr' x (List.mem_of_mem_drop hx)) (by omega) (by omega) ?_ he hs6
              · rw [← kints_drop]
                exact is_from hI hlc' (by omega)
              · rw [hd, hplen]
                have : b'.length / 65535 = (b'.length - k) / 65535 + 1 := by omega
                omega
        have := bytes 0 (by omega) H5 (by rw [List.take_zero]; simpa [byteBits] using hs5)
        exact this
      refine br_eq (fun heq => ⟨_, hs1.get 0 (j := 0) rfl rfl, put_ok hs1 (i := 1) rfl (n := 3) (by omega) (by omega) (by decide) (by omega) fun H2 hs2 => ⟨_, rfl, mid 1 H2 (by rw [if_pos (by omega)]) ?_⟩⟩) (fun hne => ⟨_, hs1.get 0 (j := 0) rfl rfl, put_ok hs1 (i := 1) rfl (n := 3) (by omega) (by omega) (by decide) (by omega) fun H2 hs2 => ⟨_, rfl, mid 0 H2 (by rw [if_neg (by omega)]) ?_⟩⟩)
      all_goals
        simp only [List.set_cons_succ, List.set_cons_zero] at hs2
        rw [List.append_assoc]
        exact hs2
  exact loop (b.length + 1) [] b p l c H7 h hr hlc (by omega) (by rw [List.length_nil]; omega) rfl hs7
theorem WOk.nby {ws B : List Int} (ok : WOk false ws B) : B.length = nby ws := ok.len
set_option maxHeartbeats 1000000 in
theorem c8 {p : Option Addr} {l c : Nat} {b : List Int} {eff : Int} (h : IS H p l (kints .u8 b)) (hr : ∀ x ∈ b, 0 ≤ x ∧ x < 256) (hlc : l ≤ c) (hl : l ≤ 10000000)
    (hR : ∀ q m B H', WOk false (defB b eff) B → St H H' [.sl q B.length m 5 1 (kints .u8 B)] → R (.slice q B.length m) H') : CallsH Try.prog 8 #[.slice p l c, .int .i64 eff] H R := by
  have hbl := h.length
  have hrun := lz_ok hr eff
  have hlen := hrun.len
  rw [List.length_nil] at hlen
  have hrt := hrun.r
  refine Try.s8 ?_
  unfold Try.S8
  refine c15 h hr hlc (by omega) fun q m H4 hs4 => ⟨_, _, _, rfl, ?_⟩
  unfold defB bestB at hR
  generalize lzM b eff = ts at *
  refine c16 hs4 fun wb H7 hs7 => ⟨_, rfl, hs7.alc fun b9 H10 hs10 => ⟨rfl, hs10.putAll 0 rfl rfl (by simp [Value.oneCell']) fun H11 hs11 => ?_⟩⟩
  rw [List.set_cons_zero] at hs11
  refine ⟨_, hs11.get 0 (j := 0) rfl rfl, put_ok hs11 (i := 1) rfl (n := 3) (by omega) (by omega) (by decide) (by simp) fun H14 hs14 => ⟨_, rfl, _, rfl, rowIn_whole (hs14.block 0 rfl), ?_⟩⟩
  simp only [List.set_cons_succ, List.set_cons_zero, List.nil_append] at hs14
  refine c20 fun fp fc dp dc H18 hs18 => ?_
  rw [e288, e32] at hs18 ⊢
  refine ⟨_, _, _, _, _, _, rfl, .inl hs18.ext, ?_⟩
  have hs18' := hs14.call hs18
  refine c19 (ll := fixL) (dl := fixD) (hs18'.is 1 rfl) (hs18'.is 0 rfl) fixL_ok fixD_ok fun q3 q4 H22 hs22 => ⟨_, rfl, .inl hs22.ext, ?_⟩
  have hs22' : St H H22 ([.sl q4 fixD.length fixD.length 3 1 (ints (codesM fixD)), .sl q3 fixL.length fixL.length 3 1 (ints (codesM fixL)), .sl dp fixD.length dc 3 1 (ints fixD), .sl fp fixL.length fc 3 1 (ints fixL)] ++ [.cell b9 _ 43, wrR wb false (bitsOf false 3 3), .sl q ts.length m 82 3 (tokL ts)]) := hs18'.call hs22
  have hs22' := hs22'.persOf (Q := SetI fp dp q3 q4 fixL fixD) fun H' h => ⟨h.is 3 rfl, h.is 2 rfl, h.is 1 rfl, h.is 0 rfl⟩
  refine c18 (ll := fixL) (dl := fixD) hs22' (i := 2) (j := 0) (k := 3) rfl rfl rfl (by decide) (by decide) (fix_codes hrt) hrt (by rw [bitsOf_len]; omega) fun H25 hs25 => ⟨rfl, ?_⟩
  simp only [List.set_cons_succ, List.set_cons_zero] at hs25
  refine ⟨_, hs25.get 1 (j := 0) rfl rfl, c21 hs25 (i := 2) rfl fun qb lb mb BB H28 okB hlB hs28 => ⟨_, _, _, rfl, ?_⟩⟩
  subst hlB
  change WOk false (fixB ts) BB at okB
  intro J30 hJ30
  -- the blocks of kind 0 at last
  have last : ∀ (q' : Option Addr) (m' : Nat) (B' bw : List Int) (ρ : List Rs) (H1 : Heap), WOk false bw B' → bw = (if 20 < ts.length ∧ nby (dynB ts 1) < nby (fixB ts) then dynB ts 1 else fixB ts) → St H H1 (.sl q' B'.length m' 5 1 (kints .u8 B') :: ρ) → J30 [.slice q' B'.length m'] H1 := fun q' m' B' bw ρ H1 ok hbw hs1 => by
    refine hJ30 _ _ _ H1 ?_
    rw [← hbw] at hR
    refine c23 (h.ext hs1.ext) hr hlc (by omega) fun q2 m2 B2 H2 ok2 hs2 => ⟨_, _, _, rfl, ?_⟩
    have hs2 := hs1.call hs2
    have n1 := ok.nby
    have n2 := ok2.nby
    refine br_dec (fun hlt => ?_) (fun hge => ?_)
    · rw [if_pos (by omega)] at hR
      exact hR q2 m2 B2 H2 ok2 (hs2.take 1)
    · rw [if_neg (by omega)] at hR
      exact hR q' m' B' H2 ok (hs2.tail.take 1)
  refine br_dec (fun h20 => ?_) (fun h20 => ?_)
  · refine c16 hs28 fun wd H37 hs37 => ⟨_, rfl, hs37.alc fun b39 H40 hs40 => ⟨rfl, hs40.putAll 0 rfl rfl (by simp [Value.oneCell']) fun H41 hs41 => ⟨_, rfl, rowIn_whole (hs41.block 0 rfl), ?_⟩⟩⟩
    rw [List.set_cons_zero] at hs41
    refine c22 hs41 (i := 1) (k := 6) rfl rfl (by decide) hrt (by rw [List.length_nil]; omega) (by omega) fun H44 hs44 => ⟨rfl, ?_⟩
    simp only [List.set_cons_succ, List.set_cons_zero, List.nil_append] at hs44
    refine ⟨_, hs44.get 0 (j := 0) rfl rfl, c21 hs44 (i := 1) rfl fun qx lx mx BX H47 okX hlX hs47 => ⟨_, _, _, rfl, ?_⟩⟩
    subst hlX
    have n1 := okX.nby
    have n2 := okB.nby
    refine br_dec (fun hlt => last qx mx BX _ _ H47 okX (by rw [if_pos ⟨by omega, by omega⟩]) hs47) (fun hge => last qb mb BB _ _ H47 okB (by rw [if_neg (by omega)]) (hs47.front 3 rfl))
  · exact last qb mb BB _ _ H28 okB (by rw [if_neg (by omega)]) hs28
end Go.Proofs
namespace Go.Proofs
open Go.Sh
variable {H0 H : Heap} {σ : List Rs} {R : Value → Heap → Prop}
structure PB (H : Heap) (p : Option Addr) (l : Nat) (ps : List (List Int)) : Prop where
 len : ps.length = l
 get : ∀ (i : Nat) x, ps[i]? = some x → ∃ a q n c, p = some a ∧ Go.Sh.cell H (a.add i) = some (.slice q n c) ∧ IS H q n (kints .u8 x)
theorem PB.ext {H H' : Heap} {p : Option Addr} {l : Nat} {ps : List (List Int)} (h : PB H p l ps) (e : Ext H H') : PB H' p l ps := ⟨h.len, fun i x hx => by
 obtain ⟨a, q, n, c, h1, h2, h3⟩ := h.get i x hx
 exact ⟨a, q, n, c, h1, e.cell h2, h3.ext e⟩⟩
def AllIS (H : Heap) : List (Option Addr × Nat × Nat) → List (List Int) → Prop
 | [], [] => True
 | v :: vs, x :: ps => IS H v.1 v.2.1 (kints .u8 x) ∧ AllIS H vs ps
 | _, _ => False
theorem AllIS.get : ∀ {vs : List (Option Addr × Nat × Nat)} {ps : List (List Int)}, AllIS H vs ps → vs.length = ps.length ∧ ∀ (i : Nat) x, ps[i]? = some x → ∃ v, vs[i]? = some v ∧ IS H v.1 v.2.1 (kints .u8 x)
 | [], [], _ => ⟨rfl, fun i x hx => by simp at hx⟩
 | v :: vs, x :: ps, h => by
  obtain ⟨h1, h2⟩ := AllIS.get h.2
  refine ⟨by simp [h1], fun i y hy => ?_⟩
  cases i with
  | zero => simp at hy; subst hy; exact ⟨v, rfl, h.1⟩
  | succ i => exact h2 i y (by simpa using hy)
end Go.Proofs
namespace Go.Proofs
open Go.Sh
section
variable {B : List Int} {k : Nat}
end
end Go.Proofs
namespace Go.Proofs
open Go.Sh
variable {H : Heap}
theorem Has.more {B ws : List Int} {a : Nat} (h : Has B a ws) (C : List Int) : Has (B ++ C) a ws := by
 refine ⟨by have := h.1; rw [List.length_append]; omega, fun i hi => ?_⟩
 rw [← h.2 i hi]
 unfold bitB
 rw [gD_left _ _ _ _ (by have := h.1; omega)]
theorem infl_more {B b : List Int} {eff : Int} (ok : WOk false (defB b eff) B) (hb : ∀ x ∈ b, 0 ≤ x ∧ x < 256) (hl : b.length ≤ 1000000000) (C : List Int) (most : Nat) : inflM tablesM (B ++ C) most = if b.length ≤ most then .ok (b, B.length) else .error 24 := by
 rw [ok.nby]
 exact infl_def hb hl ((Has.of ok).more C)
end Go.Proofs
namespace Go.Proofs
open Go.Sh
variable {H : Heap} {R : Value → Heap → Prop}
theorem cod_one {a b : Option Addr} {l1 c1 l2 c2 : Nat} {W : Int} {k : Bool} : ∀ v ∈ (Array.toList #[Value.slice a l1 c1, Value.slice b l2 c2, Value.int .i64 W, Value.bool k]), v.oneCell' = true := fun v hv => by
 rcases List.mem_cons.1 hv with rfl | hv
 ·rfl
 rcases List.mem_cons.1 hv with rfl | hv
 ·rfl
 rcases List.mem_cons.1 hv with rfl | hv
 ·rfl
 rw [List.mem_singleton.1 hv]; rfl
set_option maxHeartbeats 1000000 in
theorem c12 {p : Option Addr} {l c : Nat} {B : List Int} {most : Int} (h : IS H p l (kints .u8 B)) (hr : ∀ x ∈ B, 0 ≤ x ∧ x < 256) (hl : l ≤ 1000000000) (hm : most ≤ 1000000000)
    (hbad : ∀ k, k ≠ 0 → inflM tablesM B most = .error k → ∀ H', Ext H H' → R (.tuple #[.slice none 0 0, .int .i64 0, .int .i64 k]) H')
    (hR : ∀ out n, inflM tablesM B most = .ok (out, n) → ∀ H' q m, (∀ y ∈ out, 0 ≤ y ∧ y < 256) → St H H' [.sl q out.length m 5 1 (kints .u8 out)] → R (.tuple #[.slice q out.length m, .int .i64 (n : Nat), .int .i64 0]) H') :
    CallsH Try.prog 12 #[.slice p l c, .int .i64 most] H R := by
  have hBl := h.length
  refine Try.s12 ?_
  unfold Try.S12
  unfold inflM at hbad hR
  intro J3 hJ3
  have main : ∀ M : Nat, (M : Int) = max most 0 → J3 [.int .i64 (M : Nat)] H := fun M hM => by
    rw [← hM] at hbad hR
    refine hJ3 _ H ((St.nil H).alc fun b6 H7 hs7 => ?_)
    have hs7 : St H H7 [rfR b6 p l c 0 M [] 0] := rfR_mk (p := none) (c := 0) ⟨by omega, hl, by simp, by omega, by simp⟩ ((hs7.nilSl 5 1).swap)
    generalize hX0 : blocksM tablesM B M (8 * B.length + 1) 0 [] = W at hbad hR
    intro J8 hJ8
    have fin : ∀ H3 a out e τ, St H H3 (rfR b6 p l c a M out e :: τ) → (e = 0 → W = .ok (a, out)) → (e ≠ 0 → W = .error e) → J8 [] H3 := fun H3 a out e τ hs h0 h1 => by
      refine hJ8 H3 ⟨_, rfl, _, rfR_e hs, br_ne (fun hne => ⟨_, rfl, _, rfR_e hs, hbad e hne (by rw [h1 hne]) H3 hs.ext⟩) (fun he => ?_)⟩
      obtain ⟨q, m, hh, hs'⟩ := rfR_op hs
      refine ⟨_, rfl, _, _, _, hs'.get 0 (j := 2) rfl rfl, _, rfl, _, hs'.get 0 (j := 1) rfl rfl, by decide, ?_⟩
      rw [wrap_id (n := (a : Int) + 7) (by omega) (by omega), show (a : Int) + 7 = ((a + 7 : Nat) : Int) from rfl, wdiv8 _ (by omega)]
      exact hR out ((a + 7) / 8) (by rw [h0 he]) H3 q m hh.2.2.2.2 (hs'.tail.take 1)
    intro X18 hX
    have bad : ∀ k la, k ≠ 0 → W = .error k → ∀ H3 a out τ, St H H3 (rfR b6 p l c a M out k :: τ) → X18 [.int .i64 la] H3 := fun k la hk hW H3 a out τ hs => by
      have hj := fin H3 a out k τ hs (fun h => absurd h hk) (fun _ => hW)
      refine hX la H3 ?_
      intro J21 hJ21
      exact br_eq (fun _ => ⟨_, rfl, _, rfR_e hs, br_eq (fun h => absurd h hk) (fun _ => hj)⟩) (fun _ => hj)
    have loop : ∀ (g a : Nat) (out : List Int) (H1 : Heap) (ρ : List Rs), 8 * B.length < a + g → blocksM tablesM B M g a out = W → St H H1 (rfR b6 p l c a M out 0 :: ρ) → X18 [.int .i64 0] H1 := by
      intro g
      induction g with
      | zero => intro a out H1 ρ hg he hs; have := rfR_a hs; omega
      | succ g ih =>
        intro a out H1 ρ hg he hs
        rw [blocksM] at he
        refine hX 0 H1 ?_
        intro J21 hJ21
        refine br_t rfl ⟨_, rfl, _, rfR_e hs, br_t rfl (hJ21 H1 ?_)⟩
        refine c32 (n := 1) hs h hr (by omega) (fun hb H4 hs4 => ⟨_, rfl, ?_⟩) (fun hb H4 hs4 => ⟨_, rfl, ?_⟩)
        · rw [getM_bad (n := 1) hb] at he
          rw [if_pos rfl] at hs4
          refine c32 (n := 2) hs4 h hr (by omega) (fun hb H5 hs5 => ⟨_, rfl, ?_⟩) (fun hb H5 hs5 => ⟨_, rfl, ?_⟩)
          · rw [if_neg (by decide)] at hs5
            exact ⟨_, rfl, _, rfR_e hs5, br_t rfl (fin H5 _ out 20 ρ hs5 (fun h => absurd h (by decide)) (fun _ => he.symm))⟩
          · exact ⟨_, rfl, _, rfR_e hs5, br_t rfl (fin H5 _ out 20 ρ hs5 (fun h => absurd h (by decide)) (fun _ => he.symm))⟩
        rw [getM_num (n := 1) hb] at he
        simp only at he
        have hl01 := pow_e (n := 1) (d := 2) (by decide) (B := B) (a := a)
        generalize numB false B a 1 = last at *
        refine c32 (n := 2) hs4 h hr (by omega) (fun hb H5 hs5 => ⟨_, rfl, ?_⟩) (fun hb H5 hs5 => ⟨_, rfl, ?_⟩)
        · rw [getM_bad (n := 2) hb] at he
          rw [if_pos rfl] at hs5
          exact ⟨_, rfl, _, rfR_e hs5, br_t rfl (fin H5 _ out 20 ρ hs5 (fun h => absurd h (by decide)) (fun _ => he.symm))⟩
        rw [getM_num (n := 2) hb] at he
        simp only at he
        have hk3 := pow_e (n := 2) (d := 4) (by decide) (B := B) (a := a + 1)
        generalize numB false B (a + 1) 2 = kind at *
        refine ⟨_, rfl, _, rfR_e hs5, br_f rfl ?_⟩
        have nx : ∀ a3 out3 H6 τ, a + 3 ≤ a3 → (if last = 1 then .ok (a3, out3) else blocksM tablesM B M g a3 out3) = W → St H H6 (rfR b6 p l c a3 M out3 0 :: τ) → X18 [.int .i64 last] H6 := fun a3 out3 H6 τ ha3 hW hs6 => by
          by_cases hla : last = 1
          · subst hla
            rw [if_pos rfl] at hW
            refine hX _ H6 ?_
            intro J hJ
            exact br_f rfl (fin H6 a3 out3 0 τ hs6 (fun _ => hW.symm) (fun h => absurd rfl h))
          · rw [if_neg hla] at hW
            have : last = 0 := by omega
            subst this
            exact ih a3 out3 H6 τ (by omega) hW hs6
        refine br_eq (fun h0 => ?_) (fun h0 => br_eq (fun h1 => ?_) (fun h1 => br_eq (fun h2 => ?_) (fun h2 => ?_)))
        · rw [if_pos h0] at he
          refine c33 hs5 h hr (fun k hk0 hk2 H6 a6 out6 hs6 => ⟨rfl, ?_⟩) (fun a6 out6 hk2 H6 hs6 => ⟨rfl, ?_⟩)
          · rw [hk2] at he
            exact bad k _ hk0 he.symm H6 a6 out6 _ hs6
          · rw [hk2] at he
            exact nx a6 out6 H6 _ (storedM_adv hk2) he hs6
        · rw [if_neg h0, if_pos h1] at he
          refine c34 fun lp dp bl bd H6 hs6 => ?_
          rw [show (288 : Nat) = fixL.length from fixL_len.symm, show (32 : Nat) = fixD.length from fixD_len.symm] at hs6 ⊢
          have hs6 : St H H6 ([.sl (some ⟨bl, 0, none⟩) fixL.length fixL.length 3 1 (ints (codesM fixL)), .sl lp fixL.length fixL.length 3 1 (ints fixL), .sl (some ⟨bd, 0, none⟩) fixD.length fixD.length 3 1 (ints (codesM fixD)), .sl dp fixD.length fixD.length 3 1 (ints fixD)] ++ (rfR b6 p l c (a + 1 + 2) M out 0 :: ρ)) := hs5.call hs6
          have hs6 := hs6.persOf (Q := fun H => CodI lp (some ⟨bl, 0, none⟩) fixL H ∧ CodI dp (some ⟨bd, 0, none⟩) fixD H) fun H' h => ⟨⟨h.is 1 rfl, h.is 0 rfl⟩, ⟨h.is 3 rfl, h.is 2 rfl⟩⟩
          refine ⟨_, _, rfl, hs6.alc fun b37 H7 hs7 => hs7.alc fun b39 H8 hs8 => ⟨rfl, ?_⟩⟩
          refine hs8.putAll 1 (b := b37) rfl (Eq.refl (4 : Nat)) cod_one fun H9 hs9 => ⟨rfl, ?_⟩
          refine hs9.putAll 0 (b := b39) rfl (Eq.refl (4 : Nat)) cod_one fun H10 hs10 => ?_
          simp only [List.set_cons_succ, List.set_cons_zero] at hs10
          have hs11 := hs10.front 3 rfl
          simp only [List.eraseIdx] at hs11
          refine ⟨_, rfl, rowIn_whole (hs10.block 1 rfl), _, rfl, rowIn_whole (hs10.block 0 rfl), ?_⟩
          refine c35 (j1 := 2) (j2 := 2) (lp1 := lp) (cp1 := some ⟨bl, 0, none⟩) (lp2 := dp) (cp2 := some ⟨bd, 0, none⟩) (ll := fixL) (dl := fixD) hs11 h hr rfl (fun H h => h.1) rfl (fun H h => h.2) fixL_ok fixD_ok (fun k hk0 hk2 H9 a9 out9 hs9 => ⟨rfl, ?_⟩) (fun a9 out9 hk2 H9 hs9 => ⟨rfl, ?_⟩)
          · rw [hk2] at he
            exact bad k _ hk0 he.symm H9 a9 out9 _ hs9
          · rw [hk2] at he
            exact nx a9 out9 H9 _ (symsM_adv _ _ _ hk2) he hs9
        · rw [if_neg h0, if_neg h1, if_pos h2] at he
          refine c36 hs5 h hr (fun k hk0 hk2 H6 a6 v1 v2 τ q1 q2 q3 q4 hs6 => ⟨_, _, rfl, ?_⟩) (fun a6 ll dl hk2 ha6 okl okd H6 lp1 cp1 lc1 cc1 lp2 cp2 lc2 cc2 τ hs6 => ⟨_, _, rfl, ?_⟩)
          · rw [hk2] at he
            refine hs6.alc fun b51 H7 hs7 => hs7.alc fun b53 H8 hs8 => ⟨q1, hs8.putAll 1 rfl (by rw [Array.length_toList, q1]; rfl) q3 fun H9 hs9 => ⟨q2, hs9.putAll 0 rfl (by rw [Array.length_toList, q2]; rfl) q4 fun H10 hs10 => ?_⟩⟩
            simp only [List.set_cons_succ, List.set_cons_zero] at hs10
            have hs11 := hs10.front 2 rfl
            refine ⟨_, q1, rowIn_whole (hs10.block 1 rfl), _, q2, rowIn_whole (hs10.block 0 rfl), ?_⟩
            exact rsymbols_e hs11 hk0 fun H11 hs12 => ⟨rfl, bad k _ hk0 he.symm H11 a6 out _ hs12⟩
          · rw [hk2] at he
            simp only at he
            refine hs6.alc fun b51 H7 hs7 => hs7.alc fun b53 H8 hs8 => ⟨rfl, hs8.putAll 1 rfl rfl cod_one fun H9 hs9 => ⟨rfl, hs9.putAll 0 rfl rfl cod_one fun H10 hs10 => ?_⟩⟩
            simp only [List.set_cons_succ, List.set_cons_zero] at hs10
            have hs11 := hs10.front 2 rfl
            simp only [List.eraseIdx] at hs11
            refine ⟨_, rfl, rowIn_whole (hs10.block 1 rfl), _, rfl, rowIn_whole (hs10.block 0 rfl), ?_⟩
            refine c35 (j1 := 2) (j2 := 2) (lp1 := lp1) (cp1 := cp1) (lp2 := lp2) (cp2 := cp2) (ll := ll) (dl := dl) hs11 h hr rfl (fun H h => h.1) rfl (fun H h => h.2) okl okd (fun k hk0 hk2 H9 a9 out9 hs9 => ⟨rfl, ?_⟩) (fun a9 out9 hk2 H9 hs9 => ⟨rfl, ?_⟩)
            · rw [hk2] at he
              exact bad k _ hk0 he.symm H9 a9 out9 _ hs9
            · rw [hk2] at he
              have := symsM_adv _ _ _ hk2
              exact nx a9 out9 H9 _ (by omega) he hs9
        · rw [if_neg h0, if_neg h1, if_neg h2] at he
          refine c37 hs5 fun H6 hs6 => ⟨rfl, ?_⟩
          rw [if_pos rfl] at hs6
          exact bad 25 _ (by decide) he.symm H6 _ _ _ hs6
    exact loop _ 0 [] H7 [] (by omega) hX0 hs7
  refine br_dec (fun hneg => main 0 (by omega)) (fun hpos => ?_)
  obtain ⟨M, rfl⟩ := Int.eq_ofNat_of_zero_le (show 0 ≤ most by omega)
  exact main M (by omega)
theorem lawRight {p : Option Addr} {l c : Nat} {b : List Int} {eff : Int} (h : IS H p l (kints .u8 b)) (hr : ∀ x ∈ b, 0 ≤ x ∧ x < 256) (hlc : l ≤ c) :
    CallsH Try.prog 4 #[.slice p l c, .int .i64 eff] H (fun u H' => u = .bool true ∧ Ext H H') := by
  have hbl := h.length
  refine Try.s4 ?_
  unfold Try.S4
  refine c7 fun H4 e4 => ⟨_, rfl, br_f rfl (br_dec (fun _ => ⟨rfl, e4⟩) (fun hl => ?_))⟩
  refine c8 (h.ext e4) hr hlc (by omega) fun q m B H7 ok hs7 => ⟨_, _, _, rfl, ?_⟩
  have hn := nby_def b eff
  have hnb := ok.nby
  have hin := infl_more ok hr (by omega) [] l
  rw [if_pos (by omega), List.append_nil] at hin
  refine c12 (hs7.is 0 rfl) ok.rng (by omega) (by omega) (fun k _ hk => by rw [hin] at hk; cases hk) (fun out n ho H10 q2 m2 hout hs10 => ⟨_, _, _, _, _, rfl, br_t rfl ?_⟩)
  rw [hin] at ho
  cases ho
  have hs10 := hs7.call hs10
  refine c8 (h.ext (e4.trans hs10.ext)) hr hlc (by omega) fun q3 m3 B3 H15 ok3 hs15 => ⟨_, _, _, rfl, br_t ?_ ?_⟩
  · rw [ok3.nby, hnb]; simp
  have hs15 := hs10.call hs15
  exact c9 (hs15.is 1 rfl) (h.ext (e4.trans hs15.ext)) (by omega) ⟨_, rfl, by simp, e4.trans hs15.ext⟩
end Go.Proofs
namespace Go.Proofs
open Go.Sh Go.RowKit Go.ChangeShapes Go.WideShapes Go.ChangeAt
theorem wf_range8 {a : Int} (h : (Lit.int .u8 a).wf = true) : 0 ≤ a ∧ a < 256 := by
 have : 0 ≤ a ∧ a ≤ 255 := by simpa [Lit.wf, IntKind.min, IntKind.max, IntKind.signed, IntKind.bits] using h
 omega
theorem bytesAt {H : Type} {enc : TypeId × Value → H} {W : World} {fuel : Nat} {a0 : Option Addr} {len cap : Nat} {x : DataW H × List MemPlace} (hf : DataW.trod enc Try.prog W 0 (fun _ => true) true fuel 22 [.slice a0 len cap] = some x) :
    ∃ ls, len ≤ cap ∧ IS W.heap a0 len (kints .u8 ls) ∧ ∀ n ∈ ls, 0 ≤ n ∧ n < 256 := by
  rcases open_ints Try.underlying22 Try.underlying5 (by kernel_rfl) hf with ⟨hcs, _⟩ | ⟨a, len2, cap2, zs, hcs, _, hl, _, hz, _, hc, hw⟩
  · simp at hcs
    obtain ⟨rfl, rfl, rfl⟩ := hcs
    exact ⟨[], Nat.le_refl _, ⟨rfl, fun i v hv => by simp [kints] at hv⟩, fun n hn => by simp at hn⟩
  · simp at hcs
    obtain ⟨rfl, rfl, rfl⟩ := hcs
    have hzl : len ≤ zs.length := by rw [hz]; simp; omega
    refine ⟨zs.take len, hl, ⟨by rw [kints_len]; simp; omega, fun i v hv => ⟨a, rfl, ?_⟩⟩, fun n hn => wf_range8 (hw n (List.mem_of_mem_take hn))⟩
    have hi : i < len := by have := (List.getElem?_eq_some_iff.1 hv).1; rw [kints_len] at this; simp at this; omega
    have := hc i (by omega)
    rw [cell_eq] at this
    rw [this]
    have hg : (zs.take len)[i]? = some (zs.getD i 0) := by
      rw [List.getElem?_take_of_lt hi, List.getD_eq_getElem?_getD, List.getElem?_eq_getElem (by omega)]; rfl
    rw [kints_get hg] at hv
    exact hv
set_option maxRecDepth 100000 in
theorem bytesIn_of {H : Type} {enc : TypeId × Value → H} {W : World} {v : Value} {d : DataW H} {ps : List MemPlace} {base : Nat} (hv : Value.okWide Try.prog W .any base 22 v) (h : DataW.Trod enc Try.prog W 0 (fun _ => true) true 22 v d ps) :
    ∃ a l c ls, v = .slice a l c ∧ l ≤ c ∧ IS W.heap a l (kints .u8 ls) ∧ ∀ n ∈ ls, 0 ≤ n ∧ n < 256 := by
  obtain ⟨a0, len, cap, rfl⟩ := okWide_slice Try.underlying22 hv
  obtain ⟨fuel, hf⟩ := h
  obtain ⟨ls, h1, h2, h3⟩ := bytesAt hf
  exact ⟨a0, len, cap, ls, rfl, h1, h2, h3⟩
end Go.Proofs
