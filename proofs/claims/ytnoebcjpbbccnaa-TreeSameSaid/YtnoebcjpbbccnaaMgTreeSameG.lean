/-
  OWN WORK. Several texts in one: TtPlays, TtSame, OpBytes, OpTree.
-/
import Derived.Test.YtnoebcjpbbccnaaMgTreeSameF
import Derived.Test.YtnoebcjpbbccnaaRows
import Derived.Test.YtnoebcjpbbccnaaMgTreeSameB
import Derived.ChangeSlices
import Derived.Deep.Slices

/-
  OWN WORK. The law TreePlays, over heaps.
-/
set_option linter.unusedVariables false
set_option linter.unusedSimpArgs false
set_option maxRecDepth 10000
namespace Go.Proofs
open Go.Sh
variable {H0 H : Heap} {σ : List Rs} {R : Value → Heap → Prop}

theorem poolStart (hs : St H0 H σ) : St H0 H (poolRs [(.nil, [])] :: σ) := St.persIn (τ := []) hs fun H' fps _ x hx => by
  rw [List.mem_singleton] at hx; subst hx
  exact ⟨RL.nil H', fun r hr => by cases hr⟩
theorem rel_nil : Rel [] (rwS []) := fun to => rfl
theorem begun_doc {w h : Int} (hb : begunB w h = true) : begunA w h = docA w h 1 .nil ∧ Inv ⟨w, h, 1, []⟩ := by
  unfold begunB at hb
  rw [Bool.and_eq_true] at hb
  exact ⟨by unfold begunA; rw [if_pos hb.1], new_inv hb.1⟩
theorem eds_ok {p : Option Addr} {l : Nat} {es : List (Ed × EdS)} (h : EdsR H p l es) (hok : ∀ x ∈ es, x.1.shape.length ≤ 300 ∧ x.1.params.length ≤ 100) {i : Nat} {e : Ed} {s : EdS} (hx : es[i]? = some (e, s)) : ∃ a, p = some a ∧ rowIn H (a.add (i * 19)) (edL e s).toArray ∧ EdOk H e s := by
  obtain ⟨a, h1, h2, h3⟩ := h.get i e s hx
  have := hok _ (List.mem_of_getElem? hx)
  exact ⟨a, h1, h2, h3, by have := this.1; simp only at this; omega, by have := this.2; simp only at this; omega⟩
theorem zero_kids {A : Array Value} (h : DocR H A zeroD) : ∃ p c, A = docA 0 0 0 ⟨p, 0, c⟩ := by
  obtain ⟨K, ks, rfl, hg, hl⟩ := h
  have : ks.length = 0 := by have := layKs_len ks; rw [hl] at this; exact this.symm
  have hk := hg.1.1
  refine ⟨K.p, K.c, ?_⟩
  have h0 : K.l = 0 := by omega
  show docA 0 0 0 K = _
  unfold docA Sl3.v
  rw [h0]

theorem plays_law {w h : Int} {p : Option Addr} {l c : Nat} {es : List (Ed × EdS)} (hes : EdsR H p l es) (hR : ∀ H', Ext H H' → R (.bool true) H') : CallsH Try.prog 3 #[.int .i64 w, .int .i64 h, .slice p l c] H R := by
  refine Try.s3 ?_
  unfold Try.S3
  refine c12 fun H5 he5 => ⟨_, rfl, br_f rfl ?_⟩
  have hone : ∀ v ∈ (begunA w h).toList, v.oneCell' = true := by unfold begunA; split <;> exact docA_one _ _ _ _
  have hsize : (begunA w h).size = 4 := by unfold begunA; split <;> rfl
  refine new_call fun H8 he8 => ⟨_, _, rfl, (St.of_ext (he5.trans he8)).alc fun b11 H12 hs12 => ⟨hsize, hs12.putAll 0 rfl hsize hone fun H13 hs13 => rnew_call fun H15 he15 => ⟨_, _, rfl, (hs13.step he15).alc fun b18 H19 hs19 => ⟨hsize, hs19.putAll 0 rfl hsize hone fun H20 hs20 => br_ne (fun h => absurd rfl h) fun _ => ?_⟩⟩⟩⟩
  refine c15 fun H22 he22 => ⟨_, _, _, rfl, ?_⟩
  refine ((hs20.drop 2).step he22).alc fun b26 H27 hs27 => hs27.alc fun b28 H29 hs29 => ⟨hsize, hs29.putAll 1 rfl hsize hone fun H30 hs30 => ⟨hsize, hs30.putAll 0 rfl hsize hone fun H31 hs31 => ?_⟩⟩
  intro J32 hJ32
  refine br_not (fun _ => hR H31 hs31.ext) fun hb => ?_
  obtain ⟨hA, hinv⟩ := begun_doc hb
  rw [hA] at hs31
  refine c16 (hes.ext hs31.ext) (by decide) fun H114 he114 => ⟨_, rfl, br_not (fun _ => hR _ (hs31.step he114).ext) fun hsm => hJ32 _ ?_⟩
  have hs114 := hs31.step he114
  obtain ⟨hmost, hok⟩ := smallB_ok hsm
  have hesl := hes.len
  intro X34 hX34
  have go : ∀ k, k ≤ es.length → ∀ (A : Array Value) (D : DocL) (Kd : Sl3) (rs : List RT) (L : List (Sl3 × List RT)) (H1 : Heap), Inv D → D.next ≤ k + 1 → Rel D.ks (rwS rs) → (Kd, rs) ∈ L → St H H1 [.cell b26 A 26, .cell b28 (docA D.w D.h D.next Kd) 32, docRs A D, poolRs L] → X34 [.int .i64 (k : Nat)] H1 := by
    refine upto fun k hk ih A D Kd rs L H1 hi hnx hrel hmem hs1 => hX34 _ _ (br_dec (fun hlt => ?_) fun hge => hR H1 hs1.ext)
    have hk' : k < es.length := by omega
    have hx := List.getElem?_eq_getElem hk'
    generalize es[k] = x at hx
    obtain ⟨e, s⟩ := x
    intro J37 hJ37
    have next : ∀ (A : Array Value) (D : DocL) (Kd : Sl3) (rs : List RT) (L : List (Sl3 × List RT)) (H1 : Heap), Inv D → D.next ≤ k + 2 → Rel D.ks (rwS rs) → (Kd, rs) ∈ L → St H H1 [.cell b26 A 26, .cell b28 (docA D.w D.h D.next Kd) 32, docRs A D, poolRs L] → J37 [] H1 := fun A D Kd rs L H1 h1 h2 h3 h4 h5 => by
      refine hJ37 _ ?_
      rw [wrap_id (by omega) (by omega)]
      exact ih hk' A D Kd rs L H1 h1 (by omega) h3 h4 h5
    obtain ⟨a, hp, hrow, hed⟩ := eds_ok (hes.ext hs1.ext) hok hx
    refine ⟨a, hp, by omega, hlt, _, rfl, hrow, hs1.alc fun b41 H42 hs42 => ⟨rfl, hs42.putAll 0 rfl rfl (by simpa using edL_one e s) fun H43 hs43 => ?_⟩⟩
    have hedH : ∀ {H' : Heap}, Ext H H' → EdOk H' e s := fun he => by
      obtain ⟨_, _, _, h3⟩ := eds_ok (hes.ext he) hok hx
      exact h3
    have hnx2 : D.next ≤ 1000000000000000 := by omega
    intro J44 hJ44
    have after : ∀ (bn : Nat) (q : Sl3) (rs' : List RT) (L' : List (Sl3 × List RT)) (H1 : Heap), (q, rs') ∈ L' → (Kd, rs) ∈ L' → Rel (nxt D e).ks (rwS rs') → St H H1 [.cell bn (docA (nxt D e).w (nxt D e).h (nxt D e).next q) 32, .cell b41 (edL e s).toArray 43, .cell b26 A 26, .cell b28 (docA D.w D.h D.next Kd) 32, docRs A D, poolRs L'] → J44 [.pointer (some ⟨bn, 0, none⟩), .int .i64 (doD D e).1] H1 := fun bn q rs' L' H1 hm1 hm2 hr2 hs1 => by
      have hd := hs1.doc 4 rfl
      refine hJ44 _ _ _ ⟨A, hd.size, rowIn_whole (hs1.block 2 rfl), (edL e s).toArray, rfl, rowIn_whole (hs1.block 1 rfl), do_st hs1 hd hi hnx2 (hedH hs1.ext) fun A' H51 hd' hs51 => ⟨_, _, rfl, ?_⟩⟩
      refine hs51.alc fun b54 H55 hs55 => ⟨hd'.size, hs55.putAll 0 rfl hd'.size hd'.one fun H56 hs56 => br_ne (fun h => absurd rfl h) fun _ => br_ne (fun hbad => ?_) fun h0 => ?_⟩
      · have hz : (doD D e).2 = zeroD := by unfold doD at hbad ⊢; split at hbad <;> rename_i hc
                                            · rw [if_pos hc]
                                            · exact absurd rfl hbad
        have hn : nxt D e = D := by unfold nxt; rw [if_neg hbad]
        have hd56 := hs56.doc 1 rfl
        rw [hz] at hd56
        obtain ⟨zp, zc, hzA⟩ := zero_kids hd56
        rw [hzA] at hs56
        refine ⟨zp, 0, zc, hs56.get 0 rfl (j := 3) rfl, br_ne (fun h => absurd rfl h) fun _ => ⟨0, hs56.get 0 rfl (j := 2) rfl, br_ne (fun h => absurd rfl h) fun _ => ?_⟩⟩
        have hdo := hs56.doc 6 rfl
        refine ⟨A, hdo.size, rowIn_whole (hs56.block 4 rfl), _, rfl, rowIn_whole (hs56.block 5 rfl), like_st hs56 7 rfl hm2 hdo hi hi hrel fun t H62 ht he62 hs62 => ⟨_, rfl, ?_⟩⟩
        rw [ht.2 rfl]
        exact br_f rfl (next A D Kd rs L' H62 hi (by omega) hrel hm2 (hs62.drop 4))
      · have hn : nxt D e = (doD D e).2 := by unfold nxt; rw [if_pos h0]
        rw [hn] at hs56 hr2
        have hi2 := do_inv hi h0
        have hdx := do_next h0
        refine ⟨A', hd'.size, rowIn_whole (hs56.block 0 rfl), _, rfl, rowIn_whole (hs56.block 2 rfl), like_st hs56 7 rfl hm1 (hs56.doc 1 rfl) hi2 hi2 hr2 fun t H67 ht he67 hs67 => ⟨_, rfl, ?_⟩⟩
        rw [ht.2 rfl]
        refine br_f rfl ?_
        have hdo := hs67.doc 6 rfl
        refine ⟨A, hdo.size, rowIn_whole (hs67.block 4 rfl), _, rfl, rowIn_whole (hs67.block 5 rfl), like_st hs67 7 rfl hm2 hdo hi hi hrel fun t H72 ht he72 hs72 => ⟨_, rfl, ?_⟩⟩
        rw [ht.2 rfl]
        refine br_f rfl ⟨A', hd'.size, rowIn_whole (hs72.block 0 rfl), _, rfl, rowIn_whole (hs72.block 2 rfl), hd'.size, hs72.putAll 4 rfl (hd'.size.trans hdo.size.symm) hd'.one fun H76 hs76 => ⟨.inr ⟨_, rfl, rowIn_whole (hs76.block 2 rfl), rfl⟩, rfl, hs76.putAll 5 rfl rfl (docA_one _ _ _ _) fun H77 hs77 => ?_⟩⟩
        refine next A' (doD D e).2 q rs' L' H77 hi2 (by omega) hr2 hm1 ?_
        have := hs77.perm (τ := [.cell b54 A' 26, .cell bn (docA (doD D e).2.w (doD D e).2.h (doD D e).2.next q) 32, .cell b41 (edL e s).toArray 43, docRs A D, .cell b26 A' 26, .cell b28 (docA (doD D e).2.w (doD D e).2.h (doD D e).2.next q) 32, docRs A' (doD D e).2, poolRs L']) (permC fun _ x => by simp only [List.set_cons_succ, List.set_cons_zero, List.count_cons, List.count_nil]; ac_rfl)
        exact this.drop 4
    have edD : (edL e s).toArray.size = 19 := rfl
    refine ⟨_, rfl, rowIn_whole (hs43.block 2 rfl), _, rfl, rowIn_whole (hs43.block 0 rfl), ?_, ?_⟩
    · refine c18 (hedH hs43.ext) fun s' H82 he82 hed' => ⟨_, rfl, .inl he82, ?_, ?_⟩
      · refine rdo_st (hs43.step he82) 4 rfl hmem hrel hi hnx2 hed' fun q rs' L' H85 hm1 hsub hr2 he85 hs85 => ⟨_, _, rfl, ?_⟩
        refine hs85.alc fun b88 H89 hs89 => ⟨rfl, hs89.putAll 0 rfl rfl (docA_one _ _ _ _) fun H90 hs90 => ?_⟩
        exact after b88 q rs' L' H90 hm1 (hsub _ hmem) hr2 hs90
      · refine (hs43.step he82).alcE fun b91 H92 he92 hs92 => ⟨.inl he92, ?_⟩
        refine rdo_st hs92 5 rfl hmem hrel hi hnx2 ⟨hed'.rd.ext he92, hed'.shape, hed'.params⟩ fun q rs' L' H94 hm1 hsub hr2 he94 hs94 => ⟨_, _, rfl, rfl, ?_⟩
        refine hs94.putAll 0 rfl rfl (docA_one _ _ _ _) fun H97 hs97 => ?_
        exact after b91 q rs' L' H97 hm1 (hsub _ hmem) hr2 hs97
    · refine hs43.alcE fun b100 H101 he101 hs101 => ⟨.inl he101, ?_⟩
      refine c18 (hedH hs101.ext) fun s' H103 he103 hed' => ⟨_, rfl, .inl he103, ?_⟩
      refine rdo_st (hs101.step he103) 5 rfl hmem hrel hi hnx2 hed' fun q rs' L' H106 hm1 hsub hr2 he106 hs106 => ⟨_, _, rfl, rfl, ?_⟩
      refine hs106.putAll 0 rfl rfl (docA_one _ _ _ _) fun H109 hs109 => ?_
      exact after b100 q rs' L' H109 hm1 (hsub _ hmem) hr2 hs109
  refine go 0 (Nat.zero_le _) (docA w h 1 .nil) ⟨w, h, 1, []⟩ .nil [] [(.nil, [])] H114 hinv (by show (1 : Int) ≤ 0 + 1; omega) rel_nil List.mem_cons_self ?_
  have h1 := poolStart (hs114.docNil w h 1)
  exact h1.perm (permC fun _ x => by simp only [List.set_cons_succ, List.set_cons_zero, List.count_cons, List.count_nil]; ac_rfl)

end Go.Proofs

/-
  OWN WORK. The law TreeSame, over heaps.
-/
set_option linter.unusedVariables false
set_option linter.unusedSimpArgs false
set_option maxRecDepth 10000
namespace Go.Proofs
open Go.Sh
variable {H0 H : Heap} {σ : List Rs} {R : Value → Heap → Prop}

/-- One edit, as a list of edits. -/
theorem one_eds {b : Nat} {e : Ed} {s : EdS} {ty : TypeId} (hb : H[b]? = some (.cells (edL e s).toArray ty)) (hrd : rdEd H e s) : EdsR H (some ⟨b, 0, none⟩) 1 [(e, s)] :=
  ⟨rfl, fun i e' s' hi => by
    cases i with
    | zero =>
      simp at hi
      obtain ⟨rfl, rfl⟩ := hi
      exact ⟨_, rfl, by rw [add_none]; exact rowIn_whole hb, hrd⟩
    | succ i => simp at hi⟩
theorem elemE (e : Ed) (s : EdS) : (setL [Value.int .i64 0, Value.int .i64 0, Value.int .i64 0, Value.int .i64 0, Value.int .i64 0, Value.int .i64 0, Value.int .i64 0, Value.int .i64 0, Value.int .i64 0, Value.int .i64 0, Value.slice none 0 0, Value.slice none 0 0, Value.int .i64 0, Value.int .i64 0, Value.int .i64 0, Value.int .i64 0, Value.int .i64 0, Value.int .i64 0, Value.slice none 0 0] 0 (Array.toList (edL e s).toArray)).toArray = (edL e s).toArray := by
  rw [setL_all (by rfl)]

theorem same_law {p : Option Addr} {l c : Nat} {es : List (Ed × EdS)} {e0 : Ed} {s0 : EdS} (hes : EdsR H p l es) (hlast : rdEd H e0 s0) (hR : ∀ H', Ext H H' → R (.bool true) H') : CallsH Try.prog 7 #[.slice p l c, .agg (edL e0 s0).toArray] H R := by
  refine Try.s7 ?_
  unfold Try.S7
  refine (St.nil H).alc fun b3 H4 hs4 => c12 fun H6 he6 => ⟨_, rfl, br_f rfl ?_⟩
  refine c15 fun H9 he9 => ⟨_, _, _, rfl, ?_⟩
  rw [show begunA 8 8 = docA 8 8 1 .nil from rfl]
  refine ((hs4.step he6).step he9).alc fun b13 H14 hs14 => hs14.alc fun b15 H16 hs16 => ⟨rfl, hs16.putAll 1 rfl rfl (docA_one _ _ _ _) fun H17 hs17 => ⟨rfl, hs17.putAll 0 rfl rfl (docA_one _ _ _ _) fun H18 hs18 => ?_⟩⟩
  intro J19 hJ19
  refine c16 (hes.ext hs18.ext) (by decide) fun H147 he147 => ⟨_, rfl, br_not (fun _ => hR _ (hs18.step he147).ext) fun hsm => ?_⟩
  have hs147 := hs18.step he147
  obtain ⟨hmost, hok⟩ := smallB_ok hsm
  have hesl := hes.len
  refine ⟨_, rfl, rowIn_whole (hs147.block 2 rfl), rfl, by decide, ?_⟩
  rw [elemE]
  refine hs147.alc fun b150 H151 hs151 => c16 (one_eds (hs151.block 0 rfl) (hlast.ext hs151.ext)) (by decide) fun H153 he153 => ⟨_, rfl, br_not (fun _ => hR _ (hs151.step he153).ext) fun hsm2 => hJ19 _ ?_⟩
  have hs153 := (hs151.step he153).tail
  obtain ⟨_, hok2⟩ := smallB_ok hsm2
  have hok2 := hok2 (e0, s0) (List.mem_singleton.2 rfl)
  have hlastOk : ∀ {H' : Heap}, Ext H H' → EdOk H' e0 s0 := fun he => ⟨hlast.ext he, by have := hok2.1; simp only at this; omega, by have := hok2.2; simp only at this; omega⟩
  refine ⟨_, rfl, rowIn_whole (hs153.block 1 rfl), hs153.alc fun b22 H23 hs23 => ⟨rfl, hs23.putAll 0 rfl rfl (docA_one _ _ _ _) fun H24 hs24 => ?_⟩⟩
  intro X25 hX25
  have go : ∀ k, k ≤ es.length → ∀ (A C : Array Value) (D : DocL) (Kd : Sl3) (rs : List RT) (L : List (Sl3 × List RT)) (H1 : Heap), Inv D → D.next ≤ k + 1 → Rel D.ks (rwS rs) → (Kd, rs) ∈ L → St H H1 [.cell b22 C 26, .cell b13 A 26, .cell b15 (docA D.w D.h D.next Kd) 32, .cell b3 (edL e0 s0).toArray 43, docRs A D, docRs C D, poolRs L] → X25 [.int .i64 (k : Nat)] H1 := by
    refine upto fun k hk ih A C D Kd rs L H1 hi hnx hrel hmem hs1 => hX25 _ _ (br_dec (fun hlt => ?_) fun hge => ?_)
    · have hk' : k < es.length := by omega
      have hx := List.getElem?_eq_getElem hk'
      generalize es[k] = x at hx
      obtain ⟨e, s⟩ := x
      obtain ⟨a, hp, hrow, hed⟩ := eds_ok (hes.ext hs1.ext) hok hx
      have hedH : ∀ {H' : Heap}, Ext H H' → EdOk H' e s := fun he => let ⟨_, _, _, h3⟩ := eds_ok (hes.ext he) hok hx; h3
      have hnx2 : D.next ≤ 1000000000000000 := by omega
      refine ⟨a, hp, by omega, hlt, _, rfl, hrow, hs1.alc fun b30 H31 hs31 => ⟨rfl, hs31.putAll 0 rfl rfl (by simpa using edL_one e s) fun H32 hs32 => ?_⟩⟩
      intro J33 hJ33
      have after : ∀ (A' : Array Value) (H1 : Heap), St H H1 [.cell b30 (edL e s).toArray 43, .cell b22 C 26, .cell b13 A' 26, .cell b15 (docA D.w D.h D.next Kd) 32, .cell b3 (edL e0 s0).toArray 43, docRs A' (nxt D e), docRs C D, poolRs L] → J33 [] H1 := fun A' H1 hs1 => by
        refine hJ33 _ ?_
        intro J35 hJ35
        have after2 : ∀ (C' : Array Value) (H1 : Heap), St H H1 [.cell b30 (edL e s).toArray 43, .cell b22 C' 26, .cell b13 A' 26, .cell b15 (docA D.w D.h D.next Kd) 32, .cell b3 (edL e0 s0).toArray 43, docRs A' (nxt D e), docRs C' (nxt D e), poolRs L] → J35 [] H1 := fun C' H1 hs1 => by
          refine hJ35 _ ⟨_, rfl, rowIn_whole (hs1.block 3 rfl), _, rfl, rowIn_whole (hs1.block 0 rfl), c18 (hedH hs1.ext) fun s' H33 he33 hed' => ⟨_, rfl, .inl he33, ?_⟩⟩
          refine rdo_st (hs1.step he33) 7 rfl hmem hrel hi hnx2 hed' fun q rs' L' H36 hm1 hsub hr2 he36 hs36 => ⟨_, _, rfl, rfl, hs36.putAll 3 rfl rfl (docA_one _ _ _ _) fun H39 hs39 => ?_⟩
          rw [wrap_id (by omega) (by omega)]
          have hn := nxt_next (D := D) e
          exact ih hk' A' C' (nxt D e) q rs' L' H39 (nxt_inv hi e) (by omega) hr2 hm1 (hs39.drop 1)
        have hd := hs1.doc 6 rfl
        refine ⟨C, hd.size, rowIn_whole (hs1.block 1 rfl), _, rfl, rowIn_whole (hs1.block 0 rfl), do_st hs1 hd hi hnx2 (hedH hs1.ext) fun C' H44 hd' hs44 => ⟨_, _, rfl, ?_⟩⟩
        refine hs44.alc fun b47 H48 hs48 => ⟨hd'.size, hs48.putAll 0 rfl hd'.size hd'.one fun H49 hs49 => br_eq (fun h0 => ?_) fun hne => ?_⟩
        · have hn : nxt D e = (doD D e).2 := by unfold nxt; rw [if_pos h0]
          refine ⟨C', hd'.size, rowIn_whole (hs49.block 0 rfl), hd'.size, hs49.putAll 3 rfl (hd'.size.trans hd.size.symm) hd'.one fun H51 hs51 => after2 C' H51 ?_⟩
          rw [← hn] at hs51
          have := hs51.perm (τ := [.cell b47 C' 26, docRs C D, .cell b30 (edL e s).toArray 43, .cell b22 C' 26, .cell b13 A' 26, .cell b15 (docA D.w D.h D.next Kd) 32, .cell b3 (edL e0 s0).toArray 43, docRs A' (nxt D e), docRs C' (nxt D e), poolRs L]) (permC fun _ x => by simp only [List.set_cons_succ, List.set_cons_zero, List.count_cons, List.count_nil]; ac_rfl)
          exact this.drop 2
        · have hn : nxt D e = D := by unfold nxt; rw [if_neg hne]
          refine after2 C H49 ?_
          have := hs49.drop 2
          rw [hn] at this ⊢
          exact this
      have hd := hs32.doc 5 rfl
      refine ⟨A, hd.size, rowIn_whole (hs32.block 2 rfl), _, rfl, rowIn_whole (hs32.block 0 rfl), do_st hs32 hd hi hnx2 (hedH hs32.ext) fun A' H44 hd' hs44 => ⟨_, _, rfl, ?_⟩⟩
      refine hs44.alc fun b47 H48 hs48 => ⟨hd'.size, hs48.putAll 0 rfl hd'.size hd'.one fun H49 hs49 => br_eq (fun h0 => ?_) fun hne => ?_⟩
      · have hn : nxt D e = (doD D e).2 := by unfold nxt; rw [if_pos h0]
        refine ⟨A', hd'.size, rowIn_whole (hs49.block 0 rfl), hd'.size, hs49.putAll 4 rfl (hd'.size.trans hd.size.symm) hd'.one fun H51 hs51 => after A' H51 ?_⟩
        rw [← hn] at hs51
        have := hs51.perm (τ := [.cell b47 A' 26, docRs A D, .cell b30 (edL e s).toArray 43, .cell b22 C 26, .cell b13 A' 26, .cell b15 (docA D.w D.h D.next Kd) 32, .cell b3 (edL e0 s0).toArray 43, docRs A' (nxt D e), docRs C D, poolRs L]) (permC fun _ x => by simp only [List.set_cons_succ, List.set_cons_zero, List.count_cons, List.count_nil]; ac_rfl)
        exact this.drop 2
      · have hn : nxt D e = D := by unfold nxt; rw [if_neg hne]
        refine after A H49 ?_
        have := hs49.drop 2
        rw [hn]
        exact this
    · have hda := hs1.doc 4 rfl
      have hok' := hi.ok
      have hcn := hi.cnt
      have hcn2 : cntKs D.ks ≤ 1000000000 := by omega
      have hnx2 : D.next ≤ 1000000000000000 := by omega
      intro J70 hJ70
      refine ⟨A, hda.size, rowIn_whole (hs1.block 1 rfl), A, hda.size, rowIn_whole (hs1.block 1 rfl), c30 hda hda hok' hcn2 fun H134 he134 => ⟨_, rfl, ?_⟩⟩
      rw [sameD_iff.2 rfl]
      have hs134 := hs1.step he134
      have hdc := hs134.doc 5 rfl
      refine br_f rfl ⟨A, hda.size, rowIn_whole (hs134.block 1 rfl), C, hdc.size, rowIn_whole (hs134.block 0 rfl), c30 (hs134.doc 4 rfl) hdc hok' hcn2 fun H139 he139 => ⟨_, rfl, ?_⟩⟩
      rw [sameD_iff.2 rfl]
      have hs139 := hs134.step he139
      refine br_f rfl ⟨C, hdc.size, rowIn_whole (hs139.block 0 rfl), A, hda.size, rowIn_whole (hs139.block 1 rfl), c30 (hs139.doc 5 rfl) (hs139.doc 4 rfl) hok' hcn2 fun H144 he144 => ⟨_, rfl, ?_⟩⟩
      rw [sameD_iff.2 rfl]
      have hs144 := hs139.step he144
      refine br_f rfl (hJ70 _ ?_)
      refine ⟨A, hda.size, rowIn_whole (hs144.block 1 rfl), _, rfl, rowIn_whole (hs144.block 3 rfl), do_st hs144 (hs144.doc 4 rfl) hi hnx2 (hlastOk hs144.ext) fun A' H75 hd' hs75 => ⟨_, _, rfl, ?_⟩⟩
      refine hs75.alc fun b78 H79 hs79 => ⟨hd'.size, hs79.putAll 0 rfl hd'.size hd'.one fun H80 hs80 => ?_⟩
      intro J81 hJ81
      have after : ∀ (bn : Nat) (q : Sl3) (rs' : List RT) (L' : List (Sl3 × List RT)) (H1 : Heap), (q, rs') ∈ L' → Rel (nxt D e0).ks (rwS rs') → St H H1 (.cell bn (docA (nxt D e0).w (nxt D e0).h (nxt D e0).next q) 32 :: .cell b78 A' 26 :: docRs A' (doD D e0).2 :: .cell b22 C 26 :: .cell b13 A 26 :: .cell b15 (docA D.w D.h D.next Kd) 32 :: .cell b3 (edL e0 s0).toArray 43 :: docRs A D :: docRs C D :: [poolRs L']) → J81 [.pointer (some ⟨bn, 0, none⟩), .int .i64 (doD D e0).1] H1 := fun bn q rs' L' H1 hm1 hr2 hs1 => by
        refine hJ81 _ _ _ (br_ne (fun h => absurd rfl h) fun _ => br_ne (fun _ => hR _ hs1.ext) fun h0 => ?_)
        have hn : nxt D e0 = (doD D e0).2 := by unfold nxt; rw [if_pos h0]
        rw [hn] at hs1 hr2
        have hi2 := do_inv hi h0
        have hda := hs1.doc 7 rfl
        have hok2 := hi2.ok
        have hcn3 := hi2.cnt
        refine ⟨A', hd'.size, rowIn_whole (hs1.block 1 rfl), A, hda.size, rowIn_whole (hs1.block 4 rfl), A, hda.size, rowIn_whole (hs1.block 4 rfl), _, rfl, rowIn_whole (hs1.block 0 rfl), c30 (hs1.doc 2 rfl) hda hok2 (by omega) fun H90 he90 => ⟨_, rfl, .inl he90, ?_⟩⟩
        have hs90 := hs1.step he90
        refine like_st hs90 9 rfl hm1 (hs90.doc 7 rfl) hi hi2 hr2 fun t H93 ht he93 hs93 => ⟨_, rfl, ?_⟩
        have : (sameD (doD D e0).2 D == t) = true := by
          rw [beq_iff_eq, Bool.eq_iff_iff, sameD_iff, ht]
          exact eq_comm
        rw [this]
        exact hR _ hs93.ext
      refine ⟨_, rfl, rowIn_whole (hs80.block 4 rfl), _, rfl, rowIn_whole (hs80.block 5 rfl), ?_, ?_⟩
      · refine c18 (hlastOk hs80.ext) fun s' H82 he82 hed' => ⟨_, rfl, .inl he82, ?_, ?_⟩
        · refine rdo_st (hs80.step he82) 8 rfl hmem hrel hi hnx2 hed' fun q rs' L' H85 hm1 hsub hr2 he85 hs85 => ⟨_, _, rfl, ?_⟩
          refine hs85.alc fun b88 H89 hs89 => ⟨rfl, hs89.putAll 0 rfl rfl (docA_one _ _ _ _) fun H90 hs90 => ?_⟩
          exact after b88 q rs' L' H90 hm1 hr2 hs90
        · refine (hs80.step he82).alcE fun b91 H92 he92 hs92 => ⟨.inl he92, ?_⟩
          refine rdo_st hs92 9 rfl hmem hrel hi hnx2 ⟨hed'.rd.ext he92, hed'.shape, hed'.params⟩ fun q rs' L' H94 hm1 hsub hr2 he94 hs94 => ⟨_, _, rfl, rfl, ?_⟩
          refine hs94.putAll 0 rfl rfl (docA_one _ _ _ _) fun H97 hs97 => ?_
          exact after b91 q rs' L' H97 hm1 hr2 hs97
      · refine hs80.alcE fun b100 H101 he101 hs101 => ⟨.inl he101, ?_⟩
        refine c18 (hlastOk hs101.ext) fun s' H103 he103 hed' => ⟨_, rfl, .inl he103, ?_⟩
        refine rdo_st (hs101.step he103) 9 rfl hmem hrel hi hnx2 hed' fun q rs' L' H106 hm1 hsub hr2 he106 hs106 => ⟨_, _, rfl, rfl, ?_⟩
        refine hs106.putAll 0 rfl rfl (docA_one _ _ _ _) fun H109 hs109 => ?_
        exact after b100 q rs' L' H109 hm1 hr2 hs109
  refine go 0 (Nat.zero_le _) (docA 8 8 1 .nil) (docA 8 8 1 .nil) ⟨8, 8, 1, []⟩ .nil [] [(.nil, [])] H24 (new_inv (by decide)) (by show (1 : Int) ≤ 0 + 1; omega) rel_nil List.mem_cons_self ?_
  have h1 := poolStart ((hs24.docNil 8 8 1).docNil 8 8 1)
  exact h1.perm (permC fun _ x => by simp only [List.set_cons_succ, List.set_cons_zero, List.count_cons, List.count_nil]; ac_rfl)

end Go.Proofs

/-
  OWN WORK. A slice of bytes that comes in, opened.
-/
set_option linter.unusedVariables false
set_option linter.unusedSimpArgs false
namespace Go.Proofs
open Go.Sh Go.RowKit Go.ChangeShapes Go.WideShapes Go.ChangeAt

theorem wf_range8 {a : Int} (h : (Lit.int .u8 a).wf = true) : 0 ≤ a ∧ a < 256 := by
  have : 0 ≤ a ∧ a ≤ 255 := by simpa [Lit.wf, IntKind.min, IntKind.max, IntKind.signed, IntKind.bits] using h
  omega

theorem bytesAt {H : Type} {enc : TypeId × Value → H} {W : World} {fuel : Nat} {a0 : Option Addr} {len cap : Nat} {x : DataW H × List MemPlace} (hf : DataW.trod enc Try.prog W 0 (fun _ => true) true fuel 56 [.slice a0 len cap] = some x) :
    ∃ ls, len ≤ cap ∧ IS W.heap a0 len (kints .u8 ls) ∧ ∀ n ∈ ls, 0 ≤ n ∧ n < 256 := by
  rcases open_ints Try.underlying56 Try.underlying5 (by kernel_rfl) hf with ⟨hcs, _⟩ | ⟨a, len2, cap2, zs, hcs, _, hl, _, hz, _, hc, hw⟩
  · simp at hcs
    obtain ⟨rfl, rfl, rfl⟩ := hcs
    exact ⟨[], Nat.le_refl _, ⟨rfl, fun i v hv => by simp [kints] at hv⟩, fun n hn => by simp at hn⟩
  · simp at hcs
    obtain ⟨rfl, rfl, rfl⟩ := hcs
    have hzl : len ≤ zs.length := by rw [hz]; simp; omega
    refine ⟨zs.take len, hl, ⟨by rw [kints_len]; simp; omega, fun i v hv => ⟨a, rfl, ?_⟩⟩, fun n hn => wf_range8 (hw n (List.mem_of_mem_take hn))⟩
    have hi : i < len := by have := (List.getElem?_eq_some_iff.1 hv).1; rw [kints_len] at this; simp at this; omega
    have := hc i (by omega)
    rw [cell_eq] at this
    rw [this]
    have hg : (zs.take len)[i]? = some (zs.getD i 0) := by
      rw [List.getElem?_take_of_lt hi, List.getD_eq_getElem?_getD, List.getElem?_eq_getElem (by omega)]; rfl
    rw [kints_get hg] at hv
    exact hv

set_option maxRecDepth 100000 in
theorem bytesIn_of {H : Type} {enc : TypeId × Value → H} {W : World} {v : Value} {d : DataW H} {ps : List MemPlace} {base : Nat} (hv : Value.okWide Try.prog W .any base 56 v) (h : DataW.Trod enc Try.prog W 0 (fun _ => true) true 56 v d ps) :
    ∃ a l c ls, v = .slice a l c ∧ l ≤ c ∧ IS W.heap a l (kints .u8 ls) ∧ ∀ n ∈ ls, 0 ≤ n ∧ n < 256 := by
  obtain ⟨a0, len, cap, rfl⟩ := okWide_slice Try.underlying56 hv
  obtain ⟨fuel, hf⟩ := h
  obtain ⟨ls, h1, h2, h3⟩ := bytesAt hf
  exact ⟨a0, len, cap, ls, rfl, h1, h2, h3⟩

end Go.Proofs

/-
  OWN WORK. Edits and shapes that come in, opened.
-/
set_option linter.unusedVariables false
set_option linter.unusedSimpArgs false
set_option maxRecDepth 10000
namespace Go.Proofs
open Go.Sh Go.RowKit Go.ChangeShapes Go.WideShapes Go.ChangeAt Go.Deep

section
variable {H : Type} {enc : TypeId × Value → H} {W : World}

abbrev TrP (enc : TypeId × Value → H) (W : World) (fuel : Nat) (t : TypeId) (cs : List Value) (x : DataW H × List MemPlace) : Prop := DataW.trod enc Try.prog W 0 (fun _ => true) true fuel t cs = some x

theorem intsAt {fuel : Nat} {a0 : Option Addr} {len cap : Nat} {x : DataW H × List MemPlace} (hf : TrP enc W fuel 38 [.slice a0 len cap] x) : ∃ ls, len ≤ cap ∧ IS W.heap a0 len (ints ls) := by
  rcases open_ints Try.underlying38 Try.underlying3 (by kernel_rfl) hf with ⟨hcs, _⟩ | ⟨a, len2, cap2, zs, hcs, _, hl, _, hz, _, hc, hw⟩
  · simp at hcs
    obtain ⟨rfl, rfl, rfl⟩ := hcs
    exact ⟨[], Nat.le_refl _, ⟨rfl, fun i v hv => by simp [ints] at hv⟩⟩
  · simp at hcs
    obtain ⟨rfl, rfl, rfl⟩ := hcs
    have hzl : len ≤ zs.length := by rw [hz]; simp; omega
    refine ⟨zs.take len, hl, ⟨by rw [ints_len]; simp; omega, fun i v hv => ⟨a, rfl, ?_⟩⟩⟩
    have hi : i < len := by have := (List.getElem?_eq_some_iff.1 hv).1; rw [ints_len] at this; simp at this; omega
    have := hc i (by omega)
    rw [cell_eq] at this
    rw [this]
    have hg : (zs.take len)[i]? = some (zs.getD i 0) := by
      rw [List.getElem?_take_of_lt hi, List.getD_eq_getElem?_getD, List.getElem?_eq_getElem (by omega)]; rfl
    rw [ints_get hg] at hv
    exact hv

/-- A field, opened. -/
theorem fieldAt {t : TypeId} {fs : Array Field} {fuel : Nat} {cs : List Value} {x : DataW H × List MemPlace} (hs : Try.prog.underlying t = some (.struct fs)) (h : TrP enc W fuel t cs x) (i : Nat) {f : Field} {o ty c : Nat} (hf : fs[i]? = some f) (ho : f.offset = o) (ht : f.type = ty) (hc : Try.prog.cellsOf ty = c) :
    ∃ n y, n < fuel ∧ TrP enc W n ty ((cs.drop o).take c) y := by
  obtain ⟨xs, n, hfu, _, hl, hlen, hg⟩ := DataW.trod_struct hs h
  have := hg i f hf
  have hi := (Array.getElem?_eq_some_iff.1 hf).1
  rw [List.getElem?_eq_getElem (by omega), ho, ht, hc] at this
  exact ⟨n, _, by omega, this⟩
theorem one_get {cs : List Value} {o : Nat} {v : Value} (h : (cs.drop o).take 1 = [v]) : cs[o]? = some v := by
  have h4 : ((cs.drop o).take 1)[0]? = some v := by rw [h]; rfl
  rw [List.getElem?_take_of_lt (by omega), List.getElem?_drop] at h4
  simpa using h4
theorem intF {n : Nat} {cs : List Value} {o : Nat} {y : DataW H × List MemPlace} (h : TrP enc W n 3 ((cs.drop o).take 1) y) : ∃ m : Int, cs[o]? = some (.int .i64 m) := by
  obtain ⟨m, hm, _, _⟩ := DataW.trod_int Try.underlying3 h
  exact ⟨m, one_get hm⟩
theorem boolF {n : Nat} {cs : List Value} {o : Nat} {y : DataW H × List MemPlace} (h : TrP enc W n 4 ((cs.drop o).take 1) y) : ∃ m : Bool, cs[o]? = some (.bool m) := by
  obtain ⟨m, hm, _⟩ := DataW.trod_bool Try.underlying4 h
  exact ⟨m, one_get hm⟩
theorem slF {t e n : Nat} {cs : List Value} {o : Nat} {y : DataW H × List MemPlace} (ht : Try.prog.underlying t = some (.slice e)) (h : TrP enc W n t ((cs.drop o).take 1) y) : ∃ s : Sl3, cs[o]? = some s.v ∧ TrP enc W n t [s.v] y := by
  rcases DataW.trod_slice ht h with ⟨h0, _⟩ | ⟨a, len, cap, elems, rest, m, _, h0, _⟩
  · rw [h0] at h; exact ⟨.nil, one_get h0, h⟩
  · rw [h0] at h; exact ⟨⟨some a, len, cap⟩, one_get h0, h⟩
theorem list19 {α : Type} {l : List α} (h : l.length = 19) : ∃ a b c d e f g i j k m n o p q r s t u, l = [a, b, c, d, e, f, g, i, j, k, m, n, o, p, q, r, s, t, u] := by
  match l, h with
  | [a, b, c, d, e, f, g, i, j, k, m, n, o, p, q, r, s, t, u], _ => exact ⟨a, b, c, d, e, f, g, i, j, k, m, n, o, p, q, r, s, t, u, rfl⟩
/-- Six numbers. -/
theorem sixF {t n : Nat} {cs : List Value} {o : Nat} {y : DataW H × List MemPlace} (ht : Try.prog.underlying t = some (.array 6 3)) (h : TrP enc W n t ((cs.drop o).take 6) y) :
    ∃ m : M6, cs[o]? = some (.int .i64 m.a) ∧ cs[o + 1]? = some (.int .i64 m.b) ∧ cs[o + 2]? = some (.int .i64 m.c) ∧ cs[o + 3]? = some (.int .i64 m.d) ∧ cs[o + 4]? = some (.int .i64 m.e) ∧ cs[o + 5]? = some (.int .i64 m.f) := by
  obtain ⟨xs, m, _, _, hl, hlen, hg⟩ := DataW.trod_array ht h
  have hc : Try.prog.cellsOf 3 = 1 := by kernel_rfl
  have each : ∀ i, i < 6 → ∃ z : Int, cs[o + i]? = some (.int .i64 z) := fun i hi => by
    have := hg i hi
    rw [hc, Nat.mul_one, List.getElem?_eq_getElem (by omega)] at this
    obtain ⟨z, hz⟩ := intF this
    rw [List.getElem?_take_of_lt hi, List.getElem?_drop] at hz
    exact ⟨z, hz⟩
  obtain ⟨a, ha⟩ := each 0 (by omega)
  obtain ⟨b, hb⟩ := each 1 (by omega)
  obtain ⟨c, hc⟩ := each 2 (by omega)
  obtain ⟨d, hd⟩ := each 3 (by omega)
  obtain ⟨e, he⟩ := each 4 (by omega)
  obtain ⟨f, hf⟩ := each 5 (by omega)
  exact ⟨⟨a, b, c, d, e, f⟩, ha, hb, hc, hd, he, hf⟩

theorem ptAt {n : Nat} {cs : List Value} {y : DataW H × List MemPlace} (h : TrP enc W n 79 cs y) : ∃ p : Pt, cs = [.int .i64 p.1, .int .i64 p.2] := by
  obtain ⟨_, _, _, h0⟩ := fieldAt (o := 0) (ty := 3) (c := 1) Try.underlying79 h 0 rfl rfl rfl (by kernel_rfl)
  obtain ⟨_, _, _, h1⟩ := fieldAt (o := 1) (ty := 3) (c := 1) Try.underlying79 h 1 rfl rfl rfl (by kernel_rfl)
  obtain ⟨x, hx⟩ := intF h0
  obtain ⟨y, hy⟩ := intF h1
  obtain ⟨xs, m, _, _, hl, _⟩ := DataW.trod_struct Try.underlying79 h
  have hl2 : cs.length = 2 := by rw [hl]; kernel_rfl
  match cs, hl2 with
  | [a, b], _ =>
    simp only [List.getElem?_cons_zero, List.getElem?_cons_succ, Option.some.injEq] at hx hy
    subst hx; subst hy
    exact ⟨(x, y), rfl⟩
theorem choose_list {α : Type} {P : Nat → α → Prop} {n : Nat} [Inhabited α] (h : ∀ i, i < n → ∃ x, P i x) : ∃ l : List α, l.length = n ∧ ∀ i x, l[i]? = some x → P i x := by
  obtain ⟨f, hf⟩ : ∃ f : Nat → α, ∀ i, i < n → P i (f i) := by
    have : ∀ i, ∃ x, i < n → P i x := fun i => by
      by_cases hi : i < n
      · obtain ⟨x, hx⟩ := h i hi; exact ⟨x, fun _ => hx⟩
      · exact ⟨default, fun h => absurd h hi⟩
    exact Classical.axiomOfChoice this
  refine ⟨(List.range n).map f, by simp, fun i x hx => ?_⟩
  have hi : i < n := by have := (List.getElem?_eq_some_iff.1 hx).1; simpa using this
  simp [hi] at hx
  subst hx
  exact hf i hi
theorem ptsAt {fuel : Nat} {s : Sl3} {x : DataW H × List MemPlace} (hf : TrP enc W fuel 39 [s.v] x) : ∃ pts : List Pt, s.l ≤ s.c ∧ IS2 W.heap s.p s.l pts := by
  rcases open_slice Try.underlying39 hf with ⟨hcs, _⟩ | ⟨a, len', cap', m, n, D, Pl, hcs, _, hl, hm, hmm, _, hx⟩
  · obtain ⟨p, l, c⟩ := s
    simp only [Sl3.v, List.cons.injEq, Value.slice.injEq, and_true] at hcs
    obtain ⟨rfl, rfl, rfl⟩ := hcs
    exact ⟨[], Nat.le_refl _, IS2.nil _⟩
  · obtain ⟨p, l, c⟩ := s
    simp only [Sl3.v, List.cons.injEq, Value.slice.injEq, and_true] at hcs
    obtain ⟨rfl, rfl, rfl⟩ := hcs
    have hml : l ≤ m := by rw [hmm]; simp; omega
    obtain ⟨pts, hlen, hpts⟩ := choose_list (P := fun i (p : Pt) => rowIn W.heap (a.add (i * 2)) #[.int .i64 p.1, .int .i64 p.2]) (n := l) fun i hi => by
      obtain ⟨cs, h1, h2⟩ := hx i (by omega)
      rw [show Try.prog.cellsOf 79 = 2 from by kernel_rfl] at h1
      obtain ⟨p, rfl⟩ := ptAt h2
      obtain ⟨_, _, hc⟩ := World.cells?_some h1
      refine ⟨p, fun j v hv => ?_⟩
      have hj : j < 2 := (Array.getElem?_eq_some_iff.1 hv).1
      have := hc j hj
      rw [cell_eq] at this
      rw [this]
      simpa using hv
    exact ⟨pts, hl, hlen, fun i x y hi => ⟨a, rfl, hpts i (x, y) hi⟩⟩

/-- An edit. -/
theorem edAt {fuel : Nat} {cs : List Value} {x : DataW H × List MemPlace} (h : TrP enc W fuel 43 cs x) : ∃ e s, cs = edL e s ∧ rdEd W.heap e s := by
  have hu := Try.underlying43
  obtain ⟨_, _, _, h0⟩ := fieldAt (o := 0) (ty := 3) (c := 1) hu h 0 rfl rfl rfl (by kernel_rfl)
  obtain ⟨_, _, _, h1⟩ := fieldAt (o := 1) (ty := 3) (c := 1) hu h 1 rfl rfl rfl (by kernel_rfl)
  obtain ⟨_, _, _, h2⟩ := fieldAt (o := 2) (ty := 3) (c := 1) hu h 2 rfl rfl rfl (by kernel_rfl)
  obtain ⟨_, _, _, h3⟩ := fieldAt (o := 3) (ty := 3) (c := 1) hu h 3 rfl rfl rfl (by kernel_rfl)
  obtain ⟨_, _, _, h4⟩ := fieldAt (o := 4) (ty := 3) (c := 1) hu h 4 rfl rfl rfl (by kernel_rfl)
  obtain ⟨_, _, _, h5⟩ := fieldAt (o := 5) (ty := 3) (c := 1) hu h 5 rfl rfl rfl (by kernel_rfl)
  obtain ⟨_, _, _, h6⟩ := fieldAt (o := 6) (ty := 3) (c := 1) hu h 6 rfl rfl rfl (by kernel_rfl)
  obtain ⟨_, _, _, h7⟩ := fieldAt (o := 7) (ty := 3) (c := 1) hu h 7 rfl rfl rfl (by kernel_rfl)
  obtain ⟨_, _, _, h8⟩ := fieldAt (o := 8) (ty := 3) (c := 1) hu h 8 rfl rfl rfl (by kernel_rfl)
  obtain ⟨_, _, _, h9⟩ := fieldAt (o := 9) (ty := 3) (c := 1) hu h 9 rfl rfl rfl (by kernel_rfl)
  obtain ⟨_, _, _, h10⟩ := fieldAt (o := 10) (ty := 38) (c := 1) hu h 10 rfl rfl rfl (by kernel_rfl)
  obtain ⟨_, _, _, h11⟩ := fieldAt (o := 11) (ty := 39) (c := 1) hu h 11 rfl rfl rfl (by kernel_rfl)
  obtain ⟨_, _, _, h12⟩ := fieldAt (o := 12) (ty := 41) (c := 6) hu h 12 rfl rfl rfl (by kernel_rfl)
  obtain ⟨_, _, _, h13⟩ := fieldAt (o := 18) (ty := 38) (c := 1) hu h 13 rfl rfl rfl (by kernel_rfl)
  obtain ⟨v0, g0⟩ := intF h0
  obtain ⟨v1, g1⟩ := intF h1
  obtain ⟨v2, g2⟩ := intF h2
  obtain ⟨v3, g3⟩ := intF h3
  obtain ⟨v4, g4⟩ := intF h4
  obtain ⟨v5, g5⟩ := intF h5
  obtain ⟨v6, g6⟩ := intF h6
  obtain ⟨v7, g7⟩ := intF h7
  obtain ⟨v8, g8⟩ := intF h8
  obtain ⟨v9, g9⟩ := intF h9
  obtain ⟨P, g10, t10⟩ := slF Try.underlying38 h10
  obtain ⟨S, g11, t11⟩ := slF Try.underlying39 h11
  obtain ⟨m, ga, gb, gc, gd, ge, gf⟩ := sixF Try.underlying41 h12
  obtain ⟨A, g18, t18⟩ := slF Try.underlying38 h13
  obtain ⟨ps, _, hps⟩ := intsAt t10
  obtain ⟨pts, _, hpts⟩ := ptsAt t11
  obtain ⟨qs, _, hqs⟩ := intsAt t18
  obtain ⟨xs, k, _, _, hl, _⟩ := DataW.trod_struct hu h
  have hl2 : cs.length = 19 := by rw [hl]; kernel_rfl
  refine ⟨⟨v0, v1, v2, v3, v4, v5, v6, v7, v8, v9, ps, pts, m, qs⟩, ⟨P, S, A⟩, ?_, ⟨hps, hpts, hqs⟩⟩
  obtain ⟨a, b, c, d, e, f, g, i, j, k, m', n, o, p, q, r, s, t, u, rfl⟩ := list19 hl2
  simp only [List.getElem?_cons_zero, List.getElem?_cons_succ, Option.some.injEq] at g0 g1 g2 g3 g4 g5 g6 g7 g8 g9 g10 g11 ga gb gc gd ge gf g18
  subst g0 g1 g2 g3 g4 g5 g6 g7 g8 g9 g10 g11 ga gb gc gd ge gf g18
  rfl
instance : Inhabited (Ed × EdS) := ⟨⟨0, 0, 0, 0, 0, 0, 0, 0, 0, 0, [], [], ⟨0, 0, 0, 0, 0, 0⟩, []⟩, ⟨.nil, .nil, .nil⟩⟩

theorem editsIn_of {v : Value} {d : DataW H} {ps : List MemPlace} {base : Nat} (hv : Value.okWide Try.prog W .any base 22 v) (h : DataW.Trod enc Try.prog W 0 (fun _ => true) true 22 v d ps) :
    ∃ a l c es, v = .slice a l c ∧ l ≤ c ∧ EdsR W.heap a l es := by
  obtain ⟨a0, len, cap, rfl⟩ := okWide_slice Try.underlying22 hv
  obtain ⟨fuel, hf⟩ := h
  rcases open_slice Try.underlying22 hf with ⟨hcs, _⟩ | ⟨a, len', cap', m, n, D, Pl, hcs, _, hl, hm, hmm, _, hx⟩
  · simp only [Value.cells] at hcs
    simp at hcs
    obtain ⟨rfl, rfl, rfl⟩ := hcs
    exact ⟨none, 0, 0, [], rfl, Nat.le_refl _, rfl, fun i e s hx => by simp at hx⟩
  · simp only [Value.cells] at hcs
    simp at hcs
    obtain ⟨rfl, rfl, rfl⟩ := hcs
    have hml : len ≤ m := by rw [hmm]; simp; omega
    obtain ⟨es, hlen, hes⟩ := choose_list (P := fun i (x : Ed × EdS) => rowIn W.heap (a.add (i * 19)) (edL x.1 x.2).toArray ∧ rdEd W.heap x.1 x.2) (n := len) fun i hi => by
      obtain ⟨cs, h1, h2⟩ := hx i (by omega)
      rw [show Try.prog.cellsOf 43 = 19 from by kernel_rfl] at h1
      obtain ⟨e, s, rfl, hrd⟩ := edAt h2
      obtain ⟨_, _, hc⟩ := World.cells?_some h1
      refine ⟨(e, s), fun j v hv => ?_, hrd⟩
      have hj : j < 19 := (Array.getElem?_eq_some_iff.1 hv).1
      have := hc j hj
      rw [cell_eq] at this
      rw [this]
      simpa using hv
    exact ⟨some a, len, cap, es, rfl, hl, hlen, fun i e s hi => let ⟨h1, h2⟩ := hes i (e, s) hi; ⟨a, rfl, h1, h2⟩⟩
theorem editIn_of {v : Value} {d : DataW H} {ps : List MemPlace} {base : Nat} (hv : Value.okWide Try.prog W .any base 43 v) (h : DataW.Trod enc Try.prog W 0 (fun _ => true) true 43 v d ps) :
    ∃ e s, v = .agg (edL e s).toArray ∧ rdEd W.heap e s := by
  obtain ⟨cs, rfl, _⟩ := okWide_struct Try.underlying43 hv
  obtain ⟨fuel, hf⟩ := h
  obtain ⟨e, s, h1, h2⟩ := edAt hf
  have h1 : cs.toList = edL e s := h1
  exact ⟨e, s, by rw [← h1], h2⟩
theorem shapeIn_of {v : Value} {d : DataW H} {ps : List MemPlace} {base : Nat} (hv : Value.okWide Try.prog W .any base 39 v) (h : DataW.Trod enc Try.prog W 0 (fun _ => true) true 39 v d ps) :
    ∃ a l c pts, v = .slice a l c ∧ l ≤ c ∧ IS2 W.heap a l pts := by
  obtain ⟨a0, len, cap, rfl⟩ := okWide_slice Try.underlying39 hv
  obtain ⟨fuel, hf⟩ := h
  obtain ⟨pts, h1, h2⟩ := ptsAt (s := ⟨a0, len, cap⟩) hf
  exact ⟨a0, len, cap, pts, rfl, h1, h2⟩
theorem intsIn_of {v : Value} {d : DataW H} {ps : List MemPlace} {base : Nat} (hv : Value.okWide Try.prog W .any base 38 v) (h : DataW.Trod enc Try.prog W 0 (fun _ => true) true 38 v d ps) :
    ∃ a l c ls, v = .slice a l c ∧ l ≤ c ∧ IS W.heap a l (ints ls) := by
  obtain ⟨a0, len, cap, rfl⟩ := okWide_slice Try.underlying38 hv
  obtain ⟨fuel, hf⟩ := h
  obtain ⟨ls, h1, h2⟩ := intsAt hf
  exact ⟨a0, len, cap, ls, rfl, h1, h2⟩
end

end Go.Proofs
