/-
  OWN WORK. Several texts in one: TsBackP, TtPlays, TsBack, OpBytes, OpTree.
-/
import Derived.Test.YtnoebcjpbbccnaaMgTreeBackF
import Derived.Test.YtnoebcjpbbccnaaRows
import Derived.Test.YtnoebcjpbbccnaaMgTreeBackB
import Derived.ChangeSlices
import Derived.Deep.Slices

/-
  OWN WORK. A layer is moved and moved back; changed and changed back. Plain.
-/
set_option linter.unusedVariables false
set_option linter.unusedSimpArgs false
set_option maxRecDepth 10000
namespace Go.Proofs
open Go.Sh

theorem fl_skip {id : Int} : ∀ (A B : List Lay) (up : List FrL) (pre : List Lay), id ∉ idsKs A → flK up pre id (A ++ B) = flK up (pre ++ A) id B
  | [], B, up, pre, _ => by rw [List.nil_append, List.append_nil]
  | t :: A, B, up, pre, h => by
    rw [idsKs, List.mem_append, not_or] at h
    rw [List.cons_append, flK, (fl_none id t up pre (A ++ B)).2 h.1]
    simp only
    rw [fl_skip A B up (pre ++ [t]) h.2, List.append_assoc]; rfl
theorem fl_desc {id : Int} {z : ZL} : ∀ (u : List FrL) (L : List Lay), id ∉ idsUp u → flK u [] id L = some z → flK [] [] id (plugL u L) = some z
  | [], L, _, h => h
  | g :: u, L, hn, h => by
    rw [idsUp, List.mem_cons, List.mem_append, List.mem_append, not_or, not_or, not_or] at hn
    obtain ⟨h1, ⟨h2, h3⟩, h4⟩ := hn
    rw [plugL]
    refine fl_desc u _ h4 ?_
    rw [fl_skip _ _ _ _ h2, flK, flT, if_neg fun hh => h1 hh.symm, List.nil_append]
    rw [show (⟨g.pre, g.f, g.post⟩ : FrL) = g from rfl, h]
theorem fl_at {fr : FrL} {u : List FrL} {ks : List Lay} (hi : Ids (plugL (fr :: u) ks)) : flK [] [] fr.f.id (plugL (fr :: u) ks) = some (fr :: u, ks) := by
  obtain ⟨h0, h1, h2, h3, h4, _⟩ := hi.split
  rw [plugL]
  refine fl_desc u _ h2 ?_
  rw [fl_skip _ _ _ _ h3, flK, flT, if_pos rfl, List.nil_append]
theorem home0 {D : List Lay} {to : Int} (hi : Ids D) (h : to = 0 ∨ ∃ r ∈ flatKs 0 D, r.f.id = to ∧ r.f.kind = 1) : (homeL D to).1 = 0 := by
  unfold homeL
  by_cases h0 : to = 0
  · rw [if_pos h0]
  · rw [if_neg h0]
    obtain ⟨r, hr, hid, hk⟩ := h.resolve_left h0
    have hm : to ∈ idsKs D := by rw [← flatKs_ids D 0]; exact List.mem_map.2 ⟨r, hr, hid⟩
    rcases fl_cases to D with hn | ⟨fr, u, ks, hf, hfid, hp⟩
    · exact absurd hm ((flK_none D [] []).1 hn)
    · rw [hf]
      simp only
      have := ids_inj (flat_nodup hi) hr (row_in hp) (show r.f.id = fr.f.id by rw [hid, hfid])
      have e : r.f = fr.f := congrArg Rw.f this
      rw [if_pos (by rw [← e]; exact hk)]
theorem home_gr {u : List FrL} {kh : List Lay} (hi : Ids (plugL u kh)) (hk : ∀ g u', u = g :: u' → g.f.kind = 1) : homeL (plugL u kh) (gid u) = (0, u, kh) := by
  unfold homeL
  cases u with
  | nil => rw [show gid [] = 0 from rfl, if_pos rfl]; rfl
  | cons g u' =>
    rw [show gid (g :: u') = g.f.id from rfl, if_neg hi.split.1, fl_at hi]
    simp only
    rw [if_pos (hk g u' rfl)]
theorem flat_sub2 {v : List FrL} {kh : List Lay} {i : Nat} {t : Lay} {x : Rw} (h : x ∈ flatKs 0 (plugL v kh)) : x ∈ flatKs 0 (plugL v (kh.take i ++ t :: kh.drop i)) := by
  rw [flat_plug] at h ⊢
  rcases List.mem_append.1 h with h | h
  · exact List.mem_append_left _ h
  · refine List.mem_append_right _ ?_
    rcases List.mem_append.1 h with h | h
    · refine List.mem_append_left _ ?_
      rw [← List.take_append_drop i kh, flatKs_app] at h
      rw [flatKs_app, flatKs]
      rcases List.mem_append.1 h with h | h
      · exact List.mem_append_left _ h
      · exact List.mem_append_right _ (List.mem_append_right _ h)
    · exact List.mem_append_right _ h

def mvE (id to at_ : Int) : Ed := ed0 3 id to at_ 0 0 0 0 0 0
theorem do_move (D : DocL) (id to at_ : Int) : doD D (mvE id to at_) = (if (moveL D.ks (mvE id to at_)).1 ≠ 0 then ((moveL D.ks (mvE id to at_)).1, zeroD) else (0, ⟨D.w, D.h, D.next, (moveL D.ks (mvE id to at_)).2⟩)) := by
  obtain ⟨h1, h2⟩ := doL_step (w := D.w) (h := D.h) (next := D.next) (D := D.ks) (e := mvE id to at_) ⟨by show (1 : Int) ≤ 3; decide, by show (3 : Int) ≤ 9; decide⟩
  have hst : stepL D.w D.h D.next D.ks (mvE id to at_) = moveL D.ks (mvE id to at_) := rfl
  rw [hst] at h1 h2
  unfold doD
  by_cases h0 : (moveL D.ks (mvE id to at_)).1 = 0
  · rw [if_neg (by rw [h1]; exact fun hh => hh h0), if_neg (fun hh => hh h0), h2 h0]; rfl
  · rw [if_pos (by rw [h1]; exact h0), if_pos h0, h1]

theorem move_back {D : DocL} (hi : Inv D) {id to at_ : Int} {fr : FrL} {u : List FrL} {ks : List Lay} (hf : flK [] [] id D.ks = some (fr :: u, ks)) (h0 : (doD D (mvE id to at_)).1 = 0) :
    doD (doD D (mvE id to at_)).2 (mvE id (gid u) fr.pre.length) = (0, D) := by
  have hm0 : (moveL D.ks (mvE id to at_)).1 = 0 := by
    rw [do_move] at h0
    by_cases hh : (moveL D.ks (mvE id to at_)).1 = 0
    · exact hh
    · rw [if_pos hh] at h0; exact h0
  have hG := do_inv hi h0
  have hd1 : doD D (mvE id to at_) = (0, ⟨D.w, D.h, D.next, (moveL D.ks (mvE id to at_)).2⟩) := by rw [do_move, if_neg (fun hh => hh hm0)]
  rw [hd1] at hG ⊢
  have hids := hi.ids'
  obtain ⟨hp, hid⟩ : plugL (fr :: u) ks = D.ks ∧ fr.f.id = id := by
    rcases fl_cases id D.ks with hn | ⟨fr2, u2, ks2, hf2, hid2, hp2⟩
    · rw [hn] at hf; cases hf
    · rw [hf] at hf2; cases hf2; exact ⟨hp2, hid2⟩
  have hid' : Ids (plugL (fr :: u) ks) := hp ▸ hids
  obtain ⟨s0, s1, s2, s3, s4, s5⟩ := hid'.split
  -- the first move
  have hgood := hi.good
  rw [← hp] at hgood
  obtain ⟨gu, _, _, _⟩ := g_node hgood
  have hkind : ∀ g u', u = g :: u' → g.f.kind = 1 := fun g u' he => by subst he; exact gu.2.2.2.1
  have hmv : ∃ v kh i, plugL v kh = plugL u (fr.pre ++ fr.post) ∧ i ≤ kh.length ∧ (moveL D.ks (mvE id to at_)).2 = plugL v (kh.take i ++ .mk fr.f ks :: kh.drop i) := by
    have hm1 := hm0
    unfold moveL at hm1 ⊢
    rw [show (mvE id to at_).id = id from rfl, hf] at hm1 ⊢
    simp only at hm1 ⊢
    split at hm1
    · rename_i c; exact absurd hm1 c
    rename_i c1
    split at hm1
    · simp at hm1
    rename_i c2
    split at hm1
    · rename_i c; exact absurd hm1 c
    rename_i c3
    rw [if_neg c1, if_neg c2, if_neg c3]
    have hho := home_tri (Decidable.byContradiction c3)
    obtain ⟨hp2, _⟩ := home_cases _ _ hho
    obtain ⟨i, hi2, hpu, _⟩ := put_ok hm1
    exact ⟨_, _, i, hp2, atL_le hi2, hpu⟩
  obtain ⟨v, kh, i, hv, hle, hmv⟩ := hmv
  rw [hmv] at hG ⊢
  have hGi := hG.ids'
  have hGi : Ids (plugL (⟨kh.take i, fr.f, kh.drop i⟩ :: v) ks) := hGi
  have hD1 := (ids_out hid').1
  -- back
  have hback : moveL (plugL v (kh.take i ++ .mk fr.f ks :: kh.drop i)) (mvE id (gid u) fr.pre.length) = (0, D.ks) := by
    unfold moveL
    have hfG : flK [] [] id (plugL v (kh.take i ++ .mk fr.f ks :: kh.drop i)) = some (⟨kh.take i, fr.f, kh.drop i⟩ :: v, ks) := by
      have := fl_at hGi
      rw [show (⟨kh.take i, fr.f, kh.drop i⟩ : FrL).f.id = id from hid] at this
      exact this
    rw [show (mvE id (gid u) fr.pre.length).id = id from rfl, show (mvE id (gid u) fr.pre.length).to = gid u from rfl, show (mvE id (gid u) fr.pre.length).at_ = fr.pre.length from rfl, hfG]
    simp only
    have hh1 : (homeL (plugL v (kh.take i ++ .mk fr.f ks :: kh.drop i)) (gid u)).1 = 0 := by
      refine home0 hGi ?_
      cases u with
      | nil => exact .inl rfl
      | cons g u' =>
        refine .inr ⟨⟨g.f, gid u'⟩, flat_sub2 ?_, rfl, hkind g u' rfl⟩
        rw [hv]; exact at_mem
    rw [if_neg (fun hh => hh hh1)]
    have hcy : ¬ (gid u = id ∨ (flK [] [] (gid u) ks).isSome = true) := by
      rintro (h | h)
      · rcases gid_up u with hg | hg
        · exact s0 (by rw [hid, ← h]; exact hg)
        · exact s2 (by rw [hid, ← h]; exact hg)
      · cases hfk : flK [] [] (gid u) ks with
        | none => rw [hfk] at h; cases h
        | some z =>
          have hm : gid u ∈ idsKs ks := Decidable.byContradiction fun hh => by rw [(flK_none ks [] []).2 hh] at hfk; cases hfk
          obtain ⟨q1, q2⟩ := s5 _ hm
          rcases gid_up u with hg | hg
          · exact q1 hg
          · exact q2 (by rw [idsUp]; exact List.mem_cons_of_mem _ (List.mem_append_right _ hg))
    rw [if_neg hcy]
    have hrem : plugL v (kh.take i ++ kh.drop i) = plugL u (fr.pre ++ fr.post) := by rw [List.take_append_drop, hv]
    rw [hrem, home_gr hD1 hkind]
    simp only
    rw [if_neg (fun hh => hh rfl)]
    unfold putL
    have hat : atL (fr.pre.length : Int) (fr.pre ++ fr.post).length = some fr.pre.length := by
      unfold atL
      rw [if_neg (by omega), if_pos ⟨by omega, by rw [List.length_append]; omega⟩]
      simp
    rw [hat]
    simp only
    rw [List.take_left, List.drop_left]
    have hpu : plugL u (fr.pre ++ .mk fr.f ks :: fr.post) = D.ks := hp
    rw [hpu]
    have := hi.dep
    rw [if_neg (by omega)]
  rw [do_move]
  show (if (moveL (plugL v (kh.take i ++ .mk fr.f ks :: kh.drop i)) (mvE id (gid u) fr.pre.length)).1 ≠ 0 then _ else (0, (⟨D.w, D.h, D.next, (moveL (plugL v (kh.take i ++ .mk fr.f ks :: kh.drop i)) (mvE id (gid u) fr.pre.length)).2⟩ : DocL))) = _
  rw [hback, if_neg (fun hh => hh rfl)]

theorem do_chg {D : DocL} {e : Ed} (hk : 4 ≤ e.kind ∧ e.kind ≤ 9) {fr : FrL} {u : List FrL} {ks : List Lay} (hf : flK [] [] e.id D.ks = some (fr :: u, ks)) :
    doD D e = (if (chgK D.w D.h e fr.f).1 ≠ 0 then ((chgK D.w D.h e fr.f).1, zeroD) else (0, ⟨D.w, D.h, D.next, plugL (⟨fr.pre, (chgK D.w D.h e fr.f).2, fr.post⟩ :: u) ks⟩)) := by
  obtain ⟨h1, h2⟩ := doL_step (w := D.w) (h := D.h) (next := D.next) (D := D.ks) (e := e) ⟨by omega, by omega⟩
  have hst : stepL D.w D.h D.next D.ks e = (if (chgK D.w D.h e fr.f).1 ≠ 0 then ((chgK D.w D.h e fr.f).1, []) else (0, plugL (⟨fr.pre, (chgK D.w D.h e fr.f).2, fr.post⟩ :: u) ks)) := by
    rw [step_chg hk]; unfold chgL; rw [hf]
  rw [hst] at h1 h2
  unfold doD
  by_cases h0 : (chgK D.w D.h e fr.f).1 = 0
  · rw [if_neg (fun hh => hh h0)] at h1 h2
    have hz : ¬ (doL D.w D.h D.next D.ks e).1 ≠ 0 := by rw [h1]; exact fun hh => hh rfl
    rw [if_neg hz, if_neg (fun hh => hh h0), h2 rfl]
    show (0, (⟨D.w, D.h, nextL D.next e, _⟩ : DocL)) = _
    rw [show nextL D.next e = D.next from by unfold nextL; rw [if_neg (by omega)]]
  · rw [if_pos h0] at h1 h2
    have hz : (doL D.w D.h D.next D.ks e).1 ≠ 0 := by rw [h1]; exact h0
    rw [if_pos hz, if_pos h0, h1]
theorem chg_back {D : DocL} (hi : Inv D) {id : Int} {fr : FrL} {u : List FrL} {ks : List Lay} (hf : flK [] [] id D.ks = some (fr :: u, ks)) {e e2 : Ed} (he : e.id = id) (he2 : e2.id = id) (hk : 4 ≤ e.kind ∧ e.kind ≤ 9) (hk2 : 4 ≤ e2.kind ∧ e2.kind ≤ 9) {f' : LayF}
    (h1 : chgK D.w D.h e fr.f = (0, f')) (h2 : chgK D.w D.h e2 f' = (0, fr.f)) : doD D e = (0, ⟨D.w, D.h, D.next, plugL (⟨fr.pre, f', fr.post⟩ :: u) ks⟩) ∧ doD (doD D e).2 e2 = (0, D) ∧ (f' ≠ fr.f → (doD D e).2 ≠ D) := by
  have hd := do_chg (D := D) hk (he ▸ hf)
  rw [h1, if_neg (fun hh => hh rfl)] at hd
  obtain ⟨hp, hid⟩ : plugL (fr :: u) ks = D.ks ∧ fr.f.id = id := by
    rcases fl_cases id D.ks with hn | ⟨fr2, u2, ks2, hf2, hid2, hp2⟩
    · rw [hn] at hf; cases hf
    · rw [hf] at hf2; cases hf2; exact ⟨hp2, hid2⟩
  have hid' : f'.id = fr.f.id := by have := chgK_id D.w D.h e fr.f; rw [h1] at this; exact this
  have hG := do_inv hi (e := e) (by rw [hd])
  rw [hd] at hG
  have hGi : Ids (plugL (⟨fr.pre, f', fr.post⟩ :: u) ks) := hG.ids'
  have hfG : flK [] [] e2.id (plugL (⟨fr.pre, f', fr.post⟩ :: u) ks) = some (⟨fr.pre, f', fr.post⟩ :: u, ks) := by
    have := fl_at hGi
    rw [show (⟨fr.pre, f', fr.post⟩ : FrL).f.id = e2.id from by rw [he2, ← hid]; exact hid'] at this
    exact this
  refine ⟨hd, ?_, fun hne hh => hne ?_⟩
  · rw [hd]
    have := do_chg (D := ⟨D.w, D.h, D.next, plugL (⟨fr.pre, f', fr.post⟩ :: u) ks⟩) hk2 hfG
    rw [this]
    show (if (chgK D.w D.h e2 f').1 ≠ 0 then _ else (0, (⟨D.w, D.h, D.next, plugL (⟨fr.pre, (chgK D.w D.h e2 f').2, fr.post⟩ :: u) ks⟩ : DocL))) = _
    rw [h2, if_neg (fun hh => hh rfl)]
    show (0, (⟨D.w, D.h, D.next, plugL (fr :: u) ks⟩ : DocL)) = _
    rw [hp]
  · rw [hd] at hh
    have hks : plugL (⟨fr.pre, f', fr.post⟩ :: u) ks = D.ks := congrArg DocL.ks hh
    rw [he2, hks, hf] at hfG
    have := Option.some.inj hfG
    injection this with h3 _
    injection h3 with h4 _
    exact (congrArg FrL.f h4).symm

end Go.Proofs

/-
  OWN WORK. The law TreePlays, over heaps.
-/
set_option linter.unusedVariables false
set_option linter.unusedSimpArgs false
set_option maxRecDepth 10000
namespace Go.Proofs
open Go.Sh
variable {H0 H : Heap} {σ : List Rs} {R : Value → Heap → Prop}

theorem poolStart (hs : St H0 H σ) : St H0 H (poolRs [(.nil, [])] :: σ) := St.persIn (τ := []) hs fun H' fps _ x hx => by
  rw [List.mem_singleton] at hx; subst hx
  exact ⟨RL.nil H', fun r hr => by cases hr⟩
theorem rel_nil : Rel [] (rwS []) := fun to => rfl
theorem begun_doc {w h : Int} (hb : begunB w h = true) : begunA w h = docA w h 1 .nil ∧ Inv ⟨w, h, 1, []⟩ := by
  unfold begunB at hb
  rw [Bool.and_eq_true] at hb
  exact ⟨by unfold begunA; rw [if_pos hb.1], new_inv hb.1⟩
theorem eds_ok {p : Option Addr} {l : Nat} {es : List (Ed × EdS)} (h : EdsR H p l es) (hok : ∀ x ∈ es, x.1.shape.length ≤ 300 ∧ x.1.params.length ≤ 100) {i : Nat} {e : Ed} {s : EdS} (hx : es[i]? = some (e, s)) : ∃ a, p = some a ∧ rowIn H (a.add (i * 19)) (edL e s).toArray ∧ EdOk H e s := by
  obtain ⟨a, h1, h2, h3⟩ := h.get i e s hx
  have := hok _ (List.mem_of_getElem? hx)
  exact ⟨a, h1, h2, h3, by have := this.1; simp only at this; omega, by have := this.2; simp only at this; omega⟩
theorem zero_kids {A : Array Value} (h : DocR H A zeroD) : ∃ p c, A = docA 0 0 0 ⟨p, 0, c⟩ := by
  obtain ⟨K, ks, rfl, hg, hl⟩ := h
  have : ks.length = 0 := by have := layKs_len ks; rw [hl] at this; exact this.symm
  have hk := hg.1.1
  refine ⟨K.p, K.c, ?_⟩
  have h0 : K.l = 0 := by omega
  show docA 0 0 0 K = _
  unfold docA Sl3.v
  rw [h0]

theorem plays_law {w h : Int} {p : Option Addr} {l c : Nat} {es : List (Ed × EdS)} (hes : EdsR H p l es) (hR : ∀ H', Ext H H' → R (.bool true) H') : CallsH Try.prog 3 #[.int .i64 w, .int .i64 h, .slice p l c] H R := by
  refine Try.s3 ?_
  unfold Try.S3
  refine c12 fun H5 he5 => ⟨_, rfl, br_f rfl ?_⟩
  have hone : ∀ v ∈ (begunA w h).toList, v.oneCell' = true := by unfold begunA; split <;> exact docA_one _ _ _ _
  have hsize : (begunA w h).size = 4 := by unfold begunA; split <;> rfl
  refine new_call fun H8 he8 => ⟨_, _, rfl, (St.of_ext (he5.trans he8)).alc fun b11 H12 hs12 => ⟨hsize, hs12.putAll 0 rfl hsize hone fun H13 hs13 => rnew_call fun H15 he15 => ⟨_, _, rfl, (hs13.step he15).alc fun b18 H19 hs19 => ⟨hsize, hs19.putAll 0 rfl hsize hone fun H20 hs20 => br_ne (fun h => absurd rfl h) fun _ => ?_⟩⟩⟩⟩
  refine c15 fun H22 he22 => ⟨_, _, _, rfl, ?_⟩
  refine ((hs20.drop 2).step he22).alc fun b26 H27 hs27 => hs27.alc fun b28 H29 hs29 => ⟨hsize, hs29.putAll 1 rfl hsize hone fun H30 hs30 => ⟨hsize, hs30.putAll 0 rfl hsize hone fun H31 hs31 => ?_⟩⟩
  intro J32 hJ32
  refine br_not (fun _ => hR H31 hs31.ext) fun hb => ?_
  obtain ⟨hA, hinv⟩ := begun_doc hb
  rw [hA] at hs31
  refine c16 (hes.ext hs31.ext) (by decide) fun H114 he114 => ⟨_, rfl, br_not (fun _ => hR _ (hs31.step he114).ext) fun hsm => hJ32 _ ?_⟩
  have hs114 := hs31.step he114
  obtain ⟨hmost, hok⟩ := smallB_ok hsm
  have hesl := hes.len
  intro X34 hX34
  have go : ∀ k, k ≤ es.length → ∀ (A : Array Value) (D : DocL) (Kd : Sl3) (rs : List RT) (L : List (Sl3 × List RT)) (H1 : Heap), Inv D → D.next ≤ k + 1 → Rel D.ks (rwS rs) → (Kd, rs) ∈ L → St H H1 [.cell b26 A 26, .cell b28 (docA D.w D.h D.next Kd) 32, docRs A D, poolRs L] → X34 [.int .i64 (k : Nat)] H1 := by
    refine upto fun k hk ih A D Kd rs L H1 hi hnx hrel hmem hs1 => hX34 _ _ (br_dec (fun hlt => ?_) fun hge => hR H1 hs1.ext)
    have hk' : k < es.length := by omega
    have hx := List.getElem?_eq_getElem hk'
    generalize es[k] = x at hx
    obtain ⟨e, s⟩ := x
    intro J37 hJ37
    have next : ∀ (A : Array Value) (D : DocL) (Kd : Sl3) (rs : List RT) (L : List (Sl3 × List RT)) (H1 : Heap), Inv D → D.next ≤ k + 2 → Rel D.ks (rwS rs) → (Kd, rs) ∈ L → St H H1 [.cell b26 A 26, .cell b28 (docA D.w D.h D.next Kd) 32, docRs A D, poolRs L] → J37 [] H1 := fun A D Kd rs L H1 h1 h2 h3 h4 h5 => by
      refine hJ37 _ ?_
      rw [wrap_id (by omega) (by omega)]
      exact ih hk' A D Kd rs L H1 h1 (by omega) h3 h4 h5
    obtain ⟨a, hp, hrow, hed⟩ := eds_ok (hes.ext hs1.ext) hok hx
    refine ⟨a, hp, by omega, hlt, _, rfl, hrow, hs1.alc fun b41 H42 hs42 => ⟨rfl, hs42.putAll 0 rfl rfl (by simpa using edL_one e s) fun H43 hs43 => ?_⟩⟩
    have hedH : ∀ {H' : Heap}, Ext H H' → EdOk H' e s := fun he => by
      obtain ⟨_, _, _, h3⟩ := eds_ok (hes.ext he) hok hx
      exact h3
    have hnx2 : D.next ≤ 1000000000000000 := by omega
    intro J44 hJ44
    have after : ∀ (bn : Nat) (q : Sl3) (rs' : List RT) (L' : List (Sl3 × List RT)) (H1 : Heap), (q, rs') ∈ L' → (Kd, rs) ∈ L' → Rel (nxt D e).ks (rwS rs') → St H H1 [.cell bn (docA (nxt D e).w (nxt D e).h (nxt D e).next q) 32, .cell b41 (edL e s).toArray 43, .cell b26 A 26, .cell b28 (docA D.w D.h D.next Kd) 32, docRs A D, poolRs L'] → J44 [.pointer (some ⟨bn, 0, none⟩), .int .i64 (doD D e).1] H1 := fun bn q rs' L' H1 hm1 hm2 hr2 hs1 => by
      have hd := hs1.doc 4 rfl
      refine hJ44 _ _ _ ⟨A, hd.size, rowIn_whole (hs1.block 2 rfl), (edL e s).toArray, rfl, rowIn_whole (hs1.block 1 rfl), do_st hs1 hd hi hnx2 (hedH hs1.ext) fun A' H51 hd' hs51 => ⟨_, _, rfl, ?_⟩⟩
      refine hs51.alc fun b54 H55 hs55 => ⟨hd'.size, hs55.putAll 0 rfl hd'.size hd'.one fun H56 hs56 => br_ne (fun h => absurd rfl h) fun _ => br_ne (fun hbad => ?_) fun h0 => ?_⟩
      · have hz : (doD D e).2 = zeroD := by unfold doD at hbad ⊢; split at hbad <;> rename_i hc
                                            · rw [if_pos hc]
                                            · exact absurd rfl hbad
        have hn : nxt D e = D := by unfold nxt; rw [if_neg hbad]
        have hd56 := hs56.doc 1 rfl
        rw [hz] at hd56
        obtain ⟨zp, zc, hzA⟩ := zero_kids hd56
        rw [hzA] at hs56
        refine ⟨zp, 0, zc, hs56.get 0 rfl (j := 3) rfl, br_ne (fun h => absurd rfl h) fun _ => ⟨0, hs56.get 0 rfl (j := 2) rfl, br_ne (fun h => absurd rfl h) fun _ => ?_⟩⟩
        have hdo := hs56.doc 6 rfl
        refine ⟨A, hdo.size, rowIn_whole (hs56.block 4 rfl), _, rfl, rowIn_whole (hs56.block 5 rfl), like_st hs56 7 rfl hm2 hdo hi hi hrel fun t H62 ht he62 hs62 => ⟨_, rfl, ?_⟩⟩
        rw [ht.2 rfl]
        exact br_f rfl (next A D Kd rs L' H62 hi (by omega) hrel hm2 (hs62.drop 4))
      · have hn : nxt D e = (doD D e).2 := by unfold nxt; rw [if_pos h0]
        rw [hn] at hs56 hr2
        have hi2 := do_inv hi h0
        have hdx := do_next h0
        refine ⟨A', hd'.size, rowIn_whole (hs56.block 0 rfl), _, rfl, rowIn_whole (hs56.block 2 rfl), like_st hs56 7 rfl hm1 (hs56.doc 1 rfl) hi2 hi2 hr2 fun t H67 ht he67 hs67 => ⟨_, rfl, ?_⟩⟩
        rw [ht.2 rfl]
        refine br_f rfl ?_
        have hdo := hs67.doc 6 rfl
        refine ⟨A, hdo.size, rowIn_whole (hs67.block 4 rfl), _, rfl, rowIn_whole (hs67.block 5 rfl), like_st hs67 7 rfl hm2 hdo hi hi hrel fun t H72 ht he72 hs72 => ⟨_, rfl, ?_⟩⟩
        rw [ht.2 rfl]
        refine br_f rfl ⟨A', hd'.size, rowIn_whole (hs72.block 0 rfl), _, rfl, rowIn_whole (hs72.block 2 rfl), hd'.size, hs72.putAll 4 rfl (hd'.size.trans hdo.size.symm) hd'.one fun H76 hs76 => ⟨.inr ⟨_, rfl, rowIn_whole (hs76.block 2 rfl), rfl⟩, rfl, hs76.putAll 5 rfl rfl (docA_one _ _ _ _) fun H77 hs77 => ?_⟩⟩
        refine next A' (doD D e).2 q rs' L' H77 hi2 (by omega) hr2 hm1 ?_
        have := hs77.perm (τ := [.cell b54 A' 26, .cell bn (docA (doD D e).2.w (doD D e).2.h (doD D e).2.next q) 32, .cell b41 (edL e s).toArray 43, docRs A D, .cell b26 A' 26, .cell b28 (docA (doD D e).2.w (doD D e).2.h (doD D e).2.next q) 32, docRs A' (doD D e).2, poolRs L']) (permC fun _ x => by simp only [List.set_cons_succ, List.set_cons_zero, List.count_cons, List.count_nil]; ac_rfl)
        exact this.drop 4
    have edD : (edL e s).toArray.size = 19 := rfl
    refine ⟨_, rfl, rowIn_whole (hs43.block 2 rfl), _, rfl, rowIn_whole (hs43.block 0 rfl), ?_, ?_⟩
    · refine c18 (hedH hs43.ext) fun s' H82 he82 hed' => ⟨_, rfl, .inl he82, ?_, ?_⟩
      · refine rdo_st (hs43.step he82) 4 rfl hmem hrel hi hnx2 hed' fun q rs' L' H85 hm1 hsub hr2 he85 hs85 => ⟨_, _, rfl, ?_⟩
        refine hs85.alc fun b88 H89 hs89 => ⟨rfl, hs89.putAll 0 rfl rfl (docA_one _ _ _ _) fun H90 hs90 => ?_⟩
        exact after b88 q rs' L' H90 hm1 (hsub _ hmem) hr2 hs90
      · refine (hs43.step he82).alcE fun b91 H92 he92 hs92 => ⟨.inl he92, ?_⟩
        refine rdo_st hs92 5 rfl hmem hrel hi hnx2 ⟨hed'.rd.ext he92, hed'.shape, hed'.params⟩ fun q rs' L' H94 hm1 hsub hr2 he94 hs94 => ⟨_, _, rfl, rfl, ?_⟩
        refine hs94.putAll 0 rfl rfl (docA_one _ _ _ _) fun H97 hs97 => ?_
        exact after b91 q rs' L' H97 hm1 (hsub _ hmem) hr2 hs97
    · refine hs43.alcE fun b100 H101 he101 hs101 => ⟨.inl he101, ?_⟩
      refine c18 (hedH hs101.ext) fun s' H103 he103 hed' => ⟨_, rfl, .inl he103, ?_⟩
      refine rdo_st (hs101.step he103) 5 rfl hmem hrel hi hnx2 hed' fun q rs' L' H106 hm1 hsub hr2 he106 hs106 => ⟨_, _, rfl, rfl, ?_⟩
      refine hs106.putAll 0 rfl rfl (docA_one _ _ _ _) fun H109 hs109 => ?_
      exact after b100 q rs' L' H109 hm1 (hsub _ hmem) hr2 hs109
  refine go 0 (Nat.zero_le _) (docA w h 1 .nil) ⟨w, h, 1, []⟩ .nil [] [(.nil, [])] H114 hinv (by show (1 : Int) ≤ 0 + 1; omega) rel_nil List.mem_cons_self ?_
  have h1 := poolStart (hs114.docNil w h 1)
  exact h1.perm (permC fun _ x => by simp only [List.set_cons_succ, List.set_cons_zero, List.count_cons, List.count_nil]; ac_rfl)

end Go.Proofs

/-
  OWN WORK. The law TreeBack, over heaps.
-/
set_option linter.unusedVariables false
set_option linter.unusedSimpArgs false
set_option maxRecDepth 10000
namespace Go.Proofs
open Go.Sh
variable {H0 H : Heap} {σ : List Rs} {R : Value → Heap → Prop}

def hidE (id n : Int) : Ed := ed0 6 id 0 0 n 0 0 0 0 0
def mskE (id n : Int) (l : List Pt) : Ed := ⟨7, id, 0, 0, n, 0, 0, 0, 0, 0, [], l, zeroM, []⟩
theorem mskE_ok {p : Option Addr} {l : Nat} {pts : List Pt} (h : IS2 H p l pts) (hl : l ≤ 300) (c : Nat) (id n : Int) : EdOk H (mskE id n pts) ⟨.nil, ⟨p, l, c⟩, .nil⟩ :=
  ⟨⟨⟨rfl, fun i v hv => by simp [mskE, ints] at hv⟩, h, ⟨rfl, fun i v hv => by simp [mskE, ints] at hv⟩⟩, by have := h.len; show pts.length ≤ _; omega, by simp [mskE]⟩

theorem back_law {p q : Option Addr} {l c m d : Nat} {es : List (Ed × EdS)} {id to at_ : Int} {pts : List Pt} (hes : EdsR H p l es) (hsh : IS2 H q m pts) (hR : ∀ H', Ext H H' → R (.bool true) H') :
    CallsH Try.prog 10 #[.slice p l c, .int .i64 id, .int .i64 to, .int .i64 at_, .slice q m d] H R := by
  refine Try.s10 ?_
  unfold Try.S10
  refine c12 fun H7 he7 => ⟨_, rfl, br_f rfl ?_⟩
  refine c15 fun H10 he10 => ⟨_, _, _, rfl, ?_⟩
  rw [show begunA 8 8 = docA 8 8 1 .nil from rfl]
  refine (St.of_ext (he7.trans he10)).alc fun b14 H15 hs15 => hs15.alc fun b16 H17 hs17 => ⟨rfl, hs17.putAll 1 rfl rfl (docA_one _ _ _ _) fun H18 hs18 => ⟨rfl, hs18.putAll 0 rfl rfl (docA_one _ _ _ _) fun H19 hs19 => ?_⟩⟩
  intro J20 hJ20
  refine c16 (hes.ext hs19.ext) (by decide) fun H130 he130 => ⟨_, rfl, br_not (fun _ => hR _ (hs19.step he130).ext) fun hsm => br_dec (fun _ => hR _ (hs19.step he130).ext) fun hm3 => hJ20 _ ?_⟩
  have hs130 := hs19.step he130
  obtain ⟨hmost, hok⟩ := smallB_ok hsm
  have hesl := hes.len
  intro X22 hX22
  have go : ∀ k, k ≤ es.length → ∀ (A : Array Value) (D : DocL) (H1 : Heap), Inv D → D.next ≤ k + 1 → St H H1 [.cell b14 A 26, docRs A D] → X22 [.int .i64 (k : Nat)] H1 := by
    refine upto fun k hk ih A D H1 hi hnx hs1 => hX22 _ _ (br_dec (fun hlt => ?_) fun hge => ?_)
    · have hk' : k < es.length := by omega
      have hx := List.getElem?_eq_getElem hk'
      generalize es[k] = x at hx
      obtain ⟨e, s⟩ := x
      obtain ⟨a, hp, hrow, hed⟩ := eds_ok (hes.ext hs1.ext) hok hx
      have hnx2 : D.next ≤ 1000000000000000 := by omega
      refine ⟨a, hp, by omega, hlt, _, rfl, hrow, hs1.alc fun b27 H28 hs28 => ⟨rfl, hs28.putAll 0 rfl rfl (by simpa using edL_one e s) fun H29 hs29 => ?_⟩⟩
      have hd := hs29.doc 2 rfl
      have hedH : EdOk H29 e s := let ⟨_, _, _, h3⟩ := eds_ok (hes.ext hs29.ext) hok hx; h3
      have hn := nxt_next (D := D) e
      refine ⟨A, hd.size, rowIn_whole (hs29.block 1 rfl), _, rfl, rowIn_whole (hs29.block 0 rfl), do_st hs29 hd hi hnx2 hedH fun A' H33 hd' hs33 => ⟨_, _, rfl, ?_⟩⟩
      refine hs33.alc fun b36 H37 hs37 => ⟨hd'.size, hs37.putAll 0 rfl hd'.size hd'.one fun H38 hs38 => ?_⟩
      rw [wrap_id (by omega) (by omega)]
      refine br_eq (fun h0 => ?_) fun hne => ?_
      · have hnn : nxt D e = (doD D e).2 := by unfold nxt; rw [if_pos h0]
        refine ⟨A', hd'.size, rowIn_whole (hs38.block 0 rfl), hd'.size, hs38.putAll 3 rfl (hd'.size.trans hd.size.symm) hd'.one fun H40 hs40 => ?_⟩
        refine ih hk' A' (nxt D e) H40 (nxt_inv hi e) (by omega) ?_
        rw [hnn]
        have := hs40.perm (τ := [.cell b36 A' 26, docRs A D, .cell b27 (edL e s).toArray 43, .cell b14 A' 26, docRs A' (doD D e).2]) (permC fun _ x => by simp only [List.set_cons_succ, List.set_cons_zero, List.count_cons, List.count_nil]; ac_rfl)
        exact this.drop 3
      · exact ih hk' A D H38 hi (by omega) (hs38.drop 3)
    · have hd := hs1.doc 1 rfl
      have hcn := hi.cnt
      have hok' := hi.ok
      have hnx2 : D.next ≤ 1000000000000000 := by omega
      refine ⟨A, hd.size, rowIn_whole (hs1.block 0 rfl), c23 hd (by omega) fun H43 he43 => ⟨_, _, _, rfl, ?_⟩⟩
      have hs43 := hs1.step he43
      have same : ∀ {H1 : Heap} {σ1 : List Rs} {B : Array Value} {E : DocL} {t : Bool}, St H H1 σ1 → DocR H1 B E → DocR H1 A D → Inv E → (sameD E D = t) → ∀ {R1 : Value → Heap → Prop}, (∀ H', Ext H1 H' → R1 (.bool t) H') → CallsH Try.prog 30 #[.agg B, .agg A] H1 R1 := fun {H1 σ1 B E t} hs hb ha hE ht R1 hR1 => by
        have := hE.cnt
        refine c30 hb ha hE.ok (by omega) fun H' he => ?_
        rw [ht]; exact hR1 H' he
      rcases fl_cases id D.ks with hno | ⟨fr, u, ks, hf, hid, hp⟩
      · have hfl : findL D.ks id = none := by unfold findL; rw [hno]
        rw [show parentL D.ks id = (0, 0, false) from by unfold parentL; rw [hno]]
        refine ⟨A, hd.size, rowIn_whole (hs43.block 0 rfl), find_st hs43 (hs43.doc 1 rfl) hi (fun _ H49 hs49 => ⟨_, _, rfl, ?_⟩) fun lf hlf => by rw [hfl] at hlf; cases hlf⟩
        refine hs49.alc fun b52 H53 hs53 => ⟨rfl, hs53.putAll 0 rfl rfl (by intro v hv; exact cellsT_one (.mk zeroF .nil .nil .nil .nil []) v hv) fun H54 hs54 => br_t rfl (hR _ hs54.ext)⟩
      · have hfl : findL D.ks id = some (.mk fr.f ks) := by unfold findL; rw [hf]
        have hpar : parentL D.ks id = (gid u, (fr.pre.length : Int), true) := by unfold parentL; rw [hf]; cases u <;> rfl
        rw [hpar]
        dsimp only
        have hgood := (Inv.found hi hf).1
        refine ⟨A, hd.size, rowIn_whole (hs43.block 0 rfl), find_st hs43 (hs43.doc 1 rfl) hi (fun hlf => by rw [hfl] at hlf; cases hlf) fun lf hlf B H49 hlr hs49 => ⟨_, _, rfl, ?_⟩⟩
        rw [hfl] at hlf
        cases hlf
        refine hs49.alc fun b52 H53 hs53 => ⟨hlr.size, hs53.putAll 0 rfl (by rw [Array.length_toList, hlr.size]; rfl) hlr.one fun H54 hs54 => br_f rfl ?_⟩
        obtain ⟨t, htB, htr, htl⟩ := hs54.lay 1 rfl
        cases t with | mk tf tP tM tA tK tks =>
        have htf : tf = fr.f := congrArg Lay.f htl
        subst htf
        have hml := htr.2.1.length
        rw [htB] at hs54
        have hs54 : St H H54 [.cell b52 (cellsT (.mk fr.f tP tM tA tK tks)).toArray 58, layRs (cellsT (.mk fr.f tP tM tA tK tks)).toArray (.mk fr.f ks), .cell b14 A 26, docRs A D] := hs54
        intro J55 hJ55
        have third : ∀ (H1 : Heap), St H H1 [.cell b52 (cellsT (.mk fr.f tP tM tA tK tks)).toArray 58, .cell b14 A 26, docRs A D] → ∀ J57 : List Value → Heap → Prop, (∀ H58 : Heap, St H H58 [.cell b52 (cellsT (.mk fr.f tP tM tA tK tks)).toArray 58, .cell b14 A 26, docRs A D] → J57 [] H58) → (∃ Hidden81 : Bool, Sh.cell H1 (Addr.add ⟨b52, 0, none⟩ 2) = some (Value.bool Hidden81) ∧ br (!Hidden81)
             (∃ v82 : Array Value, v82.size = 4 ∧ rowIn H1 ⟨b14, 0, none⟩ v82 ∧ CallsH Try.prog 19 #[Value.agg v82, Value.agg (edL (hidE id 1) es0).toArray] H1 fun r83 H_84 => ∃ r85 : Array Value, ∃ r86 : Int, r83 = Value.tuple #[Value.agg r85, Value.int .i64 r86] ∧ alc H_84 (.cells #[Value.int .i64 0, Value.int .i64 0, Value.int .i64 0, Value.slice none 0 0] 26) fun b87 H_88 => r85.size = 4 ∧ stAt H_88 ⟨b87, 0, none⟩ (Array.toList r85) fun H_89 => ∃ v90 : Array Value, v90.size = 4 ∧ rowIn H_89 ⟨b87, 0, none⟩ v90 ∧ CallsH Try.prog 19 #[Value.agg v90, Value.agg (edL (hidE id 0) es0).toArray] H_89 fun r91 H_92 => ∃ r93 : Array Value, ∃ r94 : Int, r91 = Value.tuple #[Value.agg r93, Value.int .i64 r94] ∧ alc H_92 (.cells #[Value.int .i64 0, Value.int .i64 0, Value.int .i64 0, Value.slice none 0 0] 26) fun b95 H_96 => r93.size = 4 ∧ stAt H_96 ⟨b95, 0, none⟩ (Array.toList r93) fun H_97 => br ((r86 : Int) != (0 : Int)) (R (Value.bool false) H_97) (br ((r94 : Int) != (0 : Int)) (R (Value.bool false) H_97) (∃ v98 : Array Value, v98.size = 4 ∧ rowIn H_97 ⟨b95, 0, none⟩ v98 ∧ ∃ v99 : Array Value, v99.size = 4 ∧ rowIn H_97 ⟨b14, 0, none⟩ v99 ∧ CallsH Try.prog 30 #[Value.agg v98, Value.agg v99] H_97 fun r100 H_101 => ∃ r102 : Bool, r100 = Value.bool r102 ∧ br (!r102) (R (Value.bool false) H_101) (∃ v103 : Array Value, v103.size = 4 ∧ rowIn H_101 ⟨b87, 0, none⟩ v103 ∧ ∃ v104 : Array Value, v104.size = 4 ∧ rowIn H_101 ⟨b14, 0, none⟩ v104 ∧ CallsH Try.prog 30 #[Value.agg v103, Value.agg v104] H_101 fun r105 H_106 => ∃ r107 : Bool, r105 = Value.bool r107 ∧ br r107
             (R (Value.bool false) H_106)
             (J57 [] H_106)))))
             (J57 [] H1)) := fun H1 hs1 J57 hJ57 => by
          refine ⟨fr.f.hidden, hs1.get 0 rfl (j := 2) rfl, br_not (fun hh => ?_) fun hh => hJ57 H1 hs1⟩
          have g1 : chgK D.w D.h (hidE id 1) fr.f = (0, { fr.f with hidden := true }) := by
            show hideF (hidE id 1) fr.f = _
            unfold hideF
            rw [if_neg (by show ¬ ((1 : Int) ≠ 0 ∧ (1 : Int) ≠ 1); decide)]; rfl
          have g2 : chgK D.w D.h (hidE id 0) { fr.f with hidden := true } = (0, fr.f) := by
            show hideF (hidE id 0) { fr.f with hidden := true } = _
            unfold hideF
            rw [if_neg (by show ¬ ((0 : Int) ≠ 0 ∧ (0 : Int) ≠ 1); decide)]
            show (0, ({ fr.f with hidden := false } : LayF)) = _
            rw [← hh]
          obtain ⟨k1, k2, k3⟩ := chg_back hi hf (e := hidE id 1) (e2 := hidE id 0) rfl rfl ⟨by show (4 : Int) ≤ 6; decide, by show (6 : Int) ≤ 9; decide⟩ ⟨by show (4 : Int) ≤ 6; decide, by show (6 : Int) ≤ 9; decide⟩ g1 g2
          have hi2 := do_inv hi (e := hidE id 1) (by rw [k1])
          have hda := hs1.doc 2 rfl
          refine ⟨A, hda.size, rowIn_whole (hs1.block 1 rfl), do_st hs1 hda hi hnx2 (ed0_ok H1 ..) fun A2 H84 hd2 hs84 => ⟨_, _, rfl, ?_⟩⟩
          refine hs84.alc fun b87 H88 hs88 => ⟨hd2.size, hs88.putAll 0 rfl hd2.size hd2.one fun H89 hs89 => ⟨A2, hd2.size, rowIn_whole (hs89.block 0 rfl), ?_⟩⟩
          refine do_st hs89 (hs89.doc 1 rfl) hi2 (by rw [k1]; exact hnx2) (ed0_ok H89 ..) fun A3 H92 hd3 hs92 => ⟨_, _, rfl, ?_⟩
          refine hs92.alc fun b95 H96 hs96 => ⟨hd3.size, hs96.putAll 0 rfl hd3.size hd3.one fun H97 hs97 => ?_⟩
          rw [k2] at hs97 ⊢
          rw [show (doD D (hidE id 1)).1 = 0 from by rw [k1]]
          refine br_ne (fun h => absurd rfl h) fun _ => br_ne (fun h => absurd rfl h) fun _ => ?_
          refine ⟨A3, hd3.size, rowIn_whole (hs97.block 0 rfl), A, hda.size, rowIn_whole (hs97.block 5 rfl), same hs97 (hs97.doc 1 rfl) (hs97.doc 6 rfl) hi (sameD_iff.2 rfl) fun H101 he101 => ⟨_, rfl, br_f rfl ?_⟩⟩
          have hs101 := hs97.step he101
          refine ⟨A2, hd2.size, rowIn_whole (hs101.block 2 rfl), A, hda.size, rowIn_whole (hs101.block 5 rfl), same hs101 (hs101.doc 3 rfl) (hs101.doc 6 rfl) hi2 (t := false) ?_ fun H106 he106 => ⟨_, rfl, br_f rfl (hJ57 H106 ?_)⟩⟩
          · exact Bool.eq_false_iff.2 fun hh2 => k3 (fun hf' => by have := congrArg LayF.hidden hf'; rw [hh] at this; cases this) (sameD_iff.1 hh2)
          · exact (hs101.step he106).drop 4
        have fourth : ∀ (H1 : Heap), St H H1 [.cell b52 (cellsT (.mk fr.f tP tM tA tK tks)).toArray 58, .cell b14 A 26, docRs A D] → (∃ v59 : Array Value, v59.size = 4 ∧ rowIn H1 ⟨b14, 0, none⟩ v59 ∧ CallsH Try.prog 19 #[Value.agg v59, Value.agg (edL (mskE id 0 pts) ⟨.nil, ⟨q, m, d⟩, .nil⟩).toArray] H1 fun r60 H_61 => ∃ r62 : Array Value, ∃ r63 : Int, r60 = Value.tuple #[Value.agg r62, Value.int .i64 r63] ∧ alc H_61 (.cells #[Value.int .i64 0, Value.int .i64 0, Value.int .i64 0, Value.slice none 0 0] 26) fun b64 H_65 => r62.size = 4 ∧ stAt H_65 ⟨b64, 0, none⟩ (Array.toList r62) fun H_66 => br ((r63 : Int) == (0 : Int)) (∃ Mask67p : Option Addr, ∃ Mask67l : Nat, ∃ Mask67c : Nat, Sh.cell H_66 (Addr.add ⟨b52, 0, none⟩ 8) = some (Value.slice Mask67p Mask67l Mask67c) ∧ br ((((Mask67l : Nat) : Int) : Int) == (0 : Int))
             (∃ v68 : Array Value, v68.size = 4 ∧ rowIn H_66 ⟨b64, 0, none⟩ v68 ∧ CallsH Try.prog 19 #[Value.agg v68, Value.agg (edL (hidE id 2) es0 |>.set 0 (.int .i64 7)).toArray] H_66 fun r69 H_70 => ∃ r71 : Array Value, ∃ r72 : Int, r69 = Value.tuple #[Value.agg r71, Value.int .i64 r72] ∧ alc H_70 (.cells #[Value.int .i64 0, Value.int .i64 0, Value.int .i64 0, Value.slice none 0 0] 26) fun b73 H_74 => r71.size = 4 ∧ stAt H_74 ⟨b73, 0, none⟩ (Array.toList r71) fun H_75 => br ((r72 : Int) != (0 : Int)) (R (Value.bool false) H_75) (∃ v76 : Array Value, v76.size = 4 ∧ rowIn H_75 ⟨b73, 0, none⟩ v76 ∧ ∃ v77 : Array Value, v77.size = 4 ∧ rowIn H_75 ⟨b14, 0, none⟩ v77 ∧ CallsH Try.prog 30 #[Value.agg v76, Value.agg v77] H_75 fun r78 H_79 => ∃ r80 : Bool, r78 = Value.bool r80 ∧ br (!r80)
             (R (Value.bool false) H_79)
             (R (Value.bool true) H_79)))
             (R (Value.bool true) H_66)) (R (Value.bool true) H_66)) := fun H1 hs1 => by
          have hda := hs1.doc 2 rfl
          have hmsk : ∀ H', Ext H H' → EdOk H' (mskE id 0 pts) ⟨.nil, ⟨q, m, d⟩, .nil⟩ := fun H' he => mskE_ok (hsh.ext he) (by omega) d id 0
          refine ⟨A, hda.size, rowIn_whole (hs1.block 1 rfl), do_st hs1 hda hi hnx2 (hmsk _ hs1.ext) fun A2 H61 hd2 hs61 => ⟨_, _, rfl, ?_⟩⟩
          refine hs61.alc fun b64 H65 hs65 => ⟨hd2.size, hs65.putAll 0 rfl hd2.size hd2.one fun H66 hs66 => br_eq (fun h0 => ?_) fun _ => hR _ hs66.ext⟩
          refine ⟨_, _, _, hs66.get 2 rfl (j := 8) rfl, br_eq (fun hm0 => ?_) fun _ => hR _ hs66.ext⟩
          have hmask : fr.f.mask = [] := List.length_eq_zero_iff.1 (by omega)
          have hd1 := do_chg (D := D) (e := mskE id 0 pts) ⟨by show (4 : Int) ≤ 7; decide, by show (7 : Int) ≤ 9; decide⟩ hf
          have hc0 : (chgK D.w D.h (mskE id 0 pts) fr.f).1 = 0 := by
            rw [hd1] at h0
            by_cases hh : (chgK D.w D.h (mskE id 0 pts) fr.f).1 = 0
            · exact hh
            · rw [if_pos hh] at h0; exact h0
          have hck : ∀ n l2 f2, chgK D.w D.h (mskE id n l2) f2 = maskF D.w D.h (mskE id n l2) f2 := fun n l2 f2 => rfl
          obtain ⟨f', hf', hfm⟩ : ∃ f', chgK D.w D.h (mskE id 0 pts) fr.f = (0, f') ∧ ({ f' with mask := [] } : LayF) = fr.f := by
            rw [hck] at hc0 ⊢
            unfold maskF at hc0 ⊢
            split at hc0
            · simp at hc0
            rename_i c1
            split at hc0
            · rename_i c2; exact absurd c2 (by show ¬ ((0 : Int) = 2); decide)
            rename_i c2
            split at hc0
            · simp at hc0
            rename_i c3
            rw [if_neg c1, if_neg c2, if_neg c3]
            exact ⟨_, rfl, by show ({ fr.f with mask := [] } : LayF) = fr.f; rw [← hmask]⟩
          have g2 : chgK D.w D.h (mskE id 2 []) f' = (0, fr.f) := by
            rw [hck]
            unfold maskF
            rw [if_neg (by show ¬ ((2 : Int) < 0 ∨ (2 : Int) > 2); decide), if_pos (show (mskE id 2 []).n = 2 from rfl), hfm]
          obtain ⟨k1, k2, _⟩ := chg_back hi hf (e := mskE id 0 pts) (e2 := mskE id 2 []) rfl rfl ⟨by show (4 : Int) ≤ 7; decide, by show (7 : Int) ≤ 9; decide⟩ ⟨by show (4 : Int) ≤ 7; decide, by show (7 : Int) ≤ 9; decide⟩ hf' g2
          have hi2 := do_inv hi (e := mskE id 0 pts) (by rw [k1])
          refine ⟨A2, hd2.size, rowIn_whole (hs66.block 0 rfl), ?_⟩
          refine do_st (e := mskE id 2 []) (s := es0) hs66 (hs66.doc 1 rfl) hi2 (by rw [k1]; exact hnx2) (mskE_ok (IS2.nil _) (by decide) 0 id 2) fun A3 H70 hd3 hs70 => ⟨_, _, rfl, ?_⟩
          refine hs70.alc fun b73 H74 hs74 => ⟨hd3.size, hs74.putAll 0 rfl hd3.size hd3.one fun H75 hs75 => ?_⟩
          rw [k2] at hs75 ⊢
          refine br_ne (fun h => absurd rfl h) fun _ => ⟨A3, hd3.size, rowIn_whole (hs75.block 0 rfl), A, hda.size, rowIn_whole (hs75.block 5 rfl), same hs75 (hs75.doc 1 rfl) (hs75.doc 6 rfl) hi (sameD_iff.2 rfl) fun H79 he79 => ⟨_, rfl, br_f rfl (hR _ (hs75.step he79).ext)⟩⟩
        have fin : ∀ (H1 : Heap), St H H1 [.cell b52 (cellsT (.mk fr.f tP tM tA tK tks)).toArray 58, .cell b14 A 26, docRs A D] → J55 [] H1 := fun H1 hs1 => by
          refine hJ55 _ ?_
          intro J57 hJ57
          exact third H1 hs1 J57 fun H58 hs58 => hJ57 _ (fourth H58 hs58)
        have hda := hs54.doc 3 rfl
        refine ⟨A, hda.size, rowIn_whole (hs54.block 2 rfl), do_st (e := mvE id to at_) (s := es0) hs54 hda hi hnx2 (ed0_ok H54 ..) fun A2 H110 hd2 hs110 => ⟨_, _, rfl, ?_⟩⟩
        refine hs110.alc fun b113 H114 hs114 => ⟨hd2.size, hs114.putAll 0 rfl hd2.size hd2.one fun H115 hs115 => br_eq (fun h0 => ?_) fun _ => fin H115 ?_⟩
        · have hb := move_back hi hf (to := to) (at_ := at_) h0
          have hi2 := do_inv hi h0
          have hnx3 := (do_next h0).2.1
          refine ⟨A2, hd2.size, rowIn_whole (hs115.block 0 rfl), do_st (e := mvE id (gid u) fr.pre.length) (s := es0) hs115 (hs115.doc 1 rfl) hi2 (by omega) (ed0_ok H115 ..) fun A3 H118 hd3 hs118 => ⟨_, _, rfl, ?_⟩⟩
          refine hs118.alc fun b121 H122 hs122 => ⟨hd3.size, hs122.putAll 0 rfl hd3.size hd3.one fun H123 hs123 => ?_⟩
          rw [hb] at hs123 ⊢
          refine br_ne (fun h => absurd rfl h) fun _ => ⟨A3, hd3.size, rowIn_whole (hs123.block 0 rfl), A, hda.size, rowIn_whole (hs123.block 6 rfl), same hs123 (hs123.doc 1 rfl) (hs123.doc 7 rfl) hi (sameD_iff.2 rfl) fun H127 he127 => ⟨_, rfl, br_f rfl (fin H127 ?_)⟩⟩
          have h1 := (hs123.step he127).drop 4
          exact h1.perm (List.Perm.refl _) |>.del 1
        · exact (hs115.drop 2).del 1
  refine go 0 (Nat.zero_le _) (docA 8 8 1 .nil) ⟨8, 8, 1, []⟩ H130 (new_inv (by decide)) (by show (1 : Int) ≤ 0 + 1; omega) ?_
  have h1 := hs130.docNil 8 8 1
  exact (h1.perm (τ := [.cell b16 (docA 8 8 1 .nil) 32, .cell b14 (docA 8 8 1 .nil) 26, docRs (docA 8 8 1 .nil) ⟨8, 8, 1, []⟩]) (permC fun _ x => by simp only [List.set_cons_succ, List.set_cons_zero, List.count_cons, List.count_nil]; ac_rfl)).drop 1

end Go.Proofs

/-
  OWN WORK. A slice of bytes that comes in, opened.
-/
set_option linter.unusedVariables false
set_option linter.unusedSimpArgs false
namespace Go.Proofs
open Go.Sh Go.RowKit Go.ChangeShapes Go.WideShapes Go.ChangeAt

theorem wf_range8 {a : Int} (h : (Lit.int .u8 a).wf = true) : 0 ≤ a ∧ a < 256 := by
  have : 0 ≤ a ∧ a ≤ 255 := by simpa [Lit.wf, IntKind.min, IntKind.max, IntKind.signed, IntKind.bits] using h
  omega

theorem bytesAt {H : Type} {enc : TypeId × Value → H} {W : World} {fuel : Nat} {a0 : Option Addr} {len cap : Nat} {x : DataW H × List MemPlace} (hf : DataW.trod enc Try.prog W 0 (fun _ => true) true fuel 56 [.slice a0 len cap] = some x) :
    ∃ ls, len ≤ cap ∧ IS W.heap a0 len (kints .u8 ls) ∧ ∀ n ∈ ls, 0 ≤ n ∧ n < 256 := by
  rcases open_ints Try.underlying56 Try.underlying5 (by kernel_rfl) hf with ⟨hcs, _⟩ | ⟨a, len2, cap2, zs, hcs, _, hl, _, hz, _, hc, hw⟩
  · simp at hcs
    obtain ⟨rfl, rfl, rfl⟩ := hcs
    exact ⟨[], Nat.le_refl _, ⟨rfl, fun i v hv => by simp [kints] at hv⟩, fun n hn => by simp at hn⟩
  · simp at hcs
    obtain ⟨rfl, rfl, rfl⟩ := hcs
    have hzl : len ≤ zs.length := by rw [hz]; simp; omega
    refine ⟨zs.take len, hl, ⟨by rw [kints_len]; simp; omega, fun i v hv => ⟨a, rfl, ?_⟩⟩, fun n hn => wf_range8 (hw n (List.mem_of_mem_take hn))⟩
    have hi : i < len := by have := (List.getElem?_eq_some_iff.1 hv).1; rw [kints_len] at this; simp at this; omega
    have := hc i (by omega)
    rw [cell_eq] at this
    rw [this]
    have hg : (zs.take len)[i]? = some (zs.getD i 0) := by
      rw [List.getElem?_take_of_lt hi, List.getD_eq_getElem?_getD, List.getElem?_eq_getElem (by omega)]; rfl
    rw [kints_get hg] at hv
    exact hv

set_option maxRecDepth 100000 in
theorem bytesIn_of {H : Type} {enc : TypeId × Value → H} {W : World} {v : Value} {d : DataW H} {ps : List MemPlace} {base : Nat} (hv : Value.okWide Try.prog W .any base 56 v) (h : DataW.Trod enc Try.prog W 0 (fun _ => true) true 56 v d ps) :
    ∃ a l c ls, v = .slice a l c ∧ l ≤ c ∧ IS W.heap a l (kints .u8 ls) ∧ ∀ n ∈ ls, 0 ≤ n ∧ n < 256 := by
  obtain ⟨a0, len, cap, rfl⟩ := okWide_slice Try.underlying56 hv
  obtain ⟨fuel, hf⟩ := h
  obtain ⟨ls, h1, h2, h3⟩ := bytesAt hf
  exact ⟨a0, len, cap, ls, rfl, h1, h2, h3⟩

end Go.Proofs

/-
  OWN WORK. Edits and shapes that come in, opened.
-/
set_option linter.unusedVariables false
set_option linter.unusedSimpArgs false
set_option maxRecDepth 10000
namespace Go.Proofs
open Go.Sh Go.RowKit Go.ChangeShapes Go.WideShapes Go.ChangeAt Go.Deep

section
variable {H : Type} {enc : TypeId × Value → H} {W : World}

abbrev TrP (enc : TypeId × Value → H) (W : World) (fuel : Nat) (t : TypeId) (cs : List Value) (x : DataW H × List MemPlace) : Prop := DataW.trod enc Try.prog W 0 (fun _ => true) true fuel t cs = some x

theorem intsAt {fuel : Nat} {a0 : Option Addr} {len cap : Nat} {x : DataW H × List MemPlace} (hf : TrP enc W fuel 38 [.slice a0 len cap] x) : ∃ ls, len ≤ cap ∧ IS W.heap a0 len (ints ls) := by
  rcases open_ints Try.underlying38 Try.underlying3 (by kernel_rfl) hf with ⟨hcs, _⟩ | ⟨a, len2, cap2, zs, hcs, _, hl, _, hz, _, hc, hw⟩
  · simp at hcs
    obtain ⟨rfl, rfl, rfl⟩ := hcs
    exact ⟨[], Nat.le_refl _, ⟨rfl, fun i v hv => by simp [ints] at hv⟩⟩
  · simp at hcs
    obtain ⟨rfl, rfl, rfl⟩ := hcs
    have hzl : len ≤ zs.length := by rw [hz]; simp; omega
    refine ⟨zs.take len, hl, ⟨by rw [ints_len]; simp; omega, fun i v hv => ⟨a, rfl, ?_⟩⟩⟩
    have hi : i < len := by have := (List.getElem?_eq_some_iff.1 hv).1; rw [ints_len] at this; simp at this; omega
    have := hc i (by omega)
    rw [cell_eq] at this
    rw [this]
    have hg : (zs.take len)[i]? = some (zs.getD i 0) := by
      rw [List.getElem?_take_of_lt hi, List.getD_eq_getElem?_getD, List.getElem?_eq_getElem (by omega)]; rfl
    rw [ints_get hg] at hv
    exact hv

/-- A field, opened. -/
theorem fieldAt {t : TypeId} {fs : Array Field} {fuel : Nat} {cs : List Value} {x : DataW H × List MemPlace} (hs : Try.prog.underlying t = some (.struct fs)) (h : TrP enc W fuel t cs x) (i : Nat) {f : Field} {o ty c : Nat} (hf : fs[i]? = some f) (ho : f.offset = o) (ht : f.type = ty) (hc : Try.prog.cellsOf ty = c) :
    ∃ n y, n < fuel ∧ TrP enc W n ty ((cs.drop o).take c) y := by
  obtain ⟨xs, n, hfu, _, hl, hlen, hg⟩ := DataW.trod_struct hs h
  have := hg i f hf
  have hi := (Array.getElem?_eq_some_iff.1 hf).1
  rw [List.getElem?_eq_getElem (by omega), ho, ht, hc] at this
  exact ⟨n, _, by omega, this⟩
theorem one_get {cs : List Value} {o : Nat} {v : Value} (h : (cs.drop o).take 1 = [v]) : cs[o]? = some v := by
  have h4 : ((cs.drop o).take 1)[0]? = some v := by rw [h]; rfl
  rw [List.getElem?_take_of_lt (by omega), List.getElem?_drop] at h4
  simpa using h4
theorem intF {n : Nat} {cs : List Value} {o : Nat} {y : DataW H × List MemPlace} (h : TrP enc W n 3 ((cs.drop o).take 1) y) : ∃ m : Int, cs[o]? = some (.int .i64 m) := by
  obtain ⟨m, hm, _, _⟩ := DataW.trod_int Try.underlying3 h
  exact ⟨m, one_get hm⟩
theorem boolF {n : Nat} {cs : List Value} {o : Nat} {y : DataW H × List MemPlace} (h : TrP enc W n 4 ((cs.drop o).take 1) y) : ∃ m : Bool, cs[o]? = some (.bool m) := by
  obtain ⟨m, hm, _⟩ := DataW.trod_bool Try.underlying4 h
  exact ⟨m, one_get hm⟩
theorem slF {t e n : Nat} {cs : List Value} {o : Nat} {y : DataW H × List MemPlace} (ht : Try.prog.underlying t = some (.slice e)) (h : TrP enc W n t ((cs.drop o).take 1) y) : ∃ s : Sl3, cs[o]? = some s.v ∧ TrP enc W n t [s.v] y := by
  rcases DataW.trod_slice ht h with ⟨h0, _⟩ | ⟨a, len, cap, elems, rest, m, _, h0, _⟩
  · rw [h0] at h; exact ⟨.nil, one_get h0, h⟩
  · rw [h0] at h; exact ⟨⟨some a, len, cap⟩, one_get h0, h⟩
theorem list19 {α : Type} {l : List α} (h : l.length = 19) : ∃ a b c d e f g i j k m n o p q r s t u, l = [a, b, c, d, e, f, g, i, j, k, m, n, o, p, q, r, s, t, u] := by
  match l, h with
  | [a, b, c, d, e, f, g, i, j, k, m, n, o, p, q, r, s, t, u], _ => exact ⟨a, b, c, d, e, f, g, i, j, k, m, n, o, p, q, r, s, t, u, rfl⟩
/-- Six numbers. -/
theorem sixF {t n : Nat} {cs : List Value} {o : Nat} {y : DataW H × List MemPlace} (ht : Try.prog.underlying t = some (.array 6 3)) (h : TrP enc W n t ((cs.drop o).take 6) y) :
    ∃ m : M6, cs[o]? = some (.int .i64 m.a) ∧ cs[o + 1]? = some (.int .i64 m.b) ∧ cs[o + 2]? = some (.int .i64 m.c) ∧ cs[o + 3]? = some (.int .i64 m.d) ∧ cs[o + 4]? = some (.int .i64 m.e) ∧ cs[o + 5]? = some (.int .i64 m.f) := by
  obtain ⟨xs, m, _, _, hl, hlen, hg⟩ := DataW.trod_array ht h
  have hc : Try.prog.cellsOf 3 = 1 := by kernel_rfl
  have each : ∀ i, i < 6 → ∃ z : Int, cs[o + i]? = some (.int .i64 z) := fun i hi => by
    have := hg i hi
    rw [hc, Nat.mul_one, List.getElem?_eq_getElem (by omega)] at this
    obtain ⟨z, hz⟩ := intF this
    rw [List.getElem?_take_of_lt hi, List.getElem?_drop] at hz
    exact ⟨z, hz⟩
  obtain ⟨a, ha⟩ := each 0 (by omega)
  obtain ⟨b, hb⟩ := each 1 (by omega)
  obtain ⟨c, hc⟩ := each 2 (by omega)
  obtain ⟨d, hd⟩ := each 3 (by omega)
  obtain ⟨e, he⟩ := each 4 (by omega)
  obtain ⟨f, hf⟩ := each 5 (by omega)
  exact ⟨⟨a, b, c, d, e, f⟩, ha, hb, hc, hd, he, hf⟩

theorem ptAt {n : Nat} {cs : List Value} {y : DataW H × List MemPlace} (h : TrP enc W n 79 cs y) : ∃ p : Pt, cs = [.int .i64 p.1, .int .i64 p.2] := by
  obtain ⟨_, _, _, h0⟩ := fieldAt (o := 0) (ty := 3) (c := 1) Try.underlying79 h 0 rfl rfl rfl (by kernel_rfl)
  obtain ⟨_, _, _, h1⟩ := fieldAt (o := 1) (ty := 3) (c := 1) Try.underlying79 h 1 rfl rfl rfl (by kernel_rfl)
  obtain ⟨x, hx⟩ := intF h0
  obtain ⟨y, hy⟩ := intF h1
  obtain ⟨xs, m, _, _, hl, _⟩ := DataW.trod_struct Try.underlying79 h
  have hl2 : cs.length = 2 := by rw [hl]; kernel_rfl
  match cs, hl2 with
  | [a, b], _ =>
    simp only [List.getElem?_cons_zero, List.getElem?_cons_succ, Option.some.injEq] at hx hy
    subst hx; subst hy
    exact ⟨(x, y), rfl⟩
theorem choose_list {α : Type} {P : Nat → α → Prop} {n : Nat} [Inhabited α] (h : ∀ i, i < n → ∃ x, P i x) : ∃ l : List α, l.length = n ∧ ∀ i x, l[i]? = some x → P i x := by
  obtain ⟨f, hf⟩ : ∃ f : Nat → α, ∀ i, i < n → P i (f i) := by
    have : ∀ i, ∃ x, i < n → P i x := fun i => by
      by_cases hi : i < n
      · obtain ⟨x, hx⟩ := h i hi; exact ⟨x, fun _ => hx⟩
      · exact ⟨default, fun h => absurd h hi⟩
    exact Classical.axiomOfChoice this
  refine ⟨(List.range n).map f, by simp, fun i x hx => ?_⟩
  have hi : i < n := by have := (List.getElem?_eq_some_iff.1 hx).1; simpa using this
  simp [hi] at hx
  subst hx
  exact hf i hi
theorem ptsAt {fuel : Nat} {s : Sl3} {x : DataW H × List MemPlace} (hf : TrP enc W fuel 39 [s.v] x) : ∃ pts : List Pt, s.l ≤ s.c ∧ IS2 W.heap s.p s.l pts := by
  rcases open_slice Try.underlying39 hf with ⟨hcs, _⟩ | ⟨a, len', cap', m, n, D, Pl, hcs, _, hl, hm, hmm, _, hx⟩
  · obtain ⟨p, l, c⟩ := s
    simp only [Sl3.v, List.cons.injEq, Value.slice.injEq, and_true] at hcs
    obtain ⟨rfl, rfl, rfl⟩ := hcs
    exact ⟨[], Nat.le_refl _, IS2.nil _⟩
  · obtain ⟨p, l, c⟩ := s
    simp only [Sl3.v, List.cons.injEq, Value.slice.injEq, and_true] at hcs
    obtain ⟨rfl, rfl, rfl⟩ := hcs
    have hml : l ≤ m := by rw [hmm]; simp; omega
    obtain ⟨pts, hlen, hpts⟩ := choose_list (P := fun i (p : Pt) => rowIn W.heap (a.add (i * 2)) #[.int .i64 p.1, .int .i64 p.2]) (n := l) fun i hi => by
      obtain ⟨cs, h1, h2⟩ := hx i (by omega)
      rw [show Try.prog.cellsOf 79 = 2 from by kernel_rfl] at h1
      obtain ⟨p, rfl⟩ := ptAt h2
      obtain ⟨_, _, hc⟩ := World.cells?_some h1
      refine ⟨p, fun j v hv => ?_⟩
      have hj : j < 2 := (Array.getElem?_eq_some_iff.1 hv).1
      have := hc j hj
      rw [cell_eq] at this
      rw [this]
      simpa using hv
    exact ⟨pts, hl, hlen, fun i x y hi => ⟨a, rfl, hpts i (x, y) hi⟩⟩

/-- An edit. -/
theorem edAt {fuel : Nat} {cs : List Value} {x : DataW H × List MemPlace} (h : TrP enc W fuel 43 cs x) : ∃ e s, cs = edL e s ∧ rdEd W.heap e s := by
  have hu := Try.underlying43
  obtain ⟨_, _, _, h0⟩ := fieldAt (o := 0) (ty := 3) (c := 1) hu h 0 rfl rfl rfl (by kernel_rfl)
  obtain ⟨_, _, _, h1⟩ := fieldAt (o := 1) (ty := 3) (c := 1) hu h 1 rfl rfl rfl (by kernel_rfl)
  obtain ⟨_, _, _, h2⟩ := fieldAt (o := 2) (ty := 3) (c := 1) hu h 2 rfl rfl rfl (by kernel_rfl)
  obtain ⟨_, _, _, h3⟩ := fieldAt (o := 3) (ty := 3) (c := 1) hu h 3 rfl rfl rfl (by kernel_rfl)
  obtain ⟨_, _, _, h4⟩ := fieldAt (o := 4) (ty := 3) (c := 1) hu h 4 rfl rfl rfl (by kernel_rfl)
  obtain ⟨_, _, _, h5⟩ := fieldAt (o := 5) (ty := 3) (c := 1) hu h 5 rfl rfl rfl (by kernel_rfl)
  obtain ⟨_, _, _, h6⟩ := fieldAt (o := 6) (ty := 3) (c := 1) hu h 6 rfl rfl rfl (by kernel_rfl)
  obtain ⟨_, _, _, h7⟩ := fieldAt (o := 7) (ty := 3) (c := 1) hu h 7 rfl rfl rfl (by kernel_rfl)
  obtain ⟨_, _, _, h8⟩ := fieldAt (o := 8) (ty := 3) (c := 1) hu h 8 rfl rfl rfl (by kernel_rfl)
  obtain ⟨_, _, _, h9⟩ := fieldAt (o := 9) (ty := 3) (c := 1) hu h 9 rfl rfl rfl (by kernel_rfl)
  obtain ⟨_, _, _, h10⟩ := fieldAt (o := 10) (ty := 38) (c := 1) hu h 10 rfl rfl rfl (by kernel_rfl)
  obtain ⟨_, _, _, h11⟩ := fieldAt (o := 11) (ty := 39) (c := 1) hu h 11 rfl rfl rfl (by kernel_rfl)
  obtain ⟨_, _, _, h12⟩ := fieldAt (o := 12) (ty := 41) (c := 6) hu h 12 rfl rfl rfl (by kernel_rfl)
  obtain ⟨_, _, _, h13⟩ := fieldAt (o := 18) (ty := 38) (c := 1) hu h 13 rfl rfl rfl (by kernel_rfl)
  obtain ⟨v0, g0⟩ := intF h0
  obtain ⟨v1, g1⟩ := intF h1
  obtain ⟨v2, g2⟩ := intF h2
  obtain ⟨v3, g3⟩ := intF h3
  obtain ⟨v4, g4⟩ := intF h4
  obtain ⟨v5, g5⟩ := intF h5
  obtain ⟨v6, g6⟩ := intF h6
  obtain ⟨v7, g7⟩ := intF h7
  obtain ⟨v8, g8⟩ := intF h8
  obtain ⟨v9, g9⟩ := intF h9
  obtain ⟨P, g10, t10⟩ := slF Try.underlying38 h10
  obtain ⟨S, g11, t11⟩ := slF Try.underlying39 h11
  obtain ⟨m, ga, gb, gc, gd, ge, gf⟩ := sixF Try.underlying41 h12
  obtain ⟨A, g18, t18⟩ := slF Try.underlying38 h13
  obtain ⟨ps, _, hps⟩ := intsAt t10
  obtain ⟨pts, _, hpts⟩ := ptsAt t11
  obtain ⟨qs, _, hqs⟩ := intsAt t18
  obtain ⟨xs, k, _, _, hl, _⟩ := DataW.trod_struct hu h
  have hl2 : cs.length = 19 := by rw [hl]; kernel_rfl
  refine ⟨⟨v0, v1, v2, v3, v4, v5, v6, v7, v8, v9, ps, pts, m, qs⟩, ⟨P, S, A⟩, ?_, ⟨hps, hpts, hqs⟩⟩
  obtain ⟨a, b, c, d, e, f, g, i, j, k, m', n, o, p, q, r, s, t, u, rfl⟩ := list19 hl2
  simp only [List.getElem?_cons_zero, List.getElem?_cons_succ, Option.some.injEq] at g0 g1 g2 g3 g4 g5 g6 g7 g8 g9 g10 g11 ga gb gc gd ge gf g18
  subst g0 g1 g2 g3 g4 g5 g6 g7 g8 g9 g10 g11 ga gb gc gd ge gf g18
  rfl
instance : Inhabited (Ed × EdS) := ⟨⟨0, 0, 0, 0, 0, 0, 0, 0, 0, 0, [], [], ⟨0, 0, 0, 0, 0, 0⟩, []⟩, ⟨.nil, .nil, .nil⟩⟩

theorem editsIn_of {v : Value} {d : DataW H} {ps : List MemPlace} {base : Nat} (hv : Value.okWide Try.prog W .any base 22 v) (h : DataW.Trod enc Try.prog W 0 (fun _ => true) true 22 v d ps) :
    ∃ a l c es, v = .slice a l c ∧ l ≤ c ∧ EdsR W.heap a l es := by
  obtain ⟨a0, len, cap, rfl⟩ := okWide_slice Try.underlying22 hv
  obtain ⟨fuel, hf⟩ := h
  rcases open_slice Try.underlying22 hf with ⟨hcs, _⟩ | ⟨a, len', cap', m, n, D, Pl, hcs, _, hl, hm, hmm, _, hx⟩
  · simp only [Value.cells] at hcs
    simp at hcs
    obtain ⟨rfl, rfl, rfl⟩ := hcs
    exact ⟨none, 0, 0, [], rfl, Nat.le_refl _, rfl, fun i e s hx => by simp at hx⟩
  · simp only [Value.cells] at hcs
    simp at hcs
    obtain ⟨rfl, rfl, rfl⟩ := hcs
    have hml : len ≤ m := by rw [hmm]; simp; omega
    obtain ⟨es, hlen, hes⟩ := choose_list (P := fun i (x : Ed × EdS) => rowIn W.heap (a.add (i * 19)) (edL x.1 x.2).toArray ∧ rdEd W.heap x.1 x.2) (n := len) fun i hi => by
      obtain ⟨cs, h1, h2⟩ := hx i (by omega)
      rw [show Try.prog.cellsOf 43 = 19 from by kernel_rfl] at h1
      obtain ⟨e, s, rfl, hrd⟩ := edAt h2
      obtain ⟨_, _, hc⟩ := World.cells?_some h1
      refine ⟨(e, s), fun j v hv => ?_, hrd⟩
      have hj : j < 19 := (Array.getElem?_eq_some_iff.1 hv).1
      have := hc j hj
      rw [cell_eq] at this
      rw [this]
      simpa using hv
    exact ⟨some a, len, cap, es, rfl, hl, hlen, fun i e s hi => let ⟨h1, h2⟩ := hes i (e, s) hi; ⟨a, rfl, h1, h2⟩⟩
theorem editIn_of {v : Value} {d : DataW H} {ps : List MemPlace} {base : Nat} (hv : Value.okWide Try.prog W .any base 43 v) (h : DataW.Trod enc Try.prog W 0 (fun _ => true) true 43 v d ps) :
    ∃ e s, v = .agg (edL e s).toArray ∧ rdEd W.heap e s := by
  obtain ⟨cs, rfl, _⟩ := okWide_struct Try.underlying43 hv
  obtain ⟨fuel, hf⟩ := h
  obtain ⟨e, s, h1, h2⟩ := edAt hf
  have h1 : cs.toList = edL e s := h1
  exact ⟨e, s, by rw [← h1], h2⟩
theorem shapeIn_of {v : Value} {d : DataW H} {ps : List MemPlace} {base : Nat} (hv : Value.okWide Try.prog W .any base 39 v) (h : DataW.Trod enc Try.prog W 0 (fun _ => true) true 39 v d ps) :
    ∃ a l c pts, v = .slice a l c ∧ l ≤ c ∧ IS2 W.heap a l pts := by
  obtain ⟨a0, len, cap, rfl⟩ := okWide_slice Try.underlying39 hv
  obtain ⟨fuel, hf⟩ := h
  obtain ⟨pts, h1, h2⟩ := ptsAt (s := ⟨a0, len, cap⟩) hf
  exact ⟨a0, len, cap, pts, rfl, h1, h2⟩
theorem intsIn_of {v : Value} {d : DataW H} {ps : List MemPlace} {base : Nat} (hv : Value.okWide Try.prog W .any base 38 v) (h : DataW.Trod enc Try.prog W 0 (fun _ => true) true 38 v d ps) :
    ∃ a l c ls, v = .slice a l c ∧ l ≤ c ∧ IS W.heap a l (ints ls) := by
  obtain ⟨a0, len, cap, rfl⟩ := okWide_slice Try.underlying38 hv
  obtain ⟨fuel, hf⟩ := h
  obtain ⟨ls, h1, h2⟩ := intsAt hf
  exact ⟨a0, len, cap, ls, rfl, h1, h2⟩
end

end Go.Proofs
