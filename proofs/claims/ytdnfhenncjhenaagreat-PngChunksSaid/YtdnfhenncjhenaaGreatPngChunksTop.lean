/-
  OWN WORK. PngChunks: whatever the input, it answers true, and the input reads as it did. Conditions: none.
-/
import Derived.Test.YtdnfhenncjhenaaGreatRows
import Derived.Test.YtdnfhenncjhenaaGreatMgPngChunksB
import Derived.Test.YtdnfhenncjhenaaGreatMgPngChunksH
import Derived.OpenShut
import Derived.JoinedCond
namespace Go.Proofs.YtdnfhenncjhenaaGreat.pngChunks
open Go.ChangeShapes Go.WideShapes Go.ChangeAt Go.RowKit Go.Sh
set_option linter.unusedVariables false

theorem own : ownKnob Tryz.prog.godebug = none := by kernel_rfl
theorem laidOut : laidOutB Tryz.prog = true := by kernel_rfl

set_option maxRecDepth 100000 in
theorem lifted (os : Os) (started : os.Started) (H : Type) (enc : TypeId × Value → H) :
    ReturnsInHanded {} Tryz.checked os 5 .any (Rows.pngChunksSpec.pre6 enc Tryz.prog Tryz.f5 Rows.pngChunksRow.domain false) (Rows.pngChunksSpec.post enc Tryz.prog Tryz.f5 false true false false) := by
  refine returnsInHanded_of_change (C := Tryz.checked) own started (by kernel_rfl) Tryz.func5
    (ChangeSpec.witness6 (enc := enc) (C := Tryz.checked) false ⟨#[], #[.slice none 0 0, .slice none 0 0, .slice none 0 0, .int .i64 0, .slice none 0 0, .slice none 0 0, .slice none 0 0], []⟩ 8 (by kernel_rfl) (by kernel_rfl) (by kernel_rfl) (by kernel_rfl)) ?_
  intro W base args ds gs before hval0 hW hcnd _
  have hval : ∀ (j : Nat) t v, Tryz.f5.params[j]? = some t → args[j]? = some v → Value.okWide Tryz.prog W .any base t v := hval0
  have hW' := hW
  obtain ⟨p, q, hA0, hV, rfl, hfz, hnd⟩ := hW
  have hA : DataW.TrodAll enc Tryz.prog W 0 (fun _ => true) true Tryz.f5.params.toList args.toList ds p := hA0
  have hAk := hA
  rw [Tryz.params5] at hA hval
  obtain ⟨v0, vs0, d0, ds0, p0, q0, hargs0, rfl, rfl, h0, r0⟩ := trodAll_cons hA
  obtain ⟨v1, vs1, d1, ds1, p1, q1, hargs1, rfl, rfl, h1, r1⟩ := trodAll_cons r0
  obtain ⟨v2, vs2, d2, ds2, p2, q2, hargs2, rfl, rfl, h2, r2⟩ := trodAll_cons r1
  obtain ⟨v3, vs3, d3, ds3, p3, q3, hargs3, rfl, rfl, h3, r3⟩ := trodAll_cons r2
  obtain ⟨v4, vs4, d4, ds4, p4, q4, hargs4, rfl, rfl, h4, r4⟩ := trodAll_cons r3
  obtain ⟨v5, vs5, d5, ds5, p5, q5, hargs5, rfl, rfl, h5, r5⟩ := trodAll_cons r4
  obtain ⟨v6, vs6, d6, ds6, p6, q6, hargs6, rfl, rfl, h6, r6⟩ := trodAll_cons r5
  obtain ⟨hargs7, rfl, rfl⟩ := trodAll_nil r6
  subst hargs7 hargs6 hargs5 hargs4 hargs3 hargs2 hargs1
  obtain rfl : args = #[v0, v1, v2, v3, v4, v5, v6] := by cases args; simp_all
  obtain ⟨rfl, rfl⟩ := trodVars_none hV
  obtain ⟨s0, l0, c0, ls0, rfl, hlc0, hi0, hr0⟩ := bytesIn_of (hval 0 22 v0 rfl rfl) h0
  obtain ⟨s1, l1, c1, ls1, rfl, hlc1, hi1⟩ := piecesIn_of (hval 1 36 v1 rfl rfl) h1
  obtain ⟨s2, l2, c2, ls2, rfl, hlc2, hi2, hr2⟩ := bytesIn_of (hval 2 22 v2 rfl rfl) h2
  obtain ⟨a3, rfl, rfl, rfl, w3⟩ := open_int Tryz.underlying3 (hval 3 3 v3 rfl rfl) h3
  have w3 := wf_range w3
  obtain ⟨s4, l4, c4, ls4, rfl, hlc4, hi4⟩ := piecesIn_of (hval 4 36 v4 rfl rfl) h4
  obtain ⟨s5, l5, c5, ls5, rfl, hlc5, hi5⟩ := piecesIn_of (hval 5 36 v5 rfl rfl) h5
  obtain ⟨s6, l6, c6, ls6, rfl, hlc6, hi6, hr6⟩ := bytesIn_of (hval 6 22 v6 rfl rfl) h6
  refine (((plawChunks hi0 hr0 hi1 hi2 hr2 hlc2 hi4 hi5 hi6 hr6).body Tryz.cal5).2 W rfl).mono fun e W' ⟨u, he, hos, hout, hu, hx⟩ => ?_
  subst he hu
  have hlt := hW'.lt
  exact ⟨_, rfl, post_same (pv := []) hW' (fun _ _ _ => (trodAll_cons_mk (shut_bool Tryz.underlying4 _) trodAll_mk0))
    (fun sp hsp => trodAll_ext laidOut hx (by kernel_rfl) hAk (fun x hx' => hlt x (List.mem_append_left _ hx')) (fun x hx' => hsp x (List.mem_append_left _ hx'))) (fun _ _ => rfl) rfl
    (kept_of hos hout hx _) hout.froz (ok_one (by kernel_rfl) rfl (okWide_bool_mk Tryz.underlying4 _))⟩

theorem proved : Rows.PngChunksSaid :=
  OpenClaim.holds_of_wide 5 Tryz.f5 rfl rfl rfl rfl rfl rfl rfl ⟨rfl, rfl, rfl, rfl, rfl⟩ rfl rfl rfl rfl rfl (by kernel_rfl) Tryz.func5 (by kernel_rfl)
    (of_decide_eq_true (by kernel_rfl)) (by unfold Func.isWrapper; first | (rw [if_pos (by decide +kernel)]; kernel_rfl) | (rw [if_neg (by decide +kernel)]; exact ⟨rfl, rfl⟩))
    (fun os started H enc _ => lifted os started H enc)

end Go.Proofs.YtdnfhenncjhenaaGreat.pngChunks
