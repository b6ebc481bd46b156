/-
  OWN WORK. LiveSets: whatever the input, it answers true, and the input reads as it did. Conditions: none.
-/
import Derived.Test.YtnbelfjfealnhaaRows
import Derived.Test.YtnbelfjfealnhaaMgLiveSetsB
import Derived.Test.YtnbelfjfealnhaaMgLiveSetsH
import Derived.OpenShut
import Derived.JoinedCond
namespace Go.Proofs.Ytnbelfjfealnhaa.liveSets
open Go.ChangeShapes Go.WideShapes Go.ChangeAt Go.RowKit Go.Sh
set_option linter.unusedVariables false

theorem own : ownKnob Try.prog.godebug = none := by kernel_rfl
theorem laidOut : laidOutB Try.prog = true := by kernel_rfl

set_option maxRecDepth 100000 in
theorem lifted (os : Os) (started : os.Started) (H : Type) (enc : TypeId × Value → H) :
    ReturnsInHanded {} Try.checked os 5 .any (Rows.liveSetsSpec.pre6 enc Try.prog Try.f5 Rows.liveSetsRow.domain false) (Rows.liveSetsSpec.post enc Try.prog Try.f5 false true false false) := by
  refine returnsInHanded_of_change (C := Try.checked) own started (by kernel_rfl) Try.func5
    (ChangeSpec.witness6 (enc := enc) (C := Try.checked) false ⟨#[], #[.slice none 0 0, .slice none 0 0, .int .i64 0, .int .i64 0], []⟩ 8 (by kernel_rfl) (by kernel_rfl) (by kernel_rfl) (by kernel_rfl)) ?_
  intro W base args ds gs before hval0 hW hcnd _
  have hval : ∀ (j : Nat) t v, Try.f5.params[j]? = some t → args[j]? = some v → Value.okWide Try.prog W .any base t v := hval0
  have hW' := hW
  obtain ⟨p, q, hA0, hV, rfl, hfz, hnd⟩ := hW
  have hA : DataW.TrodAll enc Try.prog W 0 (fun _ => true) true Try.f5.params.toList args.toList ds p := hA0
  have hAk := hA
  rw [Try.params5] at hA hval
  obtain ⟨v0, vs0, d0, ds0, p0, q0, hargs0, rfl, rfl, h0, r0⟩ := trodAll_cons hA
  obtain ⟨v1, vs1, d1, ds1, p1, q1, hargs1, rfl, rfl, h1, r1⟩ := trodAll_cons r0
  obtain ⟨v2, vs2, d2, ds2, p2, q2, hargs2, rfl, rfl, h2, r2⟩ := trodAll_cons r1
  obtain ⟨v3, vs3, d3, ds3, p3, q3, hargs3, rfl, rfl, h3, r3⟩ := trodAll_cons r2
  obtain ⟨hargs4, rfl, rfl⟩ := trodAll_nil r3
  subst hargs4 hargs3 hargs2 hargs1
  obtain rfl : args = #[v0, v1, v2, v3] := by cases args; simp_all
  obtain ⟨rfl, rfl⟩ := trodVars_none hV
  obtain ⟨s0, l0, c0, ls0, rfl, hlc0, hi0⟩ := editsIn_of (hval 0 22 v0 rfl rfl) h0
  obtain ⟨s1, l1, c1, ls1, rfl, hlc1, hi1⟩ := editsIn_of (hval 1 22 v1 rfl rfl) h1
  obtain ⟨a2, rfl, rfl, rfl, w2⟩ := open_int Try.underlying3 (hval 2 3 v2 rfl rfl) h2
  have w2 := wf_range w2
  obtain ⟨a3, rfl, rfl, rfl, w3⟩ := open_int Try.underlying3 (hval 3 3 v3 rfl rfl) h3
  have w3 := wf_range w3
  refine (((sets_law (c := c0) (d := c1) (w := a2) (h := a3) (H := W.heap) (R := fun u H' => u = .bool true ∧ Ext W.heap H') hi0 hi1 fun H' he => ⟨rfl, he⟩).body Try.cal5).2 W rfl).mono fun e W' ⟨u, he, hos, hout, hu, hx⟩ => ?_
  subst he hu
  have hlt := hW'.lt
  exact ⟨_, rfl, post_same (pv := []) hW' (fun _ _ _ => (trodAll_cons_mk (shut_bool Try.underlying4 _) trodAll_mk0))
    (fun sp hsp => trodAll_ext laidOut hx (by kernel_rfl) hAk (fun x hx' => hlt x (List.mem_append_left _ hx')) (fun x hx' => hsp x (List.mem_append_left _ hx'))) (fun _ _ => rfl) rfl
    (kept_of hos hout hx _) hout.froz (ok_one (by kernel_rfl) rfl (okWide_bool_mk Try.underlying4 _))⟩

theorem proved : Rows.LiveSetsSaid :=
  OpenClaim.holds_of_wide 5 Try.f5 rfl rfl rfl rfl rfl rfl rfl ⟨rfl, rfl, rfl, rfl, rfl⟩ rfl rfl rfl rfl rfl (by kernel_rfl) Try.func5 (by kernel_rfl)
    (of_decide_eq_true (by kernel_rfl)) (by unfold Func.isWrapper; first | (rw [if_pos (by decide +kernel)]; kernel_rfl) | (rw [if_neg (by decide +kernel)]; exact ⟨rfl, rfl⟩))
    (fun os started H enc _ => lifted os started H enc)

end Go.Proofs.Ytnbelfjfealnhaa.liveSets
