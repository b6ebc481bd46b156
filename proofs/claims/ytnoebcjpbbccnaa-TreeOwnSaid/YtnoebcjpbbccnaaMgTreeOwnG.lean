/-
  OWN WORK. Several texts in one: TtSpoil, TtOwn, OpBytes, OpTree.
-/
import Derived.Test.YtnoebcjpbbccnaaMgTreeOwnF
import Derived.Test.YtnoebcjpbbccnaaRows
import Derived.Test.YtnoebcjpbbccnaaMgTreeOwnB
import Derived.ChangeSlices
import Derived.Deep.Slices

/-
  OWN WORK. All that layers have is written over.
-/
set_option linter.unusedVariables false
set_option linter.unusedSimpArgs false
set_option maxRecDepth 10000
namespace Go.Proofs
open Go.Sh
variable {H0 H : Heap} {σ : List Rs} {R : Value → Heap → Prop}

def SpoilOk (t : T) : Prop := ∀ {H0 H : Heap} {σ : List Rs} {R : Value → Heap → Prop}, okL (layT t) → St H0 H (resG t.K t.kids ++ σ) → (∀ ks' H', St H0 H' (resG t.K ks' ++ σ) → R (.tuple #[]) H') → CallsH Try.prog 21 #[t.K.v] H R

theorem spoil_of {ks : List T} (ih : ∀ t ∈ ks, SpoilOk t) {K : Sl3} (ho : okKs (layKs ks)) (hkl : ks.length ≤ 1000000000) (hs : St H0 H (resG K ks ++ σ)) (hR : ∀ ks' H', St H0 H' (resG K ks' ++ σ) → R (.tuple #[]) H') : CallsH Try.prog 21 #[K.v] H R := by
  show CallsH Try.prog 21 #[.slice K.p K.l K.c] H R
  refine Try.s21 ?_
  unfold Try.S21
  intro X2 hX2
  have hKl : K.l = ks.length := hs.grp.1.1
  have go : ∀ i, i ≤ ks.length → ∀ (pre : List T) H1, pre.length = i → St H0 H1 (resG K (pre ++ ks.drop i) ++ σ) → X2 [.int .i64 (i : Nat)] H1 := by
    refine upto fun i hi ihi pre H1 hpl hs1 => hX2 _ _ (br_dec (fun hlt => ?_) fun hge => hR _ H1 hs1)
    have hi' : i < ks.length := by omega
    have ht := List.getElem?_eq_getElem hi'
    have htm := List.getElem_mem hi'
    rw [List.drop_eq_getElem_cons hi'] at hs1
    generalize ks[i] = t at ht htm hs1
    have hot := okKs_iff.1 ho _ (List.mem_of_getElem? (layKs_get ht))
    have iht : SpoilOk t := ih t htm
    cases t with | mk f P M A K2 ks2 =>
    obtain ⟨o1, o2, o3, o4, o5⟩ := hot
    generalize hpost : ks.drop (i + 1) = post at hs1
    have hA : (cellsKs pre).length = i * 19 := by rw [cellsKs_len, hpl]
    have hop : ∀ {Hx : Heap} {f' : LayF} {ks2' : List T}, St H0 Hx (openR ⟨K, pre, f', P, M, A, post⟩ [] K2 ks2' ++ σ) → St H0 Hx (resG K (pre ++ .mk f' P M A K2 ks2' :: post) ++ σ) := fun h => h.closed
    have hs1 : St H0 H1 (openR ⟨K, pre, f, P, M, A, post⟩ [] K2 ks2 ++ σ) := hs1.opened rfl
    obtain ⟨a, ha⟩ := hs1.elAd 0 (n := i) (A := cellsKs pre) (cs := (⟨K, pre, f, P, M, A, post⟩ : Fr).cells K2) (B := cellsKs post) rfl rfl
    obtain ⟨a5, hp5, rfl⟩ : ∃ a5, K.p = some a5 ∧ a5.add (i * 19) = a := by
      cases hk : K.p with
      | none => rw [hk] at ha; cases ha
      | some a5 => rw [hk] at ha; exact ⟨a5, rfl, Option.some.inj ha⟩
    have rd : ∀ {Hx : Heap} {f' : LayF} {ks2' : List T} (hx : St H0 Hx (openR ⟨K, pre, f', P, M, A, post⟩ [] K2 ks2' ++ σ)) {j : Nat} {v : Value}, (cellsL f' P.v M.v A.v K2.v)[j]? = some v → Sh.cell Hx ((a5.add (i * 19)).add j) = some v := by
      intro Hx f' ks2' hx j v hv
      exact hx.elCell 0 (A := cellsKs pre) (B := cellsKs post) (cs := cellsL f' P.v M.v A.v K2.v) rfl hA hv ha
    refine ⟨a5, hp5, by omega, hlt, _, rfl, P.p, P.l, P.c, by rw [Int.toNat_natCast]; exact rd hs1 rfl, ?_⟩
    have hPl : P.l = f.p.length := by have := (hs1.fs 1 rfl).len; rw [ints_len] at this; have this : f.p.length = P.l * 1 := this; omega
    have hMl : M.l = f.mask.length := by have := (hs1.fs 2 rfl).len; rw [kints_len] at this; have this : f.mask.length = M.l * 1 := this; omega
    have hAl : A.l = f.params.length := by have := (hs1.fs 3 rfl).len; rw [ints_len] at this; have this : f.params.length = A.l * 1 := this; omega
    rw [Int.toNat_natCast]
    intro X8 hX8
    have goP : ∀ k, k ≤ P.l → ∀ (f' : LayF) Hx, f'.p.length = P.l → f'.mask.length = M.l → f'.params.length = A.l → St H0 Hx (openR ⟨K, pre, f', P, M, A, post⟩ [] K2 ks2 ++ σ) → X8 [.int .i64 (k : Nat)] Hx := by
      refine upto fun k hk ihk f' Hx q1 q2 q3 hx => hX8 _ _ (br_dec (fun hlt => ?_) fun hge => ?_)
      · have hk' : k < f'.p.length := by omega
        obtain ⟨b, hb⟩ := hx.slSome 1 (j := k) rfl (by rw [ints_len]; exact hk')
        refine ⟨_, rfl, P.p, P.l, P.c, rd hx rfl, (hx.is 1 rfl).rd (k := .i64) (i := (k : Int)) (x := f'.p[k]) (by omega) hlt (by rw [Int.toNat_natCast]; exact List.getElem?_eq_getElem hk') ⟨⟨b, 0, none⟩, hb, by omega, hlt, ?_⟩⟩
        rw [show Int.toNat (k : Int) * 1 = k from Nat.mul_one k, add_none, Nat.zero_add]
        have hx1 : (openR ⟨K, pre, f', P, M, A, post⟩ [] K2 ks2 ++ σ)[1]? = some (.sl (some ⟨b, 0, none⟩) P.l P.c 3 1 (ints f'.p)) := by rw [← hb]; rfl
        refine hx.slPut 1 hx1 (by rw [ints_len]; exact hk') rfl fun Hy hy => ?_
        rw [ints_set] at hy
        rw [wrap_id (by omega) (by omega)]
        refine ihk (by omega) { f' with p := f'.p.set k (xorI .i64 f'.p[k] 255) } Hy (by rw [List.length_set]; exact q1) q2 q3 ?_
        rw [← hb] at hy
        exact hy
      · refine ⟨_, rfl, M.p, M.l, M.c, rd hx rfl, ?_⟩
        intro X19 hX19
        have goM : ∀ k, k ≤ M.l → ∀ (f' : LayF) Hx, f'.mask.length = M.l → f'.params.length = A.l → St H0 Hx (openR ⟨K, pre, f', P, M, A, post⟩ [] K2 ks2 ++ σ) → X19 [.int .i64 (k : Nat)] Hx := by
          refine upto fun k hk ihk f' Hx q2 q3 hx => hX19 _ _ (br_dec (fun hlt => ?_) fun hge => ?_)
          · have hk' : k < f'.mask.length := by omega
            obtain ⟨b, hb⟩ := hx.slSome 2 (j := k) rfl (by rw [kints_len]; exact hk')
            refine ⟨_, rfl, M.p, M.l, M.c, rd hx rfl, (hx.is 2 rfl).rd (k := .u8) (i := (k : Int)) (x := f'.mask[k]) (by omega) hlt (by rw [Int.toNat_natCast]; exact List.getElem?_eq_getElem hk') ⟨⟨b, 0, none⟩, hb, by omega, hlt, ?_⟩⟩
            rw [show Int.toNat (k : Int) * 1 = k from Nat.mul_one k, add_none, Nat.zero_add]
            have hx1 : (openR ⟨K, pre, f', P, M, A, post⟩ [] K2 ks2 ++ σ)[2]? = some (.sl (some ⟨b, 0, none⟩) M.l M.c 5 1 (kints .u8 f'.mask)) := by rw [← hb]; rfl
            refine hx.slPut 2 hx1 (by rw [kints_len]; exact hk') rfl fun Hy hy => ?_
            rw [kints_set] at hy
            rw [wrap_id (by omega) (by omega)]
            refine ihk (by omega) { f' with mask := f'.mask.set k (xorI .u8 f'.mask[k] 255) } Hy (by rw [List.length_set]; exact q2) q3 ?_
            rw [← hb] at hy
            exact hy
          · refine ⟨_, rfl, A.p, A.l, A.c, rd hx rfl, ?_⟩
            intro X30 hX30
            have goA : ∀ k, k ≤ A.l → ∀ (f' : LayF) Hx, f'.params.length = A.l → St H0 Hx (openR ⟨K, pre, f', P, M, A, post⟩ [] K2 ks2 ++ σ) → X30 [.int .i64 (k : Nat)] Hx := by
              refine upto fun k hk ihk f' Hx q3 hx => hX30 _ _ (br_dec (fun hlt => ?_) fun hge => ?_)
              · have hk' : k < f'.params.length := by omega
                obtain ⟨b, hb⟩ := hx.slSome 3 (j := k) rfl (by rw [ints_len]; exact hk')
                refine ⟨_, rfl, A.p, A.l, A.c, rd hx rfl, (hx.is 3 rfl).rd (k := .i64) (i := (k : Int)) (x := f'.params[k]) (by omega) hlt (by rw [Int.toNat_natCast]; exact List.getElem?_eq_getElem hk') ⟨⟨b, 0, none⟩, hb, by omega, hlt, ?_⟩⟩
                rw [show Int.toNat (k : Int) * 1 = k from Nat.mul_one k, add_none, Nat.zero_add]
                have hx1 : (openR ⟨K, pre, f', P, M, A, post⟩ [] K2 ks2 ++ σ)[3]? = some (.sl (some ⟨b, 0, none⟩) A.l A.c 3 1 (ints f'.params)) := by rw [← hb]; rfl
                refine hx.slPut 3 hx1 (by rw [ints_len]; exact hk') rfl fun Hy hy => ?_
                rw [ints_set] at hy
                rw [wrap_id (by omega) (by omega)]
                refine ihk (by omega) { f' with params := f'.params.set k (xorI .i64 f'.params[k] 255) } Hy (by rw [List.length_set]; exact q3) ?_
                rw [← hb] at hy
                exact hy
              · refine ⟨_, rfl, K2.p, K2.l, K2.c, rd hx rfl, ?_⟩
                have hx2 : St H0 Hx (resG K2 ks2 ++ (.sl K.p K.l K.c 58 19 (cellsKs pre ++ (⟨K, pre, f', P, M, A, post⟩ : Fr).cells K2 ++ cellsKs post) :: .sl P.p P.l P.c 3 1 (ints f'.p) :: .sl M.p M.l M.c 5 1 (kints .u8 f'.mask) :: .sl A.p A.l A.c 3 1 (ints f'.params) :: (resKs pre ++ (resKs post ++ σ)))) :=
                  hx.perm (permC fun _ x => by simp only [openR, resG, resUp, List.count_append, List.count_cons, List.count_nil, List.append_nil]; ac_rfl)
                refine iht ⟨o1, o2, o3, o4, o5⟩ hx2 fun ks2' Hy hy => ⟨rfl, _, rfl, ?_⟩
                have hy : St H0 Hy (openR ⟨K, pre, f', P, M, A, post⟩ [] K2 ks2' ++ σ) := hy.perm (permC fun _ x => by simp only [T.K, openR, resG, resUp, List.count_append, List.count_cons, List.count_nil, List.append_nil]; ac_rfl)
                refine hy.elPut 0 (A := cellsKs pre) (B := cellsKs post) (cs := (⟨K, pre, f', P, M, A, post⟩ : Fr).cells K2) rfl hA (by show 0 < 19; decide) rfl ha fun Hz hz => ?_
                rw [wrap_id (by omega) (by omega)]
                have hz : St H0 Hz (openR ⟨K, pre, { f' with id := -5 }, P, M, A, post⟩ [] K2 ks2' ++ σ) := hz
                refine ihi hi' (pre ++ [.mk { f' with id := -5 } P M A K2 ks2']) Hz (by rw [List.length_append]; simp [hpl]) ?_
                have := hop hz
                rw [List.append_assoc, hpost]
                exact this
            exact goA 0 (by omega) f' Hx q3 hx
        exact goM 0 (by omega) f' Hx q2 q3 hx
    exact goP 0 (by omega) f H1 hPl.symm hMl.symm hAl.symm hs1
  exact go 0 (by omega) [] H rfl hs
theorem spoil_all : ∀ t, SpoilOk t := T.ind fun f P M A K ks ih => fun {H0 H σ R} ho hs hR => spoil_of ih ho.2.2.2.2 (by have := ho.2.2.2.1; rw [layKs_len] at this; exact this) hs hR
/-- A document's layers are written over: it is left. -/
theorem spoil_st {A : Array Value} {D : DocL} (hi : okKs D.ks) (hl : D.ks.length ≤ 1000000000) (hs : St H0 H (docRs A D :: σ)) (hR : ∀ H', St H0 H' σ → R (.tuple #[]) H') : ∃ K : Sl3, A = docA D.w D.h D.next K ∧ CallsH Try.prog 21 #[.slice K.p K.l K.c] H R := by
  obtain ⟨K, ks, hA, hlk, hs'⟩ := St_docOut hs
  refine ⟨K, hA, ?_⟩
  rw [← hlk] at hi hl
  rw [layKs_len] at hl
  exact spoil_of (fun t _ => spoil_all t) hi hl hs' fun ks' H' hs2 => hR H' hs2.app.2

end Go.Proofs

/-
  OWN WORK. The law TreeOwn, over heaps.
-/
set_option linter.unusedVariables false
set_option linter.unusedSimpArgs false
set_option maxRecDepth 10000
namespace Go.Proofs
open Go.Sh
variable {H0 H : Heap} {σ : List Rs} {R : Value → Heap → Prop}

/-- Ones are written into a slice of one's own. -/
theorem ones_fill {p : Option Addr} {l c i : Nat} {xs : List Int} (hs : St H0 H σ) (hi : σ[i]? = some (.sl p l c 3 1 (ints xs))) {k : Nat} (hk : k < l) {f : Heap → Prop}
    (hK : ∀ (ys : List Int) H', St H0 H' (σ.set i (.sl p l c 3 1 (ints ys))) → f H') : ∃ a : Addr, p = some a ∧ 0 ≤ (k : Int) ∧ (k : Int) < ((l : Nat) : Int) ∧ stAt H (Addr.add a (Int.toNat (k : Int) * 1)) [Value.int .i64 (1 : Int)] f := by
  have hlen : xs.length = l := by have := (hs.fs i hi).len; rw [ints_len] at this; omega
  obtain ⟨b, hb⟩ := hs.slSome i (j := k) hi (by rw [ints_len]; omega)
  refine ⟨⟨b, 0, none⟩, hb, by omega, by omega, ?_⟩
  rw [show Int.toNat (k : Int) * 1 = k from Nat.mul_one k, add_none, Nat.zero_add]
  subst hb
  refine hs.slPut i hi (by rw [ints_len]; omega) rfl fun H' hs' => hK (xs.set k 1) H' ?_
  rw [ints_set] at hs'
  exact hs'

theorem own_law {p : Option Addr} {l c : Nat} {es : List (Ed × EdS)} {e0 : Ed} {s0 : EdS} (hes : EdsR H p l es) (hlast : rdEd H e0 s0) (hR : ∀ H', Ext H H' → R (.bool true) H') : CallsH Try.prog 4 #[.slice p l c, .agg (edL e0 s0).toArray] H R := by
  refine Try.s4 ?_
  unfold Try.S4
  refine (St.nil H).alc fun b3 H4 hs4 => c12 fun H6 he6 => ⟨_, rfl, br_f rfl ?_⟩
  refine c15 fun H9 he9 => ⟨_, _, _, rfl, ?_⟩
  rw [show begunA 8 8 = docA 8 8 1 .nil from rfl]
  refine ((hs4.step he6).step he9).alc fun b13 H14 hs14 => hs14.alc fun b15 H16 hs16 => ⟨rfl, hs16.putAll 1 rfl rfl (docA_one _ _ _ _) fun H17 hs17 => ⟨rfl, hs17.putAll 0 rfl rfl (docA_one _ _ _ _) fun H18 hs18 => ?_⟩⟩
  intro J19 hJ19
  refine c16 (hes.ext hs18.ext) (by decide) fun H147 he147 => ⟨_, rfl, br_not (fun _ => hR _ (hs18.step he147).ext) fun hsm => ?_⟩
  have hs147 := hs18.step he147
  obtain ⟨hmost, hok⟩ := smallB_ok hsm
  have hesl := hes.len
  refine ⟨_, rfl, rowIn_whole (hs147.block 2 rfl), rfl, by decide, ?_⟩
  rw [elemE]
  refine hs147.alc fun b150 H151 hs151 => c16 (one_eds (hs151.block 0 rfl) (hlast.ext hs151.ext)) (by decide) fun H153 he153 => ⟨_, rfl, br_not (fun _ => hR _ (hs151.step he153).ext) fun hsm2 => hJ19 _ ?_⟩
  have hs153 := (hs151.step he153).tail
  have hsm3 : smallE e0 = true := by
    unfold smallB at hsm2
    rw [Bool.and_eq_true] at hsm2
    simpa using hsm2.2
  have hsm4 := of_decide_eq_true hsm3
  have hlastOk : ∀ {H' : Heap}, Ext H H' → EdOk H' e0 s0 := fun he => ⟨hlast.ext he, by omega, by omega⟩
  have hpl := hlast.p.length
  have hal := hlast.params.length
  intro X21 hX21
  have go : ∀ k, k ≤ es.length → ∀ (A : Array Value) (D : DocL) (Kd : Sl3) (rs : List RT) (L : List (Sl3 × List RT)) (H1 : Heap), Inv D → D.next ≤ k + 1 → Rel D.ks (rwS rs) → (Kd, rs) ∈ L → St H H1 [.cell b13 A 26, .cell b15 (docA D.w D.h D.next Kd) 32, .cell b3 (edL e0 s0).toArray 43, docRs A D, poolRs L] → X21 [.int .i64 (k : Nat)] H1 := by
    refine upto fun k hk ih A D Kd rs L H1 hi hnx hrel hmem hs1 => hX21 _ _ (br_dec (fun hlt => ?_) fun hge => ?_)
    · have hk' : k < es.length := by omega
      have hx := List.getElem?_eq_getElem hk'
      generalize es[k] = x at hx
      obtain ⟨e, s⟩ := x
      obtain ⟨a, hp, hrow, hed⟩ := eds_ok (hes.ext hs1.ext) hok hx
      have hedH : ∀ {H' : Heap}, Ext H H' → EdOk H' e s := fun he => let ⟨_, _, _, h3⟩ := eds_ok (hes.ext he) hok hx; h3
      have hnx2 : D.next ≤ 1000000000000000 := by omega
      refine ⟨a, hp, by omega, hlt, _, rfl, hrow, hs1.alc fun b26 H27 hs27 => ⟨rfl, hs27.putAll 0 rfl rfl (by simpa using edL_one e s) fun H28 hs28 => ?_⟩⟩
      intro J29 hJ29
      have after : ∀ (A' : Array Value) (H1 : Heap), St H H1 [.cell b26 (edL e s).toArray 43, .cell b13 A' 26, .cell b15 (docA D.w D.h D.next Kd) 32, .cell b3 (edL e0 s0).toArray 43, docRs A' (nxt D e), poolRs L] → J29 [] H1 := fun A' H1 hs1 => by
        refine hJ29 _ ⟨_, rfl, rowIn_whole (hs1.block 2 rfl), _, rfl, rowIn_whole (hs1.block 0 rfl), c18 (hedH hs1.ext) fun s' H33 he33 hed' => ⟨_, rfl, .inl he33, ?_⟩⟩
        refine rdo_st (hs1.step he33) 5 rfl hmem hrel hi hnx2 hed' fun q rs' L' H36 hm1 hsub hr2 he36 hs36 => ⟨_, _, rfl, rfl, hs36.putAll 2 rfl rfl (docA_one _ _ _ _) fun H39 hs39 => ?_⟩
        rw [wrap_id (by omega) (by omega)]
        have hn := nxt_next (D := D) e
        exact ih hk' A' (nxt D e) q rs' L' H39 (nxt_inv hi e) (by omega) hr2 hm1 (hs39.drop 1)
      have hd := hs28.doc 4 rfl
      refine ⟨A, hd.size, rowIn_whole (hs28.block 1 rfl), _, rfl, rowIn_whole (hs28.block 0 rfl), do_st hs28 hd hi hnx2 (hedH hs28.ext) fun A' H44 hd' hs44 => ⟨_, _, rfl, ?_⟩⟩
      refine hs44.alc fun b47 H48 hs48 => ⟨hd'.size, hs48.putAll 0 rfl hd'.size hd'.one fun H49 hs49 => br_eq (fun h0 => ?_) fun hne => ?_⟩
      · have hn : nxt D e = (doD D e).2 := by unfold nxt; rw [if_pos h0]
        refine ⟨A', hd'.size, rowIn_whole (hs49.block 0 rfl), hd'.size, hs49.putAll 3 rfl (hd'.size.trans hd.size.symm) hd'.one fun H51 hs51 => after A' H51 ?_⟩
        rw [← hn] at hs51
        have := hs51.perm (τ := [.cell b47 A' 26, docRs A D, .cell b26 (edL e s).toArray 43, .cell b13 A' 26, .cell b15 (docA D.w D.h D.next Kd) 32, .cell b3 (edL e0 s0).toArray 43, docRs A' (nxt D e), poolRs L]) (permC fun _ x => by simp only [List.set_cons_succ, List.set_cons_zero, List.count_cons, List.count_nil]; ac_rfl)
        exact this.drop 2
      · have hn : nxt D e = D := by unfold nxt; rw [if_neg hne]
        refine after A H49 ?_
        rw [hn]
        exact hs49.drop 2
    · have hnx2 : D.next ≤ 1000000000000000 := by omega
      have hcn := hi.cnt
      have hokD := hi.ok
      have hlD : D.ks.length ≤ 1000000000 := by have := len_cnt D.ks; omega
      refine ⟨_, rfl, rowIn_whole (hs1.block 2 rfl), hs1.alc fun b54 H55 hs55 => ⟨rfl, hs55.putAll 0 rfl rfl (by simpa using edL_one e0 s0) fun H56 hs56 => ?_⟩⟩
      have hs56 : St H H56 [.cell b54 (edL e0 s0).toArray 43, .cell b13 A 26, .cell b15 (docA D.w D.h D.next Kd) 32, .cell b3 (edL e0 s0).toArray 43, docRs A D, poolRs L] := hs56
      intro J57 hJ57
      -- with a copy of the edit's lists
      have main : ∀ (P Q : Sl3) (H1 : Heap), P.l = s0.P.l → Q.l = s0.A.l → St H H1 (.cell b54 (edL e0 ⟨P, s0.S, Q⟩).toArray 43 :: .sl P.p P.l P.c 3 1 (ints e0.p) :: .sl Q.p Q.l Q.c 3 1 (ints e0.params) :: .cell b13 A 26 :: .cell b15 (docA D.w D.h D.next Kd) 32 :: .cell b3 (edL e0 s0).toArray 43 :: docRs A D :: [poolRs L]) → J57 [] H1 := fun P Q H1 hPl hQl hs1 => by
        have hedc : EdOk H1 e0 ⟨P, s0.S, Q⟩ := ⟨⟨hs1.is 1 rfl, hlast.shape.ext hs1.ext, hs1.is 2 rfl⟩, by omega, by omega⟩
        have hd := hs1.doc 6 rfl
        refine hJ57 _ ⟨A, hd.size, rowIn_whole (hs1.block 3 rfl), _, rfl, rowIn_whole (hs1.block 0 rfl), do_st hs1 hd hi hnx2 hedc fun A' H62 hd' hs62 => ⟨_, _, rfl, ?_⟩⟩
        refine hs62.alc fun b65 H66 hs66 => ⟨hd'.size, hs66.putAll 0 rfl hd'.size hd'.one fun H67 hs67 => ?_⟩
        intro J68 hJ68
        have after : ∀ (bn : Nat) (q : Sl3) (rs' : List RT) (L' : List (Sl3 × List RT)) (H1 : Heap), (q, rs') ∈ L' → (Kd, rs) ∈ L' → Rel (nxt D e0).ks (rwS rs') → St H H1 (.cell bn (docA (nxt D e0).w (nxt D e0).h (nxt D e0).next q) 32 :: .cell b65 A' 26 :: docRs A' (doD D e0).2 :: .cell b54 (edL e0 ⟨P, s0.S, Q⟩).toArray 43 :: .sl P.p P.l P.c 3 1 (ints e0.p) :: .sl Q.p Q.l Q.c 3 1 (ints e0.params) :: .cell b13 A 26 :: .cell b15 (docA D.w D.h D.next Kd) 32 :: .cell b3 (edL e0 s0).toArray 43 :: docRs A D :: [poolRs L']) → J68 [.pointer (some ⟨bn, 0, none⟩), .int .i64 (doD D e0).1] H1 := fun bn q rs' L' H1 hm1 hm2 hr2 hs1 => by
          refine hJ68 _ _ _ (br_ne (fun h => absurd rfl h) fun _ => ⟨P.p, P.l, P.c, hs1.get 3 rfl (j := 10) rfl, ?_⟩)
          intro X73 hX73
          have goP : ∀ k, k ≤ P.l → ∀ (xs : List Int) (H1 : Heap), St H H1 (.cell bn (docA (nxt D e0).w (nxt D e0).h (nxt D e0).next q) 32 :: .cell b65 A' 26 :: docRs A' (doD D e0).2 :: .cell b54 (edL e0 ⟨P, s0.S, Q⟩).toArray 43 :: .sl P.p P.l P.c 3 1 (ints xs) :: .sl Q.p Q.l Q.c 3 1 (ints e0.params) :: .cell b13 A 26 :: .cell b15 (docA D.w D.h D.next Kd) 32 :: .cell b3 (edL e0 s0).toArray 43 :: docRs A D :: [poolRs L']) → X73 [.int .i64 (k : Nat)] H1 := by
            refine upto fun k hk ihk xs H1 hs1 => hX73 _ _ (br_dec (fun hlt => ?_) fun hge => ?_)
            · refine ⟨P.p, P.l, P.c, hs1.get 3 rfl (j := 10) rfl, ones_fill hs1 (i := 4) rfl (by omega) fun ys H2 hs2 => ?_⟩
              rw [wrap_id (by omega) (by omega)]
              exact ihk (by omega) ys H2 hs2
            · refine ⟨Q.p, Q.l, Q.c, hs1.get 3 rfl (j := 18) rfl, ?_⟩
              intro X80 hX80
              have goQ : ∀ k, k ≤ Q.l → ∀ (zs : List Int) (H1 : Heap), St H H1 (.cell bn (docA (nxt D e0).w (nxt D e0).h (nxt D e0).next q) 32 :: .cell b65 A' 26 :: docRs A' (doD D e0).2 :: .cell b54 (edL e0 ⟨P, s0.S, Q⟩).toArray 43 :: .sl P.p P.l P.c 3 1 (ints xs) :: .sl Q.p Q.l Q.c 3 1 (ints zs) :: .cell b13 A 26 :: .cell b15 (docA D.w D.h D.next Kd) 32 :: .cell b3 (edL e0 s0).toArray 43 :: docRs A D :: [poolRs L']) → X80 [.int .i64 (k : Nat)] H1 := by
                refine upto fun k hk ihk zs H1 hs1 => hX80 _ _ (br_dec (fun hlt => ?_) fun hge => ?_)
                · refine ⟨Q.p, Q.l, Q.c, hs1.get 3 rfl (j := 18) rfl, ones_fill hs1 (i := 5) rfl (by omega) fun ys H2 hs2 => ?_⟩
                  rw [wrap_id (by omega) (by omega)]
                  exact ihk (by omega) ys H2 hs2
                · refine br_ne (fun _ => hR _ hs1.ext) fun h0 => ?_
                  have hn : nxt D e0 = (doD D e0).2 := by unfold nxt; rw [if_pos h0]
                  have hi2 := do_inv hi h0
                  have hcn2 := hi2.cnt
                  rw [hn] at hs1 hr2
                  -- the new one is written over
                  have hs2 : St H H1 (docRs A' (doD D e0).2 :: .cell bn (docA (doD D e0).2.w (doD D e0).2.h (doD D e0).2.next q) 32 :: .cell b65 A' 26 :: .cell b54 (edL e0 ⟨P, s0.S, Q⟩).toArray 43 :: .sl P.p P.l P.c 3 1 (ints xs) :: .sl Q.p Q.l Q.c 3 1 (ints zs) :: .cell b13 A 26 :: .cell b15 (docA D.w D.h D.next Kd) 32 :: .cell b3 (edL e0 s0).toArray 43 :: docRs A D :: [poolRs L']) := hs1.perm (permC fun _ x => by simp only [List.count_cons]; ac_rfl)
                  refine Exists.elim (spoil_st (R := fun r87 H_88 => r87 = Value.tuple #[] ∧ ∃ v89 : Array Value, v89.size = 4 ∧ rowIn H_88 ⟨b13, 0, none⟩ v89 ∧ ∃ v90 : Array Value, v90.size = 4 ∧ rowIn H_88 ⟨b15, 0, none⟩ v90 ∧ CallsH Try.prog 20 #[Value.agg v89, Value.agg v90] H_88 fun r91 H_92 => ∃ r93 : Bool, r91 = Value.bool r93 ∧ br (!r93)
                       (R (Value.bool false) H_92)
                       (∃ v94 : Array Value, v94.size = 4 ∧ rowIn H_92 ⟨b13, 0, none⟩ v94 ∧ ∃ v95 : Array Value, v95.size = 19 ∧ rowIn H_92 ⟨b3, 0, none⟩ v95 ∧ CallsH Try.prog 19 #[Value.agg v94, Value.agg v95] H_92 fun r96 H_97 => ∃ r98 : Array Value, ∃ r99 : Int, r96 = Value.tuple #[Value.agg r98, Value.int .i64 r99] ∧ alc H_97 (.cells #[Value.int .i64 0, Value.int .i64 0, Value.int .i64 0, Value.slice none 0 0] 26) fun b100 H_101 => r98.size = 4 ∧ stAt H_101 ⟨b100, 0, none⟩ (Array.toList r98) fun H_102 => ∃ Kids103p : Option Addr, ∃ Kids103l : Nat, ∃ Kids103c : Nat, Sh.cell H_102 (Addr.add ⟨b13, 0, none⟩ 3) = some (Value.slice Kids103p Kids103l Kids103c) ∧ CallsH Try.prog 21 #[Value.slice Kids103p Kids103l Kids103c] H_102 fun r104 H_105 => r104 = Value.tuple #[] ∧ ∃ v106 : Array Value, v106.size = 4 ∧ rowIn H_105 ⟨b100, 0, none⟩ v106 ∧ ∃ v107 : Array Value, v107.size = 4 ∧ rowIn H_105 ⟨bn, 0, none⟩ v107 ∧ CallsH Try.prog 20 #[Value.agg v106, Value.agg v107] H_105 fun r108 H_109 => ∃ r110 : Bool, r108 = Value.bool r110 ∧ R (Value.bool r110) H_109)) hi2.ok (by have := len_cnt (doD D e0).2.ks; omega) hs2 fun H88 hs88 => ⟨rfl, ?_⟩) fun Kg hh => ?_
                  rotate_left
                  · obtain ⟨hKg, hsp⟩ := hh
                    refine ⟨Kg.p, Kg.l, Kg.c, ?_, hsp⟩
                    have := hs1.get 1 rfl (j := 3) (v := .slice Kg.p Kg.l Kg.c) (by rw [hKg] <;> rfl)
                    exact this
                  · have hda := hs88.doc 8 rfl
                    refine ⟨A, hda.size, rowIn_whole (hs88.block 5 rfl), _, rfl, rowIn_whole (hs88.block 6 rfl), like_st hs88 9 rfl hm2 hda hi hi hrel fun t H92 ht he92 hs92 => ⟨_, rfl, ?_⟩⟩
                    rw [ht.2 rfl]
                    refine br_f rfl ⟨A, hda.size, rowIn_whole (hs92.block 5 rfl), _, rfl, rowIn_whole (hs92.block 7 rfl), do_st hs92 (hs92.doc 8 rfl) hi hnx2 (hlastOk hs92.ext) fun A2 H97 hd2 hs97 => ⟨_, _, rfl, ?_⟩⟩
                    refine hs97.alc fun b100 H101 hs101 => ⟨hd2.size, hs101.putAll 0 rfl hd2.size hd2.one fun H102 hs102 => ?_⟩
                    have hs103 : St H H102 (docRs A D :: .cell b100 A2 26 :: docRs A2 (doD D e0).2 :: .cell bn (docA (doD D e0).2.w (doD D e0).2.h (doD D e0).2.next q) 32 :: .cell b65 A' 26 :: .cell b54 (edL e0 ⟨P, s0.S, Q⟩).toArray 43 :: .sl P.p P.l P.c 3 1 (ints xs) :: .sl Q.p Q.l Q.c 3 1 (ints zs) :: .cell b13 A 26 :: .cell b15 (docA D.w D.h D.next Kd) 32 :: .cell b3 (edL e0 s0).toArray 43 :: [poolRs L']) := hs102.perm (permC fun _ x => by simp only [List.set_cons_succ, List.set_cons_zero, List.count_cons]; ac_rfl)
                    refine Exists.elim (spoil_st (R := fun r104 H_105 => r104 = Value.tuple #[] ∧ ∃ v106 : Array Value, v106.size = 4 ∧ rowIn H_105 ⟨b100, 0, none⟩ v106 ∧ ∃ v107 : Array Value, v107.size = 4 ∧ rowIn H_105 ⟨bn, 0, none⟩ v107 ∧ CallsH Try.prog 20 #[Value.agg v106, Value.agg v107] H_105 fun r108 H_109 => ∃ r110 : Bool, r108 = Value.bool r110 ∧ R (Value.bool r110) H_109) hokD hlD hs103 fun H105 hs105 => ⟨rfl, ?_⟩) fun Kh hh => ?_
                    rotate_left
                    · obtain ⟨hKh, hsp2⟩ := hh
                      refine ⟨Kh.p, Kh.l, Kh.c, ?_, hsp2⟩
                      exact hs103.get 8 rfl (j := 3) (v := .slice Kh.p Kh.l Kh.c) (by rw [hKh] <;> rfl)
                    · refine ⟨A2, hd2.size, rowIn_whole (hs105.block 0 rfl), _, rfl, rowIn_whole (hs105.block 2 rfl), like_st hs105 10 rfl hm1 (hs105.doc 1 rfl) hi2 hi2 hr2 fun t H109 ht he109 hs109 => ⟨_, rfl, ?_⟩⟩
                      rw [ht.2 rfl]
                      exact hR _ hs109.ext
              exact goQ 0 (by omega) e0.params H1 hs1
          exact goP 0 (by omega) e0.p H1 hs1
        refine ⟨_, rfl, rowIn_whole (hs67.block 6 rfl), _, rfl, rowIn_whole (hs67.block 7 rfl), ?_, ?_⟩
        · refine c18 (hlastOk hs67.ext) fun s' H82 he82 hed' => ⟨_, rfl, .inl he82, ?_, ?_⟩
          · refine rdo_st (hs67.step he82) 9 rfl hmem hrel hi hnx2 hed' fun q rs' L' H85 hm1 hsub hr2 he85 hs85 => ⟨_, _, rfl, ?_⟩
            refine hs85.alc fun b88 H89 hs89 => ⟨rfl, hs89.putAll 0 rfl rfl (docA_one _ _ _ _) fun H90 hs90 => ?_⟩
            exact after b88 q rs' L' H90 hm1 (hsub _ hmem) hr2 hs90
          · refine (hs67.step he82).alcE fun b91 H92 he92 hs92 => ⟨.inl he92, ?_⟩
            refine rdo_st hs92 10 rfl hmem hrel hi hnx2 ⟨hed'.rd.ext he92, hed'.shape, hed'.params⟩ fun q rs' L' H94 hm1 hsub hr2 he94 hs94 => ⟨_, _, rfl, rfl, ?_⟩
            refine hs94.putAll 0 rfl rfl (docA_one _ _ _ _) fun H97 hs97 => ?_
            exact after b91 q rs' L' H97 hm1 (hsub _ hmem) hr2 hs97
        · refine hs67.alcE fun b100 H101 he101 hs101 => ⟨.inl he101, ?_⟩
          refine c18 (hlastOk hs101.ext) fun s' H103 he103 hed' => ⟨_, rfl, .inl he103, ?_⟩
          refine rdo_st (hs101.step he103) 10 rfl hmem hrel hi hnx2 hed' fun q rs' L' H106 hm1 hsub hr2 he106 hs106 => ⟨_, _, rfl, rfl, ?_⟩
          refine hs106.putAll 0 rfl rfl (docA_one _ _ _ _) fun H109 hs109 => ?_
          exact after b100 q rs' L' H109 hm1 (hsub _ hmem) hr2 hs109
      refine ⟨_, _, _, hs56.get 3 rfl (edL_10 e0 s0), _, _, _, hs56.get 3 rfl (edL_18 e0 s0), ?_, ?_⟩
      · refine hs56.alcE fun b147 H148 he148 hs148 => ⟨.inl he148, ?_, ?_⟩
        · have hs148' := hs148.toSl 0 (l := 0) (k := 1) (fs := []) rfl rfl rfl (by simp)
          refine hs148'.appI 0 rfl (hlast.p.ext hs148.ext) (ints_one _) rfl (by omega) (by omega) fun p1 c1 H150 hs150 => ⟨.inr ⟨_, _, _, hs150.get 4 rfl (edL_18 e0 s0), rfl⟩, ?_⟩
          rw [Nat.zero_add] at hs150 ⊢
          rw [List.nil_append] at hs150
          refine hs150.alcE fun b151 H152 he152 hs152 => ⟨.inl he152, ?_⟩
          have hs152' := hs152.toSl 0 (l := 0) (k := 1) (fs := []) rfl rfl rfl (by simp)
          refine hs152'.appI 0 rfl (hlast.params.ext hs152.ext) (ints_one _) rfl (by omega) (by omega) fun p2 c2 H154 hs154 => ?_
          rw [Nat.zero_add] at hs154 ⊢
          rw [List.nil_append] at hs154
          refine hs154.put 2 rfl (by show 10 < 19; decide) rfl fun H155 hs155 => hs155.put 2 rfl (by show 18 < 19; decide) rfl fun H156 hs156 => main ⟨p1, s0.P.l, c1⟩ ⟨p2, s0.A.l, c2⟩ H156 rfl rfl ?_
          exact hs156.perm (permC fun _ x => by simp only [List.set_cons_succ, List.set_cons_zero, List.count_cons, List.count_nil]; exact (by ac_rfl))
        · refine hs148.alcE fun b159 H160 he160 hs160 => ⟨.inl he160, ?_⟩
          have hs160' := hs160.toSl 1 (l := 0) (k := 1) (fs := []) rfl rfl rfl (by simp)
          refine hs160'.appI 1 rfl (hlast.p.ext hs160.ext) (ints_one _) rfl (by omega) (by omega) fun p1 c1 H162 hs162 => ⟨.inr ⟨_, _, _, hs162.get 5 rfl (edL_18 e0 s0), rfl⟩, ?_⟩
          rw [Nat.zero_add] at hs162 ⊢
          rw [List.nil_append] at hs162
          have hs162' := hs162.toSl 0 (l := 0) (k := 1) (fs := []) rfl rfl rfl (by simp)
          refine hs162'.appI 0 rfl (hlast.params.ext hs162.ext) (ints_one _) rfl (by omega) (by omega) fun p2 c2 H164 hs164 => ?_
          rw [Nat.zero_add] at hs164 ⊢
          rw [List.nil_append] at hs164
          refine hs164.put 2 rfl (by show 10 < 19; decide) rfl fun H165 hs165 => hs165.put 2 rfl (by show 18 < 19; decide) rfl fun H166 hs166 => main ⟨p1, s0.P.l, c1⟩ ⟨p2, s0.A.l, c2⟩ H166 rfl rfl ?_
          exact hs166.perm (permC fun _ x => by simp only [List.set_cons_succ, List.set_cons_zero, List.count_cons, List.count_nil]; exact (by ac_rfl))
      · refine hs56.alcE fun b172 H173 he173 hs173 => ⟨.inl he173, ?_⟩
        refine hs173.alcE fun b174 H175 he175 hs175 => ⟨.inl he175, ?_⟩
        have hs175' := hs175.toSl 0 (l := 0) (k := 1) (fs := []) rfl rfl rfl (by simp)
        refine hs175'.appI 0 rfl (hlast.p.ext hs175.ext) (ints_one _) rfl (by omega) (by omega) fun p1 c1 H177 hs177 => ⟨.inr ⟨_, _, _, hs177.get 5 rfl (edL_18 e0 s0), rfl⟩, ?_⟩
        rw [Nat.zero_add] at hs177 ⊢
        rw [List.nil_append] at hs177
        have hs177' := hs177.toSl 1 (l := 0) (k := 1) (fs := []) rfl rfl rfl (by simp)
        refine hs177'.appI 1 rfl (hlast.params.ext hs177.ext) (ints_one _) rfl (by omega) (by omega) fun p2 c2 H179 hs179 => ?_
        rw [Nat.zero_add] at hs179 ⊢
        rw [List.nil_append] at hs179
        refine hs179.put 2 rfl (by show 10 < 19; decide) rfl fun H180 hs180 => hs180.put 2 rfl (by show 18 < 19; decide) rfl fun H181 hs181 => main ⟨p1, s0.P.l, c1⟩ ⟨p2, s0.A.l, c2⟩ H181 rfl rfl ?_
        exact hs181.perm (permC fun _ x => by simp only [List.set_cons_succ, List.set_cons_zero, List.count_cons, List.count_nil]; exact (by ac_rfl))
  refine go 0 (Nat.zero_le _) (docA 8 8 1 .nil) ⟨8, 8, 1, []⟩ .nil [] [(.nil, [])] H153 (new_inv (by decide)) (by show (1 : Int) ≤ 0 + 1; omega) rel_nil List.mem_cons_self ?_
  have h1 := poolStart (hs153.docNil 8 8 1)
  exact h1.perm (permC fun _ x => by simp only [List.set_cons_succ, List.set_cons_zero, List.count_cons, List.count_nil]; ac_rfl)

end Go.Proofs

/-
  OWN WORK. A slice of bytes that comes in, opened.
-/
set_option linter.unusedVariables false
set_option linter.unusedSimpArgs false
namespace Go.Proofs
open Go.Sh Go.RowKit Go.ChangeShapes Go.WideShapes Go.ChangeAt

end Go.Proofs

/-
  OWN WORK. Edits and shapes that come in, opened.
-/
set_option linter.unusedVariables false
set_option linter.unusedSimpArgs false
set_option maxRecDepth 10000
namespace Go.Proofs
open Go.Sh Go.RowKit Go.ChangeShapes Go.WideShapes Go.ChangeAt Go.Deep

section
variable {H : Type} {enc : TypeId × Value → H} {W : World}

abbrev TrP (enc : TypeId × Value → H) (W : World) (fuel : Nat) (t : TypeId) (cs : List Value) (x : DataW H × List MemPlace) : Prop := DataW.trod enc Try.prog W 0 (fun _ => true) true fuel t cs = some x

theorem intsAt {fuel : Nat} {a0 : Option Addr} {len cap : Nat} {x : DataW H × List MemPlace} (hf : TrP enc W fuel 38 [.slice a0 len cap] x) : ∃ ls, len ≤ cap ∧ IS W.heap a0 len (ints ls) := by
  rcases open_ints Try.underlying38 Try.underlying3 (by kernel_rfl) hf with ⟨hcs, _⟩ | ⟨a, len2, cap2, zs, hcs, _, hl, _, hz, _, hc, hw⟩
  · simp at hcs
    obtain ⟨rfl, rfl, rfl⟩ := hcs
    exact ⟨[], Nat.le_refl _, ⟨rfl, fun i v hv => by simp [ints] at hv⟩⟩
  · simp at hcs
    obtain ⟨rfl, rfl, rfl⟩ := hcs
    have hzl : len ≤ zs.length := by rw [hz]; simp; omega
    refine ⟨zs.take len, hl, ⟨by rw [ints_len]; simp; omega, fun i v hv => ⟨a, rfl, ?_⟩⟩⟩
    have hi : i < len := by have := (List.getElem?_eq_some_iff.1 hv).1; rw [ints_len] at this; simp at this; omega
    have := hc i (by omega)
    rw [cell_eq] at this
    rw [this]
    have hg : (zs.take len)[i]? = some (zs.getD i 0) := by
      rw [List.getElem?_take_of_lt hi, List.getD_eq_getElem?_getD, List.getElem?_eq_getElem (by omega)]; rfl
    rw [ints_get hg] at hv
    exact hv

/-- A field, opened. -/
theorem fieldAt {t : TypeId} {fs : Array Field} {fuel : Nat} {cs : List Value} {x : DataW H × List MemPlace} (hs : Try.prog.underlying t = some (.struct fs)) (h : TrP enc W fuel t cs x) (i : Nat) {f : Field} {o ty c : Nat} (hf : fs[i]? = some f) (ho : f.offset = o) (ht : f.type = ty) (hc : Try.prog.cellsOf ty = c) :
    ∃ n y, n < fuel ∧ TrP enc W n ty ((cs.drop o).take c) y := by
  obtain ⟨xs, n, hfu, _, hl, hlen, hg⟩ := DataW.trod_struct hs h
  have := hg i f hf
  have hi := (Array.getElem?_eq_some_iff.1 hf).1
  rw [List.getElem?_eq_getElem (by omega), ho, ht, hc] at this
  exact ⟨n, _, by omega, this⟩
theorem one_get {cs : List Value} {o : Nat} {v : Value} (h : (cs.drop o).take 1 = [v]) : cs[o]? = some v := by
  have h4 : ((cs.drop o).take 1)[0]? = some v := by rw [h]; rfl
  rw [List.getElem?_take_of_lt (by omega), List.getElem?_drop] at h4
  simpa using h4
theorem intF {n : Nat} {cs : List Value} {o : Nat} {y : DataW H × List MemPlace} (h : TrP enc W n 3 ((cs.drop o).take 1) y) : ∃ m : Int, cs[o]? = some (.int .i64 m) := by
  obtain ⟨m, hm, _, _⟩ := DataW.trod_int Try.underlying3 h
  exact ⟨m, one_get hm⟩
theorem slF {t e n : Nat} {cs : List Value} {o : Nat} {y : DataW H × List MemPlace} (ht : Try.prog.underlying t = some (.slice e)) (h : TrP enc W n t ((cs.drop o).take 1) y) : ∃ s : Sl3, cs[o]? = some s.v ∧ TrP enc W n t [s.v] y := by
  rcases DataW.trod_slice ht h with ⟨h0, _⟩ | ⟨a, len, cap, elems, rest, m, _, h0, _⟩
  · rw [h0] at h; exact ⟨.nil, one_get h0, h⟩
  · rw [h0] at h; exact ⟨⟨some a, len, cap⟩, one_get h0, h⟩
theorem list19 {α : Type} {l : List α} (h : l.length = 19) : ∃ a b c d e f g i j k m n o p q r s t u, l = [a, b, c, d, e, f, g, i, j, k, m, n, o, p, q, r, s, t, u] := by
  match l, h with
  | [a, b, c, d, e, f, g, i, j, k, m, n, o, p, q, r, s, t, u], _ => exact ⟨a, b, c, d, e, f, g, i, j, k, m, n, o, p, q, r, s, t, u, rfl⟩
/-- Six numbers. -/
theorem sixF {t n : Nat} {cs : List Value} {o : Nat} {y : DataW H × List MemPlace} (ht : Try.prog.underlying t = some (.array 6 3)) (h : TrP enc W n t ((cs.drop o).take 6) y) :
    ∃ m : M6, cs[o]? = some (.int .i64 m.a) ∧ cs[o + 1]? = some (.int .i64 m.b) ∧ cs[o + 2]? = some (.int .i64 m.c) ∧ cs[o + 3]? = some (.int .i64 m.d) ∧ cs[o + 4]? = some (.int .i64 m.e) ∧ cs[o + 5]? = some (.int .i64 m.f) := by
  obtain ⟨xs, m, _, _, hl, hlen, hg⟩ := DataW.trod_array ht h
  have hc : Try.prog.cellsOf 3 = 1 := by kernel_rfl
  have each : ∀ i, i < 6 → ∃ z : Int, cs[o + i]? = some (.int .i64 z) := fun i hi => by
    have := hg i hi
    rw [hc, Nat.mul_one, List.getElem?_eq_getElem (by omega)] at this
    obtain ⟨z, hz⟩ := intF this
    rw [List.getElem?_take_of_lt hi, List.getElem?_drop] at hz
    exact ⟨z, hz⟩
  obtain ⟨a, ha⟩ := each 0 (by omega)
  obtain ⟨b, hb⟩ := each 1 (by omega)
  obtain ⟨c, hc⟩ := each 2 (by omega)
  obtain ⟨d, hd⟩ := each 3 (by omega)
  obtain ⟨e, he⟩ := each 4 (by omega)
  obtain ⟨f, hf⟩ := each 5 (by omega)
  exact ⟨⟨a, b, c, d, e, f⟩, ha, hb, hc, hd, he, hf⟩

theorem ptAt {n : Nat} {cs : List Value} {y : DataW H × List MemPlace} (h : TrP enc W n 79 cs y) : ∃ p : Pt, cs = [.int .i64 p.1, .int .i64 p.2] := by
  obtain ⟨_, _, _, h0⟩ := fieldAt (o := 0) (ty := 3) (c := 1) Try.underlying79 h 0 rfl rfl rfl (by kernel_rfl)
  obtain ⟨_, _, _, h1⟩ := fieldAt (o := 1) (ty := 3) (c := 1) Try.underlying79 h 1 rfl rfl rfl (by kernel_rfl)
  obtain ⟨x, hx⟩ := intF h0
  obtain ⟨y, hy⟩ := intF h1
  obtain ⟨xs, m, _, _, hl, _⟩ := DataW.trod_struct Try.underlying79 h
  have hl2 : cs.length = 2 := by rw [hl]; kernel_rfl
  match cs, hl2 with
  | [a, b], _ =>
    simp only [List.getElem?_cons_zero, List.getElem?_cons_succ, Option.some.injEq] at hx hy
    subst hx; subst hy
    exact ⟨(x, y), rfl⟩
theorem choose_list {α : Type} {P : Nat → α → Prop} {n : Nat} [Inhabited α] (h : ∀ i, i < n → ∃ x, P i x) : ∃ l : List α, l.length = n ∧ ∀ i x, l[i]? = some x → P i x := by
  obtain ⟨f, hf⟩ : ∃ f : Nat → α, ∀ i, i < n → P i (f i) := by
    have : ∀ i, ∃ x, i < n → P i x := fun i => by
      by_cases hi : i < n
      · obtain ⟨x, hx⟩ := h i hi; exact ⟨x, fun _ => hx⟩
      · exact ⟨default, fun h => absurd h hi⟩
    exact Classical.axiomOfChoice this
  refine ⟨(List.range n).map f, by simp, fun i x hx => ?_⟩
  have hi : i < n := by have := (List.getElem?_eq_some_iff.1 hx).1; simpa using this
  simp [hi] at hx
  subst hx
  exact hf i hi
theorem ptsAt {fuel : Nat} {s : Sl3} {x : DataW H × List MemPlace} (hf : TrP enc W fuel 39 [s.v] x) : ∃ pts : List Pt, s.l ≤ s.c ∧ IS2 W.heap s.p s.l pts := by
  rcases open_slice Try.underlying39 hf with ⟨hcs, _⟩ | ⟨a, len', cap', m, n, D, Pl, hcs, _, hl, hm, hmm, _, hx⟩
  · obtain ⟨p, l, c⟩ := s
    simp only [Sl3.v, List.cons.injEq, Value.slice.injEq, and_true] at hcs
    obtain ⟨rfl, rfl, rfl⟩ := hcs
    exact ⟨[], Nat.le_refl _, IS2.nil _⟩
  · obtain ⟨p, l, c⟩ := s
    simp only [Sl3.v, List.cons.injEq, Value.slice.injEq, and_true] at hcs
    obtain ⟨rfl, rfl, rfl⟩ := hcs
    have hml : l ≤ m := by rw [hmm]; simp; omega
    obtain ⟨pts, hlen, hpts⟩ := choose_list (P := fun i (p : Pt) => rowIn W.heap (a.add (i * 2)) #[.int .i64 p.1, .int .i64 p.2]) (n := l) fun i hi => by
      obtain ⟨cs, h1, h2⟩ := hx i (by omega)
      rw [show Try.prog.cellsOf 79 = 2 from by kernel_rfl] at h1
      obtain ⟨p, rfl⟩ := ptAt h2
      obtain ⟨_, _, hc⟩ := World.cells?_some h1
      refine ⟨p, fun j v hv => ?_⟩
      have hj : j < 2 := (Array.getElem?_eq_some_iff.1 hv).1
      have := hc j hj
      rw [cell_eq] at this
      rw [this]
      simpa using hv
    exact ⟨pts, hl, hlen, fun i x y hi => ⟨a, rfl, hpts i (x, y) hi⟩⟩

/-- An edit. -/
theorem edAt {fuel : Nat} {cs : List Value} {x : DataW H × List MemPlace} (h : TrP enc W fuel 43 cs x) : ∃ e s, cs = edL e s ∧ rdEd W.heap e s := by
  have hu := Try.underlying43
  obtain ⟨_, _, _, h0⟩ := fieldAt (o := 0) (ty := 3) (c := 1) hu h 0 rfl rfl rfl (by kernel_rfl)
  obtain ⟨_, _, _, h1⟩ := fieldAt (o := 1) (ty := 3) (c := 1) hu h 1 rfl rfl rfl (by kernel_rfl)
  obtain ⟨_, _, _, h2⟩ := fieldAt (o := 2) (ty := 3) (c := 1) hu h 2 rfl rfl rfl (by kernel_rfl)
  obtain ⟨_, _, _, h3⟩ := fieldAt (o := 3) (ty := 3) (c := 1) hu h 3 rfl rfl rfl (by kernel_rfl)
  obtain ⟨_, _, _, h4⟩ := fieldAt (o := 4) (ty := 3) (c := 1) hu h 4 rfl rfl rfl (by kernel_rfl)
  obtain ⟨_, _, _, h5⟩ := fieldAt (o := 5) (ty := 3) (c := 1) hu h 5 rfl rfl rfl (by kernel_rfl)
  obtain ⟨_, _, _, h6⟩ := fieldAt (o := 6) (ty := 3) (c := 1) hu h 6 rfl rfl rfl (by kernel_rfl)
  obtain ⟨_, _, _, h7⟩ := fieldAt (o := 7) (ty := 3) (c := 1) hu h 7 rfl rfl rfl (by kernel_rfl)
  obtain ⟨_, _, _, h8⟩ := fieldAt (o := 8) (ty := 3) (c := 1) hu h 8 rfl rfl rfl (by kernel_rfl)
  obtain ⟨_, _, _, h9⟩ := fieldAt (o := 9) (ty := 3) (c := 1) hu h 9 rfl rfl rfl (by kernel_rfl)
  obtain ⟨_, _, _, h10⟩ := fieldAt (o := 10) (ty := 38) (c := 1) hu h 10 rfl rfl rfl (by kernel_rfl)
  obtain ⟨_, _, _, h11⟩ := fieldAt (o := 11) (ty := 39) (c := 1) hu h 11 rfl rfl rfl (by kernel_rfl)
  obtain ⟨_, _, _, h12⟩ := fieldAt (o := 12) (ty := 41) (c := 6) hu h 12 rfl rfl rfl (by kernel_rfl)
  obtain ⟨_, _, _, h13⟩ := fieldAt (o := 18) (ty := 38) (c := 1) hu h 13 rfl rfl rfl (by kernel_rfl)
  obtain ⟨v0, g0⟩ := intF h0
  obtain ⟨v1, g1⟩ := intF h1
  obtain ⟨v2, g2⟩ := intF h2
  obtain ⟨v3, g3⟩ := intF h3
  obtain ⟨v4, g4⟩ := intF h4
  obtain ⟨v5, g5⟩ := intF h5
  obtain ⟨v6, g6⟩ := intF h6
  obtain ⟨v7, g7⟩ := intF h7
  obtain ⟨v8, g8⟩ := intF h8
  obtain ⟨v9, g9⟩ := intF h9
  obtain ⟨P, g10, t10⟩ := slF Try.underlying38 h10
  obtain ⟨S, g11, t11⟩ := slF Try.underlying39 h11
  obtain ⟨m, ga, gb, gc, gd, ge, gf⟩ := sixF Try.underlying41 h12
  obtain ⟨A, g18, t18⟩ := slF Try.underlying38 h13
  obtain ⟨ps, _, hps⟩ := intsAt t10
  obtain ⟨pts, _, hpts⟩ := ptsAt t11
  obtain ⟨qs, _, hqs⟩ := intsAt t18
  obtain ⟨xs, k, _, _, hl, _⟩ := DataW.trod_struct hu h
  have hl2 : cs.length = 19 := by rw [hl]; kernel_rfl
  refine ⟨⟨v0, v1, v2, v3, v4, v5, v6, v7, v8, v9, ps, pts, m, qs⟩, ⟨P, S, A⟩, ?_, ⟨hps, hpts, hqs⟩⟩
  obtain ⟨a, b, c, d, e, f, g, i, j, k, m', n, o, p, q, r, s, t, u, rfl⟩ := list19 hl2
  simp only [List.getElem?_cons_zero, List.getElem?_cons_succ, Option.some.injEq] at g0 g1 g2 g3 g4 g5 g6 g7 g8 g9 g10 g11 ga gb gc gd ge gf g18
  subst g0 g1 g2 g3 g4 g5 g6 g7 g8 g9 g10 g11 ga gb gc gd ge gf g18
  rfl
instance : Inhabited (Ed × EdS) := ⟨⟨0, 0, 0, 0, 0, 0, 0, 0, 0, 0, [], [], ⟨0, 0, 0, 0, 0, 0⟩, []⟩, ⟨.nil, .nil, .nil⟩⟩

theorem editsIn_of {v : Value} {d : DataW H} {ps : List MemPlace} {base : Nat} (hv : Value.okWide Try.prog W .any base 22 v) (h : DataW.Trod enc Try.prog W 0 (fun _ => true) true 22 v d ps) :
    ∃ a l c es, v = .slice a l c ∧ l ≤ c ∧ EdsR W.heap a l es := by
  obtain ⟨a0, len, cap, rfl⟩ := okWide_slice Try.underlying22 hv
  obtain ⟨fuel, hf⟩ := h
  rcases open_slice Try.underlying22 hf with ⟨hcs, _⟩ | ⟨a, len', cap', m, n, D, Pl, hcs, _, hl, hm, hmm, _, hx⟩
  · simp only [Value.cells] at hcs
    simp at hcs
    obtain ⟨rfl, rfl, rfl⟩ := hcs
    exact ⟨none, 0, 0, [], rfl, Nat.le_refl _, rfl, fun i e s hx => by simp at hx⟩
  · simp only [Value.cells] at hcs
    simp at hcs
    obtain ⟨rfl, rfl, rfl⟩ := hcs
    have hml : len ≤ m := by rw [hmm]; simp; omega
    obtain ⟨es, hlen, hes⟩ := choose_list (P := fun i (x : Ed × EdS) => rowIn W.heap (a.add (i * 19)) (edL x.1 x.2).toArray ∧ rdEd W.heap x.1 x.2) (n := len) fun i hi => by
      obtain ⟨cs, h1, h2⟩ := hx i (by omega)
      rw [show Try.prog.cellsOf 43 = 19 from by kernel_rfl] at h1
      obtain ⟨e, s, rfl, hrd⟩ := edAt h2
      obtain ⟨_, _, hc⟩ := World.cells?_some h1
      refine ⟨(e, s), fun j v hv => ?_, hrd⟩
      have hj : j < 19 := (Array.getElem?_eq_some_iff.1 hv).1
      have := hc j hj
      rw [cell_eq] at this
      rw [this]
      simpa using hv
    exact ⟨some a, len, cap, es, rfl, hl, hlen, fun i e s hi => let ⟨h1, h2⟩ := hes i (e, s) hi; ⟨a, rfl, h1, h2⟩⟩
theorem editIn_of {v : Value} {d : DataW H} {ps : List MemPlace} {base : Nat} (hv : Value.okWide Try.prog W .any base 43 v) (h : DataW.Trod enc Try.prog W 0 (fun _ => true) true 43 v d ps) :
    ∃ e s, v = .agg (edL e s).toArray ∧ rdEd W.heap e s := by
  obtain ⟨cs, rfl, _⟩ := okWide_struct Try.underlying43 hv
  obtain ⟨fuel, hf⟩ := h
  obtain ⟨e, s, h1, h2⟩ := edAt hf
  have h1 : cs.toList = edL e s := h1
  exact ⟨e, s, by rw [← h1], h2⟩
end

end Go.Proofs
