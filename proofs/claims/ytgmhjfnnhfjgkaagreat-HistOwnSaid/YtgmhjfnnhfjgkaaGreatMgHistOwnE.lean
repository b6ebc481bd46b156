/-
  OWN WORK. Several texts in one: TrT, TrU, TrV, TrW, TrX, TrY, TrZ, TsBegun, HsA, ShV, HsB, TtA, HsC, HsD.
-/
import Derived.Test.YtgmhjfnnhfjgkaaGreatMgHistOwnD
import Derived.Test.YtgmhjfnnhfjgkaaGreatMgHistOwnB

set_option linter.unusedVariables false
set_option linter.unusedSimpArgs false
set_option maxRecDepth 100000
namespace Go.Proofs
open Go.Sh
variable {H0 H : Heap} {σ : List Rs} {R : Value → Heap → Prop}
theorem docA_one (w h next : Int) (K : Sl3) : ∀ v ∈ (docA w h next K).toList, v.oneCell' = true := by
 unfold docA
 simp only [List.forall_mem_cons]
 exact ⟨rfl, rfl, rfl, rfl, fun _ h => by cases h⟩
theorem edL_one (e : Ed) (s : EdS) : ∀ v ∈ edL e s, v.oneCell' = true := by
 unfold edL
 simp only [List.forall_mem_cons]
 exact ⟨rfl, rfl, rfl, rfl, rfl, rfl, rfl, rfl, rfl, rfl, rfl, rfl, rfl, rfl, rfl, rfl, rfl, rfl, rfl, fun _ h => by cases h⟩
theorem workL_one (b d : Nat) (e : Ed) (s : EdS) : ∀ v ∈ workL b d e s, v.oneCell' = true := by
 unfold workL
 simp only [List.forall_mem_cons]
 exact ⟨rfl, rfl, edL_one e s⟩
theorem c38 {d : Nat} {w h next : Int} {K : Sl3} (hb : H[d]? = some (.cells (docA w h next K) 27)) (hR : ∀ b H', St H H' [.cell b (cellsT (rootT K [])).toArray 61] → R (.pointer (some ⟨b, 0, none⟩)) H') : CallsH Tryz.prog 38 #[.pointer (some ⟨d, 0, none⟩)] H R := by
 refine Tryz.s38 ?_
 unfold Tryz.S38
 exact ⟨_, rfl, _, _, _, cell_get (i := 3) hb rfl, (St.nil H).alc fun b4 H5 hs5 => hR b4 H5 hs5⟩
theorem mk_root {b : Nat} {K : Sl3} {ks : List T} (hs : St H0 H (.cell b (cellsT (rootT K [])).toArray 61 :: (resG K ks ++ σ))) : St H0 H (resRoot b K ks ++ σ) := by
 have h1 := hs.toSl 0 (l := 1) (k := 19) (fs := cellsKs [rootT K ks]) rfl rfl (by rw [cellsKs_one]; rfl) (by rw [cellsKs_one]; exact cellsT_one _)
 have h2 := ((h1.nilSl 3 1).nilSl 5 1).nilSl 3 1
 refine h2.perm (permC fun _ x => ?_)
 have e1 : resRoot b K ks = .sl (some ⟨b, 0, none⟩) 1 1 61 19 (cellsKs [rootT K ks]) :: .sl none 0 0 3 1 [] :: .sl none 0 0 5 1 [] :: .sl none 0 0 3 1 [] :: resG K ks := by
  unfold resRoot
  rw [resG, resKs_one, rootT, resT_mk]; rfl
 rw [e1]
 show List.count x (.sl none 0 0 3 1 [] :: .sl none 0 0 5 1 [] :: .sl none 0 0 3 1 [] :: .sl (some ⟨b, 0, none⟩) 1 1 61 19 (cellsKs [rootT K ks]) :: (resG K ks ++ σ)) = _
 simp only [List.count_append, List.count_cons]
 ac_rfl
theorem un_root {b : Nat} {K : Sl3} {ks : List T} (hs : St H0 H (resRoot b K ks ++ σ)) : Sh.cell H ⟨b, 18, none⟩ = some (.slice K.p K.l K.c) ∧ St H0 H (resG K ks ++ σ) := by
 obtain ⟨a0, h1, h2, h3⟩ := hs.grp.get (i := 0) (t := rootT K ks) rfl
 cases h1
 rw [Nat.zero_mul, add_none] at h2
 refine ⟨h2 18 _ rfl, ?_⟩
 have e1 : resRoot b K ks = .sl (some ⟨b, 0, none⟩) 1 1 61 19 (cellsKs [rootT K ks]) :: .sl none 0 0 3 1 [] :: .sl none 0 0 5 1 [] :: .sl none 0 0 3 1 [] :: resG K ks := by
  unfold resRoot
  rw [resG, resKs_one, rootT, resT_mk]; rfl
 rw [e1] at hs
 exact hs.drop 4
def doL (w h next : Int) (D : List Lay) (e : Ed) : Int × Int × List Lay :=
 if e.kind < 1 ∨ e.kind > 9 then (41, 0, []) else if (stepL w h next D e).1 ≠ 0 then ((stepL w h next D e).1, 0, []) else (0, nextL next e, (stepL w h next D e).2)
def kindsA : Array Value := #[Value.func (.func 39) #[] #[], Value.func (.func 40) #[] #[], Value.func (.func 41) #[] #[], Value.func (.func 42) #[] #[], Value.func (.func 43) #[] #[], Value.func (.func 44) #[] #[], Value.func (.func 45) #[] #[], Value.func (.func 46) #[] #[], Value.func (.func 47) #[] #[]]
theorem kinds_get {k : Int} (h : 1 ≤ k ∧ k ≤ 9) : kindsA[(k - 1).toNat]? = some (.func (.func (kindFn k)) #[] #[]) := by
 obtain ⟨h1, h2⟩ := h
 obtain ⟨n, rfl⟩ : ∃ n : Nat, k = n := ⟨k.toNat, by omega⟩
 obtain ⟨m, rfl⟩ : ∃ m : Nat, n = m + 1 := ⟨n - 1, by omega⟩
 rw [show (((m + 1 : Nat) : Int) - 1).toNat = m from by omega]
 have : m < 9 := by omega
 obtain rfl | rfl | rfl | rfl | rfl | rfl | rfl | rfl | rfl : m = 0 ∨ m = 1 ∨ m = 2 ∨ m = 3 ∨ m = 4 ∨ m = 5 ∨ m = 6 ∨ m = 7 ∨ m = 8 := by omega
 all_goals rfl
theorem c25 {e : Ed} {s : EdS} {K : Sl3} {ks : List T} {w h next : Int} (hg : grp H K ks) (hokl : okKs (layKs ks)) (hc : cntKs (layKs ks) ≤ 1000000000) (hnx : 0 ≤ next ∧ next ≤ 1000000000000000) (hsz : e.kind = 7 → sizedB w h = true) (hed : EdOk H e s)
    (hras : ∀ fr u ks', flK [] [] e.id (layKs ks) = some (fr :: u, ks') → okRas fr.f)
    (hbad : ∀ H', (doL w h next (layKs ks) e).1 ≠ 0 → Ext H H' → R (.tuple #[.agg (docA 0 0 0 .nil), .int .i64 (doL w h next (layKs ks) e).1]) H')
    (hok : ∀ K' ks' H', (doL w h next (layKs ks) e).1 = 0 → layKs ks' = (doL w h next (layKs ks) e).2.2 → St H H' (resG K' ks') → R (.tuple #[.agg (docA w h (doL w h next (layKs ks) e).2.1 K'), .int .i64 0]) H') :
    CallsH Tryz.prog 25 #[.agg (docA w h next K), .agg (edL e s).toArray] H R := by
  have hlk := len_cnt (layKs ks)
  rw [layKs_len] at hlk
  refine Tryz.s25 ?_
  unfold Tryz.S25
  refine (St.nil H).alc fun b3 H4 hs4 => hs4.alc fun b5 H6 hs6 => hs6.alc fun b7 H8 hs8 => ?_
  intro J9 hJ9
  have main9 : ∀ (db : Nat) (K' : Sl3) (ks' : List T) (H11 : Heap), layKs ks' = layKs ks → St H H11 (.cell db (docA w h next K') 27 :: .cell b7 (docA 0 0 0 .nil) 27 :: .cell b5 (edL e s).toArray 47 :: (resG K' ks')) → J9 [.pointer (some ⟨db, 0, none⟩)] H11 := by
    intro db K' ks' H11 hlay hs11
    refine hJ9 _ _ ?_
    intro J12 hJ12
    have main12 : ∀ (wb rb : Nat) (H14 : Heap), St H H14 (.cell wb (workL rb db e s).toArray 106 :: .cell db (docA w h next K') 27 :: .cell b7 (docA 0 0 0 .nil) 27 :: .cell b5 (edL e s).toArray 47 :: (resRoot rb K' ks')) → J12 [.pointer (some ⟨wb, 0, none⟩)] H14 := by
      intro wb rb H14 hs14
      refine hJ12 _ _ ?_
      refine hs14.alc fun b15 H16 hs16 => ?_
      intro J17 hJ17
      have bad : ∀ {v : Int} {n : Int} {x : List Lay} {H1 : Heap} {τ : List Rs}, doL w h next (layKs ks) e = (v, n, x) → v ≠ 0 → ∀ (i : Nat), τ[i]? = some (.cell b7 (docA 0 0 0 .nil) 27) → St H H1 τ →
          (#[Value.int .i64 0, Value.int .i64 0, Value.int .i64 0, Value.slice none 0 0].size = 4 ∧ stAt H1 ⟨b7, 0, none⟩ (Array.toList #[Value.int .i64 0, Value.int .i64 0, Value.int .i64 0, Value.slice none 0 0]) fun H_36 => ∃ res37 : Array Value, res37.size = 4 ∧ rowIn H_36 ⟨b7, 0, none⟩ res37 ∧ R (Value.tuple #[Value.agg res37, Value.int .i64 v]) H_36) := fun {v n x H1 τ} hd hv i hi hs =>
        ⟨rfl, hs.putAll i hi rfl (docA_one 0 0 0 .nil) fun H2 hs2 => ⟨docA 0 0 0 .nil, rfl, rowIn_whole (hs2.block i (by rw [List.getElem?_set_self (List.getElem?_eq_some_iff.1 hi).1]; rfl)), by
          have := hbad H2 (by rw [hd]; exact hv) hs2.ext
          rw [hd] at this; exact this⟩⟩
      refine ⟨_, hs16.get 4 rfl (j := 0) rfl, br_dec (fun hk => bad (by unfold doL; rw [if_pos (.inl hk)]) (by decide) 3 rfl hs16) fun hk1 => ⟨_, hs16.get 4 rfl (j := 0) rfl, br_dec (fun hk => bad (by unfold doL; rw [if_pos (.inr hk)]) (by decide) 3 rfl hs16) fun hk2 => hJ17 _ ?_⟩⟩
      have hk1 : ¬ e.kind < 1 := hk1
      have hk2 : ¬ e.kind > 9 := hk2
      have hD : doL w h next (layKs ks) e = (if (stepL w h next (layKs ks) e).1 ≠ 0 then ((stepL w h next (layKs ks) e).1, 0, []) else (0, nextL next e, (stepL w h next (layKs ks) e).2)) := by
        unfold doL; rw [if_neg (by omega)]
      refine ⟨_, hs16.get 4 rfl (j := 0) rfl, _, rfl, ?_⟩
      show 0 ≤ (IntKind.wrap .i64 (e.kind - (1 : Int))) ∧ _
      rw [wrap_id (n := e.kind - 1) (by omega) (by omega)]
      refine ⟨by omega, by omega, kindFn e.kind, #[], #[], ?_, _, rfl, rowIn_whole (hs16.block 1 rfl), ?_⟩
      · rw [Nat.mul_one, add_none, Nat.zero_add]
        exact hs16.get 0 rfl (kinds_get ⟨by omega, by omega⟩)
      show CallsH Tryz.prog (kindFn e.kind) #[.agg (workL rb db e s).toArray] H16 _
      have hs17 : St H H16 (resRoot rb K' ks' ++ (.cell db (docA w h next K') 27 :: .cell b7 (docA 0 0 0 .nil) 27 :: .cell wb (workL rb db e s).toArray 106 :: [])) := by
        have h1 := St.del (St.tail hs16) 3
        exact h1.perm (permC fun _ x => by
          show List.count x (.cell wb (workL rb db e s).toArray 106 :: .cell db (docA w h next K') 27 :: .cell b7 (docA 0 0 0 .nil) 27 :: resRoot rb K' ks') = _
          simp only [List.count_append, List.count_cons, List.count_nil]; ac_rfl)
      refine edit_call ⟨by omega, by omega⟩ hs17 (by rw [hlay]; exact hc) hnx hsz ⟨hed.rd, hed.shape, hed.params⟩ (by rw [hlay]; exact hras) (fun H24 hne hs24 => ⟨_, rfl, br_ne (fun _ => ?_) fun hh => absurd hh hne⟩) fun Kn ksn H24 h0 hl hs24 => ⟨_, rfl, br_ne (fun hh => absurd rfl hh) fun _ => ?_⟩
      · rw [hlay] at hne ⊢
        exact bad (by rw [hD, if_pos hne]) hne 0 rfl hs24
      · rw [hlay] at h0 hl
        rw [if_neg (by rw [h0]; simp)] at hD
        obtain ⟨hcell, hs25⟩ := un_root hs24
        have hs26 : St H H24 (.cell wb (workL rb db e s).toArray 106 :: .cell db (docA w h (nextL next e) K') 27 :: .cell b7 (docA 0 0 0 .nil) 27 :: (resG Kn ksn)) := hs25.perm (permC fun _ x => by
          simp only [List.count_append, List.count_cons, List.count_nil]; ac_rfl)
        refine ⟨_, hs26.get 0 rfl (j := 0) rfl, _, rfl, _, _, _, hcell, ?_⟩
        refine hs26.put 1 rfl (j := 3) (Nat.le_of_ble_eq_true rfl) rfl fun H31 hs31 => ⟨docA w h (nextL next e) Kn, rfl, rowIn_whole (hs31.block 1 rfl), rfl, ?_⟩
        refine hs31.putAll 2 rfl rfl (docA_one w h (nextL next e) Kn) fun H33 hs33 => ⟨docA w h (nextL next e) Kn, rfl, rowIn_whole (hs33.block 2 rfl), ?_⟩
        have := hok Kn ksn H33 (by rw [hD]) (by rw [hD]; exact hl) (hs33.drop 3)
        rw [hD] at this
        exact this
    have hb5 : ∀ {H1 : Heap}, Ext H11 H1 → rowIn H1 ⟨b5, 0, none⟩ (edL e s).toArray := fun he => rowAt_ext he (rowIn_whole (hs11.block 2 rfl))
    refine ⟨(edL e s).toArray, rfl, hb5 (Ext.refl _), ?_, ?_⟩
    · refine c38 (hs11.block 0 rfl) fun rb H43 hp43 => ⟨_, rfl, .inl hp43.ext, rfl, by decide, ?_⟩
      have hs43 := hs11.call hp43
      refine hs43.alcE fun b45 H46 he46 hs46 => ⟨.inl he46, rfl, hs46.putAll 0 rfl rfl (workL_one rb db e s) fun H47 hs47 => main12 b45 rb H47 ?_⟩
      have h1 : St H H47 (.cell rb (cellsT (rootT K' [])).toArray 61 :: (resG K' ks' ++ (.cell b45 (workL rb db e s).toArray 106 :: .cell db (docA w h next K') 27 :: .cell b7 (docA 0 0 0 .nil) 27 :: .cell b5 (edL e s).toArray 47 :: []))) := hs47.perm (permC fun _ x => by
        show List.count x (.cell b45 (workL rb db e s).toArray 106 :: .cell rb (cellsT (rootT K' [])).toArray 61 :: .cell db (docA w h next K') 27 :: .cell b7 (docA 0 0 0 .nil) 27 :: .cell b5 (edL e s).toArray 47 :: (resG K' ks')) = _
        simp only [List.count_append, List.count_cons, List.count_nil]; ac_rfl)
      exact (mk_root h1).perm (permC fun _ x => by simp only [List.count_append, List.count_cons, List.count_nil]; ac_rfl)
    · refine hs11.alcE fun b50 H51 he51 hs51 => ⟨.inl he51, ?_⟩
      refine c38 (hs51.block 1 rfl) fun rb H53 hp53 => ⟨_, rfl, .inl hp53.ext, rfl, by decide, rfl, ?_⟩
      have hs53 := hs51.call hp53
      refine hs53.putAll 1 rfl rfl (workL_one rb db e s) fun H55 hs55 => main12 b50 rb H55 ?_
      have h1 : St H H55 (.cell rb (cellsT (rootT K' [])).toArray 61 :: (resG K' ks' ++ (.cell b50 (workL rb db e s).toArray 106 :: .cell db (docA w h next K') 27 :: .cell b7 (docA 0 0 0 .nil) 27 :: .cell b5 (edL e s).toArray 47 :: []))) := hs55.perm (permC fun _ x => by
        show List.count x (.cell rb (cellsT (rootT K' [])).toArray 61 :: .cell b50 (workL rb db e s).toArray 106 :: .cell db (docA w h next K') 27 :: .cell b7 (docA 0 0 0 .nil) 27 :: .cell b5 (edL e s).toArray 47 :: (resG K' ks')) = _
        simp only [List.count_append, List.count_cons, List.count_nil]; ac_rfl)
      exact (mk_root h1).perm (permC fun _ x => by simp only [List.count_append, List.count_cons, List.count_nil]; ac_rfl)
  refine ⟨_, hs8.get 2 rfl (j := 0) rfl, _, hs8.get 2 rfl (j := 1) rfl, _, hs8.get 2 rfl (j := 2) rfl, _, _, _, hs8.get 2 rfl (j := 3) rfl, ?_, ?_⟩
  · refine c37 (K := K) (hg.ext hs8.ext) hokl (by omega) fun K' ks' H63 hlay hp63 => ⟨_, _, _, rfl, .inl hp63.ext, ?_⟩
    have hs63 := hs8.callR hp63
    refine hs63.alcE fun b65 H66 he66 hs66 => ⟨.inl he66, rfl, hs66.putAll 0 rfl rfl (docA_one w h next K') fun H67 hs67 => main9 b65 K' ks' H67 hlay ?_⟩
    exact (St.del hs67 3)
  · refine hs8.alcE fun b74 H75 he75 hs75 => ⟨.inl he75, ?_⟩
    refine c37 (K := K) (hg.ext hs75.ext) hokl (by omega) fun K' ks' H77 hlay hp77 => ⟨_, _, _, rfl, .inl hp77.ext, rfl, ?_⟩
    have hs77 := hs75.callR hp77
    refine hs77.putAll 0 rfl rfl (docA_one w h next K') fun H79 hs79 => main9 b74 K' ks' H79 hlay ?_
    exact (St.del hs79 3)
end Go.Proofs
namespace Go.Proofs
open Go.Sh
structure DocL where
 w : Int
 h : Int
 next : Int
 ks : List Lay
def zeroD : DocL := ⟨0, 0, 0, []⟩
def doD (D : DocL) (e : Ed) : Int × DocL := if (doL D.w D.h D.next D.ks e).1 ≠ 0 then ((doL D.w D.h D.next D.ks e).1, zeroD) else (0, ⟨D.w, D.h, (doL D.w D.h D.next D.ks e).2.1, (doL D.w D.h D.next D.ks e).2.2⟩)
def oneM : M6 := ⟨65536, 0, 0, 65536, 0, 0⟩
structure goodF (w h next : Int) (f : LayF) : Prop where
 id : 1 ≤ f.id ∧ f.id < next
 kind : 0 ≤ f.kind ∧ f.kind ≤ 2
 opacity : 0 ≤ f.opacity ∧ f.opacity ≤ 255
 mode : 0 ≤ f.mode ∧ f.mode ≤ 11
 maskLen : f.mask = [] ∨ (f.mask.length : Int) = w * h
 maskV : ∀ c ∈ f.mask, c = 0 ∨ c = 255
 bare : f.kind ≠ 0 → f.w = 0 ∧ f.h = 0 ∧ f.p = [] ∧ f.map = oneM ∧ f.smooth = false
 plain : f.kind ≠ 2 → f.table = 2 ∧ f.params = []
 adj : f.kind = 2 → f.mode = 0
 ras : f.kind = 0 → sizedB f.w f.h = true ∧ (f.p.length : Int) = f.w * f.h ∧ f.p.all pixelB = true ∧ (backM f.map).1 = 0
 tab : tabB f.table f.params = true
mutual
def gT (G : LayF → Prop) : Lay → Prop
 | .mk f ks => G f ∧ (f.kind = 1 ∨ ks = []) ∧ gKs G ks
def gKs (G : LayF → Prop) : List Lay → Prop
 | [] => True
 | t :: ts => gT G t ∧ gKs G ts
end
mutual
def idsT : Lay → List Int
 | .mk f ks => f.id :: idsKs ks
def idsKs : List Lay → List Int
 | [] => []
 | t :: ts => idsT t ++ idsKs ts
end
structure Inv (D : DocL) : Prop where
 size : sizedB D.w D.h = true
 next : 1 ≤ D.next
 cnt : cntKs D.ks ≤ 4096
 dep : depKs D.ks ≤ 64
 ids : (idsKs D.ks).Nodup
 good : gKs (goodF D.w D.h D.next) D.ks
variable {G : LayF → Prop}
theorem gKs_app {a b : List Lay} : gKs G (a ++ b) ↔ gKs G a ∧ gKs G b := by
 induction a with
 | nil => simp [gKs]
 | cons t a ih => rw [List.cons_append, gKs, ih, gKs, and_assoc]
theorem gKs_iff {ts : List Lay} : gKs G ts ↔ ∀ t ∈ ts, gT G t := by
 induction ts with
 | nil => simp [gKs]
 | cons t ts ih => rw [gKs, ih, List.forall_mem_cons]
theorem gT_imp {G' : LayF → Prop} (h : ∀ f, G f → G' f) : ∀ t, gT G t → gT G' t := Lay.ind fun f ks ih hg => by
 rw [gT] at hg ⊢
 exact ⟨h f hg.1, hg.2.1, gKs_iff.2 fun t ht => ih t ht (gKs_iff.1 hg.2.2 t ht)⟩
theorem gKs_imp {G' : LayF → Prop} (h : ∀ f, G f → G' f) {ts : List Lay} (hg : gKs G ts) : gKs G' ts := gKs_iff.2 fun t ht => gT_imp h t (gKs_iff.1 hg t ht)
def gUp (G : LayF → Prop) : List FrL → Prop
 | [] => True
 | fr :: u => gKs G fr.pre ∧ gKs G fr.post ∧ G fr.f ∧ fr.f.kind = 1 ∧ gUp G u
theorem g_unplug : ∀ {u : List FrL} {ks : List Lay}, gKs G (plugL u ks) → ks ≠ [] → gUp G u ∧ gKs G ks
 | [], ks, h, _ => ⟨trivial, h⟩
 | fr :: u, ks, h, hne => by
  rw [plugL] at h
  obtain ⟨h1, h2⟩ := g_unplug h (by simp)
  rw [gKs_app, gKs, gT] at h2
  refine ⟨⟨h2.1, h2.2.2, h2.2.1.1, ?_, h1⟩, h2.2.1.2.2⟩
  rcases h2.2.1.2.1 with h | h
  ·exact h
  ·exact absurd h hne
theorem g_plug : ∀ {u : List FrL} {ks : List Lay}, gUp G u → gKs G ks → gKs G (plugL u ks)
 | [], ks, _, h => h
 | fr :: u, ks, hu, h => by
  rw [plugL]
  refine g_plug hu.2.2.2.2 ?_
  rw [gKs_app, gKs, gT]
  exact ⟨hu.1, ⟨hu.2.2.1, .inl hu.2.2.2.1, h⟩, hu.2.1⟩
theorem g_node {fr : FrL} {u : List FrL} {ks : List Lay} (h : gKs G (plugL (fr :: u) ks)) : gUp G u ∧ gKs G fr.pre ∧ gT G (.mk fr.f ks) ∧ gKs G fr.post := by
 rw [plugL] at h
 obtain ⟨h1, h2⟩ := g_unplug h (by simp)
 rw [gKs_app, gKs] at h2
 exact ⟨h1, h2.1, h2.2.1, h2.2.2⟩
theorem g_set {fr : FrL} {u : List FrL} {ks : List Lay} (h1 : gUp G u) (h2 : gKs G fr.pre) (h3 : gT G (.mk fr.f ks)) (h4 : gKs G fr.post) : gKs G (plugL (fr :: u) ks) := by
 rw [plugL]
 refine g_plug h1 ?_
 rw [gKs_app, gKs]
 exact ⟨h2, h3, h4⟩
def idsUp : List FrL → List Int
 | [] => []
 | fr :: u => fr.f.id :: (idsKs fr.pre ++ idsKs fr.post ++ idsUp u)
theorem idsKs_app (a b : List Lay) : idsKs (a ++ b) = idsKs a ++ idsKs b := by
 induction a with
 | nil => simp [idsKs]
 | cons t a ih => rw [List.cons_append, idsKs, ih, idsKs, List.append_assoc]
theorem ids_plug : ∀ (u : List FrL) (ks : List Lay), (idsKs (plugL u ks)).Perm (idsKs ks ++ idsUp u)
 | [], ks => by rw [idsUp, List.append_nil]; exact List.Perm.refl _
 | fr :: u, ks => by
  rw [plugL]
  refine (ids_plug u _).trans (List.perm_iff_count.2 fun x => ?_)
  simp only [idsKs_app, idsKs, idsT, idsUp, List.count_append, List.count_cons]
  ac_rfl
def depUp : List FrL → Nat → Nat
 | [], d => d
 | fr :: u, d => depUp u (max (depKs fr.pre) (max (1 + d) (depKs fr.post)))
theorem dep_plug : ∀ (u : List FrL) (ks : List Lay), depKs (plugL u ks) = depUp u (depKs ks)
 | [], ks => rfl
 | fr :: u, ks => by rw [plugL, dep_plug u, depKs_app, depKs, depL, depUp]
theorem depUp_mono : ∀ (u : List FrL) {d d' : Nat}, d ≤ d' → depUp u d ≤ depUp u d'
 | [], d, d', h => h
 | fr :: u, d, d', h => by rw [depUp, depUp]; exact depUp_mono u (by omega)
theorem fl_plug (id : Int) : ∀ (t : Lay) (up : List FrL) (pre post : List Lay) (z : ZL), flT up pre post id t = some z → plugL z.1 z.2 = plugL up (pre ++ t :: post) ∧ ∃ fr u, z.1 = fr :: u ∧ fr.f.id = id := by
 refine Lay.ind fun f ks ih up pre post z hz => ?_
 rw [flT] at hz
 split at hz
 ·rename_i h; cases hz; exact ⟨rfl, _, _, rfl, h⟩
 ·have : ∀ (ts : List Lay), (∀ t ∈ ts, t ∈ ks) → ∀ (u : List FrL) (pre0 : List Lay), flK u pre0 id ts = some z → plugL z.1 z.2 = plugL u (pre0 ++ ts) ∧ ∃ fr u, z.1 = fr :: u ∧ fr.f.id = id := by
   intro ts
   induction ts with
   | nil => intro _ u pre0 h; rw [flK] at h; cases h
   | cons t ts ih2 =>
    intro hm u pre0 h
    rw [flK] at h
    split at h
    ·rename_i z' hz'
     cases h
     exact ih t (hm t List.mem_cons_self) _ _ _ _ hz'
    ·have := ih2 (fun t ht => hm t (List.mem_cons_of_mem _ ht)) _ _ h
     rw [List.append_assoc] at this
     exact this
  exact this ks (fun _ h => h) _ _ hz
theorem flK_plug {id : Int} : ∀ (ts : List Lay) (up : List FrL) (pre : List Lay) (z : ZL), flK up pre id ts = some z → plugL z.1 z.2 = plugL up (pre ++ ts) ∧ ∃ fr u, z.1 = fr :: u ∧ fr.f.id = id
 | [], up, pre, z, h => by rw [flK] at h; cases h
 | t :: ts, up, pre, z, h => by
  rw [flK] at h
  split at h
  ·rename_i z' hz'
   cases h
   exact fl_plug id t _ _ _ _ hz'
  ·have := flK_plug ts _ _ _ h
   rw [List.append_assoc] at this
   exact this
theorem fl_cases (id : Int) (D : List Lay) : flK [] [] id D = none ∨ ∃ fr u ks, flK [] [] id D = some (fr :: u, ks) ∧ fr.f.id = id ∧ plugL (fr :: u) ks = D := by
 cases h : flK [] [] id D with
 | none => exact .inl rfl
 | some z =>
  obtain ⟨h1, fr, u, h2, h3⟩ := flK_plug D _ _ z h
  obtain ⟨z1, z2⟩ := z
  simp only at h2 h1
  subst h2
  exact .inr ⟨fr, u, z2, rfl, h3, h1⟩
theorem Inv.okL {w h next : Int} (hsz : sizedB w h = true) : ∀ t, gT (goodF w h next) t → cntL t ≤ 1000000 → okL t := Lay.ind fun f ks ih hg hc => by
 rw [gT] at hg
 rw [cntL] at hc
 have hlen := len_cnt ks
 obtain ⟨q1, q2, q3, q4, q5⟩ := of_decide_eq_true hsz
 rw [Go.Proofs.okL]
 refine ⟨?_, ?_, ?_, by omega, okKs_iff.2 fun t ht => ih t ht (gKs_iff.1 hg.2.2 t ht) (by have := cnt_mem ht; omega)⟩
 ·by_cases hk : f.kind = 0
  ·obtain ⟨h1, h2, _⟩ := hg.1.ras hk
   obtain ⟨_, _, _, _, h3⟩ := of_decide_eq_true h1
   omega
  ·rw [(hg.1.bare hk).2.2.1]; simp
 ·rcases hg.1.maskLen with h | h
  ·rw [h]; simp
  ·omega
 ·by_cases hk : f.kind = 2
  ·have ht := tabB_kind hg.1.tab
   unfold kindP at ht
   split at ht
   ·have := of_decide_eq_true ht; omega
   ·split at ht
    ·have := of_decide_eq_true ht; omega
    ·split at ht
     ·have := of_decide_eq_true ht; omega
     ·split at ht
      ·have := of_decide_eq_true ht; omega
      ·cases ht
  ·rw [(hg.1.plain hk).2]; simp
theorem Inv.ok {D : DocL} (h : Inv D) : okKs D.ks := okKs_iff.2 fun t ht => Inv.okL h.size t (gKs_iff.1 h.good t ht) (by have := cnt_mem ht; have := h.cnt; omega)
theorem Inv.found {D : DocL} (h : Inv D) {id : Int} {fr : FrL} {u : List FrL} {ks : List Lay} (hf : flK [] [] id D.ks = some (fr :: u, ks)) : goodF D.w D.h D.next fr.f ∧ (fr.f.kind = 1 ∨ ks = []) := by
 have hp := (flK_plug D.ks _ _ _ hf).1
 have hg := h.good
 have hp : plugL (fr :: u) ks = D.ks := hp
 rw [← hp] at hg
 have := (g_node hg).2.2.1
 rw [gT] at this
 exact ⟨this.1, this.2.1⟩
theorem Inv.ras {D : DocL} (h : Inv D) {id : Int} {fr : FrL} {u : List FrL} {ks : List Lay} (hf : flK [] [] id D.ks = some (fr :: u, ks)) : okRas fr.f := fun hk => ⟨((h.found hf).1.ras hk).1, ((h.found hf).1.ras hk).2.1⟩
theorem chg_inv {D : DocL} (h : Inv D) {g : LayF → Int × LayF} {id : Int} (hg : ∀ f, goodF D.w D.h D.next f → (g f).1 = 0 → goodF D.w D.h D.next (g f).2 ∧ (g f).2.id = f.id ∧ (g f).2.kind = f.kind) (h0 : (chgL g D.ks id).1 = 0) : Inv ⟨D.w, D.h, D.next, (chgL g D.ks id).2⟩ := by
 rcases fl_cases id D.ks with hn | ⟨fr, u, ks, hf, hid, hp⟩
 ·rw [chg_none hn] at h0; exact absurd h0 (by decide)
 ·obtain ⟨g1, g2⟩ := h.found hf
  by_cases he : (g fr.f).1 = 0
  ·have hge : g fr.f = (0, (g fr.f).2) := Prod.ext he rfl
   have hc := chg_ok (g := g) hf hge
   obtain ⟨k1, k2, k3⟩ := hg fr.f g1 he
   rw [hc]
   have hgd := h.good
   have hi := h.ids
   have hcn := h.cnt
   have hdp := h.dep
   rw [← hp] at hgd hi hcn hdp
   obtain ⟨u1, u2, u3, u4⟩ := g_node hgd
   rw [gT] at u3
   refine ⟨h.size, h.next, ?_, ?_, ?_, ?_⟩
   ·show cntKs (plugL (⟨fr.pre, (g fr.f).2, fr.post⟩ :: u) ks) ≤ 4096
    rw [cnt_plug] at hcn ⊢; exact hcn
   ·show depKs (plugL (⟨fr.pre, (g fr.f).2, fr.post⟩ :: u) ks) ≤ 64
    rw [dep_plug] at hdp ⊢; exact hdp
   ·refine ((ids_plug _ _).nodup_iff).2 ?_
    have := ((ids_plug _ _).nodup_iff).1 hi
    rw [idsUp] at this ⊢
    rw [k2]; exact this
   ·refine g_set (fr := ⟨fr.pre, (g fr.f).2, fr.post⟩) u1 u2 ?_ u4
    rw [gT]
    exact ⟨k1, by rw [k3]; exact u3.2.1, u3.2.2⟩
  ·have := chg_bad (g := g) hf (show g fr.f = ((g fr.f).1, (g fr.f).2) from rfl) he
   rw [this] at h0; exact absurd h0 he
end Go.Proofs
namespace Go.Proofs
open Go.Sh
theorem look_good {w h next : Int} {e : Ed} {f : LayF} (hg : goodF w h next f) (h0 : (lookF e f).1 = 0) : goodF w h next (lookF e f).2 ∧ (lookF e f).2.id = f.id ∧ (lookF e f).2.kind = f.kind := by
 unfold lookF at h0 ⊢
 split at h0
 ·simp at h0
 ·rename_i c1
  split at h0
  ·simp at h0
  ·rename_i c2
   rw [if_neg c1, if_neg c2]
   refine ⟨⟨hg.id, hg.kind, by show 0 ≤ e.n ∧ e.n ≤ 255; omega, by show 0 ≤ e.m ∧ e.m ≤ 11; omega, hg.maskLen, hg.maskV, hg.bare, hg.plain, fun hk => ?_, hg.ras, hg.tab⟩, rfl, rfl⟩
   show e.m = 0
   exact Decidable.byContradiction fun hm => c2 ⟨hk, hm⟩
theorem hide_good {w h next : Int} {e : Ed} {f : LayF} (hg : goodF w h next f) (h0 : (hideF e f).1 = 0) : goodF w h next (hideF e f).2 ∧ (hideF e f).2.id = f.id ∧ (hideF e f).2.kind = f.kind := by
 unfold hideF at h0 ⊢
 split at h0
 ·simp at h0
 ·rename_i c1
  rw [if_neg c1]
  exact ⟨⟨hg.id, hg.kind, hg.opacity, hg.mode, hg.maskLen, hg.maskV, hg.bare, hg.plain, hg.adj, hg.ras, hg.tab⟩, rfl, rfl⟩
theorem paint_good {w h next : Int} {e : Ed} {f : LayF} (hg : goodF w h next f) (h0 : (paintF e f).1 = 0) : goodF w h next (paintF e f).2 ∧ (paintF e f).2.id = f.id ∧ (paintF e f).2.kind = f.kind := by
 unfold paintF at h0 ⊢
 split at h0
 ·simp at h0
 rename_i c1
 split at h0
 ·simp at h0
 rename_i c2
 split at h0
 ·simp at h0
 rename_i c3
 split at h0
 ·simp at h0
 rename_i c4
 rw [if_neg c1, if_neg c2, if_neg c3, if_neg c4]
 refine ⟨⟨hg.id, hg.kind, hg.opacity, hg.mode, hg.maskLen, hg.maskV, fun hk => absurd hk c1, hg.plain, hg.adj, fun hk => ?_, hg.tab⟩, rfl, rfl⟩
 obtain ⟨r1, r2, r3, r4⟩ := hg.ras hk
 refine ⟨r1, ?_, ?_, r4⟩
 ·show ((paintP e f.w f.p).length : Int) = _
  unfold paintP; rw [List.length_map, List.length_range]; exact r2
 ·show (paintP e f.w f.p).all pixelB = true
  rw [List.all_eq_true]
  intro v hv
  unfold paintP at hv
  obtain ⟨q, hq, rfl⟩ := List.mem_map.1 hv
  have hql := List.mem_range.1 hq
  split
  ·rename_i hin
   have hr := idxP_rng hin
   have hl : (e.p.length : Int) = e.w * e.h := Decidable.byContradiction fun hh => c2 (.inr (.inr (.inr (.inr hh))))
   have hlt : (idxP e f.w q).toNat < e.p.length := by omega
   rw [List.getD_eq_getElem?_getD, List.getElem?_eq_getElem hlt]
   have hc3 : e.p.any (fun v => !pixelB v) = false := by simpa using c3
   have := List.any_eq_false.1 hc3 _ (List.getElem_mem hlt)
   simpa using this
  ·rw [List.getD_eq_getElem?_getD, List.getElem?_eq_getElem hql]
   exact List.all_eq_true.1 r3 _ (List.getElem_mem hql)
theorem mask_good {w h next : Int} (hsz : sizedB w h = true) {e : Ed} {f : LayF} (hg : goodF w h next f) (h0 : (maskF w h e f).1 = 0) : goodF w h next (maskF w h e f).2 ∧ (maskF w h e f).2.id = f.id ∧ (maskF w h e f).2.kind = f.kind := by
 obtain ⟨q1, q2, q3, q4, q5⟩ := of_decide_eq_true hsz
 have hpos : 0 ≤ w * h := Int.mul_nonneg (by omega) (by omega)
 unfold maskF at h0 ⊢
 split at h0
 ·simp at h0
 rename_i c1
 rw [if_neg c1]
 split at h0
 ·rename_i c2
  rw [if_pos c2]
  exact ⟨⟨hg.id, hg.kind, hg.opacity, hg.mode, .inl rfl, fun _ hc => (by cases hc), hg.bare, hg.plain, hg.adj, hg.ras, hg.tab⟩, rfl, rfl⟩
 rename_i c2
 rw [if_neg c2]
 split at h0
 ·simp at h0
 rename_i c3
 rw [if_neg c3]
 refine ⟨⟨hg.id, hg.kind, hg.opacity, hg.mode, .inr ?_, fun c hc => ?_, hg.bare, hg.plain, hg.adj, hg.ras, hg.tab⟩, rfl, rfl⟩
 ·show ((maskL w h (fun x y => withinB e.shape x y != (e.n == 1))).length : Int) = w * h
  unfold maskL; rw [List.length_map, List.length_range]; omega
 ·unfold maskL at hc
  obtain ⟨q, hq, rfl⟩ := List.mem_map.1 hc
  split
  ·exact .inr rfl
  ·exact .inl rfl
theorem place_good {w h next : Int} {e : Ed} {f : LayF} (hg : goodF w h next f) (h0 : (placeF e f).1 = 0) : goodF w h next (placeF e f).2 ∧ (placeF e f).2.id = f.id ∧ (placeF e f).2.kind = f.kind := by
 unfold placeF at h0 ⊢
 split at h0
 ·simp at h0
 rename_i c1
 split at h0
 ·simp at h0
 rename_i c2
 split at h0
 ·rename_i c3; exact absurd h0 c3
 rename_i c3
 rw [if_neg c1, if_neg c2, if_neg c3]
 refine ⟨⟨hg.id, hg.kind, hg.opacity, hg.mode, hg.maskLen, hg.maskV, fun hk => absurd hk c1, hg.plain, hg.adj, fun hk => ?_, hg.tab⟩, rfl, rfl⟩
 obtain ⟨r1, r2, r3, r4⟩ := hg.ras hk
 exact ⟨r1, r2, r3, Decidable.byContradiction c3⟩
theorem adjust_good {w h next : Int} {e : Ed} {f : LayF} (hg : goodF w h next f) (h0 : (adjustF e f).1 = 0) : goodF w h next (adjustF e f).2 ∧ (adjustF e f).2.id = f.id ∧ (adjustF e f).2.kind = f.kind := by
 unfold adjustF at h0 ⊢
 split at h0
 ·simp at h0
 rename_i c1
 split at h0
 ·simp at h0
 rename_i c2
 rw [if_neg c1, if_neg c2]
 exact ⟨⟨hg.id, hg.kind, hg.opacity, hg.mode, hg.maskLen, hg.maskV, hg.bare, fun hk => absurd hk c1, hg.adj, hg.ras, by simpa using c2⟩, rfl, rfl⟩
theorem home_cases (D : List Lay) (to : Int) {v : List FrL} {kh : List Lay} (h : homeL D to = (0, v, kh)) : plugL v kh = D ∧ ∀ {G : LayF → Prop}, gKs G D → gUp G v ∧ gKs G kh := by
 unfold homeL at h
 split at h
 ·cases h; exact ⟨rfl, fun hg => ⟨trivial, hg⟩⟩
 ·rcases fl_cases to D with hn | ⟨fr, u, ks, hf, hid, hp⟩
  ·rw [hn] at h; cases h
  ·rw [hf] at h
   simp only at h
   split at h
   ·rename_i hk
    cases h
    refine ⟨hp, fun {G} hg => ?_⟩
    rw [← hp] at hg
    obtain ⟨u1, u2, u3, u4⟩ := g_node hg
    rw [gT] at u3
    exact ⟨⟨u2, u4, u3.1, hk, u1⟩, u3.2.2⟩
   ·cases h
theorem home_tri {D : List Lay} {to : Int} (h : (homeL D to).1 = 0) : homeL D to = (0, (homeL D to).2.1, (homeL D to).2.2) := by
 rw [← h]
theorem put_ok {v : List FrL} {kh : List Lay} {a : Int} {l : Lay} (h0 : (putL v kh a l).1 = 0) : ∃ i, atL a kh.length = some i ∧ (putL v kh a l).2 = plugL v (kh.take i ++ l :: kh.drop i) ∧ depKs (plugL v (kh.take i ++ l :: kh.drop i)) ≤ 64 := by
 unfold putL at h0 ⊢
 split at h0
 ·simp at h0
 ·rename_i i hi
  refine ⟨i, hi, rfl, ?_⟩
  simp only at h0
  split at h0
  ·simp at h0
  ·omega
theorem put_ids (v : List FrL) (kh : List Lay) (i : Nat) (l : Lay) : (idsKs (plugL v (kh.take i ++ l :: kh.drop i))).Perm (idsT l ++ idsKs (plugL v kh)) := by
 refine (ids_plug _ _).trans ?_
 refine List.Perm.trans ?_ (List.Perm.append_left _ (ids_plug v kh).symm)
 refine List.perm_iff_count.2 fun x => ?_
 have h := idsKs_app (kh.take i) (kh.drop i)
 rw [List.take_append_drop] at h
 rw [h]
 simp only [idsKs_app, idsKs, List.count_append]
 ac_rfl
theorem put_cnt (v : List FrL) (kh : List Lay) (i : Nat) (l : Lay) : cntKs (plugL v (kh.take i ++ l :: kh.drop i)) = cntL l + cntKs (plugL v kh) := by
 rw [cnt_plug, cnt_plug, cntKs_app, cntKs]
 have h := cntKs_app (kh.take i) (kh.drop i)
 rw [List.take_append_drop] at h
 omega
theorem put_g {G : LayF → Prop} {v : List FrL} {kh : List Lay} {i : Nat} {l : Lay} (h1 : gUp G v) (h2 : gKs G kh) (h3 : gT G l) : gKs G (plugL v (kh.take i ++ l :: kh.drop i)) := by
 refine g_plug h1 ?_
 have h := gKs_app (G := G) (a := kh.take i) (b := kh.drop i)
 rw [List.take_append_drop] at h
 rw [gKs_app, gKs]
 exact ⟨(h.1 h2).1, h3, (h.1 h2).2⟩
theorem ids_lt {w h next : Int} : ∀ t, gT (goodF w h next) t → ∀ x ∈ idsT t, 1 ≤ x ∧ x < next := Lay.ind fun f ks ih hg x hx => by
 rw [gT] at hg
 rw [idsT] at hx
 rcases List.mem_cons.1 hx with rfl | hx
 ·exact hg.1.id
 ·have : ∀ (ts : List Lay), (∀ t ∈ ts, t ∈ ks) → x ∈ idsKs ts → 1 ≤ x ∧ x < next := by
   intro ts
   induction ts with
   | nil => intro _ h; cases h
   | cons t ts ih2 =>
    intro hm h
    rw [idsKs, List.mem_append] at h
    rcases h with h | h
    ·exact ih t (hm t List.mem_cons_self) (gKs_iff.1 hg.2.2 t (hm t List.mem_cons_self)) x h
    ·exact ih2 (fun t ht => hm t (List.mem_cons_of_mem _ ht)) h
  exact this ks (fun _ h => h) hx
theorem ids_ltKs {w h next : Int} : ∀ {ts : List Lay}, gKs (goodF w h next) ts → ∀ x ∈ idsKs ts, 1 ≤ x ∧ x < next
 | [], _, x, hx => by cases hx
 | t :: ts, hg, x, hx => by
  rw [gKs] at hg
  rw [idsKs, List.mem_append] at hx
  rcases hx with hx | hx
  ·exact ids_lt t hg.1 x hx
  ·exact ids_ltKs hg.2 x hx
theorem good_next {w h next : Int} {f : LayF} (hg : goodF w h next f) : goodF w h (next + 1) f := ⟨by have := hg.id; omega, hg.kind, hg.opacity, hg.mode, hg.maskLen, hg.maskV, hg.bare, hg.plain, hg.adj, hg.ras, hg.tab⟩
theorem pixel0 : pixelB 0 = true := by decide
theorem new_good {w h next : Int} {e : Ed} (hnx : 1 ≤ next) (h1 : ¬ (e.n < 0 ∨ e.n > 2)) (h2 : ¬ (e.n = 0 ∧ sizedB e.w e.h = false)) : goodF w h (next + 1) (newL next e) := by
 refine ⟨⟨hnx, by show next < next + 1; omega⟩, by show 0 ≤ e.n ∧ e.n ≤ 2; omega, ⟨by show (0 : Int) ≤ 255; decide, by show (255 : Int) ≤ 255; decide⟩, ⟨by show (0 : Int) ≤ 0; decide, by show (0 : Int) ≤ 11; decide⟩, .inl rfl, fun _ hc => (by cases hc), fun hk => ?_, fun _ => ⟨rfl, rfl⟩, fun _ => rfl, fun hk => ?_, by show tabB 2 [] = true; decide⟩
 ·have hk : e.n ≠ 0 := hk
  unfold newL; rw [if_neg hk, if_neg hk, if_neg hk]; exact ⟨rfl, rfl, rfl, rfl, rfl⟩
 ·have hk : e.n = 0 := hk
  have hsz : sizedB e.w e.h = true := by
   cases hs : sizedB e.w e.h with
   | true => rfl
   | false => exact absurd ⟨hk, hs⟩ h2
  obtain ⟨q1, q2, q3, q4, q5⟩ := of_decide_eq_true hsz
  have hpos : 0 ≤ e.w * e.h := Int.mul_nonneg (by omega) (by omega)
  unfold newL
  rw [if_pos hk, if_pos hk, if_pos hk]
  refine ⟨hsz, by rw [List.length_replicate]; exact Int.toNat_of_nonneg hpos, ?_, show (backM oneM).1 = 0 from by decide⟩
  rw [List.all_eq_true]
  intro v hv
  rw [(List.mem_replicate.1 hv).2]
  exact pixel0
theorem add_inv {D : DocL} (h : Inv D) {e : Ed} (h0 : (addL D.next D.ks e).1 = 0) : Inv ⟨D.w, D.h, D.next + 1, (addL D.next D.ks e).2⟩ := by
 unfold addL at h0 ⊢
 split at h0
 ·simp at h0
 rename_i c1
 split at h0
 ·simp at h0
 rename_i c2
 split at h0
 ·rename_i c3; exact absurd h0 c3
 rename_i c3
 split at h0
 ·rename_i c4; exact absurd h0 c4
 rename_i c4
 split at h0
 ·simp at h0
 rename_i c5
 rw [if_neg c1, if_neg c2, if_neg c3, if_neg c4, if_neg c5]
 have hho := home_tri (Decidable.byContradiction c3)
 obtain ⟨hp, hgu⟩ := home_cases D.ks e.to hho
 obtain ⟨i, hi, hpu, hdp⟩ := put_ok (Decidable.byContradiction c4)
 obtain ⟨g1, g2⟩ := hgu (gKs_imp (fun f => good_next) h.good)
 rw [hpu]
 refine ⟨h.size, by have := h.next; show 1 ≤ D.next + 1; omega, ?_, hdp, ?_, ?_⟩
 ·show cntKs (plugL _ _) ≤ 4096
  rw [put_cnt, hp, cntL, cntKs]; omega
 ·refine ((put_ids _ _ i _).nodup_iff).2 ?_
  rw [hp, idsT, idsKs]
  show ((newL D.next e).id :: ([] ++ idsKs D.ks)).Nodup
  rw [List.nil_append, List.nodup_cons]
  exact ⟨fun hm => by
   have h1 := (ids_ltKs h.good _ hm).2
   have h2 : (newL D.next e).id = D.next := rfl
   omega, h.ids⟩
 ·refine put_g g1 g2 ?_
  rw [gT]
  exact ⟨new_good h.next c1 c2, .inr rfl, trivial⟩
theorem out_inv {D : DocL} (h : Inv D) {id : Int} {fr : FrL} {u : List FrL} {ks : List Lay} (hf : flK [] [] id D.ks = some (fr :: u, ks)) :
    Inv ⟨D.w, D.h, D.next, plugL u (fr.pre ++ fr.post)⟩ ∧ gT (goodF D.w D.h D.next) (.mk fr.f ks) ∧ (idsT (.mk fr.f ks) ++ idsKs (plugL u (fr.pre ++ fr.post))).Nodup ∧ cntL (.mk fr.f ks) + cntKs (plugL u (fr.pre ++ fr.post)) = cntKs D.ks := by
  have hp : plugL (fr :: u) ks = D.ks := (flK_plug D.ks _ _ _ hf).1
  have hgd := h.good
  have hi := h.ids
  have hcn := h.cnt
  have hdp := h.dep
  rw [← hp] at hgd hi hcn hdp
  obtain ⟨u1, u2, u3, u4⟩ := g_node hgd
  have hids : (idsKs (plugL (fr :: u) ks)).Perm (idsT (.mk fr.f ks) ++ idsKs (plugL u (fr.pre ++ fr.post))) := by
    refine (ids_plug _ _).trans (List.Perm.trans ?_ (List.Perm.append_left _ (ids_plug u _).symm))
    refine List.perm_iff_count.2 fun x => ?_
    simp only [idsUp, idsT, idsKs_app, List.count_append, List.count_cons]
    ac_rfl
  have hno := (hids.nodup_iff).1 hi
  have hct : cntL (.mk fr.f ks) + cntKs (plugL u (fr.pre ++ fr.post)) = cntKs D.ks := by
    rw [← hp, cnt_plug, cnt_plug, cntUp, cntKs_app, cntL]; omega
  refine ⟨⟨h.size, h.next, by have := h.cnt; show cntKs (plugL u (fr.pre ++ fr.post)) ≤ 4096; omega, ?_, (List.nodup_append.1 hno).2.1, ?_⟩, u3, hno, hct⟩
  · show depKs (plugL u (fr.pre ++ fr.post)) ≤ 64
    rw [dep_plug] at hdp ⊢
    refine Nat.le_trans ?_ hdp
    rw [depUp, depKs_app]
    exact depUp_mono u (by omega)
  · exact g_plug u1 (gKs_app.2 ⟨u2, u4⟩)
theorem move_inv {D : DocL} (h : Inv D) {e : Ed} (h0 : (moveL D.ks e).1 = 0) : Inv ⟨D.w, D.h, D.next, (moveL D.ks e).2⟩ := by
 rcases fl_cases e.id D.ks with hn | ⟨fr, u, ks, hf, hid, hp⟩
 ·unfold moveL at h0; rw [hn] at h0; simp at h0
 ·obtain ⟨o1, o2, o3, o4⟩ := out_inv h hf
  unfold moveL at h0 ⊢
  rw [hf] at h0 ⊢
  simp only at h0 ⊢
  split at h0
  ·rename_i c; exact absurd h0 c
  rename_i c1
  split at h0
  ·simp at h0
  rename_i c2
  split at h0
  ·rename_i c; exact absurd h0 c
  rename_i c3
  rw [if_neg c1, if_neg c2, if_neg c3]
  have hho := home_tri (Decidable.byContradiction c3)
  obtain ⟨hp2, hgu⟩ := home_cases _ e.to hho
  obtain ⟨i, hi, hpu, hdp⟩ := put_ok h0
  obtain ⟨g1, g2⟩ := hgu o1.good
  rw [hpu]
  refine ⟨h.size, h.next, ?_, hdp, ?_, put_g g1 g2 o2⟩
  ·show cntKs (plugL _ _) ≤ 4096
   have := h.cnt
   rw [put_cnt, hp2]; omega
  ·refine ((put_ids _ _ i _).nodup_iff).2 ?_
   rw [hp2]; exact o3
theorem do_inv {D : DocL} (h : Inv D) {e : Ed} (h0 : (doD D e).1 = 0) : Inv (doD D e).2 := by
 unfold doD at h0 ⊢
 by_cases hd : (doL D.w D.h D.next D.ks e).1 ≠ 0
 ·rw [if_pos hd] at h0; exact absurd h0 hd
 rw [if_neg hd]
 unfold doL at hd ⊢
 by_cases hk : e.kind < 1 ∨ e.kind > 9
 ·rw [if_pos hk] at hd; simp at hd
 rw [if_neg hk] at hd ⊢
 by_cases hs : (stepL D.w D.h D.next D.ks e).1 ≠ 0
 ·rw [if_pos hs] at hd; exact absurd hs hd
 rw [if_neg hs]
 have hs := Decidable.byContradiction hs
 show Inv ⟨D.w, D.h, nextL D.next e, (stepL D.w D.h D.next D.ks e).2⟩
 unfold stepL at hs ⊢
 by_cases k1 : e.kind = 1
 ·rw [if_pos k1] at hs ⊢; rw [show nextL D.next e = D.next + 1 from by unfold nextL; rw [if_pos k1]]; exact add_inv h hs
 rw [if_neg k1] at hs ⊢
 rw [show nextL D.next e = D.next from by unfold nextL; rw [if_neg k1]]
 by_cases k2 : e.kind = 2
 ·rw [if_pos k2] at hs ⊢
  rcases fl_cases e.id D.ks with hn | ⟨fr, u, ks, hf, hid, hp⟩
  ·unfold removeL at hs; rw [hn] at hs; simp at hs
  ·have := (out_inv h hf).1
   unfold removeL; rw [hf]; exact this
 rw [if_neg k2] at hs ⊢
 by_cases k3 : e.kind = 3
 ·rw [if_pos k3] at hs ⊢; exact move_inv h hs
 rw [if_neg k3] at hs ⊢
 by_cases k4 : e.kind = 4
 ·rw [if_pos k4] at hs ⊢; exact chg_inv h (fun f => paint_good) hs
 rw [if_neg k4] at hs ⊢
 by_cases k5 : e.kind = 5
 ·rw [if_pos k5] at hs ⊢; exact chg_inv h (fun f => look_good) hs
 rw [if_neg k5] at hs ⊢
 by_cases k6 : e.kind = 6
 ·rw [if_pos k6] at hs ⊢; exact chg_inv h (fun f => hide_good) hs
 rw [if_neg k6] at hs ⊢
 by_cases k7 : e.kind = 7
 ·rw [if_pos k7] at hs ⊢; exact chg_inv h (fun f => mask_good h.size) hs
 rw [if_neg k7] at hs ⊢
 by_cases k8 : e.kind = 8
 ·rw [if_pos k8] at hs ⊢; exact chg_inv h (fun f => place_good) hs
 rw [if_neg k8] at hs ⊢
 by_cases k9 : e.kind = 9
 ·rw [if_pos k9] at hs ⊢; exact chg_inv h (fun f => adjust_good) hs
 ·rw [if_neg k9] at hs; simp at hs
theorem new_inv {w h : Int} (hs : sizedB w h = true) : Inv ⟨w, h, 1, []⟩ := ⟨hs, Int.le_refl _, by simp [cntKs], by simp [depKs], by simp [idsKs], trivial⟩
theorem do_next {D : DocL} {e : Ed} (h0 : (doD D e).1 = 0) : D.next ≤ (doD D e).2.next ∧ (doD D e).2.next ≤ D.next + 1 ∧ (doD D e).2.w = D.w ∧ (doD D e).2.h = D.h := by
 unfold doD at h0 ⊢
 by_cases hd : (doL D.w D.h D.next D.ks e).1 ≠ 0
 ·rw [if_pos hd] at h0; exact absurd h0 hd
 rw [if_neg hd]
 unfold doL at hd ⊢
 by_cases hk : e.kind < 1 ∨ e.kind > 9
 ·rw [if_pos hk] at hd; simp at hd
 rw [if_neg hk] at hd ⊢
 by_cases hs : (stepL D.w D.h D.next D.ks e).1 ≠ 0
 ·rw [if_pos hs] at hd; exact absurd hs hd
 rw [if_neg hs]
 refine ⟨?_, ?_, rfl, rfl⟩ <;> (show _; unfold nextL; split <;> simp <;> omega)
end Go.Proofs
namespace Go.Proofs
open Go.Sh
variable {H0 H : Heap} {σ : List Rs} {R : Value → Heap → Prop}
def DocR (H : Heap) (A : Array Value) (D : DocL) : Prop := ∃ K ks, A = docA D.w D.h D.next K ∧ grp H K ks ∧ layKs ks = D.ks
theorem DocR.ext {H H' : Heap} {A : Array Value} {D : DocL} (h : DocR H A D) (he : Ext H H') : DocR H' A D := let ⟨K, ks, h1, h2, h3⟩ := h; ⟨K, ks, h1, h2.ext he, h3⟩
theorem DocR.size {H : Heap} {A : Array Value} {D : DocL} (h : DocR H A D) : A.size = 4 := by obtain ⟨K, ks, rfl, _⟩ := h; rfl
theorem DocR.one {H : Heap} {A : Array Value} {D : DocL} (h : DocR H A D) : ∀ v ∈ A.toList, v.oneCell' = true := by obtain ⟨K, ks, rfl, _⟩ := h; exact docA_one _ _ _ _
theorem DocR.zero (H : Heap) : DocR H (docA 0 0 0 .nil) zeroD := ⟨.nil, [], rfl, grp.nil H, rfl⟩
theorem DocR.new (H : Heap) (w h : Int) : DocR H (docA w h 1 .nil) ⟨w, h, 1, []⟩ := ⟨.nil, [], rfl, grp.nil H, rfl⟩
theorem c19 {A : Array Value} {D : DocL} (hd : DocR H A D) (hc : cntKs D.ks ≤ 1000000000) (hR : ∀ H', Ext H H' → R (.int .i64 (cntKs D.ks)) H') : CallsH Tryz.prog 19 #[.agg A] H R := by
 obtain ⟨K, ks, rfl, hg, hl⟩ := hd
 refine Tryz.s19 ?_
 unfold Tryz.S19
 refine (St.nil H).alcE fun b2 H3 he3 hs3 => ⟨_, _, _, hs3.get 0 rfl (j := 3) rfl, ?_⟩
 refine c30 (K := K) (hg.ext he3) (by rw [hl]; omega) fun H6 he6 => ⟨_, rfl, ?_⟩
 rw [hl]; exact hR H6 (he3.trans he6)
def zeroF : LayF := ⟨0, 0, false, 0, 0, 0, 0, [], [], ⟨0, 0, 0, 0, 0, 0⟩, false, 0, []⟩
def findL (D : List Lay) (id : Int) : Option Lay :=
 match flK [] [] id D with
 | some (fr :: _, ks) => some (.mk fr.f ks)
 | _ => none
theorem rd_root {K : Sl3} {ks : List T} (hg : grp H K ks) : rdT H (rootT K ks) := by
 unfold rootT
 rw [rdT]
 exact ⟨⟨rfl, fun i v h => by simp [rootF, ints] at h⟩, ⟨rfl, fun i v h => by simp [rootF, kints] at h⟩, ⟨rfl, fun i v h => by simp [rootF, ints] at h⟩, hg⟩
theorem fz_rd (id : Int) : ∀ (t : T) {H : Heap} (up : List Fr) (K : Sl3) (pre post : List T) (z : Z), grp H K (pre ++ t :: post) → fzT up K pre post id t = some z → (∃ fr u, z.1 = fr :: u ∧ ∃ a, fr.ad = some a ∧ rowIn H a (cellsT (fr.node z.2.1 z.2.2)).toArray ∧ rdT H (fr.node z.2.1 z.2.2)) ∧
    (∀ (fp : Fr) (up' : List Fr) (ap : Addr) (Kp : Sl3) (ksp : List T), up = fp :: up' → fp.ad = some ap → rowIn H ap (cellsT (fp.node Kp ksp)).toArray → ∃ fr fq u, z.1 = fr :: fq :: u ∧ ∃ aq Kq ksq, fq.ad = some aq ∧ rowIn H aq (cellsT (fq.node Kq ksq)).toArray) := by
  refine T.ind fun f P M A K' ks ih {H} up K pre post z hg hz => ?_
  obtain ⟨a, h1, h2, h3⟩ := hg.get (i := pre.length) (t := .mk f P M A K' ks) (by rw [List.getElem?_append_right (Nat.le_refl _), Nat.sub_self]; rfl)
  have had : (⟨K, pre, f, P, M, A, post⟩ : Fr).ad = some (a.add (pre.length * 19)) := by unfold Fr.ad; rw [h1]; rfl
  rw [fzT] at hz
  split at hz
  · cases hz
    exact ⟨⟨_, _, rfl, _, had, h2, h3⟩, fun fp up' ap Kp ksp hup hap hrow => ⟨_, fp, up', by rw [hup], ap, Kp, ksp, hap, hrow⟩⟩
  · have : ∀ (ts done : List T), ks = done ++ ts → ∀ (u : List Fr), fzK (⟨K, pre, f, P, M, A, post⟩ :: up) K' done id ts = some z → (∃ fr u, z.1 = fr :: u ∧ ∃ a, fr.ad = some a ∧ rowIn H a (cellsT (fr.node z.2.1 z.2.2)).toArray ∧ rdT H (fr.node z.2.1 z.2.2)) ∧
        ∃ fr fq u, z.1 = fr :: fq :: u ∧ ∃ aq Kq ksq, fq.ad = some aq ∧ rowIn H aq (cellsT (fq.node Kq ksq)).toArray := by
      intro ts
      induction ts with
      | nil => intro done _ u h; rw [fzK] at h; cases h
      | cons t ts ih2 =>
        intro done hd u h
        rw [fzK] at h
        split at h
        · rename_i z' hz'
          cases h
          obtain ⟨g1, g2⟩ := ih t (by rw [hd]; simp) _ _ _ _ _ (by rw [← hd]; exact rdT.grp h3) hz'
          exact ⟨g1, g2 _ _ _ K' ks rfl had h2⟩
        · exact ih2 (done ++ [t]) (by rw [hd]; simp) u h
    obtain ⟨g1, g2⟩ := this ks [] rfl [] hz
    exact ⟨g1, fun _ _ _ _ _ _ _ _ => g2⟩
theorem fzK_rd {id : Int} : ∀ (ts : List T) {H : Heap} (up : List Fr) (K : Sl3) (pre : List T) (z : Z), grp H K (pre ++ ts) → fzK up K pre id ts = some z → (∃ fr u, z.1 = fr :: u ∧ ∃ a, fr.ad = some a ∧ rowIn H a (cellsT (fr.node z.2.1 z.2.2)).toArray ∧ rdT H (fr.node z.2.1 z.2.2)) ∧
    (∀ (fp : Fr) (up' : List Fr) (ap : Addr) (Kp : Sl3) (ksp : List T), up = fp :: up' → fp.ad = some ap → rowIn H ap (cellsT (fp.node Kp ksp)).toArray → ∃ fr fq u, z.1 = fr :: fq :: u ∧ ∃ aq Kq ksq, fq.ad = some aq ∧ rowIn H aq (cellsT (fq.node Kq ksq)).toArray)
  | [], H, up, K, pre, z, _, h => by rw [fzK] at h; cases h
  | t :: ts, H, up, K, pre, z, hg, h => by
    rw [fzK] at h
    split at h
    · rename_i z' hz'
      cases h
      exact fz_rd id t _ _ _ _ _ hg hz'
    · exact fzK_rd ts up K (pre ++ [t]) z (by rw [List.append_assoc]; exact hg) h
theorem root_find {b : Nat} {K : Sl3} {ks : List T} {H1 : Heap} (hg : grp H K ks) (he : Ext H H1) (hb : H1[b]? = some (.cells (cellsT (rootT K [])).toArray 61)) {id : Int} (hc : cntKs (layKs ks) ≤ 1000000000)
    (hR : ∀ H', Ext H1 H' → (∀ z, fzK [rootFr b] K [] id ks = some z → (resZ (some z)).1 ≠ none) →
      R (.tuple #[.pointer (resZ (fzK [rootFr b] K [] id ks)).1, .pointer (resZ (fzK [rootFr b] K [] id ks)).2.1, .int .i64 (resZ (fzK [rootFr b] K [] id ks)).2.2]) H') : CallsH Tryz.prog 51 #[.pointer (some ⟨b, 0, none⟩), .int .i64 id] H1 R :=
  c51 (rootT K ks) (fr := rootFr b) (up := []) (root_ad b) (rowIn_whole hb) (rd_root (hg.ext he)) (by show cntKs (layKs ks) ≤ _; omega) hR
def LayR (H : Heap) (A : Array Value) (l : Lay) : Prop := ∃ t, A = (cellsT t).toArray ∧ rdT H t ∧ layT t = l
theorem LayR.ext {H H' : Heap} {A : Array Value} {l : Lay} (h : LayR H A l) (he : Ext H H') : LayR H' A l := let ⟨t, h1, h2, h3⟩ := h; ⟨t, h1, rdT.ext he t h2, h3⟩
theorem LayR.zero (H : Heap) : LayR H (cellsL zeroF Sl3.nil.v Sl3.nil.v Sl3.nil.v Sl3.nil.v).toArray (.mk zeroF []) := by
 refine ⟨.mk zeroF .nil .nil .nil .nil [], rfl, ?_, rfl⟩
 rw [rdT]
 exact ⟨⟨rfl, fun i v h => by simp [zeroF, ints] at h⟩, ⟨rfl, fun i v h => by simp [zeroF, kints] at h⟩, ⟨rfl, fun i v h => by simp [zeroF, ints] at h⟩, grp.nil H⟩
theorem c31 {A : Array Value} {D : DocL} {id : Int} (hd : DocR H A D) (hc : cntKs D.ks ≤ 1000000000) (hok : okKs D.ks) (hokf : ∀ l, findL D.ks id = some l → okL l)
    (h0 : findL D.ks id = none → ∀ H', Ext H H' → R (.tuple #[.agg (cellsL zeroF Sl3.nil.v Sl3.nil.v Sl3.nil.v Sl3.nil.v).toArray, .bool false]) H')
    (h1 : ∀ l, findL D.ks id = some l → ∀ t' H', layT t' = l → St H H' (resT t' ++ []) → R (.tuple #[.agg (cellsT t').toArray, .bool true]) H') : CallsH Tryz.prog 31 #[.agg A, .int .i64 id] H R := by
  obtain ⟨K, ks, rfl, hg, hl⟩ := hd
  rw [← hl] at hc hok hokf h0 h1
  refine Tryz.s31 ?_
  unfold Tryz.S31
  refine (St.nil H).alc fun b3 H4 hs4 => hs4.alc fun b5 H6 hs6 => ?_
  refine c38 (hs6.block 1 rfl) fun rb H8 hp8 => ⟨_, rfl, ?_⟩
  have he8 := hs6.ext.trans hp8.ext
  refine root_find hg he8 (hp8.block 0 rfl) hc fun H11 he11 hne => ⟨_, _, _, rfl, ?_⟩
  have he := he8.trans he11
  have hs11 := (hs6.step hp8.ext).step he11
  rcases find_cases rb K ks id with ⟨hz, hf⟩ | ⟨fr, u, K', ks', hz, hid, hf⟩
  · rw [hz]
    have hfl : findL (layKs ks) id = none := by unfold findL; rw [hf]
    refine br_t rfl ⟨rfl, hs11.putAll 0 rfl rfl (cellsL_one zeroF .nil .nil .nil .nil) fun H15 hs15 => ⟨(cellsL zeroF Sl3.nil.v Sl3.nil.v Sl3.nil.v Sl3.nil.v).toArray, rfl, rowIn_whole (hs15.block 0 rfl), h0 hfl H15 hs15.ext⟩⟩
  · obtain ⟨⟨fr2, u2, hz2, a2, ha2, hr2, hrd2⟩, _⟩ := fzK_rd ks _ _ _ _ (hg.ext he) hz
    simp only [List.cons.injEq] at hz2
    obtain ⟨rfl, _⟩ := hz2
    have hfl : findL (layKs ks) id = some (layT (fr.node K' ks')) := by unfold findL; rw [hf]; rfl
    have hre : (resZ (fzK [rootFr rb] K [] id ks)).1 = some a2 := by rw [hz, ← ha2]; cases u <;> rfl
    refine br_f (by rw [hre]; rfl) ⟨a2, hre, _, rfl, hr2, ?_⟩
    refine c52 (fr.node K' ks') hrd2 (hokf _ hfl) fun t' H20 hlay hs20 => ⟨_, rfl, by simp [cellsT_len], ?_⟩
    have hs21 := hs11.callR hs20
    refine hs21.putAll 0 rfl (by simp [cellsT_len]) (by simpa using cellsT_one t') fun H22 hs22 => ⟨(cellsT t').toArray, by simp [cellsT_len], rowIn_whole (hs22.block 0 rfl), ?_⟩
    have hd2 : St H H22 (resT t' ++ []) := by rw [List.append_nil]; exact hs22.drop 2
    exact h1 _ hfl t' H22 hlay hd2
end Go.Proofs
namespace Go.Proofs
open Go.Sh
variable {H0 H : Heap} {σ : List Rs} {R : Value → Heap → Prop}
theorem eq_take {α : Type} {xs ys : List α} {k : Nat} {x y : α} (h : xs.take k = ys.take k) (hx : xs[k]? = some x) (hy : ys[k]? = some y) : xs.take (k + 1) = ys.take (k + 1) ↔ x = y := by
 rw [take_succ hx, take_succ hy, h]; simp
theorem M6_l {m n : M6} : m.l = n.l ↔ m = n := by
 cases m; cases n; simp [M6.l]
end Go.Proofs
namespace Go.Proofs
open Go.Sh
variable {H0 H : Heap} {σ : List Rs} {R : Value → Heap → Prop}
def ed0 (kind id to at_ n m x y w h : Int) : Ed := ⟨kind, id, to, at_, n, m, x, y, w, h, [], [], zeroM, []⟩
def es0 : EdS := ⟨.nil, .nil, .nil⟩
theorem ed0_ok (H : Heap) (kind id to at_ n m x y w h : Int) : EdOk H (ed0 kind id to at_ n m x y w h) es0 :=
 ⟨⟨⟨rfl, fun i v h => by simp [ed0, ints] at h⟩, IS2.nil H, ⟨rfl, fun i v h => by simp [ed0, ints] at h⟩⟩, by simp [ed0], by simp [ed0]⟩
end Go.Proofs
namespace Go.Sh
variable {H0 H H' : Heap} {σ τ : List Rs}
def starAll : List Rs → Rs
 | [] => .emp
 | r :: l => .star r (starAll l)
theorem St.addEmp (hs : St H0 H σ) : St H0 H (.emp :: σ) := hs.new (Ext.refl H) (fp := []) rfl (by simp) (by simp)
theorem St.packAll : ∀ (l : List Rs) {σ : List Rs}, St H0 H (l ++ σ) → St H0 H (starAll l :: σ)
 | [], σ, hs => hs.addEmp
 | r :: l, σ, hs => by
  have h1 : St H0 H (l ++ (r :: σ)) := hs.perm List.perm_middle.symm
  exact (St.packAll l h1).swap.cat
theorem St.unpackAll : ∀ (l : List Rs) {σ : List Rs}, St H0 H (starAll l :: σ) → St H0 H (l ++ σ)
 | [], σ, hs => hs.tail
 | r :: l, σ, hs => by
  have h1 : St H0 H (l ++ (r :: σ)) := St.unpackAll l hs.cut.swap
  exact h1.perm List.perm_middle
end Go.Sh
namespace Go.Proofs
open Go.Sh
variable {H0 H : Heap} {σ : List Rs} {R : Value → Heap → Prop}
def docRs (A : Array Value) (D : DocL) : Rs := .ex fun (x : Sl3 × List T) => .pu (A = docA D.w D.h D.next x.1 ∧ layKs x.2 = D.ks) (starAll (resG x.1 x.2))
theorem St_docIn {A : Array Value} {D : DocL} {K : Sl3} {ks : List T} (hA : A = docA D.w D.h D.next K) (hl : layKs ks = D.ks) (hs : St H0 H (resG K ks ++ σ)) : St H0 H (docRs A D :: σ) :=
 St.inex (f := fun (x : Sl3 × List T) => .pu (A = docA D.w D.h D.next x.1 ∧ layKs x.2 = D.ks) (starAll (resG x.1 x.2))) (K, ks) (St.with ⟨hA, hl⟩ (St.packAll _ hs))
theorem St_docOut {A : Array Value} {D : DocL} (hs : St H0 H (docRs A D :: σ)) : ∃ K ks, A = docA D.w D.h D.next K ∧ layKs ks = D.ks ∧ St H0 H (resG K ks ++ σ) := by
 obtain ⟨⟨K, ks⟩, h1⟩ := St.unex hs
 obtain ⟨⟨h2, h3⟩, h4⟩ := St.fact h1
 exact ⟨K, ks, h2, h3, St.unpackAll _ h4⟩
theorem _root_.Go.Sh.St.doc (hs : St H0 H σ) (i : Nat) {A : Array Value} {D : DocL} (hi : σ[i]? = some (docRs A D)) : DocR H A D := by
 obtain ⟨K, ks, h1, h2, h3⟩ := St_docOut (hs.front i hi)
 exact ⟨K, ks, h1, h3.grp, h2⟩
theorem _root_.Go.Sh.St.docNil (hs : St H0 H σ) (w h next : Int) : St H0 H (docRs (docA w h next .nil) ⟨w, h, next, []⟩ :: σ) :=
 St_docIn (K := .nil) (ks := []) rfl rfl (hs.nilSl _ _)
theorem do_gen {A : Array Value} {D : DocL} {e : Ed} {s : EdS} (hs : St H0 H σ) (hd : DocR H A D) (hok : okKs D.ks) (hcn : cntKs D.ks ≤ 1000000000) (hnx : 0 ≤ D.next ∧ D.next ≤ 1000000000000000) (hsz : e.kind = 7 → sizedB D.w D.h = true) (hras : ∀ fr u ks', flK [] [] e.id D.ks = some (fr :: u, ks') → okRas fr.f) (hed : EdOk H e s)
    (hR : ∀ A' H', DocR H' A' (doD D e).2 → St H0 H' (docRs A' (doD D e).2 :: σ) → R (.tuple #[.agg A', .int .i64 (doD D e).1]) H') :
    CallsH Tryz.prog 25 #[.agg A, .agg (edL e s).toArray] H R := by
  obtain ⟨K, ks, rfl, hg, hl⟩ := hd
  rw [← hl] at hok hcn hras
  refine c25 hg hok hcn hnx hsz hed hras (fun H' hne he => ?_) fun K' ks' H' h0 hl' hs' => ?_
  · rw [hl] at hne ⊢
    have e1 : doD D e = ((doL D.w D.h D.next D.ks e).1, zeroD) := by unfold doD; rw [if_pos hne]
    have := hR (docA 0 0 0 .nil) H' (by rw [e1]; exact DocR.zero H') (by rw [e1]; exact (hs.step he).docNil 0 0 0)
    rw [e1] at this; exact this
  · rw [hl] at h0 hl' ⊢
    have e1 : doD D e = (0, ⟨D.w, D.h, (doL D.w D.h D.next D.ks e).2.1, (doL D.w D.h D.next D.ks e).2.2⟩) := by unfold doD; rw [if_neg (by rw [h0]; simp)]
    have hs2 : St H0 H' (docRs (docA D.w D.h (doL D.w D.h D.next D.ks e).2.1 K') ⟨D.w, D.h, (doL D.w D.h D.next D.ks e).2.1, (doL D.w D.h D.next D.ks e).2.2⟩ :: σ) := St_docIn rfl hl' (hs.call hs')
    have := hR (docA D.w D.h (doL D.w D.h D.next D.ks e).2.1 K') H' (by rw [e1]; exact hs2.doc 0 rfl) (by rw [e1]; exact hs2)
    rw [e1] at this; exact this
theorem do_st {A : Array Value} {D : DocL} {e : Ed} {s : EdS} (hs : St H0 H σ) (hd : DocR H A D) (hi : Inv D) (hnx : D.next ≤ 1000000000000000) (hed : EdOk H e s) (hR : ∀ A' H', DocR H' A' (doD D e).2 → St H0 H' (docRs A' (doD D e).2 :: σ) → R (.tuple #[.agg A', .int .i64 (doD D e).1]) H') :
    CallsH Tryz.prog 25 #[.agg A, .agg (edL e s).toArray] H R := by
  have h1 := hi.next
  have h2 := hi.cnt
  exact do_gen hs hd hi.ok (by omega) ⟨by omega, hnx⟩ (fun _ => hi.size) (fun fr u ks' hf => hi.ras hf) hed hR
end Go.Proofs
namespace Go.Proofs
open Go.Sh
variable {H0 H : Heap} {σ : List Rs} {R : Value → Heap → Prop}
def layRs (B : Array Value) (l : Lay) : Rs := .ex fun (t : T) => .pu (B = (cellsT t).toArray ∧ layT t = l) (starAll (resT t))
theorem _root_.Go.Sh.St.lay (hs : St H0 H σ) (i : Nat) {B : Array Value} {l : Lay} (hi : σ[i]? = some (layRs B l)) : LayR H B l := by
 obtain ⟨t, h1⟩ := St.unex (hs.front i hi)
 obtain ⟨⟨h2, h3⟩, h4⟩ := St.fact h1
 exact ⟨t, h2, St.rdT t (St.unpackAll _ h4), h3⟩
theorem LayR.size {H : Heap} {B : Array Value} {l : Lay} (h : LayR H B l) : B.size = 19 := by obtain ⟨t, rfl, _⟩ := h; simp [cellsT_len]
theorem LayR.one {H : Heap} {B : Array Value} {l : Lay} (h : LayR H B l) : ∀ v ∈ B.toList, v.oneCell' = true := by obtain ⟨t, rfl, _⟩ := h; simpa using cellsT_one t
theorem find_st {A : Array Value} {D : DocL} {id : Int} (hs : St H0 H σ) (hd : DocR H A D) (hi : Inv D)
    (h0 : findL D.ks id = none → ∀ H', St H0 H' (layRs (cellsL zeroF Sl3.nil.v Sl3.nil.v Sl3.nil.v Sl3.nil.v).toArray (.mk zeroF []) :: σ) → R (.tuple #[.agg (cellsL zeroF Sl3.nil.v Sl3.nil.v Sl3.nil.v Sl3.nil.v).toArray, .bool false]) H')
    (h1 : ∀ l, findL D.ks id = some l → ∀ B H', LayR H' B l → St H0 H' (layRs B l :: σ) → R (.tuple #[.agg B, .bool true]) H') : CallsH Tryz.prog 31 #[.agg A, .int .i64 id] H R := by
  have hc := hi.cnt
  refine c31 hd (by omega) hi.ok (fun l hl => ?_) (fun hn H' he => h0 hn H' ?_) fun l hl t' H' hlay hst => ?_
  · unfold findL at hl
    rcases fl_cases id D.ks with hn | ⟨fr, u, ks, hf, hid, hp⟩
    · rw [hn] at hl; cases hl
    · rw [hf] at hl
      cases hl
      have hg := hi.good
      rw [← hp] at hg
      refine Inv.okL hi.size _ (g_node hg).2.2.1 ?_
      have : cntKs D.ks = cntUp (fr :: u) + cntKs ks := by rw [← hp, cnt_plug]
      rw [cntL]
      rw [cntUp] at this
      omega
  · refine St.inex (f := fun (t : T) => .pu ((cellsL zeroF Sl3.nil.v Sl3.nil.v Sl3.nil.v Sl3.nil.v).toArray = (cellsT t).toArray ∧ layT t = .mk zeroF []) (starAll (resT t))) (.mk zeroF .nil .nil .nil .nil []) (St.with ⟨rfl, rfl⟩ (St.packAll _ ?_))
    rw [resT_mk]
    exact ((((hs.step he).nilSl 61 19).nilSl 3 1).nilSl 5 1).nilSl 3 1
  · rw [List.append_nil] at hst
    have hs2 : St H0 H' (layRs (cellsT t').toArray l :: σ) := St.inex (f := fun (t : T) => .pu ((cellsT t').toArray = (cellsT t).toArray ∧ layT t = l) (starAll (resT t))) t' (St.with ⟨rfl, hlay⟩ (St.packAll _ (hs.call hst)))
    exact h1 l hl _ H' (hs2.lay 0 rfl) hs2
theorem c21 {w h : Int} (hR : R (.bool (sizedB w h)) H) : CallsH Tryz.prog 21 #[.int .i64 w, .int .i64 h] H R := by
 have bad : ¬ (1 ≤ w ∧ 1 ≤ h ∧ w ≤ 32768 ∧ h ≤ 32768 ∧ w * h ≤ 4194304) → R (.bool false) H := fun hn => by
  rw [show sizedB w h = false from decide_eq_false hn] at hR; exact hR
 refine Tryz.s21 (br_dec (fun h1 => br_dec (fun h2 => br_dec (fun h3 => br_dec (fun h4 => ?_) fun hn => bad (by omega)) fun hn => bad (by omega)) fun hn => bad (by omega)) fun hn => bad (by omega))
 rw [wrap_area h1 h2 h3 h4]
 rw [show sizedB w h = decide (w * h ≤ 4194304) from decide_eq_decide.2 ⟨fun hh => hh.2.2.2.2, fun hh => ⟨h1, h2, h3, h4, hh⟩⟩] at hR
 exact hR
theorem c8 {w h : Int} (hR1 : sizedB w h = true → ∀ H', Ext H H' → R (.tuple #[.agg (docA w h 1 .nil), .int .i64 0]) H') (hR2 : sizedB w h = false → ∀ H', Ext H H' → R (.tuple #[.agg (docA 0 0 0 .nil), .int .i64 31]) H') : CallsH Tryz.prog 8 #[.int .i64 w, .int .i64 h] H R := by
 refine Tryz.s8 ?_
 unfold Tryz.S8
 refine (St.nil H).alc fun b3 H4 hs4 => c21 ⟨_, rfl, br_not (fun hf => ?_) fun ht => ?_⟩
 ·exact ⟨rfl, hs4.putAll 0 rfl rfl (docA_one 0 0 0 .nil) fun H8 hs8 => ⟨docA 0 0 0 .nil, rfl, rowIn_whole (hs8.block 0 rfl), hR2 hf H8 hs8.ext⟩⟩
 ·exact ⟨rfl, hs4.putAll 0 rfl rfl (docA_one w h 1 .nil) fun H8 hs8 => ⟨docA w h 1 .nil, rfl, rowIn_whole (hs8.block 0 rfl), hR1 ht H8 hs8.ext⟩⟩
end Go.Proofs
namespace Go.Proofs
open Go.Sh
structure HL where
 now : DocL
 past : List DocL
 fut : List DocL
def doH (h : HL) (e : Ed) : Int × HL := if (doD h.now e).1 = 0 then (0, ⟨(doD h.now e).2, h.past ++ [h.now], []⟩) else ((doD h.now e).1, h)
def undoH (h : HL) : Int × HL := match h.past.getLast? with
 | none => (44, h)
 | some d => (0, ⟨d, h.past.dropLast, h.fut ++ [h.now]⟩)
def redoH (h : HL) : Int × HL := match h.fut.getLast? with
 | none => (44, h)
 | some d => (0, ⟨d, h.past ++ [h.now], h.fut.dropLast⟩)
def stepH (h : HL) (k : Int) (e : Ed) : Int × HL := if k = 0 then doH h e else if k = 1 then undoH h else if k = 2 then redoH h else (0, h)
theorem undo_snoc {d x : DocL} {p f : List DocL} : undoH ⟨d, p ++ [x], f⟩ = (0, ⟨x, p, f ++ [d]⟩) := by simp [undoH]
theorem redo_snoc {d x : DocL} {p f : List DocL} : redoH ⟨d, p, f ++ [x]⟩ = (0, ⟨x, p ++ [d], f⟩) := by simp [redoH]
theorem snoc_or {α : Type} (l : List α) : l = [] ∨ ∃ p x, l = p ++ [x] := by
 rcases List.eq_nil_or_concat l with h | ⟨p, x, h⟩
 ·exact .inl h
 ·exact .inr ⟨p, x, by simpa using h⟩
structure HOk (n : Nat) (h : HL) : Prop where
 inv : ∀ d, d = h.now ∨ d ∈ h.past ∨ d ∈ h.fut → Inv d ∧ d.next ≤ n + 1
 len : h.past.length + h.fut.length ≤ n
theorem HOk.mono {n m : Nat} {h : HL} (hk : HOk n h) (hm : n ≤ m) : HOk m h := ⟨fun d hd => ⟨(hk.inv d hd).1, by have := (hk.inv d hd).2; omega⟩, by have := hk.len; omega⟩
theorem HOk.now {n : Nat} {h : HL} (hk : HOk n h) : Inv h.now ∧ h.now.next ≤ n + 1 := hk.inv _ (.inl rfl)
theorem HOk.doH {n : Nat} {h : HL} (hk : HOk n h) (e : Ed) : HOk (n + 1) (doH h e).2 := by
 unfold Go.Proofs.doH
 split
 ·rename_i h0
  have hnow := hk.now
  have hnx := do_next h0
  refine ⟨fun d hd => ?_, by have := hk.len; simp only [List.length_append, List.length_cons, List.length_nil]; omega⟩
  simp only [List.mem_append, List.mem_singleton, List.not_mem_nil, or_false] at hd
  rcases hd with rfl | hd | rfl
  ·exact ⟨do_inv hnow.1 h0, by omega⟩
  ·have := hk.inv d (.inr (.inl hd)); exact ⟨this.1, by omega⟩
  ·exact ⟨hnow.1, by omega⟩
 ·exact hk.mono (by omega)
theorem HOk.undoH {n : Nat} {h : HL} (hk : HOk n h) : HOk n (undoH h).2 := by
 obtain ⟨now, past, fut⟩ := h
 rcases snoc_or past with rfl | ⟨p, x, rfl⟩
 ·exact hk
 ·rw [undo_snoc]
  refine ⟨fun d hd => hk.inv d ?_, by have := hk.len; simp only [List.length_append, List.length_cons, List.length_nil] at this ⊢; omega⟩
  simp only [List.mem_append, List.mem_singleton] at hd ⊢
  rcases hd with h | h | h | h <;> simp [h]
theorem HOk.redoH {n : Nat} {h : HL} (hk : HOk n h) : HOk n (redoH h).2 := by
 obtain ⟨now, past, fut⟩ := h
 rcases snoc_or fut with rfl | ⟨p, x, rfl⟩
 ·exact hk
 ·rw [redo_snoc]
  refine ⟨fun d hd => hk.inv d ?_, by have := hk.len; simp only [List.length_append, List.length_cons, List.length_nil] at this ⊢; omega⟩
  simp only [List.mem_append, List.mem_singleton] at hd ⊢
  rcases hd with h | (h | h) | h <;> simp [h]
theorem HOk.stepH {n : Nat} {h : HL} (hk : HOk n h) (k : Int) (e : Ed) : HOk (n + 1) (stepH h k e).2 := by
 unfold Go.Proofs.stepH
 split
 ·exact hk.doH e
 split
 ·exact hk.undoH.mono (by omega)
 split
 ·exact hk.redoH.mono (by omega)
 exact hk.mono (by omega)
theorem HOk.start {w h : Int} (hs : sizedB w h = true) : HOk 0 ⟨⟨w, h, 1, []⟩, [], []⟩ :=
 ⟨fun d hd => by simp at hd; subst hd; exact ⟨new_inv hs, by show (1 : Int) ≤ 0 + 1; omega⟩, by simp⟩
def atH (all : List DocL) (k : Nat) : HL := ⟨all.getD k zeroD, all.take k, (all.drop (k + 1)).reverse⟩
theorem at_split (all : List DocL) {k : Nat} (hk : k < all.length) : ∃ a x b, all = a ++ x :: b ∧ a.length = k :=
 ⟨all.take k, all[k], all.drop (k + 1), by rw [← List.drop_eq_getElem_cons hk, List.take_append_drop], by simp; omega⟩
theorem at_app (a b : List DocL) (x : DocL) : atH (a ++ x :: b) a.length = ⟨x, a, b.reverse⟩ := by
 unfold atH
 simp [List.getD_eq_getElem?_getD]
theorem at_len (all : List DocL) (k : Nat) (hk : k < all.length) : (atH all k).past.length = k ∧ (atH all k).fut.length = all.length - 1 - k := by
 unfold atH; simp; omega
end Go.Proofs
namespace Go.Sh
variable {H0 H H' : Heap} {σ τ : List Rs}
def Rs.pers (Q : Heap → Prop) : Rs where
 at_ H fp := (∀ b ∈ fp, b < H.size) ∧ ∀ H', (∀ b ∈ fp, ∀ o, H[b]? = some o → H'[b]? = some o) → Q H'
 loc := fun {H H' fp} h hk => ⟨fun b hb => by
  have hlt := h.1 b hb
  exact lt_of_get (hk b hb _ (Array.getElem?_eq_getElem hlt)), fun H'' hk2 => h.2 H'' fun b hb o ho => hk2 b hb o (hk b hb o ho)⟩
 has h := h.1
theorem St.persGet (hs : St H0 H σ) (i : Nat) {Q : Heap → Prop} (hi : σ[i]? = some (.pers Q)) : Q H := by
 obtain ⟨_, fps, hl, _⟩ := hs
 obtain ⟨fp, _, h⟩ := hl.get hi
 exact h.2 H fun b _ o ho => ho
theorem St.persIn {τ : List Rs} {Q : Heap → Prop} (hs : St H0 H (τ ++ σ)) (hq : ∀ H' fps, Lie H' τ fps → Q H') : St H0 H (.pers Q :: σ) := by
 obtain ⟨he, fps, hl, hn, hb⟩ := hs
 obtain ⟨a, b, rfl, h1, h2⟩ := hl.split
 refine ⟨he, a.flatten :: b, ⟨⟨h1.has, fun H' hk => hq H' a (h1.loc hk)⟩, h2⟩, by simpa using hn, fun x hx => hb x (by simpa using hx)⟩
theorem Ext.empty (H : Heap) : Ext #[] H := fun b o h => by simp at h
theorem St.persOf {Q : Heap → Prop} (hs : St H0 H (τ ++ σ)) (hq : ∀ H', St #[] H' τ → Q H') : St H0 H (.pers Q :: σ) := by
 obtain ⟨he, fps, hl, hn, hb⟩ := hs
 obtain ⟨a, b, rfl, h1, h2⟩ := hl.split
 have hna : a.flatten.Nodup := by rw [List.flatten_append, List.nodup_append] at hn; exact hn.1
 refine ⟨he, a.flatten :: b, ⟨⟨h1.has, fun H' hk => hq H' ⟨Ext.empty H', a, h1.loc hk, hna, fun x _ => Nat.zero_le x⟩⟩, h2⟩, by simpa using hn, fun x hx => hb x (by simpa using hx)⟩
end Go.Sh
namespace Go.Sh
variable {H0 H H' : Heap} {σ τ : List Rs}
theorem St.slTake (hs : St H0 H σ) (i : Nat) {p : Option Addr} {l c k n : Nat} {el : TypeId} {fs : List Value} (hi : σ[i]? = some (.sl p l c el k fs)) (hn : n ≤ l) : St H0 H (σ.set i (.sl p n c el k (fs.take (n * k)))) :=
 hs.as i hi fun fp h => by
  obtain ⟨h1, h2⟩ := h
  have hlen := h1.len
  have hle := h1.le
  have hnk : n * k ≤ l * k := Nat.mul_le_mul_right k hn
  refine ⟨⟨by rw [List.length_take]; omega, by omega, fun v hv => h1.one v (List.mem_of_mem_take hv), ?_⟩, h2⟩
  rcases h1.at_ with h | ⟨blk, cs, a1, a2, a3, a4, a5⟩
  ·exact .inl h
  ·refine .inr ⟨blk, cs, a1, a2, a3, a4, fun j v hv => ?_⟩
   rw [List.getElem?_take] at hv
   split at hv
   ·exact a5 j v hv
   ·cases hv
theorem St.idx (hs : St H0 H σ) {r : Rs} (h : r ∈ σ) : ∃ i : Nat, σ[i]? = some r := List.getElem?_of_mem h
end Go.Sh
namespace Go.Proofs
open Go.Sh
variable {H0 H : Heap} {σ : List Rs} {R : Value → Heap → Prop}
abbrev PD := Sl3 × DocL
def arrP (x : PD) : Array Value := docA x.2.w x.2.h x.2.next x.1
def cellsP (l : List PD) : List Value := (l.map fun x => (arrP x).toList).flatten
def DocK (H : Heap) (x : PD) : Prop := DocR H (arrP x) x.2
theorem arrP_size (x : PD) : (arrP x).size = 4 := rfl
theorem arrP_one (x : PD) : ∀ v ∈ (arrP x).toList, v.oneCell' = true := docA_one _ _ _ _
theorem cellsP_app (a b : List PD) : cellsP (a ++ b) = cellsP a ++ cellsP b := by simp [cellsP]
theorem cellsP_one (x : PD) : cellsP [x] = (arrP x).toList := by simp [cellsP]
theorem cellsP_cons (x : PD) (l : List PD) : cellsP (x :: l) = (arrP x).toList ++ cellsP l := by simp [cellsP]
theorem cellsP_len : ∀ l : List PD, (cellsP l).length = l.length * 4
 | [] => rfl
 | x :: l => by rw [cellsP_cons, List.length_append, cellsP_len l, List.length_cons, Array.length_toList, arrP_size]; omega
theorem cellsP_take (a b : List PD) : (cellsP (a ++ b)).take (a.length * 4) = cellsP a := by
 rw [cellsP_app, ← cellsP_len, List.take_left']
 rfl
theorem cellsP_get {l : List PD} {i : Nat} {x : PD} (h : l[i]? = some x) {j : Nat} {v : Value} (hv : (arrP x)[j]? = some v) : (cellsP l)[i * 4 + j]? = some v := by
 have hj : j < 4 := (Array.getElem?_eq_some_iff.1 hv).1
 induction l generalizing i with
 | nil => simp at h
 | cons y l ih =>
  rw [cellsP_cons]
  cases i with
  | zero =>
   simp at h; subst h
   rw [Nat.zero_mul, Nat.zero_add, List.getElem?_append_left (by rw [Array.length_toList]; exact hj)]; simpa using hv
  | succ i =>
   rw [List.getElem?_append_right (by rw [Array.length_toList, arrP_size]; omega), Array.length_toList, arrP_size, show (i + 1) * 4 + j - 4 = i * 4 + j from by omega]
   exact ih (by simpa using h)
theorem DocK.ext {H H' : Heap} {x : PD} (h : DocK H x) (he : Ext H H') : DocK H' x := DocR.ext h he
structure PdsR (H : Heap) (P : Sl3) (l : List PD) : Prop where
 rs : RS H P.p P.l 27 4 (cellsP l)
 doc : ∀ x ∈ l, DocK H x
theorem PdsR.ext {H H' : Heap} {P : Sl3} {l : List PD} (h : PdsR H P l) (he : Ext H H') : PdsR H' P l := ⟨h.rs.ext he, fun x hx => (h.doc x hx).ext he⟩
theorem PdsR.len {H : Heap} {P : Sl3} {l : List PD} (h : PdsR H P l) : P.l = l.length := by have := h.rs.len; rw [cellsP_len] at this; omega
theorem pds_row {H : Heap} {P : Sl3} {l : List PD} (h : RS H P.p P.l 27 4 (cellsP l)) {i : Nat} {x : PD} (hx : l[i]? = some x) : ∃ a, P.p = some a ∧ rowIn H (a.add (i * 4)) (arrP x) := by
 have hi := (List.getElem?_eq_some_iff.1 hx).1
 have hl : P.l = l.length := by have := h.len; rw [cellsP_len] at this; omega
 obtain ⟨blk, h1, h2⟩ := h.row (i := i) (by omega) (by decide) (xs := arrP x) fun j v hv => cellsP_get hx hv
 refine ⟨_, h1, ?_⟩
 rw [add_none, Nat.zero_add]
 exact h2
theorem PdsR.row {H : Heap} {P : Sl3} {l : List PD} (h : PdsR H P l) {i : Nat} {x : PD} (hx : l[i]? = some x) : ∃ a, P.p = some a ∧ rowIn H (a.add (i * 4)) (arrP x) ∧ DocK H x :=
 let ⟨a, h1, h2⟩ := pds_row h.rs hx; ⟨a, h1, h2, h.doc x (List.mem_of_getElem? hx)⟩
theorem docR_arr {H : Heap} {A : Array Value} {D : DocL} (h : DocR H A D) : ∃ K, A = arrP (K, D) := let ⟨K, _, h1, _⟩ := h; ⟨K, h1⟩
def pdRs (l : List PD) : Rs := .pers fun H => ∀ x ∈ l, DocK H x
theorem _root_.Go.Sh.St.pd (hs : St H0 H σ) (i : Nat) {l : List PD} (hi : σ[i]? = some (pdRs l)) {x : PD} (hx : x ∈ l) : DocK H x := hs.persGet i hi x hx
theorem _root_.Go.Sh.St.pdSub {l l' : List PD} (hs : St H0 H (pdRs l :: σ)) (h : ∀ x ∈ l', x ∈ l) : St H0 H (pdRs l' :: σ) :=
 St.persOf (τ := [pdRs l]) hs fun H' h' x hx => h'.pd 0 rfl (h x hx)
theorem _root_.Go.Sh.St.pdAdd {A : Array Value} {x : PD} {l : List PD} (hs : St H0 H (docRs A x.2 :: pdRs l :: σ)) (hA : A = arrP x) : St H0 H (pdRs (x :: l) :: σ) :=
 St.persOf (τ := [docRs A x.2, pdRs l]) hs fun H' h' y hy => by
  rcases List.mem_cons.1 hy with rfl | hy
  ·have := h'.doc 0 rfl
   rw [hA] at this
   exact this
  ·exact h'.pd 1 rfl hy
def docsRs (P : Sl3) (ds : List DocL) : Rs := .ex fun (l : List PD) => .pu (l.map Prod.snd = ds) (starAll (.sl P.p P.l P.c 27 4 (cellsP l) :: l.map fun x => docRs (arrP x) x.2))
theorem St_docsIn {P : Sl3} {l : List PD} {ds : List DocL} (hl : l.map Prod.snd = ds) (hs : St H0 H ((.sl P.p P.l P.c 27 4 (cellsP l) :: l.map fun x => docRs (arrP x) x.2) ++ σ)) : St H0 H (docsRs P ds :: σ) :=
 St.inex (f := fun (l : List PD) => .pu (l.map Prod.snd = ds) (starAll (.sl P.p P.l P.c 27 4 (cellsP l) :: l.map fun x => docRs (arrP x) x.2))) l (St.with hl (St.packAll _ hs))
theorem St_docsOut {P : Sl3} {ds : List DocL} (hs : St H0 H (docsRs P ds :: σ)) : ∃ l : List PD, l.map Prod.snd = ds ∧ St H0 H ((.sl P.p P.l P.c 27 4 (cellsP l) :: l.map fun x => docRs (arrP x) x.2) ++ σ) := by
 obtain ⟨l, h1⟩ := St.unex hs
 obtain ⟨h2, h3⟩ := St.fact h1
 exact ⟨l, h2, St.unpackAll _ h3⟩
theorem docs_all {H : Heap} {l : List PD} {τ : List Rs} (hs : St H0 H τ) (hsub : ∀ x ∈ l, docRs (arrP x) x.2 ∈ τ) : ∀ x ∈ l, DocK H x := fun x hx => by
 obtain ⟨i, hi⟩ := hs.idx (hsub x hx)
 exact hs.doc i hi
theorem _root_.Go.Sh.St.docs (hs : St H0 H σ) (i : Nat) {P : Sl3} {ds : List DocL} (hi : σ[i]? = some (docsRs P ds)) : ∃ l : List PD, l.map Prod.snd = ds ∧ PdsR H P l := by
 obtain ⟨l, h1, h2⟩ := St_docsOut (hs.front i hi)
 exact ⟨l, h1, h2.rs 0 rfl, docs_all h2 fun x hx => List.mem_append_left _ (List.mem_cons_of_mem _ (List.mem_map_of_mem hx))⟩
structure HM where
 now : PD
 P : Sl3
 F : Sl3
 past : List PD
 fut : List PD
def HM.abs (m : HM) : HL := ⟨m.now.2, m.past.map Prod.snd, m.fut.map Prod.snd⟩
def histA (x : PD) (P F : Sl3) : Array Value := #[.int .i64 x.2.w, .int .i64 x.2.h, .int .i64 x.2.next, x.1.v, P.v, F.v]
theorem histA_one (x : PD) (P F : Sl3) : ∀ v ∈ (histA x P F).toList, v.oneCell' = true := by
 show ∀ v ∈ [Value.int .i64 x.2.w, .int .i64 x.2.h, .int .i64 x.2.next, x.1.v, P.v, F.v], v.oneCell' = true
 simp only [List.forall_mem_cons]
 exact ⟨rfl, rfl, rfl, rfl, rfl, rfl, fun _ h => by cases h⟩
def HM.list (m : HM) (b : Nat) : List Rs := [.cell b (histA m.now m.P m.F) 75, .sl m.P.p m.P.l m.P.c 27 4 (cellsP m.past), .sl m.F.p m.F.l m.F.c 27 4 (cellsP m.fut), pdRs (m.now :: (m.past ++ m.fut))]
def histRs (b : Nat) (h : HL) : Rs := .ex fun (m : HM) => .pu (m.abs = h) (starAll (m.list b))
theorem St_histIn {b : Nat} (m : HM) {h : HL} (hm : m.abs = h) (hs : St H0 H (m.list b ++ σ)) : St H0 H (histRs b h :: σ) :=
 St.inex (f := fun (m : HM) => .pu (m.abs = h) (starAll (m.list b))) m (St.with hm (St.packAll _ hs))
theorem St_histOut {b : Nat} {h : HL} (hs : St H0 H (histRs b h :: σ)) : ∃ m : HM, m.abs = h ∧ St H0 H (m.list b ++ σ) := by
 obtain ⟨m, h1⟩ := St.unex hs
 obtain ⟨h2, h3⟩ := St.fact h1
 exact ⟨m, h2, St.unpackAll _ h3⟩
structure StR (H : Heap) (A : Array Value) (h : HL) : Prop where
 ex : ∃ (m : HM), m.abs = h ∧ A = histA m.now m.P m.F ∧ DocK H m.now ∧ PdsR H m.P m.past ∧ PdsR H m.F m.fut
theorem StR.ext {H H' : Heap} {A : Array Value} {h : HL} (hs : StR H A h) (he : Ext H H') : StR H' A h := by
 obtain ⟨m, h1, h2, h3, h4, h5⟩ := hs.ex
 exact ⟨m, h1, h2, h3.ext he, h4.ext he, h5.ext he⟩
end Go.Proofs
namespace Go.Proofs
open Go.Sh
structure Rw where
 f : LayF
 to : Int
 deriving DecidableEq
mutual
def flatT (to : Int) : Lay → List Rw
 | .mk f ks => ⟨f, to⟩ :: flatKs f.id ks
def flatKs (to : Int) : List Lay → List Rw
 | [] => []
 | t :: ts => flatT to t ++ flatKs to ts
end
def ofG (to : Int) (L : List Rw) : List Rw := L.filter fun r => decide (r.to = to)
def Rel (D : List Lay) (L : List Rw) : Prop := ∀ to, ofG to L = ofG to (flatKs 0 D)
theorem ofG_app (to : Int) (a b : List Rw) : ofG to (a ++ b) = ofG to a ++ ofG to b := List.filter_append _ _
theorem ofG_nil {to : Int} {L : List Rw} (h : ∀ r ∈ L, r.to ≠ to) : ofG to L = [] := List.filter_eq_nil_iff.2 fun r hr => by simpa using h r hr
theorem ofG_cons_eq {to : Int} {r : Rw} (h : r.to = to) (L : List Rw) : ofG to (r :: L) = r :: ofG to L := by unfold ofG; rw [List.filter_cons, if_pos (by simpa using h)]
theorem ofG_cons_ne {to : Int} {r : Rw} (h : r.to ≠ to) (L : List Rw) : ofG to (r :: L) = ofG to L := by unfold ofG; rw [List.filter_cons, if_neg (by simpa using h)]
theorem ofG_mem {to : Int} {L : List Rw} {r : Rw} : r ∈ ofG to L ↔ r ∈ L ∧ r.to = to := by unfold ofG; rw [List.mem_filter]; simp
theorem flatKs_app (to : Int) (a b : List Lay) : flatKs to (a ++ b) = flatKs to a ++ flatKs to b := by
 induction a with
 | nil => rfl
 | cons t a ih => rw [List.cons_append, flatKs, ih, flatKs, List.append_assoc]
theorem flatKs_cons (to : Int) (f : LayF) (ks ts : List Lay) : flatKs to (.mk f ks :: ts) = ⟨f, to⟩ :: (flatKs f.id ks ++ flatKs to ts) := by rw [flatKs, flatT]; rfl
theorem idsKs_cons (f : LayF) (ks ts : List Lay) : idsKs (.mk f ks :: ts) = f.id :: (idsKs ks ++ idsKs ts) := by rw [idsKs, idsT]; rfl
def idsR (L : List Rw) : List Int := L.map fun r => r.f.id
theorem idsR_app (a b : List Rw) : idsR (a ++ b) = idsR a ++ idsR b := List.map_append
theorem flat_ids : ∀ t to, idsR (flatT to t) = idsT t := Lay.ind fun f ks ih to => by
 rw [flatT, idsT, idsR, List.map_cons]
 have : ∀ (ts : List Lay), (∀ t ∈ ts, t ∈ ks) → ∀ g, idsR (flatKs g ts) = idsKs ts := by
  intro ts
  induction ts with
  | nil => intro _ g; rfl
  | cons t ts ih2 => intro hm g; rw [flatKs, idsKs, idsR_app, ih t (hm t List.mem_cons_self), ih2 fun t ht => hm t (List.mem_cons_of_mem _ ht)]
 rw [show List.map (fun r => r.f.id) (flatKs f.id ks) = idsKs ks from this ks (fun _ h => h) f.id]
theorem flatKs_ids : ∀ (ts : List Lay) (to : Int), idsR (flatKs to ts) = idsKs ts
 | [], to => rfl
 | t :: ts, to => by rw [flatKs, idsKs, idsR_app, flat_ids, flatKs_ids ts]
theorem to_memT : ∀ t g, ∀ x ∈ flatT g t, x.to = g ∨ x.to ∈ idsT t := Lay.ind fun f ks ih g x hx => by
 rw [flatT] at hx
 rw [idsT]
 rcases List.mem_cons.1 hx with rfl | hx
 ·exact .inl rfl
 ·have : ∀ (ts : List Lay), (∀ t ∈ ts, t ∈ ks) → ∀ x ∈ flatKs f.id ts, x.to = f.id ∨ x.to ∈ idsKs ts := by
   intro ts
   induction ts with
   | nil => intro _ x hx; cases hx
   | cons t ts ih2 =>
    intro hm x hx
    rw [flatKs] at hx
    rw [idsKs]
    rcases List.mem_append.1 hx with hx | hx
    ·exact (ih t (hm t List.mem_cons_self) _ x hx).imp id fun h => List.mem_append_left _ h
    ·exact (ih2 (fun t ht => hm t (List.mem_cons_of_mem _ ht)) x hx).imp id fun h => List.mem_append_right _ h
  rcases this ks (fun _ h => h) x hx with h | h
  ·exact .inr (h ▸ List.mem_cons_self)
  ·exact .inr (List.mem_cons_of_mem _ h)
theorem to_mem : ∀ {ts : List Lay} {g : Int}, ∀ x ∈ flatKs g ts, x.to = g ∨ x.to ∈ idsKs ts
 | [], g, x, hx => by cases hx
 | t :: ts, g, x, hx => by
  rw [flatKs] at hx
  rw [idsKs]
  rcases List.mem_append.1 hx with hx | hx
  ·exact (to_memT t g x hx).imp id fun h => List.mem_append_left _ h
  ·exact (to_mem x hx).imp id fun h => List.mem_append_right _ h
theorem ofG_other {to g : Int} {ks : List Lay} (h : to ≠ g) (hn : to ∉ idsKs ks) : ofG to (flatKs g ks) = [] :=
 ofG_nil fun r hr he => (to_mem r hr).elim (fun h2 => h (he ▸ h2)) fun h2 => hn (he ▸ h2)
def rowG (g : Int) (t : Lay) : Rw := ⟨t.f, g⟩
theorem ofG_own {g : Int} : ∀ {ks : List Lay}, g ∉ idsKs ks → ofG g (flatKs g ks) = ks.map (rowG g)
 | [], _ => rfl
 | .mk f ks :: ts, hn => by
  rw [idsKs_cons] at hn
  simp only [List.mem_cons, List.mem_append, not_or] at hn
  rw [flatKs_cons, ofG_cons_eq (r := ⟨f, g⟩) rfl, ofG_app, ofG_other (fun h => hn.1 h) hn.2.1, ofG_own hn.2.2]
  rfl
theorem ofG_hole {g g0 : Int} {pre post ks : List Lay} {f : LayF} (h1 : g ∉ idsKs pre) (h2 : g ∉ idsKs post) (h0 : g ≠ g0) : ofG g (flatKs g0 (pre ++ .mk f ks :: post)) = ofG g (flatKs f.id ks) := by
 rw [flatKs_app, ofG_app, ofG_other h0 h1, flatKs_cons, ofG_cons_ne (fun h => h0 h.symm), ofG_app, ofG_other h0 h2, List.nil_append, List.append_nil]
def gid : List FrL → Int
 | [] => 0
 | fr :: _ => fr.f.id
def preV : List FrL → List Rw
 | [] => []
 | fr :: u => preV u ++ (flatKs (gid u) fr.pre ++ [⟨fr.f, gid u⟩])
def postV : List FrL → List Rw
 | [] => []
 | fr :: u => flatKs (gid u) fr.post ++ postV u
theorem flat_plug : ∀ (v : List FrL) (kh : List Lay), flatKs 0 (plugL v kh) = preV v ++ (flatKs (gid v) kh ++ postV v)
 | [], kh => by simp [plugL, preV, postV, gid]
 | fr :: u, kh => by
  rw [plugL, flat_plug u, flatKs_app, flatKs_cons, preV, postV, gid]
  simp
theorem gid_up : ∀ (u : List FrL), gid u = 0 ∨ gid u ∈ idsUp u
 | [] => .inl rfl
 | fr :: u => .inr (by rw [idsUp, gid]; simp)
theorem ofG_up {g : Int} (h0 : g ≠ 0) : ∀ (u : List FrL) (ks : List Lay), g ∉ idsUp u → ofG g (flatKs 0 (plugL u ks)) = ofG g (flatKs (gid u) ks)
 | [], ks, _ => rfl
 | fr :: u, ks, hn => by
  rw [idsUp] at hn
  simp only [List.mem_cons, List.mem_append, not_or] at hn
  rw [plugL, ofG_up h0 u _ (by simp_all), ofG_hole (by simp_all) (by simp_all) fun h => ?_]
  ·rfl
  ·rcases gid_up u with h2 | h2
   ·exact h0 (h.trans h2)
   ·rw [← h] at h2; simp_all
structure Ids (D : List Lay) : Prop where
 nodup : (idsKs D).Nodup
 pos : ∀ x ∈ idsKs D, x ≠ 0
theorem Inv.ids' {D : DocL} (h : Inv D) : Ids D.ks := ⟨h.ids, fun x hx => by have := ids_ltKs h.good x hx; omega⟩
theorem Ids.split {fr : FrL} {u : List FrL} {ks : List Lay} (h : Ids (plugL (fr :: u) ks)) : fr.f.id ≠ 0 ∧ fr.f.id ∉ idsKs ks ∧ fr.f.id ∉ idsUp u ∧ fr.f.id ∉ idsKs fr.pre ∧ fr.f.id ∉ idsKs fr.post ∧ (∀ x ∈ idsKs ks, x ≠ 0 ∧ x ∉ idsUp (fr :: u)) := by
 have hp := ids_plug (fr :: u) ks
 have hn := (hp.nodup_iff).1 h.nodup
 have hz : ∀ x, x ∈ idsKs ks ++ idsUp (fr :: u) → x ≠ 0 := fun x hx => h.pos x (hp.mem_iff.2 hx)
 rw [List.nodup_append] at hn
 have hu := hn.2.1
 have e2 : (idsUp (fr :: u)).Perm (fr.f.id :: (idsKs fr.pre ++ idsKs fr.post ++ idsUp u)) := by rw [idsUp]
 have hu2 := (e2.nodup_iff).1 hu
 rw [List.nodup_cons] at hu2
 have hm := hu2.1
 simp only [List.mem_append, not_or] at hm
 have hfm : fr.f.id ∈ idsUp (fr :: u) := e2.mem_iff.2 List.mem_cons_self
 exact ⟨hz _ (List.mem_append_right _ hfm), fun hk => hn.2.2 _ hk _ hfm rfl, hm.2, hm.1.1, hm.1.2, fun x hx => ⟨hz x (List.mem_append_left _ hx), fun hxu => hn.2.2 _ hx _ hxu rfl⟩⟩
theorem ofG_at {v : List FrL} {kh : List Lay} (h : Ids (plugL v kh)) : ofG (gid v) (flatKs 0 (plugL v kh)) = kh.map (rowG (gid v)) := by
 cases v with
 | nil => exact ofG_own fun hm => h.pos 0 hm rfl
 | cons fr u =>
  obtain ⟨h0, h1, h2, h3, h4, _⟩ := h.split
  rw [plugL, show gid (fr :: u) = fr.f.id from rfl, ofG_up h0 u _ h2, ofG_hole h3 h4]
  ·exact ofG_own h1
  ·rcases gid_up u with h5 | h5
   ·rw [h5]; exact h0
   ·intro he; rw [← he] at h5; exact h2 h5
theorem ofG_off {to : Int} {v : List FrL} {kh kh' : List Lay} (h : ofG to (flatKs (gid v) kh) = ofG to (flatKs (gid v) kh')) : ofG to (flatKs 0 (plugL v kh)) = ofG to (flatKs 0 (plugL v kh')) := by
 rw [flat_plug, flat_plug, ofG_app, ofG_app, ofG_app, ofG_app, h]
theorem Rel.perm {D : List Lay} {L : List Rw} (h : Rel D L) : L.Perm (flatKs 0 D) := List.perm_iff_count.2 fun x => by
 have hc : ∀ M : List Rw, M.count x = (ofG x.to M).count x := fun M => by unfold ofG; rw [List.count_filter (by simp)]
 rw [hc, hc (flatKs 0 D), h]
theorem Rel.mem {D : List Lay} {L : List Rw} (h : Rel D L) {x : Rw} : x ∈ L ↔ x ∈ flatKs 0 D := h.perm.mem_iff
theorem Rel.ids {D : List Lay} {L : List Rw} (h : Rel D L) : (idsR L).Perm (idsKs D) := by
 rw [← flatKs_ids D 0]; exact h.perm.map _
theorem Rel.nodup {D : List Lay} {L : List Rw} (h : Rel D L) (hi : Ids D) : (idsR L).Nodup := (h.ids.nodup_iff).2 hi.nodup
theorem Rel.len {D : List Lay} {L : List Rw} (h : Rel D L) : L.length = cntKs D := by
 rw [h.perm.length_eq]
 have : ∀ t g, (flatT g t).length = cntL t := Lay.ind fun f ks ih g => by
  rw [flatT, cntL, List.length_cons]
  have : ∀ (ts : List Lay), (∀ t ∈ ts, t ∈ ks) → (flatKs f.id ts).length = cntKs ts := by
   intro ts
   induction ts with
   | nil => intro _; rfl
   | cons t ts ih2 => intro hm; rw [flatKs, cntKs, List.length_append, ih t (hm t List.mem_cons_self), ih2 fun t ht => hm t (List.mem_cons_of_mem _ ht)]
  rw [this ks fun _ h => h]; omega
 have h2 : ∀ (ts : List Lay) (g : Int), (flatKs g ts).length = cntKs ts := by
  intro ts
  induction ts with
  | nil => intro g; rfl
  | cons t ts ih => intro g; rw [flatKs, cntKs, List.length_append, this, ih]
 exact h2 D 0
theorem ids_inj {L : List Rw} (hn : (idsR L).Nodup) : ∀ {x y : Rw}, x ∈ L → y ∈ L → x.f.id = y.f.id → x = y := by
 induction L with
 | nil => intro x y hx; cases hx
 | cons a L ih =>
  intro x y hx hy he
  rw [idsR, List.map_cons, List.nodup_cons] at hn
  rcases List.mem_cons.1 hx with hx | hx <;> rcases List.mem_cons.1 hy with hy | hy
  ·rw [hx, hy]
  ·exact absurd (List.mem_map.2 ⟨y, hy, by rw [← he, hx]⟩) hn.1
  ·exact absurd (List.mem_map.2 ⟨x, hx, by rw [he, hy]⟩) hn.1
  ·exact ih hn.2 hx hy he
theorem at_mem {fr : FrL} {u : List FrL} {ks : List Lay} : (⟨fr.f, gid u⟩ : Rw) ∈ flatKs 0 (plugL (fr :: u) ks) := by
 rw [flat_plug, preV]; simp
theorem fl_none (id : Int) : ∀ (t : Lay) (up : List FrL) (pre post : List Lay), (flT up pre post id t = none ↔ id ∉ idsT t) := by
 refine Lay.ind fun f ks ih up pre post => ?_
 rw [flT, idsT]
 by_cases hf : f.id = id
 ·rw [if_pos hf]; simp [hf]
 ·rw [if_neg hf]
  have : ∀ (ts : List Lay), (∀ t ∈ ts, t ∈ ks) → ∀ (u : List FrL) (pre0 : List Lay), (flK u pre0 id ts = none ↔ id ∉ idsKs ts) := by
   intro ts
   induction ts with
   | nil => intro _ u pre0; rw [flK, idsKs]; simp
   | cons t ts ih2 =>
    intro hm u pre0
    have h1 := ih t (hm t List.mem_cons_self) u pre0 ts
    have h2 := ih2 (fun t ht => hm t (List.mem_cons_of_mem _ ht)) u (pre0 ++ [t])
    rw [flK, idsKs, List.mem_append, not_or, ← h1, ← h2]
    cases flT u pre0 ts id t with
    | none => simp
    | some z => simp
  rw [this ks (fun _ h => h), List.mem_cons, not_or]
  exact ⟨fun h => ⟨fun h2 => hf h2.symm, h⟩, fun h => h.2⟩
theorem flK_none {id : Int} : ∀ (ts : List Lay) (u : List FrL) (pre0 : List Lay), (flK u pre0 id ts = none ↔ id ∉ idsKs ts)
 | [], u, pre0 => by rw [flK, idsKs]; simp
 | t :: ts, u, pre0 => by
  have h1 := fl_none id t u pre0 ts
  have h2 := flK_none (id := id) ts u (pre0 ++ [t])
  rw [flK, idsKs, List.mem_append, not_or, ← h1, ← h2]
  cases flT u pre0 ts id t with
  | none => simp
  | some z => simp
inductive Path (L : List Rw) : Int → List Int → Prop
 | nil : Path L 0 []
 | cons {r : Rw} {l : List Int} : r ∈ L → r.f.id ≠ 0 → Path L r.to l → Path L r.f.id (r.f.id :: l)
theorem Path.zero {L : List Rw} {l : List Int} (h : Path L 0 l) : l = [] := by
 generalize hz : (0 : Int) = z at h
 cases h with
 | nil => rfl
 | cons _ h1 _ => exact absurd hz.symm h1
theorem Path.uniq {L : List Rw} (hn : (idsR L).Nodup) {id : Int} {l : List Int} (h : Path L id l) : ∀ {l'}, Path L id l' → l = l' := by
 induction h with
 | nil => intro l' h'; exact h'.zero.symm
 | @cons r l hr h0 _ ih =>
  intro l' h'
  generalize hz : r.f.id = z at h'
  cases h' with
  | nil => exact absurd hz h0
  | @cons r' l2 hr' _ h2 => have e := ids_inj hn hr hr' hz; subst e; rw [ih h2]
def idsV (v : List FrL) : List Int := v.map fun fr => fr.f.id
theorem path_at {D : List Lay} {L : List Rw} (hr : Rel D L) (hi : Ids D) : ∀ (v : List FrL) (kh : List Lay), plugL v kh = D → Path L (gid v) (idsV v)
 | [], kh, _ => .nil
 | fr :: u, kh, h => by
  have h1 : (⟨fr.f, gid u⟩ : Rw) ∈ L := hr.mem.2 (h ▸ at_mem)
  refine Path.cons (r := ⟨fr.f, gid u⟩) h1 ?_ (path_at hr hi u _ h)
  subst h
  exact hi.split.1
theorem path_allT {L : List Rw} : ∀ t g c, (∀ x ∈ flatT g t, x ∈ L ∧ x.f.id ≠ 0) → Path L g c → (∀ x ∈ flatT g t, ∃ c', Path L x.f.id c' ∧ c.length < c'.length ∧ c'.length ≤ c.length + depL t) ∧ ∃ x ∈ flatT g t, ∃ c', Path L x.f.id c' ∧ c'.length = c.length + depL t := by
 refine Lay.ind fun f ks ih g c hm hp => ?_
 rw [flatT] at hm ⊢
 rw [depL]
 obtain ⟨h1, h2⟩ := hm ⟨f, g⟩ List.mem_cons_self
 have hp1 : Path L f.id (f.id :: c) := Path.cons (r := ⟨f, g⟩) h1 h2 hp
 have : ∀ (ts : List Lay), (∀ t ∈ ts, t ∈ ks) → (∀ x ∈ flatKs f.id ts, x ∈ L ∧ x.f.id ≠ 0) → (∀ x ∈ flatKs f.id ts, ∃ c', Path L x.f.id c' ∧ c.length + 1 < c'.length ∧ c'.length ≤ c.length + 1 + depKs ts) ∧ (ts = [] ∨ ∃ x ∈ flatKs f.id ts, ∃ c', Path L x.f.id c' ∧ c'.length = c.length + 1 + depKs ts) := by
  intro ts
  induction ts with
  | nil => intro _ _; exact ⟨fun x hx => (by cases hx), .inl rfl⟩
  | cons t ts ih2 =>
   intro hk hm2
   rw [flatKs] at hm2 ⊢
   rw [depKs]
   obtain ⟨a1, x1, a2, c1, a3, a4⟩ := ih t (hk t List.mem_cons_self) f.id (f.id :: c) (fun x hx => hm2 x (List.mem_append_left _ hx)) hp1
   obtain ⟨b1, b2⟩ := ih2 (fun t ht => hk t (List.mem_cons_of_mem _ ht)) fun x hx => hm2 x (List.mem_append_right _ hx)
   rw [List.length_cons] at a1 a4
   refine ⟨fun x hx => ?_, .inr ?_⟩
   ·rcases List.mem_append.1 hx with hx | hx
    ·obtain ⟨c', q1, q2, q3⟩ := a1 x hx; exact ⟨c', q1, q2, by omega⟩
    ·obtain ⟨c', q1, q2, q3⟩ := b1 x hx; exact ⟨c', q1, q2, by omega⟩
   ·rcases Nat.lt_or_ge (depL t) (depKs ts) with hlt | hge
    ·rcases b2 with rfl | ⟨x, hx, c', q1, q2⟩
     ·rw [depKs] at hlt; omega
     ·exact ⟨x, List.mem_append_right _ hx, c', q1, by omega⟩
    ·exact ⟨x1, List.mem_append_left _ a2, c1, a3, by omega⟩
 obtain ⟨b1, b2⟩ := this ks (fun _ h => h) fun x hx => hm x (List.mem_cons_of_mem _ hx)
 refine ⟨fun x hx => ?_, ?_⟩
 ·rcases List.mem_cons.1 hx with rfl | hx
  ·exact ⟨_, hp1, by simp, by rw [List.length_cons]; omega⟩
  ·obtain ⟨c', q1, q2, q3⟩ := b1 x hx; exact ⟨c', q1, by omega, by omega⟩
 ·rcases b2 with rfl | ⟨x, hx, c', q1, q2⟩
  ·exact ⟨_, List.mem_cons_self, _, hp1, by simp [depKs]⟩
  ·exact ⟨x, List.mem_cons_of_mem _ hx, c', q1, by omega⟩
theorem path_ks {L : List Rw} {g : Int} {c : List Int} (hp : Path L g c) : ∀ ts : List Lay, (∀ x ∈ flatKs g ts, x ∈ L ∧ x.f.id ≠ 0) → (∀ x ∈ flatKs g ts, ∃ c', Path L x.f.id c' ∧ c.length < c'.length ∧ c'.length ≤ c.length + depKs ts) ∧ (ts = [] ∨ ∃ x ∈ flatKs g ts, ∃ c', Path L x.f.id c' ∧ c'.length = c.length + depKs ts)
 | [], _ => ⟨fun x hx => (by cases hx), .inl rfl⟩
 | t :: ts, hm => by
  rw [flatKs] at hm ⊢
  rw [depKs]
  obtain ⟨a1, x1, a2, c1, a3, a4⟩ := path_allT t g c (fun x hx => hm x (List.mem_append_left _ hx)) hp
  obtain ⟨b1, b2⟩ := path_ks hp ts fun x hx => hm x (List.mem_append_right _ hx)
  refine ⟨fun x hx => ?_, .inr ?_⟩
  ·rcases List.mem_append.1 hx with hx | hx
   ·obtain ⟨c', q1, q2, q3⟩ := a1 x hx; exact ⟨c', q1, q2, by omega⟩
   ·obtain ⟨c', q1, q2, q3⟩ := b1 x hx; exact ⟨c', q1, q2, by omega⟩
  ·rcases Nat.lt_or_ge (depL t) (depKs ts) with hlt | hge
   ·rcases b2 with rfl | ⟨x, hx, c', q1, q2⟩
    ·rw [depKs] at hlt; omega
    ·exact ⟨x, List.mem_append_right _ hx, c', q1, by omega⟩
   ·exact ⟨x1, List.mem_append_left _ a2, c1, a3, by omega⟩
end Go.Proofs
namespace Go.Proofs
open Go.Sh
variable {H0 H : Heap} {σ : List Rs} {R : Value → Heap → Prop}
theorem fl_skipH {id : Int} : ∀ (A B : List Lay) (up : List FrL) (pre : List Lay), id ∉ idsKs A → flK up pre id (A ++ B) = flK up (pre ++ A) id B
 | [], B, up, pre, _ => by rw [List.nil_append, List.append_nil]
 | t :: A, B, up, pre, h => by
  rw [idsKs, List.mem_append, not_or] at h
  rw [List.cons_append, flK, (fl_none id t up pre (A ++ B)).2 h.1]
  simp only
  rw [fl_skipH A B up (pre ++ [t]) h.2, List.append_assoc]; rfl
theorem find_top {D : DocL} (hi : Inv D) {l : Lay} (hl : l ∈ D.ks) : findL D.ks l.f.id = some l := by
 obtain ⟨pre, post, he⟩ := List.append_of_mem hl
 have hn := hi.ids
 rw [he, idsKs_app, List.nodup_append] at hn
 obtain ⟨f, ks⟩ := l
 have h1 : f.id ∉ idsKs pre := fun h => hn.2.2 _ h f.id (by rw [idsKs, idsT]; exact List.mem_append_left _ List.mem_cons_self) rfl
 unfold findL
 show (match flK [] [] f.id D.ks with | some (fr :: _, ks) => some (Lay.mk fr.f ks) | _ => none) = _
 rw [he, fl_skipH _ _ _ _ h1, flK, flT, if_pos rfl]
theorem perm4 {α : Type} (a b c d : α) : [a, b, c, d].Perm [b, d, c, a] := permC fun _ x => by simp only [List.count_cons, List.count_nil]; ac_rfl
theorem c22 {A : Array Value} {D : DocL} (hs : St H0 H σ) (hd : DocR H A D) (hi : Inv D) (hR : ∀ A' H', DocR H' A' D → St H0 H' (docRs A' D :: σ) → R (.agg A') H') : CallsH Tryz.prog 22 #[.agg A] H R := by
 have hd0 := hd
 obtain ⟨K, ks, rfl, hg, hlk⟩ := hd
 have hlen : ks.length ≤ 1000000000 := by have h1 := len_cnt D.ks; have := hi.cnt; rw [← hlk, layKs_len] at h1; rw [← hlk] at this; omega
 have hKl := hg.1.1
 refine Tryz.s22 ?_
 unfold Tryz.S22
 refine (St.nil H).alc fun b2 H3 hs3 => hs3.alc fun b4 H5 hs5 => ⟨_, hs5.get 1 rfl (j := 0) rfl, _, hs5.get 1 rfl (j := 1) rfl, _, hs5.get 1 rfl (j := 2) rfl, hs5.alc fun b9 H10 hs10 => ⟨rfl, hs10.putAll 0 rfl rfl (docA_one D.w D.h D.next .nil) fun H11 hs11 => ⟨K.p, K.l, K.c, hs11.get 2 rfl (j := 3) rfl, ?_⟩⟩⟩
 intro X13 hX13
 have go : ∀ k, k ≤ ks.length → ∀ (K' : Sl3) (built : List T) H1, layKs built = D.ks.take k → St H H1 (.cell b9 (docA D.w D.h D.next K') 27 :: .cell b2 (docA D.w D.h D.next K) 27 :: .cell b4 (docA 0 0 0 .nil) 27 :: resG K' built) → X13 [.int .i64 (k : Nat)] H1 := by
  refine upto fun k hk ih K' built H1 hb hs1 => hX13 _ _ (br_dec (fun hlt => ?_) fun hge => ?_)
  ·have hk' : k < ks.length := by omega
   have ht := List.getElem?_eq_getElem hk'
   generalize hte : ks[k] = t at ht
   obtain ⟨a, h1, h2, h3⟩ := (hg.ext hs1.ext).get ht
   have hmem : layT t ∈ D.ks := by rw [← hlk, layKs_map]; exact List.mem_map_of_mem (List.mem_of_getElem? ht)
   refine ⟨a, h1, by omega, hlt, (cellsT t).toArray, by simp [cellsT_len], h2, hs1.alc fun b18 H19 hs19 => ⟨by simp [cellsT_len], hs19.putAll 0 rfl (by simp [cellsT_len]) (by simpa using cellsT_one t) fun H20 hs20 => ⟨_, rfl, rowIn_whole (hs20.block 2 rfl), t.f.id, ?_, ?_⟩⟩⟩
   ·have := hs20.get 0 rfl (j := 0) (v := .int .i64 t.f.id) (by cases t; rfl)
    simpa using this
   refine find_st hs20 (hd0.ext hs20.ext) hi (fun hn => ?_) fun l hl B H24 hB hs24 => ⟨_, _, rfl, ?_⟩
   ·rw [← layT_f, find_top hi hmem] at hn; cases hn
   obtain rfl : l = layT t := by rw [← layT_f, find_top hi hmem] at hl; cases hl; rfl
   obtain ⟨t', hx1⟩ := St.unex hs24
   obtain ⟨⟨rfl, hlt'⟩, hx2⟩ := St.fact hx1
   have hs24 := St.unpackAll _ hx2
   have hs24 := hs24.perm List.perm_append_comm
   refine hs24.alc fun b27 H28 hs28 => ⟨by simp [cellsT_len], hs28.putAll 0 rfl (by simp [cellsT_len]) (by simpa using cellsT_one t') fun H29 hs29 => ⟨K'.p, K'.l, K'.c, hs29.get 2 rfl (j := 3) rfl, _, by simp [cellsT_len], rowIn_whole (hs29.block 0 rfl), by simp [cellsT_len], by decide, ?_⟩⟩
   rw [setL_all (by simp [cellsT_len])]
   have hbl : built.length = k := by rw [← layKs_len, hb, List.length_take, ← hlk, layKs_len]; omega
   have hK'l : K'.l = k := by have := (hs29.fs 5 rfl).len; rw [cellsKs_len] at this; omega
   refine hs29.alc fun b32 H33 hs33 => hs33.appC 6 0 rfl rfl (by simp [cellsT_len]) (by simpa using cellsT_one t') (by decide) rfl (by omega) (by omega) fun p' c' H35 hs35 => ?_
   refine hs35.put 3 rfl (j := 3) (Nat.le_of_ble_eq_true rfl) rfl fun H36 hs36 => ?_
   rw [wrap_id (by omega) (by omega)]
   refine ih hk' ⟨p', K'.l + 1, c'⟩ (built ++ [t']) H36 ?_ ?_
   ·rw [layKs_app, hb, List.take_add_one]
    have : D.ks[k]? = some (layT t) := by rw [← hlk, layKs_map, List.getElem?_map, ht]; rfl
    rw [this, ← hlt', layKs_map]; rfl
   ·have e : (cellsT t').toArray.toList = cellsKs [t'] := by rw [cellsKs_one]
    rw [show cellsKs built ++ (cellsT t').toArray.toList = cellsKs (built ++ [t']) from by rw [cellsKs_app, e]] at hs36
    have this : St H H36 (.cell b9 (docA D.w D.h D.next ⟨p', K'.l + 1, c'⟩) 27 :: .cell b2 (docA D.w D.h D.next K) 27 :: .cell b4 (docA 0 0 0 .nil) 27 :: .sl p' (K'.l + 1) c' 61 19 (cellsKs (built ++ [t'])) :: (resKs built ++ resT t')) := hs36.drop 3
    rw [← resKs_one, ← resKs_app] at this
    exact this
  ·obtain rfl : k = ks.length := by omega
   have hfull : layKs built = D.ks := by rw [hb, List.take_of_length_le (by rw [← hlk, layKs_len]; exact Nat.le_refl _)]
   refine ⟨_, rfl, rowIn_whole (hs1.block 0 rfl), rfl, hs1.putAll 2 rfl rfl (docA_one _ _ _ _) fun H38 hs38 => ⟨_, rfl, rowIn_whole (hs38.block 2 rfl), ?_⟩⟩
   have hf := St_docIn (H0 := H0) (σ := σ) rfl hfull (by have := hs.call (hs38.drop 3); exact this)
   exact hR _ _ (hf.doc 0 rfl) hf
 have hs12 : St H H11 [.cell b9 (docA D.w D.h D.next .nil) 27, .cell b4 (docA 0 0 0 .nil) 27, .cell b2 (docA D.w D.h D.next K) 27] := hs11
 exact go 0 (Nat.zero_le _) .nil [] H11 rfl ((hs12.nilSl 61 19).perm (perm4 _ _ _ _))
end Go.Proofs
namespace Go.Proofs
open Go.Sh
variable {H0 H : Heap} {σ : List Rs} {R : Value → Heap → Prop}
theorem elemD {A : Array Value} (h : A.size = 4) : (List.toArray (setL [Value.int .i64 0, .int .i64 0, .int .i64 0, .slice none 0 0] 0 A.toList)) = A := by
 rw [setL_all (by simpa using h)]
theorem c28 {P : Sl3} {l : List PD} (hs : St H0 H σ) (hp : PdsR H P l) (hi : ∀ x ∈ l, Inv x.2) (hl : l.length ≤ 1000000000) (hR : ∀ (Q : Sl3) H', Q.l = l.length → St H0 H' (docsRs Q (l.map Prod.snd) :: σ) → R Q.v H') : CallsH Tryz.prog 28 #[P.v] H R := by
 show CallsH Tryz.prog 28 #[.slice P.p P.l P.c] H R
 refine Tryz.s28 ?_
 unfold Tryz.S28
 intro X hX
 have hPl := hp.len
 have go : ∀ k, k ≤ l.length → ∀ p c (built : List PD) H1, built.map Prod.snd = (l.take k).map Prod.snd → St H H1 (.sl p k c 27 4 (cellsP built) :: built.map fun x => docRs (arrP x) x.2) → X [.slice p k c, .int .i64 (k : Nat)] H1 := by
  refine upto fun k hk ih p c built H1 hb hs1 => hX _ _ _ _ _ (br_dec (fun hlt => ?_) fun hge => ?_)
  ·have hk' : k < l.length := by omega
   have hx := List.getElem?_eq_getElem hk'
   generalize l[k] = x at hx
   obtain ⟨a, h1, h2, h3⟩ := (hp.ext hs1.ext).row hx
   refine ⟨a, h1, by omega, hlt, arrP x, arrP_size x, h2, hs1.alc fun b8 H9 hs9 => ⟨arrP_size x, hs9.putAll 0 rfl (arrP_size x) (arrP_one x) fun H10 hs10 => ⟨_, arrP_size x, rowIn_whole (hs10.block 0 rfl), ?_⟩⟩⟩
   have hx3 : DocK H x := hp.doc x (List.mem_of_getElem? hx)
   refine c22 hs10 (DocK.ext hx3 hs10.ext) (hi x (List.mem_of_getElem? hx)) fun A' H13 hd hs13 => ⟨_, rfl, hd.size, by decide, ?_⟩
   rw [elemD hd.size]
   obtain ⟨K', hK'⟩ := docR_arr hd
   refine hs13.alc fun b15 H16 hs16 => ?_
   refine hs16.appC 3 0 rfl rfl hd.size hd.one (by decide) rfl (by omega) (by omega) fun p' c' H18 hs18 => ?_
   rw [wrap_id (by omega) (by omega)]
   refine ih hk' p' c' (built ++ [(K', x.2)]) H18 ?_ ?_
   ·rw [List.map_append, hb, List.take_add_one, hx, List.map_append]; rfl
   ·have h18 : St H H18 (.cell b15 A' 27 :: docRs A' x.2 :: .cell b8 (arrP x) 27 :: .sl p' (k + 1) c' 27 4 (cellsP built ++ A'.toList) :: built.map fun x => docRs (arrP x) x.2) := hs18
    have h19 := h18.tail.swap.tail.swap
    have e : cellsP built ++ A'.toList = cellsP (built ++ [(K', x.2)]) := by rw [cellsP_app, cellsP_one, hK']
    rw [e] at h19
    refine h19.perm ?_
    rw [List.map_append, hK']
    exact List.Perm.cons _ (List.perm_append_comm (l₁ := [docRs (arrP (K', x.2)) x.2]))
  ·obtain rfl : k = l.length := by omega
   rw [List.take_of_length_le (Nat.le_refl _)] at hb
   exact hR ⟨p, l.length, c⟩ H1 rfl (St_docsIn hb (hs.call hs1))
 exact go 0 (Nat.zero_le _) none 0 [] H rfl ((St.nil H).nilSl _ _)
theorem _root_.Go.Sh.St.pdOne {x : PD} (hs : St H0 H (docRs (arrP x) x.2 :: σ)) : St H0 H (pdRs [x] :: σ) :=
 St.persOf (τ := [docRs (arrP x) x.2]) hs fun H' h' y hy => by
  rw [List.mem_singleton] at hy; subst hy
  exact h'.doc 0 rfl
theorem hist_begin {b : Nat} {x : PD} (hs : St H0 H (.cell b (histA x .nil .nil) 75 :: docRs (arrP x) x.2 :: σ)) : St H0 H (histRs b ⟨x.2, [], []⟩ :: σ) := by
 have h1 := hs.swap.pdOne
 refine St_histIn ⟨x, .nil, .nil, [], []⟩ rfl ?_
 have h2 := (h1.nilSl 27 4).nilSl 27 4
 exact h2.perm (List.Perm.trans (permC (a := [_, _, _, _]) (b := [_, _, _, _]) fun _ y => by simp only [List.count_cons, List.count_nil]; ac_rfl) (List.Perm.refl _) |>.append_right σ)
theorem c9 {A : Array Value} {D : DocL} (hs : St H0 H σ) (hd : DocR H A D) (hi : Inv D) (hR : ∀ b H', St H0 H' (histRs b ⟨D, [], []⟩ :: σ) → R (.pointer (some ⟨b, 0, none⟩)) H') : CallsH Tryz.prog 9 #[.agg A] H R := by
 refine Tryz.s9 ?_
 unfold Tryz.S9
 refine hs.alcE fun b2 H3 he3 hs3 => ⟨A, hd.size, rowIn_whole (hs3.block 0 rfl), c22 hs3 (hd.ext he3) hi fun A' H6 hd' hs6 => ⟨_, rfl, hd'.size, by decide, ?_⟩⟩
 obtain ⟨K', rfl⟩ := docR_arr hd'
 refine hs6.alc fun b8 H9 hs9 => hR b8 H9 ?_
 have h9 : St H0 H9 (.cell b8 (histA (K', D) .nil .nil) 75 :: docRs (arrP (K', D)) D :: .cell b2 A 27 :: σ) := hs9
 exact hist_begin (h9.del 2)
end Go.Proofs
