/-
  OWN WORK. Several texts in one: TrT, TrU, TrV, TtA, TtB, TrW, TrX, TrY, TrZ, TsBegun, TtC, TsRight, TsRigB, TtR.
-/
import Derived.Test.YtnoebcjpbbccnaaMgTreeRightD

/-
  OWN WORK. Do: an edit of a document.
-/
set_option linter.unusedVariables false
set_option linter.unusedSimpArgs false
set_option maxRecDepth 10000
namespace Go.Proofs
open Go.Sh
variable {H0 H : Heap} {σ : List Rs} {R : Value → Heap → Prop}

theorem docA_one (w h next : Int) (K : Sl3) : ∀ v ∈ (docA w h next K).toList, v.oneCell' = true := by
  unfold docA
  simp only [List.forall_mem_cons]
  exact ⟨rfl, rfl, rfl, rfl, fun _ h => by cases h⟩
theorem edL_one (e : Ed) (s : EdS) : ∀ v ∈ edL e s, v.oneCell' = true := by
  unfold edL
  simp only [List.forall_mem_cons]
  exact ⟨rfl, rfl, rfl, rfl, rfl, rfl, rfl, rfl, rfl, rfl, rfl, rfl, rfl, rfl, rfl, rfl, rfl, rfl, rfl, fun _ h => by cases h⟩
theorem workL_one (b d : Nat) (e : Ed) (s : EdS) : ∀ v ∈ workL b d e s, v.oneCell' = true := by
  unfold workL
  simp only [List.forall_mem_cons]
  exact ⟨rfl, rfl, edL_one e s⟩

theorem c40 {d : Nat} {w h next : Int} {K : Sl3} (hb : H[d]? = some (.cells (docA w h next K) 26)) (hR : ∀ b H', St H H' [.cell b (cellsT (rootT K [])).toArray 58] → R (.pointer (some ⟨b, 0, none⟩)) H') : CallsH Try.prog 40 #[.pointer (some ⟨d, 0, none⟩)] H R := by
  refine Try.s40 ?_
  unfold Try.S40
  exact ⟨_, rfl, _, _, _, cell_get (i := 3) hb rfl, (St.nil H).alc fun b4 H5 hs5 => hR b4 H5 hs5⟩

/-- The root's block, and what is in it. -/
theorem mk_root {b : Nat} {K : Sl3} {ks : List T} (hs : St H0 H (.cell b (cellsT (rootT K [])).toArray 58 :: (resG K ks ++ σ))) : St H0 H (resRoot b K ks ++ σ) := by
  have h1 := hs.toSl 0 (l := 1) (k := 19) (fs := cellsKs [rootT K ks]) rfl rfl (by rw [cellsKs_one]; rfl) (by rw [cellsKs_one]; exact cellsT_one _)
  have h2 := ((h1.nilSl 3 1).nilSl 5 1).nilSl 3 1
  refine h2.perm (permC fun _ x => ?_)
  have e1 : resRoot b K ks = .sl (some ⟨b, 0, none⟩) 1 1 58 19 (cellsKs [rootT K ks]) :: .sl none 0 0 3 1 [] :: .sl none 0 0 5 1 [] :: .sl none 0 0 3 1 [] :: resG K ks := by
    unfold resRoot
    rw [resG, resKs_one, rootT, resT_mk]; rfl
  rw [e1]
  show List.count x (.sl none 0 0 3 1 [] :: .sl none 0 0 5 1 [] :: .sl none 0 0 3 1 [] :: .sl (some ⟨b, 0, none⟩) 1 1 58 19 (cellsKs [rootT K ks]) :: (resG K ks ++ σ)) = _
  simp only [List.count_append, List.count_cons]
  ac_rfl
/-- And apart again. -/
theorem un_root {b : Nat} {K : Sl3} {ks : List T} (hs : St H0 H (resRoot b K ks ++ σ)) : Sh.cell H ⟨b, 18, none⟩ = some (.slice K.p K.l K.c) ∧ St H0 H (resG K ks ++ σ) := by
  obtain ⟨a0, h1, h2, h3⟩ := hs.grp.get (i := 0) (t := rootT K ks) rfl
  cases h1
  rw [Nat.zero_mul, add_none] at h2
  refine ⟨h2 18 _ rfl, ?_⟩
  have e1 : resRoot b K ks = .sl (some ⟨b, 0, none⟩) 1 1 58 19 (cellsKs [rootT K ks]) :: .sl none 0 0 3 1 [] :: .sl none 0 0 5 1 [] :: .sl none 0 0 3 1 [] :: resG K ks := by
    unfold resRoot
    rw [resG, resKs_one, rootT, resT_mk]; rfl
  rw [e1] at hs
  exact hs.drop 4

/-- Do, plain: the error; else what comes next, and the layers. -/
def doL (w h next : Int) (D : List Lay) (e : Ed) : Int × Int × List Lay :=
  if e.kind < 1 ∨ e.kind > 9 then (41, 0, []) else if (stepL w h next D e).1 ≠ 0 then ((stepL w h next D e).1, 0, []) else (0, nextL next e, (stepL w h next D e).2)

def kindsA : Array Value := #[Value.func (.func 41) #[] #[], Value.func (.func 42) #[] #[], Value.func (.func 43) #[] #[], Value.func (.func 44) #[] #[], Value.func (.func 45) #[] #[], Value.func (.func 46) #[] #[], Value.func (.func 47) #[] #[], Value.func (.func 48) #[] #[], Value.func (.func 49) #[] #[]]
theorem kinds_get {k : Int} (h : 1 ≤ k ∧ k ≤ 9) : kindsA[(k - 1).toNat]? = some (.func (.func (kindFn k)) #[] #[]) := by
  obtain ⟨h1, h2⟩ := h
  obtain ⟨n, rfl⟩ : ∃ n : Nat, k = n := ⟨k.toNat, by omega⟩
  obtain ⟨m, rfl⟩ : ∃ m : Nat, n = m + 1 := ⟨n - 1, by omega⟩
  rw [show (((m + 1 : Nat) : Int) - 1).toNat = m from by omega]
  have : m < 9 := by omega
  obtain rfl | rfl | rfl | rfl | rfl | rfl | rfl | rfl | rfl : m = 0 ∨ m = 1 ∨ m = 2 ∨ m = 3 ∨ m = 4 ∨ m = 5 ∨ m = 6 ∨ m = 7 ∨ m = 8 := by omega
  all_goals rfl

theorem c19 {e : Ed} {s : EdS} {K : Sl3} {ks : List T} {w h next : Int} (hg : grp H K ks) (hokl : okKs (layKs ks)) (hc : cntKs (layKs ks) ≤ 1000000000) (hnx : 0 ≤ next ∧ next ≤ 1000000000000000) (hsz : e.kind = 7 → sizedB w h = true) (hed : EdOk H e s)
    (hras : ∀ fr u ks', flK [] [] e.id (layKs ks) = some (fr :: u, ks') → okRas fr.f)
    (hbad : ∀ H', (doL w h next (layKs ks) e).1 ≠ 0 → Ext H H' → R (.tuple #[.agg (docA 0 0 0 .nil), .int .i64 (doL w h next (layKs ks) e).1]) H')
    (hok : ∀ K' ks' H', (doL w h next (layKs ks) e).1 = 0 → layKs ks' = (doL w h next (layKs ks) e).2.2 → St H H' (resG K' ks') → R (.tuple #[.agg (docA w h (doL w h next (layKs ks) e).2.1 K'), .int .i64 0]) H') :
    CallsH Try.prog 19 #[.agg (docA w h next K), .agg (edL e s).toArray] H R := by
  have hlk := len_cnt (layKs ks)
  rw [layKs_len] at hlk
  refine Try.s19 ?_
  unfold Try.S19
  refine (St.nil H).alc fun b3 H4 hs4 => hs4.alc fun b5 H6 hs6 => hs6.alc fun b7 H8 hs8 => ?_
  intro J9 hJ9
  have main9 : ∀ (db : Nat) (K' : Sl3) (ks' : List T) (H11 : Heap), layKs ks' = layKs ks → St H H11 (.cell db (docA w h next K') 26 :: .cell b7 (docA 0 0 0 .nil) 26 :: .cell b5 (edL e s).toArray 43 :: (resG K' ks')) → J9 [.pointer (some ⟨db, 0, none⟩)] H11 := by
    intro db K' ks' H11 hlay hs11
    refine hJ9 _ _ ?_
    intro J12 hJ12
    have main12 : ∀ (wb rb : Nat) (H14 : Heap), St H H14 (.cell wb (workL rb db e s).toArray 86 :: .cell db (docA w h next K') 26 :: .cell b7 (docA 0 0 0 .nil) 26 :: .cell b5 (edL e s).toArray 43 :: (resRoot rb K' ks')) → J12 [.pointer (some ⟨wb, 0, none⟩)] H14 := by
      intro wb rb H14 hs14
      refine hJ12 _ _ ?_
      refine hs14.alc fun b15 H16 hs16 => ?_
      intro J17 hJ17
      have bad : ∀ {v : Int} {n : Int} {x : List Lay} {H1 : Heap} {τ : List Rs}, doL w h next (layKs ks) e = (v, n, x) → v ≠ 0 → ∀ (i : Nat), τ[i]? = some (.cell b7 (docA 0 0 0 .nil) 26) → St H H1 τ →
          (#[Value.int .i64 0, Value.int .i64 0, Value.int .i64 0, Value.slice none 0 0].size = 4 ∧ stAt H1 ⟨b7, 0, none⟩ (Array.toList #[Value.int .i64 0, Value.int .i64 0, Value.int .i64 0, Value.slice none 0 0]) fun H_36 => ∃ res37 : Array Value, res37.size = 4 ∧ rowIn H_36 ⟨b7, 0, none⟩ res37 ∧ R (Value.tuple #[Value.agg res37, Value.int .i64 v]) H_36) := fun {v n x H1 τ} hd hv i hi hs =>
        ⟨rfl, hs.putAll i hi rfl (docA_one 0 0 0 .nil) fun H2 hs2 => ⟨docA 0 0 0 .nil, rfl, rowIn_whole (hs2.block i (by rw [List.getElem?_set_self (List.getElem?_eq_some_iff.1 hi).1]; rfl)), by
          have := hbad H2 (by rw [hd]; exact hv) hs2.ext
          rw [hd] at this; exact this⟩⟩
      refine ⟨_, hs16.get 4 rfl (j := 0) rfl, br_dec (fun hk => bad (by unfold doL; rw [if_pos (.inl hk)]) (by decide) 3 rfl hs16) fun hk1 => ⟨_, hs16.get 4 rfl (j := 0) rfl, br_dec (fun hk => bad (by unfold doL; rw [if_pos (.inr hk)]) (by decide) 3 rfl hs16) fun hk2 => hJ17 _ ?_⟩⟩
      have hk1 : ¬ e.kind < 1 := hk1
      have hk2 : ¬ e.kind > 9 := hk2
      have hD : doL w h next (layKs ks) e = (if (stepL w h next (layKs ks) e).1 ≠ 0 then ((stepL w h next (layKs ks) e).1, 0, []) else (0, nextL next e, (stepL w h next (layKs ks) e).2)) := by
        unfold doL; rw [if_neg (by omega)]
      refine ⟨_, hs16.get 4 rfl (j := 0) rfl, _, rfl, ?_⟩
      show 0 ≤ (IntKind.wrap .i64 (e.kind - (1 : Int))) ∧ _
      rw [wrap_id (n := e.kind - 1) (by omega) (by omega)]
      refine ⟨by omega, by omega, kindFn e.kind, #[], #[], ?_, _, rfl, rowIn_whole (hs16.block 1 rfl), ?_⟩
      · rw [Nat.mul_one, add_none, Nat.zero_add]
        exact hs16.get 0 rfl (kinds_get ⟨by omega, by omega⟩)
      show CallsH Try.prog (kindFn e.kind) #[.agg (workL rb db e s).toArray] H16 _
      have hs17 : St H H16 (resRoot rb K' ks' ++ (.cell db (docA w h next K') 26 :: .cell b7 (docA 0 0 0 .nil) 26 :: .cell wb (workL rb db e s).toArray 86 :: [])) := by
        have h1 := St.del (St.tail hs16) 3
        exact h1.perm (permC fun _ x => by
          show List.count x (.cell wb (workL rb db e s).toArray 86 :: .cell db (docA w h next K') 26 :: .cell b7 (docA 0 0 0 .nil) 26 :: resRoot rb K' ks') = _
          simp only [List.count_append, List.count_cons, List.count_nil]; ac_rfl)
      refine edit_call ⟨by omega, by omega⟩ hs17 (by rw [hlay]; exact hc) hnx hsz ⟨hed.rd, hed.shape, hed.params⟩ (by rw [hlay]; exact hras) (fun H24 hne hs24 => ⟨_, rfl, br_ne (fun _ => ?_) fun hh => absurd hh hne⟩) fun Kn ksn H24 h0 hl hs24 => ⟨_, rfl, br_ne (fun hh => absurd rfl hh) fun _ => ?_⟩
      · rw [hlay] at hne ⊢
        exact bad (by rw [hD, if_pos hne]) hne 0 rfl hs24
      · rw [hlay] at h0 hl
        rw [if_neg (by rw [h0]; simp)] at hD
        obtain ⟨hcell, hs25⟩ := un_root hs24
        have hs26 : St H H24 (.cell wb (workL rb db e s).toArray 86 :: .cell db (docA w h (nextL next e) K') 26 :: .cell b7 (docA 0 0 0 .nil) 26 :: (resG Kn ksn)) := hs25.perm (permC fun _ x => by
          simp only [List.count_append, List.count_cons, List.count_nil]; ac_rfl)
        refine ⟨_, hs26.get 0 rfl (j := 0) rfl, _, rfl, _, _, _, hcell, ?_⟩
        refine hs26.put 1 rfl (j := 3) (Nat.le_of_ble_eq_true rfl) rfl fun H31 hs31 => ⟨docA w h (nextL next e) Kn, rfl, rowIn_whole (hs31.block 1 rfl), rfl, ?_⟩
        refine hs31.putAll 2 rfl rfl (docA_one w h (nextL next e) Kn) fun H33 hs33 => ⟨docA w h (nextL next e) Kn, rfl, rowIn_whole (hs33.block 2 rfl), ?_⟩
        have := hok Kn ksn H33 (by rw [hD]) (by rw [hD]; exact hl) (hs33.drop 3)
        rw [hD] at this
        exact this
    have hb5 : ∀ {H1 : Heap}, Ext H11 H1 → rowIn H1 ⟨b5, 0, none⟩ (edL e s).toArray := fun he => rowAt_ext he (rowIn_whole (hs11.block 2 rfl))
    refine ⟨(edL e s).toArray, rfl, hb5 (Ext.refl _), ?_, ?_⟩
    · refine c40 (hs11.block 0 rfl) fun rb H43 hp43 => ⟨_, rfl, .inl hp43.ext, rfl, by decide, ?_⟩
      have hs43 := hs11.call hp43
      refine hs43.alcE fun b45 H46 he46 hs46 => ⟨.inl he46, rfl, hs46.putAll 0 rfl rfl (workL_one rb db e s) fun H47 hs47 => main12 b45 rb H47 ?_⟩
      have h1 : St H H47 (.cell rb (cellsT (rootT K' [])).toArray 58 :: (resG K' ks' ++ (.cell b45 (workL rb db e s).toArray 86 :: .cell db (docA w h next K') 26 :: .cell b7 (docA 0 0 0 .nil) 26 :: .cell b5 (edL e s).toArray 43 :: []))) := hs47.perm (permC fun _ x => by
        show List.count x (.cell b45 (workL rb db e s).toArray 86 :: .cell rb (cellsT (rootT K' [])).toArray 58 :: .cell db (docA w h next K') 26 :: .cell b7 (docA 0 0 0 .nil) 26 :: .cell b5 (edL e s).toArray 43 :: (resG K' ks')) = _
        simp only [List.count_append, List.count_cons, List.count_nil]; ac_rfl)
      exact (mk_root h1).perm (permC fun _ x => by simp only [List.count_append, List.count_cons, List.count_nil]; ac_rfl)
    · refine hs11.alcE fun b50 H51 he51 hs51 => ⟨.inl he51, ?_⟩
      refine c40 (hs51.block 1 rfl) fun rb H53 hp53 => ⟨_, rfl, .inl hp53.ext, rfl, by decide, rfl, ?_⟩
      have hs53 := hs51.call hp53
      refine hs53.putAll 1 rfl rfl (workL_one rb db e s) fun H55 hs55 => main12 b50 rb H55 ?_
      have h1 : St H H55 (.cell rb (cellsT (rootT K' [])).toArray 58 :: (resG K' ks' ++ (.cell b50 (workL rb db e s).toArray 86 :: .cell db (docA w h next K') 26 :: .cell b7 (docA 0 0 0 .nil) 26 :: .cell b5 (edL e s).toArray 43 :: []))) := hs55.perm (permC fun _ x => by
        show List.count x (.cell rb (cellsT (rootT K' [])).toArray 58 :: .cell b50 (workL rb db e s).toArray 86 :: .cell db (docA w h next K') 26 :: .cell b7 (docA 0 0 0 .nil) 26 :: .cell b5 (edL e s).toArray 43 :: (resG K' ks')) = _
        simp only [List.count_append, List.count_cons, List.count_nil]; ac_rfl)
      exact (mk_root h1).perm (permC fun _ x => by simp only [List.count_append, List.count_cons, List.count_nil]; ac_rfl)
  refine ⟨_, hs8.get 2 rfl (j := 0) rfl, _, hs8.get 2 rfl (j := 1) rfl, _, hs8.get 2 rfl (j := 2) rfl, _, _, _, hs8.get 2 rfl (j := 3) rfl, ?_, ?_⟩
  · refine c39 (K := K) (hg.ext hs8.ext) hokl (by omega) fun K' ks' H63 hlay hp63 => ⟨_, _, _, rfl, .inl hp63.ext, ?_⟩
    have hs63 := hs8.callR hp63
    refine hs63.alcE fun b65 H66 he66 hs66 => ⟨.inl he66, rfl, hs66.putAll 0 rfl rfl (docA_one w h next K') fun H67 hs67 => main9 b65 K' ks' H67 hlay ?_⟩
    exact (St.del hs67 3)
  · refine hs8.alcE fun b74 H75 he75 hs75 => ⟨.inl he75, ?_⟩
    refine c39 (K := K) (hg.ext hs75.ext) hokl (by omega) fun K' ks' H77 hlay hp77 => ⟨_, _, _, rfl, .inl hp77.ext, rfl, ?_⟩
    have hs77 := hs75.callR hp77
    refine hs77.putAll 0 rfl rfl (docA_one w h next K') fun H79 hs79 => main9 b74 K' ks' H79 hlay ?_
    exact (St.del hs79 3)

end Go.Proofs

/-
  OWN WORK. What stays true of documents, plain.
-/
set_option linter.unusedVariables false
set_option linter.unusedSimpArgs false
set_option maxRecDepth 10000
namespace Go.Proofs
open Go.Sh

structure DocL where
  w : Int
  h : Int
  next : Int
  ks : List Lay
def zeroD : DocL := ⟨0, 0, 0, []⟩
def doD (D : DocL) (e : Ed) : Int × DocL := if (doL D.w D.h D.next D.ks e).1 ≠ 0 then ((doL D.w D.h D.next D.ks e).1, zeroD) else (0, ⟨D.w, D.h, (doL D.w D.h D.next D.ks e).2.1, (doL D.w D.h D.next D.ks e).2.2⟩)

def oneM : M6 := ⟨65536, 0, 0, 65536, 0, 0⟩
structure goodF (w h next : Int) (f : LayF) : Prop where
  id : 1 ≤ f.id ∧ f.id < next
  kind : 0 ≤ f.kind ∧ f.kind ≤ 2
  opacity : 0 ≤ f.opacity ∧ f.opacity ≤ 255
  mode : 0 ≤ f.mode ∧ f.mode ≤ 11
  maskLen : f.mask = [] ∨ (f.mask.length : Int) = w * h
  maskV : ∀ c ∈ f.mask, c = 0 ∨ c = 255
  bare : f.kind ≠ 0 → f.w = 0 ∧ f.h = 0 ∧ f.p = [] ∧ f.map = oneM ∧ f.smooth = false
  plain : f.kind ≠ 2 → f.table = 2 ∧ f.params = []
  adj : f.kind = 2 → f.mode = 0
  ras : f.kind = 0 → sizedB f.w f.h = true ∧ (f.p.length : Int) = f.w * f.h ∧ f.p.all pixelB = true ∧ (backM f.map).1 = 0
  tab : tabB f.table f.params = true

mutual
def gT (G : LayF → Prop) : Lay → Prop
  | .mk f ks => G f ∧ (f.kind = 1 ∨ ks = []) ∧ gKs G ks
def gKs (G : LayF → Prop) : List Lay → Prop
  | [] => True
  | t :: ts => gT G t ∧ gKs G ts
end
mutual
def idsT : Lay → List Int
  | .mk f ks => f.id :: idsKs ks
def idsKs : List Lay → List Int
  | [] => []
  | t :: ts => idsT t ++ idsKs ts
end
structure Inv (D : DocL) : Prop where
  size : sizedB D.w D.h = true
  next : 1 ≤ D.next
  cnt : cntKs D.ks ≤ 4096
  dep : depKs D.ks ≤ 64
  ids : (idsKs D.ks).Nodup
  good : gKs (goodF D.w D.h D.next) D.ks

variable {G : LayF → Prop}
theorem gKs_app {a b : List Lay} : gKs G (a ++ b) ↔ gKs G a ∧ gKs G b := by
  induction a with
  | nil => simp [gKs]
  | cons t a ih => rw [List.cons_append, gKs, ih, gKs, and_assoc]
theorem gKs_iff {ts : List Lay} : gKs G ts ↔ ∀ t ∈ ts, gT G t := by
  induction ts with
  | nil => simp [gKs]
  | cons t ts ih => rw [gKs, ih, List.forall_mem_cons]
theorem gT_imp {G' : LayF → Prop} (h : ∀ f, G f → G' f) : ∀ t, gT G t → gT G' t := Lay.ind fun f ks ih hg => by
  rw [gT] at hg ⊢
  exact ⟨h f hg.1, hg.2.1, gKs_iff.2 fun t ht => ih t ht (gKs_iff.1 hg.2.2 t ht)⟩
theorem gKs_imp {G' : LayF → Prop} (h : ∀ f, G f → G' f) {ts : List Lay} (hg : gKs G ts) : gKs G' ts := gKs_iff.2 fun t ht => gT_imp h t (gKs_iff.1 hg t ht)
def gUp (G : LayF → Prop) : List FrL → Prop
  | [] => True
  | fr :: u => gKs G fr.pre ∧ gKs G fr.post ∧ G fr.f ∧ fr.f.kind = 1 ∧ gUp G u
theorem g_unplug : ∀ {u : List FrL} {ks : List Lay}, gKs G (plugL u ks) → ks ≠ [] → gUp G u ∧ gKs G ks
  | [], ks, h, _ => ⟨trivial, h⟩
  | fr :: u, ks, h, hne => by
    rw [plugL] at h
    obtain ⟨h1, h2⟩ := g_unplug h (by simp)
    rw [gKs_app, gKs, gT] at h2
    refine ⟨⟨h2.1, h2.2.2, h2.2.1.1, ?_, h1⟩, h2.2.1.2.2⟩
    rcases h2.2.1.2.1 with h | h
    · exact h
    · exact absurd h hne
theorem g_plug : ∀ {u : List FrL} {ks : List Lay}, gUp G u → gKs G ks → gKs G (plugL u ks)
  | [], ks, _, h => h
  | fr :: u, ks, hu, h => by
    rw [plugL]
    refine g_plug hu.2.2.2.2 ?_
    rw [gKs_app, gKs, gT]
    exact ⟨hu.1, ⟨hu.2.2.1, .inl hu.2.2.2.1, h⟩, hu.2.1⟩
/-- A layer in its place. -/
theorem g_node {fr : FrL} {u : List FrL} {ks : List Lay} (h : gKs G (plugL (fr :: u) ks)) : gUp G u ∧ gKs G fr.pre ∧ gT G (.mk fr.f ks) ∧ gKs G fr.post := by
  rw [plugL] at h
  obtain ⟨h1, h2⟩ := g_unplug h (by simp)
  rw [gKs_app, gKs] at h2
  exact ⟨h1, h2.1, h2.2.1, h2.2.2⟩
theorem g_set {fr : FrL} {u : List FrL} {ks : List Lay} (h1 : gUp G u) (h2 : gKs G fr.pre) (h3 : gT G (.mk fr.f ks)) (h4 : gKs G fr.post) : gKs G (plugL (fr :: u) ks) := by
  rw [plugL]
  refine g_plug h1 ?_
  rw [gKs_app, gKs]
  exact ⟨h2, h3, h4⟩

def idsUp : List FrL → List Int
  | [] => []
  | fr :: u => fr.f.id :: (idsKs fr.pre ++ idsKs fr.post ++ idsUp u)
theorem idsKs_app (a b : List Lay) : idsKs (a ++ b) = idsKs a ++ idsKs b := by
  induction a with
  | nil => simp [idsKs]
  | cons t a ih => rw [List.cons_append, idsKs, ih, idsKs, List.append_assoc]
theorem ids_plug : ∀ (u : List FrL) (ks : List Lay), (idsKs (plugL u ks)).Perm (idsKs ks ++ idsUp u)
  | [], ks => by rw [idsUp, List.append_nil]; exact List.Perm.refl _
  | fr :: u, ks => by
    rw [plugL]
    refine (ids_plug u _).trans (List.perm_iff_count.2 fun x => ?_)
    simp only [idsKs_app, idsKs, idsT, idsUp, List.count_append, List.count_cons]
    ac_rfl
def depUp : List FrL → Nat → Nat
  | [], d => d
  | fr :: u, d => depUp u (max (depKs fr.pre) (max (1 + d) (depKs fr.post)))
theorem dep_plug : ∀ (u : List FrL) (ks : List Lay), depKs (plugL u ks) = depUp u (depKs ks)
  | [], ks => rfl
  | fr :: u, ks => by rw [plugL, dep_plug u, depKs_app, depKs, depL, depUp]
theorem depUp_mono : ∀ (u : List FrL) {d d' : Nat}, d ≤ d' → depUp u d ≤ depUp u d'
  | [], d, d', h => h
  | fr :: u, d, d', h => by rw [depUp, depUp]; exact depUp_mono u (by omega)

theorem fl_plug (id : Int) : ∀ (t : Lay) (up : List FrL) (pre post : List Lay) (z : ZL), flT up pre post id t = some z → plugL z.1 z.2 = plugL up (pre ++ t :: post) ∧ ∃ fr u, z.1 = fr :: u ∧ fr.f.id = id := by
  refine Lay.ind fun f ks ih up pre post z hz => ?_
  rw [flT] at hz
  split at hz
  · rename_i h; cases hz; exact ⟨rfl, _, _, rfl, h⟩
  · have : ∀ (ts : List Lay), (∀ t ∈ ts, t ∈ ks) → ∀ (u : List FrL) (pre0 : List Lay), flK u pre0 id ts = some z → plugL z.1 z.2 = plugL u (pre0 ++ ts) ∧ ∃ fr u, z.1 = fr :: u ∧ fr.f.id = id := by
      intro ts
      induction ts with
      | nil => intro _ u pre0 h; rw [flK] at h; cases h
      | cons t ts ih2 =>
        intro hm u pre0 h
        rw [flK] at h
        split at h
        · rename_i z' hz'
          cases h
          exact ih t (hm t List.mem_cons_self) _ _ _ _ hz'
        · have := ih2 (fun t ht => hm t (List.mem_cons_of_mem _ ht)) _ _ h
          rw [List.append_assoc] at this
          exact this
    exact this ks (fun _ h => h) _ _ hz
theorem flK_plug {id : Int} : ∀ (ts : List Lay) (up : List FrL) (pre : List Lay) (z : ZL), flK up pre id ts = some z → plugL z.1 z.2 = plugL up (pre ++ ts) ∧ ∃ fr u, z.1 = fr :: u ∧ fr.f.id = id
  | [], up, pre, z, h => by rw [flK] at h; cases h
  | t :: ts, up, pre, z, h => by
    rw [flK] at h
    split at h
    · rename_i z' hz'
      cases h
      exact fl_plug id t _ _ _ _ hz'
    · have := flK_plug ts _ _ _ h
      rw [List.append_assoc] at this
      exact this
/-- A layer is found or not. -/
theorem fl_cases (id : Int) (D : List Lay) : flK [] [] id D = none ∨ ∃ fr u ks, flK [] [] id D = some (fr :: u, ks) ∧ fr.f.id = id ∧ plugL (fr :: u) ks = D := by
  cases h : flK [] [] id D with
  | none => exact .inl rfl
  | some z =>
    obtain ⟨h1, fr, u, h2, h3⟩ := flK_plug D _ _ z h
    obtain ⟨z1, z2⟩ := z
    simp only at h2 h1
    subst h2
    exact .inr ⟨fr, u, z2, rfl, h3, h1⟩

theorem Inv.okL {w h next : Int} (hsz : sizedB w h = true) : ∀ t, gT (goodF w h next) t → cntL t ≤ 1000000 → okL t := Lay.ind fun f ks ih hg hc => by
  rw [gT] at hg
  rw [cntL] at hc
  have hlen := len_cnt ks
  obtain ⟨q1, q2, q3, q4, q5⟩ := of_decide_eq_true hsz
  rw [Go.Proofs.okL]
  refine ⟨?_, ?_, ?_, by omega, okKs_iff.2 fun t ht => ih t ht (gKs_iff.1 hg.2.2 t ht) (by have := cnt_mem ht; omega)⟩
  · by_cases hk : f.kind = 0
    · obtain ⟨h1, h2, _⟩ := hg.1.ras hk
      obtain ⟨_, _, _, _, h3⟩ := of_decide_eq_true h1
      omega
    · rw [(hg.1.bare hk).2.2.1]; simp
  · rcases hg.1.maskLen with h | h
    · rw [h]; simp
    · omega
  · by_cases hk : f.kind = 2
    · have ht := tabB_kind hg.1.tab
      unfold kindP at ht
      split at ht
      · have := of_decide_eq_true ht; omega
      · split at ht
        · have := of_decide_eq_true ht; omega
        · split at ht
          · have := of_decide_eq_true ht; omega
          · split at ht
            · have := of_decide_eq_true ht; omega
            · cases ht
    · rw [(hg.1.plain hk).2]; simp
theorem Inv.ok {D : DocL} (h : Inv D) : okKs D.ks := okKs_iff.2 fun t ht => Inv.okL h.size t (gKs_iff.1 h.good t ht) (by have := cnt_mem ht; have := h.cnt; omega)
theorem Inv.found {D : DocL} (h : Inv D) {id : Int} {fr : FrL} {u : List FrL} {ks : List Lay} (hf : flK [] [] id D.ks = some (fr :: u, ks)) : goodF D.w D.h D.next fr.f ∧ (fr.f.kind = 1 ∨ ks = []) := by
  have hp := (flK_plug D.ks _ _ _ hf).1
  have hg := h.good
  have hp : plugL (fr :: u) ks = D.ks := hp
  rw [← hp] at hg
  have := (g_node hg).2.2.1
  rw [gT] at this
  exact ⟨this.1, this.2.1⟩
theorem Inv.ras {D : DocL} (h : Inv D) {id : Int} {fr : FrL} {u : List FrL} {ks : List Lay} (hf : flK [] [] id D.ks = some (fr :: u, ks)) : okRas fr.f := fun hk => ⟨((h.found hf).1.ras hk).1, ((h.found hf).1.ras hk).2.1⟩

theorem chg_inv {D : DocL} (h : Inv D) {g : LayF → Int × LayF} {id : Int} (hg : ∀ f, goodF D.w D.h D.next f → (g f).1 = 0 → goodF D.w D.h D.next (g f).2 ∧ (g f).2.id = f.id ∧ (g f).2.kind = f.kind) (h0 : (chgL g D.ks id).1 = 0) : Inv ⟨D.w, D.h, D.next, (chgL g D.ks id).2⟩ := by
  rcases fl_cases id D.ks with hn | ⟨fr, u, ks, hf, hid, hp⟩
  · rw [chg_none hn] at h0; exact absurd h0 (by decide)
  · obtain ⟨g1, g2⟩ := h.found hf
    by_cases he : (g fr.f).1 = 0
    · have hge : g fr.f = (0, (g fr.f).2) := Prod.ext he rfl
      have hc := chg_ok (g := g) hf hge
      obtain ⟨k1, k2, k3⟩ := hg fr.f g1 he
      rw [hc]
      have hgd := h.good
      have hi := h.ids
      have hcn := h.cnt
      have hdp := h.dep
      rw [← hp] at hgd hi hcn hdp
      obtain ⟨u1, u2, u3, u4⟩ := g_node hgd
      rw [gT] at u3
      refine ⟨h.size, h.next, ?_, ?_, ?_, ?_⟩
      · show cntKs (plugL (⟨fr.pre, (g fr.f).2, fr.post⟩ :: u) ks) ≤ 4096
        rw [cnt_plug] at hcn ⊢; exact hcn
      · show depKs (plugL (⟨fr.pre, (g fr.f).2, fr.post⟩ :: u) ks) ≤ 64
        rw [dep_plug] at hdp ⊢; exact hdp
      · refine ((ids_plug _ _).nodup_iff).2 ?_
        have := ((ids_plug _ _).nodup_iff).1 hi
        rw [idsUp] at this ⊢
        rw [k2]; exact this
      · refine g_set (fr := ⟨fr.pre, (g fr.f).2, fr.post⟩) u1 u2 ?_ u4
        rw [gT]
        exact ⟨k1, by rw [k3]; exact u3.2.1, u3.2.2⟩
    · have := chg_bad (g := g) hf (show g fr.f = ((g fr.f).1, (g fr.f).2) from rfl) he
      rw [this] at h0; exact absurd h0 he

end Go.Proofs

/-
  OWN WORK. Every edit keeps what stays true.
-/
set_option linter.unusedVariables false
set_option linter.unusedSimpArgs false
set_option maxRecDepth 10000
namespace Go.Proofs
open Go.Sh

theorem look_good {w h next : Int} {e : Ed} {f : LayF} (hg : goodF w h next f) (h0 : (lookF e f).1 = 0) : goodF w h next (lookF e f).2 ∧ (lookF e f).2.id = f.id ∧ (lookF e f).2.kind = f.kind := by
  unfold lookF at h0 ⊢
  split at h0
  · simp at h0
  · rename_i c1
    split at h0
    · simp at h0
    · rename_i c2
      rw [if_neg c1, if_neg c2]
      refine ⟨⟨hg.id, hg.kind, by show 0 ≤ e.n ∧ e.n ≤ 255; omega, by show 0 ≤ e.m ∧ e.m ≤ 11; omega, hg.maskLen, hg.maskV, hg.bare, hg.plain, fun hk => ?_, hg.ras, hg.tab⟩, rfl, rfl⟩
      show e.m = 0
      exact Decidable.byContradiction fun hm => c2 ⟨hk, hm⟩
theorem hide_good {w h next : Int} {e : Ed} {f : LayF} (hg : goodF w h next f) (h0 : (hideF e f).1 = 0) : goodF w h next (hideF e f).2 ∧ (hideF e f).2.id = f.id ∧ (hideF e f).2.kind = f.kind := by
  unfold hideF at h0 ⊢
  split at h0
  · simp at h0
  · rename_i c1
    rw [if_neg c1]
    exact ⟨⟨hg.id, hg.kind, hg.opacity, hg.mode, hg.maskLen, hg.maskV, hg.bare, hg.plain, hg.adj, hg.ras, hg.tab⟩, rfl, rfl⟩
theorem paint_good {w h next : Int} {e : Ed} {f : LayF} (hg : goodF w h next f) (h0 : (paintF e f).1 = 0) : goodF w h next (paintF e f).2 ∧ (paintF e f).2.id = f.id ∧ (paintF e f).2.kind = f.kind := by
  unfold paintF at h0 ⊢
  split at h0
  · simp at h0
  rename_i c1
  split at h0
  · simp at h0
  rename_i c2
  split at h0
  · simp at h0
  rename_i c3
  split at h0
  · simp at h0
  rename_i c4
  rw [if_neg c1, if_neg c2, if_neg c3, if_neg c4]
  refine ⟨⟨hg.id, hg.kind, hg.opacity, hg.mode, hg.maskLen, hg.maskV, fun hk => absurd hk c1, hg.plain, hg.adj, fun hk => ?_, hg.tab⟩, rfl, rfl⟩
  obtain ⟨r1, r2, r3, r4⟩ := hg.ras hk
  refine ⟨r1, ?_, ?_, r4⟩
  · show ((paintP e f.w f.p).length : Int) = _
    unfold paintP; rw [List.length_map, List.length_range]; exact r2
  · show (paintP e f.w f.p).all pixelB = true
    rw [List.all_eq_true]
    intro v hv
    unfold paintP at hv
    obtain ⟨q, hq, rfl⟩ := List.mem_map.1 hv
    have hql := List.mem_range.1 hq
    split
    · rename_i hin
      have hr := idxP_rng hin
      have hl : (e.p.length : Int) = e.w * e.h := Decidable.byContradiction fun hh => c2 (.inr (.inr (.inr (.inr hh))))
      have hlt : (idxP e f.w q).toNat < e.p.length := by omega
      rw [List.getD_eq_getElem?_getD, List.getElem?_eq_getElem hlt]
      have hc3 : e.p.any (fun v => !pixelB v) = false := by simpa using c3
      have := List.any_eq_false.1 hc3 _ (List.getElem_mem hlt)
      simpa using this
    · rw [List.getD_eq_getElem?_getD, List.getElem?_eq_getElem hql]
      exact List.all_eq_true.1 r3 _ (List.getElem_mem hql)
theorem mask_good {w h next : Int} (hsz : sizedB w h = true) {e : Ed} {f : LayF} (hg : goodF w h next f) (h0 : (maskF w h e f).1 = 0) : goodF w h next (maskF w h e f).2 ∧ (maskF w h e f).2.id = f.id ∧ (maskF w h e f).2.kind = f.kind := by
  obtain ⟨q1, q2, q3, q4, q5⟩ := of_decide_eq_true hsz
  have hpos : 0 ≤ w * h := Int.mul_nonneg (by omega) (by omega)
  unfold maskF at h0 ⊢
  split at h0
  · simp at h0
  rename_i c1
  rw [if_neg c1]
  split at h0
  · rename_i c2
    rw [if_pos c2]
    exact ⟨⟨hg.id, hg.kind, hg.opacity, hg.mode, .inl rfl, fun _ hc => (by cases hc), hg.bare, hg.plain, hg.adj, hg.ras, hg.tab⟩, rfl, rfl⟩
  rename_i c2
  rw [if_neg c2]
  split at h0
  · simp at h0
  rename_i c3
  rw [if_neg c3]
  refine ⟨⟨hg.id, hg.kind, hg.opacity, hg.mode, .inr ?_, fun c hc => ?_, hg.bare, hg.plain, hg.adj, hg.ras, hg.tab⟩, rfl, rfl⟩
  · show ((maskL w h (fun x y => withinB e.shape x y != (e.n == 1))).length : Int) = w * h
    unfold maskL; rw [List.length_map, List.length_range]; omega
  · unfold maskL at hc
    obtain ⟨q, hq, rfl⟩ := List.mem_map.1 hc
    split
    · exact .inr rfl
    · exact .inl rfl
theorem place_good {w h next : Int} {e : Ed} {f : LayF} (hg : goodF w h next f) (h0 : (placeF e f).1 = 0) : goodF w h next (placeF e f).2 ∧ (placeF e f).2.id = f.id ∧ (placeF e f).2.kind = f.kind := by
  unfold placeF at h0 ⊢
  split at h0
  · simp at h0
  rename_i c1
  split at h0
  · simp at h0
  rename_i c2
  split at h0
  · rename_i c3; exact absurd h0 c3
  rename_i c3
  rw [if_neg c1, if_neg c2, if_neg c3]
  refine ⟨⟨hg.id, hg.kind, hg.opacity, hg.mode, hg.maskLen, hg.maskV, fun hk => absurd hk c1, hg.plain, hg.adj, fun hk => ?_, hg.tab⟩, rfl, rfl⟩
  obtain ⟨r1, r2, r3, r4⟩ := hg.ras hk
  exact ⟨r1, r2, r3, Decidable.byContradiction c3⟩
theorem adjust_good {w h next : Int} {e : Ed} {f : LayF} (hg : goodF w h next f) (h0 : (adjustF e f).1 = 0) : goodF w h next (adjustF e f).2 ∧ (adjustF e f).2.id = f.id ∧ (adjustF e f).2.kind = f.kind := by
  unfold adjustF at h0 ⊢
  split at h0
  · simp at h0
  rename_i c1
  split at h0
  · simp at h0
  rename_i c2
  rw [if_neg c1, if_neg c2]
  exact ⟨⟨hg.id, hg.kind, hg.opacity, hg.mode, hg.maskLen, hg.maskV, hg.bare, fun hk => absurd hk c1, hg.adj, hg.ras, by simpa using c2⟩, rfl, rfl⟩

theorem home_cases (D : List Lay) (to : Int) {v : List FrL} {kh : List Lay} (h : homeL D to = (0, v, kh)) : plugL v kh = D ∧ ∀ {G : LayF → Prop}, gKs G D → gUp G v ∧ gKs G kh := by
  unfold homeL at h
  split at h
  · cases h; exact ⟨rfl, fun hg => ⟨trivial, hg⟩⟩
  · rcases fl_cases to D with hn | ⟨fr, u, ks, hf, hid, hp⟩
    · rw [hn] at h; cases h
    · rw [hf] at h
      simp only at h
      split at h
      · rename_i hk
        cases h
        refine ⟨hp, fun {G} hg => ?_⟩
        rw [← hp] at hg
        obtain ⟨u1, u2, u3, u4⟩ := g_node hg
        rw [gT] at u3
        exact ⟨⟨u2, u4, u3.1, hk, u1⟩, u3.2.2⟩
      · cases h
theorem home_tri {D : List Lay} {to : Int} (h : (homeL D to).1 = 0) : homeL D to = (0, (homeL D to).2.1, (homeL D to).2.2) := by
  rw [← h]

theorem put_ok {v : List FrL} {kh : List Lay} {a : Int} {l : Lay} (h0 : (putL v kh a l).1 = 0) : ∃ i, atL a kh.length = some i ∧ (putL v kh a l).2 = plugL v (kh.take i ++ l :: kh.drop i) ∧ depKs (plugL v (kh.take i ++ l :: kh.drop i)) ≤ 64 := by
  unfold putL at h0 ⊢
  split at h0
  · simp at h0
  · rename_i i hi
    refine ⟨i, hi, rfl, ?_⟩
    simp only at h0
    split at h0
    · simp at h0
    · omega
theorem put_ids (v : List FrL) (kh : List Lay) (i : Nat) (l : Lay) : (idsKs (plugL v (kh.take i ++ l :: kh.drop i))).Perm (idsT l ++ idsKs (plugL v kh)) := by
  refine (ids_plug _ _).trans ?_
  refine List.Perm.trans ?_ (List.Perm.append_left _ (ids_plug v kh).symm)
  refine List.perm_iff_count.2 fun x => ?_
  have h := idsKs_app (kh.take i) (kh.drop i)
  rw [List.take_append_drop] at h
  rw [h]
  simp only [idsKs_app, idsKs, List.count_append]
  ac_rfl
theorem put_cnt (v : List FrL) (kh : List Lay) (i : Nat) (l : Lay) : cntKs (plugL v (kh.take i ++ l :: kh.drop i)) = cntL l + cntKs (plugL v kh) := by
  rw [cnt_plug, cnt_plug, cntKs_app, cntKs]
  have h := cntKs_app (kh.take i) (kh.drop i)
  rw [List.take_append_drop] at h
  omega
theorem put_g {G : LayF → Prop} {v : List FrL} {kh : List Lay} {i : Nat} {l : Lay} (h1 : gUp G v) (h2 : gKs G kh) (h3 : gT G l) : gKs G (plugL v (kh.take i ++ l :: kh.drop i)) := by
  refine g_plug h1 ?_
  have h := gKs_app (G := G) (a := kh.take i) (b := kh.drop i)
  rw [List.take_append_drop] at h
  rw [gKs_app, gKs]
  exact ⟨(h.1 h2).1, h3, (h.1 h2).2⟩

theorem ids_lt {w h next : Int} : ∀ t, gT (goodF w h next) t → ∀ x ∈ idsT t, 1 ≤ x ∧ x < next := Lay.ind fun f ks ih hg x hx => by
  rw [gT] at hg
  rw [idsT] at hx
  rcases List.mem_cons.1 hx with rfl | hx
  · exact hg.1.id
  · have : ∀ (ts : List Lay), (∀ t ∈ ts, t ∈ ks) → x ∈ idsKs ts → 1 ≤ x ∧ x < next := by
      intro ts
      induction ts with
      | nil => intro _ h; cases h
      | cons t ts ih2 =>
        intro hm h
        rw [idsKs, List.mem_append] at h
        rcases h with h | h
        · exact ih t (hm t List.mem_cons_self) (gKs_iff.1 hg.2.2 t (hm t List.mem_cons_self)) x h
        · exact ih2 (fun t ht => hm t (List.mem_cons_of_mem _ ht)) h
    exact this ks (fun _ h => h) hx
theorem ids_ltKs {w h next : Int} : ∀ {ts : List Lay}, gKs (goodF w h next) ts → ∀ x ∈ idsKs ts, 1 ≤ x ∧ x < next
  | [], _, x, hx => by cases hx
  | t :: ts, hg, x, hx => by
    rw [gKs] at hg
    rw [idsKs, List.mem_append] at hx
    rcases hx with hx | hx
    · exact ids_lt t hg.1 x hx
    · exact ids_ltKs hg.2 x hx

theorem good_next {w h next : Int} {f : LayF} (hg : goodF w h next f) : goodF w h (next + 1) f := ⟨by have := hg.id; omega, hg.kind, hg.opacity, hg.mode, hg.maskLen, hg.maskV, hg.bare, hg.plain, hg.adj, hg.ras, hg.tab⟩
theorem pixel0 : pixelB 0 = true := by decide
theorem new_good {w h next : Int} {e : Ed} (hnx : 1 ≤ next) (h1 : ¬ (e.n < 0 ∨ e.n > 2)) (h2 : ¬ (e.n = 0 ∧ sizedB e.w e.h = false)) : goodF w h (next + 1) (newL next e) := by
  refine ⟨⟨hnx, by show next < next + 1; omega⟩, by show 0 ≤ e.n ∧ e.n ≤ 2; omega, ⟨by show (0 : Int) ≤ 255; decide, by show (255 : Int) ≤ 255; decide⟩, ⟨by show (0 : Int) ≤ 0; decide, by show (0 : Int) ≤ 11; decide⟩, .inl rfl, fun _ hc => (by cases hc), fun hk => ?_, fun _ => ⟨rfl, rfl⟩, fun _ => rfl, fun hk => ?_, by show tabB 2 [] = true; decide⟩
  · have hk : e.n ≠ 0 := hk
    unfold newL; rw [if_neg hk, if_neg hk, if_neg hk]; exact ⟨rfl, rfl, rfl, rfl, rfl⟩
  · have hk : e.n = 0 := hk
    have hsz : sizedB e.w e.h = true := by
      cases hs : sizedB e.w e.h with
      | true => rfl
      | false => exact absurd ⟨hk, hs⟩ h2
    obtain ⟨q1, q2, q3, q4, q5⟩ := of_decide_eq_true hsz
    have hpos : 0 ≤ e.w * e.h := Int.mul_nonneg (by omega) (by omega)
    unfold newL
    rw [if_pos hk, if_pos hk, if_pos hk]
    refine ⟨hsz, by rw [List.length_replicate]; exact Int.toNat_of_nonneg hpos, ?_, show (backM oneM).1 = 0 from by decide⟩
    rw [List.all_eq_true]
    intro v hv
    rw [(List.mem_replicate.1 hv).2]
    exact pixel0

theorem add_inv {D : DocL} (h : Inv D) {e : Ed} (h0 : (addL D.next D.ks e).1 = 0) : Inv ⟨D.w, D.h, D.next + 1, (addL D.next D.ks e).2⟩ := by
  unfold addL at h0 ⊢
  split at h0
  · simp at h0
  rename_i c1
  split at h0
  · simp at h0
  rename_i c2
  split at h0
  · rename_i c3; exact absurd h0 c3
  rename_i c3
  split at h0
  · rename_i c4; exact absurd h0 c4
  rename_i c4
  split at h0
  · simp at h0
  rename_i c5
  rw [if_neg c1, if_neg c2, if_neg c3, if_neg c4, if_neg c5]
  have hho := home_tri (Decidable.byContradiction c3)
  obtain ⟨hp, hgu⟩ := home_cases D.ks e.to hho
  obtain ⟨i, hi, hpu, hdp⟩ := put_ok (Decidable.byContradiction c4)
  obtain ⟨g1, g2⟩ := hgu (gKs_imp (fun f => good_next) h.good)
  rw [hpu]
  refine ⟨h.size, by have := h.next; show 1 ≤ D.next + 1; omega, ?_, hdp, ?_, ?_⟩
  · show cntKs (plugL _ _) ≤ 4096
    rw [put_cnt, hp, cntL, cntKs]; omega
  · refine ((put_ids _ _ i _).nodup_iff).2 ?_
    rw [hp, idsT, idsKs]
    show ((newL D.next e).id :: ([] ++ idsKs D.ks)).Nodup
    rw [List.nil_append, List.nodup_cons]
    exact ⟨fun hm => by
      have h1 := (ids_ltKs h.good _ hm).2
      have h2 : (newL D.next e).id = D.next := rfl
      omega, h.ids⟩
  · refine put_g g1 g2 ?_
    rw [gT]
    exact ⟨new_good h.next c1 c2, .inr rfl, trivial⟩

theorem out_inv {D : DocL} (h : Inv D) {id : Int} {fr : FrL} {u : List FrL} {ks : List Lay} (hf : flK [] [] id D.ks = some (fr :: u, ks)) :
    Inv ⟨D.w, D.h, D.next, plugL u (fr.pre ++ fr.post)⟩ ∧ gT (goodF D.w D.h D.next) (.mk fr.f ks) ∧ (idsT (.mk fr.f ks) ++ idsKs (plugL u (fr.pre ++ fr.post))).Nodup ∧ cntL (.mk fr.f ks) + cntKs (plugL u (fr.pre ++ fr.post)) = cntKs D.ks := by
  have hp : plugL (fr :: u) ks = D.ks := (flK_plug D.ks _ _ _ hf).1
  have hgd := h.good
  have hi := h.ids
  have hcn := h.cnt
  have hdp := h.dep
  rw [← hp] at hgd hi hcn hdp
  obtain ⟨u1, u2, u3, u4⟩ := g_node hgd
  have hids : (idsKs (plugL (fr :: u) ks)).Perm (idsT (.mk fr.f ks) ++ idsKs (plugL u (fr.pre ++ fr.post))) := by
    refine (ids_plug _ _).trans (List.Perm.trans ?_ (List.Perm.append_left _ (ids_plug u _).symm))
    refine List.perm_iff_count.2 fun x => ?_
    simp only [idsUp, idsT, idsKs_app, List.count_append, List.count_cons]
    ac_rfl
  have hno := (hids.nodup_iff).1 hi
  have hct : cntL (.mk fr.f ks) + cntKs (plugL u (fr.pre ++ fr.post)) = cntKs D.ks := by
    rw [← hp, cnt_plug, cnt_plug, cntUp, cntKs_app, cntL]; omega
  refine ⟨⟨h.size, h.next, by have := h.cnt; show cntKs (plugL u (fr.pre ++ fr.post)) ≤ 4096; omega, ?_, (List.nodup_append.1 hno).2.1, ?_⟩, u3, hno, hct⟩
  · show depKs (plugL u (fr.pre ++ fr.post)) ≤ 64
    rw [dep_plug] at hdp ⊢
    refine Nat.le_trans ?_ hdp
    rw [depUp, depKs_app]
    exact depUp_mono u (by omega)
  · exact g_plug u1 (gKs_app.2 ⟨u2, u4⟩)

theorem move_inv {D : DocL} (h : Inv D) {e : Ed} (h0 : (moveL D.ks e).1 = 0) : Inv ⟨D.w, D.h, D.next, (moveL D.ks e).2⟩ := by
  rcases fl_cases e.id D.ks with hn | ⟨fr, u, ks, hf, hid, hp⟩
  · unfold moveL at h0; rw [hn] at h0; simp at h0
  · obtain ⟨o1, o2, o3, o4⟩ := out_inv h hf
    unfold moveL at h0 ⊢
    rw [hf] at h0 ⊢
    simp only at h0 ⊢
    split at h0
    · rename_i c; exact absurd h0 c
    rename_i c1
    split at h0
    · simp at h0
    rename_i c2
    split at h0
    · rename_i c; exact absurd h0 c
    rename_i c3
    rw [if_neg c1, if_neg c2, if_neg c3]
    have hho := home_tri (Decidable.byContradiction c3)
    obtain ⟨hp2, hgu⟩ := home_cases _ e.to hho
    obtain ⟨i, hi, hpu, hdp⟩ := put_ok h0
    obtain ⟨g1, g2⟩ := hgu o1.good
    rw [hpu]
    refine ⟨h.size, h.next, ?_, hdp, ?_, put_g g1 g2 o2⟩
    · show cntKs (plugL _ _) ≤ 4096
      have := h.cnt
      rw [put_cnt, hp2]; omega
    · refine ((put_ids _ _ i _).nodup_iff).2 ?_
      rw [hp2]; exact o3

/-- An edit that is done keeps it. -/
theorem do_inv {D : DocL} (h : Inv D) {e : Ed} (h0 : (doD D e).1 = 0) : Inv (doD D e).2 := by
  unfold doD at h0 ⊢
  by_cases hd : (doL D.w D.h D.next D.ks e).1 ≠ 0
  · rw [if_pos hd] at h0; exact absurd h0 hd
  rw [if_neg hd]
  unfold doL at hd ⊢
  by_cases hk : e.kind < 1 ∨ e.kind > 9
  · rw [if_pos hk] at hd; simp at hd
  rw [if_neg hk] at hd ⊢
  by_cases hs : (stepL D.w D.h D.next D.ks e).1 ≠ 0
  · rw [if_pos hs] at hd; exact absurd hs hd
  rw [if_neg hs]
  have hs := Decidable.byContradiction hs
  show Inv ⟨D.w, D.h, nextL D.next e, (stepL D.w D.h D.next D.ks e).2⟩
  unfold stepL at hs ⊢
  by_cases k1 : e.kind = 1
  · rw [if_pos k1] at hs ⊢; rw [show nextL D.next e = D.next + 1 from by unfold nextL; rw [if_pos k1]]; exact add_inv h hs
  rw [if_neg k1] at hs ⊢
  rw [show nextL D.next e = D.next from by unfold nextL; rw [if_neg k1]]
  by_cases k2 : e.kind = 2
  · rw [if_pos k2] at hs ⊢
    rcases fl_cases e.id D.ks with hn | ⟨fr, u, ks, hf, hid, hp⟩
    · unfold removeL at hs; rw [hn] at hs; simp at hs
    · have := (out_inv h hf).1
      unfold removeL; rw [hf]; exact this
  rw [if_neg k2] at hs ⊢
  by_cases k3 : e.kind = 3
  · rw [if_pos k3] at hs ⊢; exact move_inv h hs
  rw [if_neg k3] at hs ⊢
  by_cases k4 : e.kind = 4
  · rw [if_pos k4] at hs ⊢; exact chg_inv h (fun f => paint_good) hs
  rw [if_neg k4] at hs ⊢
  by_cases k5 : e.kind = 5
  · rw [if_pos k5] at hs ⊢; exact chg_inv h (fun f => look_good) hs
  rw [if_neg k5] at hs ⊢
  by_cases k6 : e.kind = 6
  · rw [if_pos k6] at hs ⊢; exact chg_inv h (fun f => hide_good) hs
  rw [if_neg k6] at hs ⊢
  by_cases k7 : e.kind = 7
  · rw [if_pos k7] at hs ⊢; exact chg_inv h (fun f => mask_good h.size) hs
  rw [if_neg k7] at hs ⊢
  by_cases k8 : e.kind = 8
  · rw [if_pos k8] at hs ⊢; exact chg_inv h (fun f => place_good) hs
  rw [if_neg k8] at hs ⊢
  by_cases k9 : e.kind = 9
  · rw [if_pos k9] at hs ⊢; exact chg_inv h (fun f => adjust_good) hs
  · rw [if_neg k9] at hs; simp at hs
theorem new_inv {w h : Int} (hs : sizedB w h = true) : Inv ⟨w, h, 1, []⟩ := ⟨hs, Int.le_refl _, by simp [cntKs], by simp [depKs], by simp [idsKs], trivial⟩
end Go.Proofs

/-
  OWN WORK. The document's layers, in one list, each with the group that it stands in; how they stand to the tree's. Plain.
-/
set_option linter.unusedVariables false
set_option linter.unusedSimpArgs false
set_option maxRecDepth 10000
namespace Go.Proofs
open Go.Sh

structure Rw where
  f : LayF
  to : Int
  deriving DecidableEq

mutual
def flatT (to : Int) : Lay → List Rw
  | .mk f ks => ⟨f, to⟩ :: flatKs f.id ks
def flatKs (to : Int) : List Lay → List Rw
  | [] => []
  | t :: ts => flatT to t ++ flatKs to ts
end
/-- Those that stand in a group. -/
def ofG (to : Int) (L : List Rw) : List Rw := L.filter fun r => decide (r.to = to)
/-- The same layers, each group's in the same order. -/
def Rel (D : List Lay) (L : List Rw) : Prop := ∀ to, ofG to L = ofG to (flatKs 0 D)

theorem flatKs_cons (to : Int) (f : LayF) (ks ts : List Lay) : flatKs to (.mk f ks :: ts) = ⟨f, to⟩ :: (flatKs f.id ks ++ flatKs to ts) := by rw [flatKs, flatT]; rfl
/-- The numbers of a list. -/
def idsR (L : List Rw) : List Int := L.map fun r => r.f.id
theorem idsR_app (a b : List Rw) : idsR (a ++ b) = idsR a ++ idsR b := List.map_append
theorem flat_ids : ∀ t to, idsR (flatT to t) = idsT t := Lay.ind fun f ks ih to => by
  rw [flatT, idsT, idsR, List.map_cons]
  have : ∀ (ts : List Lay), (∀ t ∈ ts, t ∈ ks) → ∀ g, idsR (flatKs g ts) = idsKs ts := by
    intro ts
    induction ts with
    | nil => intro _ g; rfl
    | cons t ts ih2 => intro hm g; rw [flatKs, idsKs, idsR_app, ih t (hm t List.mem_cons_self), ih2 fun t ht => hm t (List.mem_cons_of_mem _ ht)]
  rw [show List.map (fun r => r.f.id) (flatKs f.id ks) = idsKs ks from this ks (fun _ h => h) f.id]
theorem flatKs_ids : ∀ (ts : List Lay) (to : Int), idsR (flatKs to ts) = idsKs ts
  | [], to => rfl
  | t :: ts, to => by rw [flatKs, idsKs, idsR_app, flat_ids, flatKs_ids ts]
theorem to_memT : ∀ t g, ∀ x ∈ flatT g t, x.to = g ∨ x.to ∈ idsT t := Lay.ind fun f ks ih g x hx => by
  rw [flatT] at hx
  rw [idsT]
  rcases List.mem_cons.1 hx with rfl | hx
  · exact .inl rfl
  · have : ∀ (ts : List Lay), (∀ t ∈ ts, t ∈ ks) → ∀ x ∈ flatKs f.id ts, x.to = f.id ∨ x.to ∈ idsKs ts := by
      intro ts
      induction ts with
      | nil => intro _ x hx; cases hx
      | cons t ts ih2 =>
        intro hm x hx
        rw [flatKs] at hx
        rw [idsKs]
        rcases List.mem_append.1 hx with hx | hx
        · exact (ih t (hm t List.mem_cons_self) _ x hx).imp id fun h => List.mem_append_left _ h
        · exact (ih2 (fun t ht => hm t (List.mem_cons_of_mem _ ht)) x hx).imp id fun h => List.mem_append_right _ h
    rcases this ks (fun _ h => h) x hx with h | h
    · exact .inr (h ▸ List.mem_cons_self)
    · exact .inr (List.mem_cons_of_mem _ h)
theorem to_mem : ∀ {ts : List Lay} {g : Int}, ∀ x ∈ flatKs g ts, x.to = g ∨ x.to ∈ idsKs ts
  | [], g, x, hx => by cases hx
  | t :: ts, g, x, hx => by
    rw [flatKs] at hx
    rw [idsKs]
    rcases List.mem_append.1 hx with hx | hx
    · exact (to_memT t g x hx).imp id fun h => List.mem_append_left _ h
    · exact (to_mem x hx).imp id fun h => List.mem_append_right _ h
/-- Numbers that are right: none twice, none 0. -/
structure Ids (D : List Lay) : Prop where
  nodup : (idsKs D).Nodup
  pos : ∀ x ∈ idsKs D, x ≠ 0
theorem Ids.split {fr : FrL} {u : List FrL} {ks : List Lay} (h : Ids (plugL (fr :: u) ks)) : fr.f.id ≠ 0 ∧ fr.f.id ∉ idsKs ks ∧ fr.f.id ∉ idsUp u ∧ fr.f.id ∉ idsKs fr.pre ∧ fr.f.id ∉ idsKs fr.post ∧ (∀ x ∈ idsKs ks, x ≠ 0 ∧ x ∉ idsUp (fr :: u)) := by
  have hp := ids_plug (fr :: u) ks
  have hn := (hp.nodup_iff).1 h.nodup
  have hz : ∀ x, x ∈ idsKs ks ++ idsUp (fr :: u) → x ≠ 0 := fun x hx => h.pos x (hp.mem_iff.2 hx)
  rw [List.nodup_append] at hn
  have hu := hn.2.1
  have e2 : (idsUp (fr :: u)).Perm (fr.f.id :: (idsKs fr.pre ++ idsKs fr.post ++ idsUp u)) := by rw [idsUp]
  have hu2 := (e2.nodup_iff).1 hu
  rw [List.nodup_cons] at hu2
  have hm := hu2.1
  simp only [List.mem_append, not_or] at hm
  have hfm : fr.f.id ∈ idsUp (fr :: u) := e2.mem_iff.2 List.mem_cons_self
  exact ⟨hz _ (List.mem_append_right _ hfm), fun hk => hn.2.2 _ hk _ hfm rfl, hm.2, hm.1.1, hm.1.2, fun x hx => ⟨hz x (List.mem_append_left _ hx), fun hxu => hn.2.2 _ hx _ hxu rfl⟩⟩

theorem Rel.perm {D : List Lay} {L : List Rw} (h : Rel D L) : L.Perm (flatKs 0 D) := List.perm_iff_count.2 fun x => by
  have hc : ∀ M : List Rw, M.count x = (ofG x.to M).count x := fun M => by unfold ofG; rw [List.count_filter (by simp)]
  rw [hc, hc (flatKs 0 D), h]
theorem Rel.mem {D : List Lay} {L : List Rw} (h : Rel D L) {x : Rw} : x ∈ L ↔ x ∈ flatKs 0 D := h.perm.mem_iff
theorem Rel.ids {D : List Lay} {L : List Rw} (h : Rel D L) : (idsR L).Perm (idsKs D) := by
  rw [← flatKs_ids D 0]; exact h.perm.map _
theorem Rel.nodup {D : List Lay} {L : List Rw} (h : Rel D L) (hi : Ids D) : (idsR L).Nodup := (h.ids.nodup_iff).2 hi.nodup
theorem Rel.len {D : List Lay} {L : List Rw} (h : Rel D L) : L.length = cntKs D := by
  rw [h.perm.length_eq]
  have : ∀ t g, (flatT g t).length = cntL t := Lay.ind fun f ks ih g => by
    rw [flatT, cntL, List.length_cons]
    have : ∀ (ts : List Lay), (∀ t ∈ ts, t ∈ ks) → (flatKs f.id ts).length = cntKs ts := by
      intro ts
      induction ts with
      | nil => intro _; rfl
      | cons t ts ih2 => intro hm; rw [flatKs, cntKs, List.length_append, ih t (hm t List.mem_cons_self), ih2 fun t ht => hm t (List.mem_cons_of_mem _ ht)]
    rw [this ks fun _ h => h]; omega
  have h2 : ∀ (ts : List Lay) (g : Int), (flatKs g ts).length = cntKs ts := by
    intro ts
    induction ts with
    | nil => intro g; rfl
    | cons t ts ih => intro g; rw [flatKs, cntKs, List.length_append, this, ih]
  exact h2 D 0
theorem ids_inj {L : List Rw} (hn : (idsR L).Nodup) : ∀ {x y : Rw}, x ∈ L → y ∈ L → x.f.id = y.f.id → x = y := by
  induction L with
  | nil => intro x y hx; cases hx
  | cons a L ih =>
    intro x y hx hy he
    rw [idsR, List.map_cons, List.nodup_cons] at hn
    rcases List.mem_cons.1 hx with hx | hx <;> rcases List.mem_cons.1 hy with hy | hy
    · rw [hx, hy]
    · exact absurd (List.mem_map.2 ⟨y, hy, by rw [← he, hx]⟩) hn.1
    · exact absurd (List.mem_map.2 ⟨x, hx, by rw [he, hy]⟩) hn.1
    · exact ih hn.2 hx hy he
/-- The numbers on the way from a layer to the root. -/
inductive Path (L : List Rw) : Int → List Int → Prop
  | nil : Path L 0 []
  | cons {r : Rw} {l : List Int} : r ∈ L → r.f.id ≠ 0 → Path L r.to l → Path L r.f.id (r.f.id :: l)
theorem Path.zero {L : List Rw} {l : List Int} (h : Path L 0 l) : l = [] := by
  generalize hz : (0 : Int) = z at h
  cases h with
  | nil => rfl
  | cons _ h1 _ => exact absurd hz.symm h1
theorem Path.uniq {L : List Rw} (hn : (idsR L).Nodup) {id : Int} {l : List Int} (h : Path L id l) : ∀ {l'}, Path L id l' → l = l' := by
  induction h with
  | nil => intro l' h'; exact h'.zero.symm
  | @cons r l hr h0 _ ih =>
    intro l' h'
    generalize hz : r.f.id = z at h'
    cases h' with
    | nil => exact absurd hz h0
    | @cons r' l2 hr' _ h2 => have e := ids_inj hn hr hr' hz; subst e; rw [ih h2]
/-- All that are within, at depths up to the deepest. -/
theorem path_allT {L : List Rw} : ∀ t g c, (∀ x ∈ flatT g t, x ∈ L ∧ x.f.id ≠ 0) → Path L g c → (∀ x ∈ flatT g t, ∃ c', Path L x.f.id c' ∧ c.length < c'.length ∧ c'.length ≤ c.length + depL t) ∧ ∃ x ∈ flatT g t, ∃ c', Path L x.f.id c' ∧ c'.length = c.length + depL t := by
  refine Lay.ind fun f ks ih g c hm hp => ?_
  rw [flatT] at hm ⊢
  rw [depL]
  obtain ⟨h1, h2⟩ := hm ⟨f, g⟩ List.mem_cons_self
  have hp1 : Path L f.id (f.id :: c) := Path.cons (r := ⟨f, g⟩) h1 h2 hp
  have : ∀ (ts : List Lay), (∀ t ∈ ts, t ∈ ks) → (∀ x ∈ flatKs f.id ts, x ∈ L ∧ x.f.id ≠ 0) → (∀ x ∈ flatKs f.id ts, ∃ c', Path L x.f.id c' ∧ c.length + 1 < c'.length ∧ c'.length ≤ c.length + 1 + depKs ts) ∧ (ts = [] ∨ ∃ x ∈ flatKs f.id ts, ∃ c', Path L x.f.id c' ∧ c'.length = c.length + 1 + depKs ts) := by
    intro ts
    induction ts with
    | nil => intro _ _; exact ⟨fun x hx => (by cases hx), .inl rfl⟩
    | cons t ts ih2 =>
      intro hk hm2
      rw [flatKs] at hm2 ⊢
      rw [depKs]
      obtain ⟨a1, x1, a2, c1, a3, a4⟩ := ih t (hk t List.mem_cons_self) f.id (f.id :: c) (fun x hx => hm2 x (List.mem_append_left _ hx)) hp1
      obtain ⟨b1, b2⟩ := ih2 (fun t ht => hk t (List.mem_cons_of_mem _ ht)) fun x hx => hm2 x (List.mem_append_right _ hx)
      rw [List.length_cons] at a1 a4
      refine ⟨fun x hx => ?_, .inr ?_⟩
      · rcases List.mem_append.1 hx with hx | hx
        · obtain ⟨c', q1, q2, q3⟩ := a1 x hx; exact ⟨c', q1, q2, by omega⟩
        · obtain ⟨c', q1, q2, q3⟩ := b1 x hx; exact ⟨c', q1, q2, by omega⟩
      · rcases Nat.lt_or_ge (depL t) (depKs ts) with hlt | hge
        · rcases b2 with rfl | ⟨x, hx, c', q1, q2⟩
          · rw [depKs] at hlt; omega
          · exact ⟨x, List.mem_append_right _ hx, c', q1, by omega⟩
        · exact ⟨x1, List.mem_append_left _ a2, c1, a3, by omega⟩
  obtain ⟨b1, b2⟩ := this ks (fun _ h => h) fun x hx => hm x (List.mem_cons_of_mem _ hx)
  refine ⟨fun x hx => ?_, ?_⟩
  · rcases List.mem_cons.1 hx with rfl | hx
    · exact ⟨_, hp1, by simp, by rw [List.length_cons]; omega⟩
    · obtain ⟨c', q1, q2, q3⟩ := b1 x hx; exact ⟨c', q1, by omega, by omega⟩
  · rcases b2 with rfl | ⟨x, hx, c', q1, q2⟩
    · exact ⟨_, List.mem_cons_self, _, hp1, by simp [depKs]⟩
    · exact ⟨x, List.mem_cons_of_mem _ hx, c', q1, by omega⟩
theorem path_ks {L : List Rw} {g : Int} {c : List Int} (hp : Path L g c) : ∀ ts : List Lay, (∀ x ∈ flatKs g ts, x ∈ L ∧ x.f.id ≠ 0) → (∀ x ∈ flatKs g ts, ∃ c', Path L x.f.id c' ∧ c.length < c'.length ∧ c'.length ≤ c.length + depKs ts) ∧ (ts = [] ∨ ∃ x ∈ flatKs g ts, ∃ c', Path L x.f.id c' ∧ c'.length = c.length + depKs ts)
  | [], _ => ⟨fun x hx => (by cases hx), .inl rfl⟩
  | t :: ts, hm => by
    rw [flatKs] at hm ⊢
    rw [depKs]
    obtain ⟨a1, x1, a2, c1, a3, a4⟩ := path_allT t g c (fun x hx => hm x (List.mem_append_left _ hx)) hp
    obtain ⟨b1, b2⟩ := path_ks hp ts fun x hx => hm x (List.mem_append_right _ hx)
    refine ⟨fun x hx => ?_, .inr ?_⟩
    · rcases List.mem_append.1 hx with hx | hx
      · obtain ⟨c', q1, q2, q3⟩ := a1 x hx; exact ⟨c', q1, q2, by omega⟩
      · obtain ⟨c', q1, q2, q3⟩ := b1 x hx; exact ⟨c', q1, q2, by omega⟩
    · rcases Nat.lt_or_ge (depL t) (depKs ts) with hlt | hge
      · rcases b2 with rfl | ⟨x, hx, c', q1, q2⟩
        · rw [depKs] at hlt; omega
        · exact ⟨x, List.mem_append_right _ hx, c', q1, by omega⟩
      · exact ⟨x1, List.mem_append_left _ a2, c1, a3, by omega⟩

end Go.Proofs

/-
  OWN WORK. Edits, in the tree and in the list; documents that are alike. Plain.
-/
set_option linter.unusedVariables false
set_option linter.unusedSimpArgs false
set_option maxRecDepth 10000
namespace Go.Proofs
open Go.Sh

theorem Ids.perm {D D' : List Lay} {x : List Int} (h : Ids D) (hp : (idsKs D').Perm (x ++ idsKs D)) (hx : x.Nodup) (hz : ∀ y ∈ x, y ≠ 0 ∧ y ∉ idsKs D) : Ids D' :=
  ⟨(hp.nodup_iff).2 (List.nodup_append.2 ⟨hx, h.nodup, fun a ha b hb hab => (hz a ha).2 (hab ▸ hb)⟩), fun y hy => by
    rcases List.mem_append.1 (hp.mem_iff.1 hy) with h1 | h1
    · exact (hz y h1).1
    · exact h.pos y h1⟩
theorem rel_paths {D : List Lay} {L : List Rw} (hr : Rel D L) (hi : Ids D) : (∀ r ∈ L, ∃ c, Path L r.f.id c ∧ 0 < c.length ∧ c.length ≤ depKs D) ∧ (D = [] ∨ ∃ r ∈ L, ∃ c, Path L r.f.id c ∧ c.length = depKs D) := by
  have hm : ∀ x ∈ flatKs 0 D, x ∈ L ∧ x.f.id ≠ 0 := fun x hx => ⟨hr.mem.2 hx, hi.pos _ (by rw [← flatKs_ids D 0]; exact List.mem_map.2 ⟨x, hx, rfl⟩)⟩
  obtain ⟨h1, h2⟩ := path_ks (L := L) .nil D hm
  refine ⟨fun r hrm => ?_, h2.imp id fun ⟨x, hx, c, q1, q2⟩ => ⟨x, hr.mem.2 hx, c, q1, by simpa using q2⟩⟩
  obtain ⟨c, q1, q2, q3⟩ := h1 r (hr.mem.1 hrm)
  exact ⟨c, q1, by simpa using q2, by simpa using q3⟩

end Go.Proofs

/-
  OWN WORK. Documents as their users see them: edited, counted, searched, compared.
-/
set_option linter.unusedVariables false
set_option linter.unusedSimpArgs false
set_option maxRecDepth 10000
namespace Go.Proofs
open Go.Sh
variable {H0 H : Heap} {σ : List Rs} {R : Value → Heap → Prop}

/-- A document that can be read. -/
def DocR (H : Heap) (A : Array Value) (D : DocL) : Prop := ∃ K ks, A = docA D.w D.h D.next K ∧ grp H K ks ∧ layKs ks = D.ks
theorem DocR.ext {H H' : Heap} {A : Array Value} {D : DocL} (h : DocR H A D) (he : Ext H H') : DocR H' A D := let ⟨K, ks, h1, h2, h3⟩ := h; ⟨K, ks, h1, h2.ext he, h3⟩
theorem DocR.size {H : Heap} {A : Array Value} {D : DocL} (h : DocR H A D) : A.size = 4 := by obtain ⟨K, ks, rfl, _⟩ := h; rfl
theorem DocR.one {H : Heap} {A : Array Value} {D : DocL} (h : DocR H A D) : ∀ v ∈ A.toList, v.oneCell' = true := by obtain ⟨K, ks, rfl, _⟩ := h; exact docA_one _ _ _ _
theorem DocR.zero (H : Heap) : DocR H (docA 0 0 0 .nil) zeroD := ⟨.nil, [], rfl, grp.nil H, rfl⟩
theorem DocR.new (H : Heap) (w h : Int) : DocR H (docA w h 1 .nil) ⟨w, h, 1, []⟩ := ⟨.nil, [], rfl, grp.nil H, rfl⟩

theorem c25 {A : Array Value} {D : DocL} (hd : DocR H A D) (hc : cntKs D.ks ≤ 1000000000) (hR : ∀ H', Ext H H' → R (.int .i64 (cntKs D.ks)) H') : CallsH Try.prog 25 #[.agg A] H R := by
  obtain ⟨K, ks, rfl, hg, hl⟩ := hd
  refine Try.s25 ?_
  unfold Try.S25
  refine (St.nil H).alcE fun b2 H3 he3 hs3 => ⟨_, _, _, hs3.get 0 rfl (j := 3) rfl, ?_⟩
  refine c53 (K := K) (hg.ext he3) (by rw [hl]; omega) fun H6 he6 => ⟨_, rfl, ?_⟩
  rw [hl]; exact hR H6 (he3.trans he6)
theorem c26 {A : Array Value} {D : DocL} (hd : DocR H A D) (hc : cntKs D.ks ≤ 1000000000) (hR : ∀ H', Ext H H' → R (.int .i64 (depKs D.ks)) H') : CallsH Try.prog 26 #[.agg A] H R := by
  obtain ⟨K, ks, rfl, hg, hl⟩ := hd
  refine Try.s26 ?_
  unfold Try.S26
  refine (St.nil H).alcE fun b2 H3 he3 hs3 => ⟨_, _, _, hs3.get 0 rfl (j := 3) rfl, ?_⟩
  refine c54 (K := K) (hg.ext he3) (by rw [hl]; omega) fun H6 he6 => ⟨_, rfl, ?_⟩
  rw [hl]; exact hR H6 (he3.trans he6)

/-- Where a layer stands: its group's number, its place. -/
def parentL (D : List Lay) (id : Int) : Int × Int × Bool :=
  match flK [] [] id D with
  | some (fr :: u, _) => (match u with | [] => 0 | fp :: _ => fp.f.id, fr.pre.length, true)
  | _ => (0, 0, false)
def zeroF : LayF := ⟨0, 0, false, 0, 0, 0, 0, [], [], ⟨0, 0, 0, 0, 0, 0⟩, false, 0, []⟩
theorem rd_root {K : Sl3} {ks : List T} (hg : grp H K ks) : rdT H (rootT K ks) := by
  unfold rootT
  rw [rdT]
  exact ⟨⟨rfl, fun i v h => by simp [rootF, ints] at h⟩, ⟨rfl, fun i v h => by simp [rootF, kints] at h⟩, ⟨rfl, fun i v h => by simp [rootF, ints] at h⟩, hg⟩

/-- What is found can be read: row by row down the frames. -/
theorem fz_rd (id : Int) : ∀ (t : T) {H : Heap} (up : List Fr) (K : Sl3) (pre post : List T) (z : Z), grp H K (pre ++ t :: post) → fzT up K pre post id t = some z → (∃ fr u, z.1 = fr :: u ∧ ∃ a, fr.ad = some a ∧ rowIn H a (cellsT (fr.node z.2.1 z.2.2)).toArray ∧ rdT H (fr.node z.2.1 z.2.2)) ∧
    (∀ (fp : Fr) (up' : List Fr) (ap : Addr) (Kp : Sl3) (ksp : List T), up = fp :: up' → fp.ad = some ap → rowIn H ap (cellsT (fp.node Kp ksp)).toArray → ∃ fr fq u, z.1 = fr :: fq :: u ∧ ∃ aq Kq ksq, fq.ad = some aq ∧ rowIn H aq (cellsT (fq.node Kq ksq)).toArray) := by
  refine T.ind fun f P M A K' ks ih {H} up K pre post z hg hz => ?_
  obtain ⟨a, h1, h2, h3⟩ := hg.get (i := pre.length) (t := .mk f P M A K' ks) (by rw [List.getElem?_append_right (Nat.le_refl _), Nat.sub_self]; rfl)
  have had : (⟨K, pre, f, P, M, A, post⟩ : Fr).ad = some (a.add (pre.length * 19)) := by unfold Fr.ad; rw [h1]; rfl
  rw [fzT] at hz
  split at hz
  · cases hz
    exact ⟨⟨_, _, rfl, _, had, h2, h3⟩, fun fp up' ap Kp ksp hup hap hrow => ⟨_, fp, up', by rw [hup], ap, Kp, ksp, hap, hrow⟩⟩
  · have : ∀ (ts done : List T), ks = done ++ ts → ∀ (u : List Fr), fzK (⟨K, pre, f, P, M, A, post⟩ :: up) K' done id ts = some z → (∃ fr u, z.1 = fr :: u ∧ ∃ a, fr.ad = some a ∧ rowIn H a (cellsT (fr.node z.2.1 z.2.2)).toArray ∧ rdT H (fr.node z.2.1 z.2.2)) ∧
        ∃ fr fq u, z.1 = fr :: fq :: u ∧ ∃ aq Kq ksq, fq.ad = some aq ∧ rowIn H aq (cellsT (fq.node Kq ksq)).toArray := by
      intro ts
      induction ts with
      | nil => intro done _ u h; rw [fzK] at h; cases h
      | cons t ts ih2 =>
        intro done hd u h
        rw [fzK] at h
        split at h
        · rename_i z' hz'
          cases h
          obtain ⟨g1, g2⟩ := ih t (by rw [hd]; simp) _ _ _ _ _ (by rw [← hd]; exact rdT.grp h3) hz'
          exact ⟨g1, g2 _ _ _ K' ks rfl had h2⟩
        · exact ih2 (done ++ [t]) (by rw [hd]; simp) u h
    obtain ⟨g1, g2⟩ := this ks [] rfl [] hz
    exact ⟨g1, fun _ _ _ _ _ _ _ _ => g2⟩
theorem fzK_rd {id : Int} : ∀ (ts : List T) {H : Heap} (up : List Fr) (K : Sl3) (pre : List T) (z : Z), grp H K (pre ++ ts) → fzK up K pre id ts = some z → (∃ fr u, z.1 = fr :: u ∧ ∃ a, fr.ad = some a ∧ rowIn H a (cellsT (fr.node z.2.1 z.2.2)).toArray ∧ rdT H (fr.node z.2.1 z.2.2)) ∧
    (∀ (fp : Fr) (up' : List Fr) (ap : Addr) (Kp : Sl3) (ksp : List T), up = fp :: up' → fp.ad = some ap → rowIn H ap (cellsT (fp.node Kp ksp)).toArray → ∃ fr fq u, z.1 = fr :: fq :: u ∧ ∃ aq Kq ksq, fq.ad = some aq ∧ rowIn H aq (cellsT (fq.node Kq ksq)).toArray)
  | [], H, up, K, pre, z, _, h => by rw [fzK] at h; cases h
  | t :: ts, H, up, K, pre, z, hg, h => by
    rw [fzK] at h
    split at h
    · rename_i z' hz'
      cases h
      exact fz_rd id t _ _ _ _ _ hg hz'
    · exact fzK_rd ts up K (pre ++ [t]) z (by rw [List.append_assoc]; exact hg) h

theorem root_find {b : Nat} {K : Sl3} {ks : List T} {H1 : Heap} (hg : grp H K ks) (he : Ext H H1) (hb : H1[b]? = some (.cells (cellsT (rootT K [])).toArray 58)) {id : Int} (hc : cntKs (layKs ks) ≤ 1000000000)
    (hR : ∀ H', Ext H1 H' → (∀ z, fzK [rootFr b] K [] id ks = some z → (resZ (some z)).1 ≠ none) →
      R (.tuple #[.pointer (resZ (fzK [rootFr b] K [] id ks)).1, .pointer (resZ (fzK [rootFr b] K [] id ks)).2.1, .int .i64 (resZ (fzK [rootFr b] K [] id ks)).2.2]) H') : CallsH Try.prog 51 #[.pointer (some ⟨b, 0, none⟩), .int .i64 id] H1 R :=
  c51 (rootT K ks) (fr := rootFr b) (up := []) (root_ad b) (rowIn_whole hb) (rd_root (hg.ext he)) (by show cntKs (layKs ks) ≤ _; omega) hR

theorem c23 {A : Array Value} {D : DocL} {id : Int} (hd : DocR H A D) (hc : cntKs D.ks ≤ 1000000000) (hR : ∀ H', Ext H H' → R (.tuple #[.int .i64 (parentL D.ks id).1, .int .i64 (parentL D.ks id).2.1, .bool (parentL D.ks id).2.2]) H') : CallsH Try.prog 23 #[.agg A, .int .i64 id] H R := by
  obtain ⟨K, ks, rfl, hg, hl⟩ := hd
  rw [← hl] at hc hR
  refine Try.s23 ?_
  unfold Try.S23
  refine (St.nil H).alc fun b3 H4 hs4 => ?_
  refine c40 (hs4.block 0 rfl) fun rb H6 hp6 => ⟨_, rfl, ?_⟩
  have he6 := hs4.ext.trans hp6.ext
  refine root_find hg he6 (hp6.block 0 rfl) hc fun H9 he9 hne => ⟨_, _, _, rfl, ?_⟩
  have he := he6.trans he9
  rcases find_cases rb K ks id with ⟨hz, hf⟩ | ⟨fr, u, K', ks', hz, hid, hf⟩
  · rw [hz]
    have hpl : parentL (layKs ks) id = (0, 0, false) := by unfold parentL; rw [hf]
    have := hR H9 he
    rw [hpl] at this
    exact br_t rfl this
  · obtain ⟨g1, g2⟩ := fzK_rd ks _ _ _ _ (hg.ext he) hz
    obtain ⟨fr', fq, u', hz1, aq, Kq, ksq, haq, hrq⟩ := g2 (rootFr rb) [] ⟨rb, 0, none⟩ K ks rfl (root_ad rb) (rowAt_ext he9 (rowIn_whole (hp6.block 0 rfl)))
    obtain ⟨fr2, u2, hz2, a2, ha2, hr2, _⟩ := g1
    simp only at hz1 hz2
    rw [hz1] at hz2
    cases hz2
    have hfr : fr' = fr := by simp only [List.cons.injEq] at hz1; exact hz1.1.symm
    subst hfr
    have hu : u ++ [rootFr rb] = fq :: u' := by simp only [List.cons.injEq] at hz1; exact hz1.2
    have hpl : parentL (layKs ks) id = (fq.f.id, ((fr'.pre.length : Nat) : Int), true) := by
      unfold parentL
      rw [hf]
      cases u with
      | nil =>
        simp only [List.nil_append, List.cons.injEq] at hu
        rw [← hu.1]
        show ((0 : Int), (((layKs fr'.pre).length : Nat) : Int), true) = _
        rw [layKs_len]; rfl
      | cons x u =>
        simp only [List.cons_append, List.cons.injEq] at hu
        rw [← hu.1]
        show (x.f.id, (((layKs fr'.pre).length : Nat) : Int), true) = _
        rw [layKs_len]
    have := hR H9 he
    rw [hpl] at this
    rw [hz, hz1]
    refine br_f (by show Option.isNone fr'.ad = false; rw [ha2]; rfl) ⟨aq, haq, fq.f.id, hrq 0 _ rfl, this⟩

/-- A layer that can be read. -/
def LayR (H : Heap) (A : Array Value) (l : Lay) : Prop := ∃ t, A = (cellsT t).toArray ∧ rdT H t ∧ layT t = l
theorem LayR.ext {H H' : Heap} {A : Array Value} {l : Lay} (h : LayR H A l) (he : Ext H H') : LayR H' A l := let ⟨t, h1, h2, h3⟩ := h; ⟨t, h1, rdT.ext he t h2, h3⟩
theorem LayR.zero (H : Heap) : LayR H (cellsL zeroF Sl3.nil.v Sl3.nil.v Sl3.nil.v Sl3.nil.v).toArray (.mk zeroF []) := by
  refine ⟨.mk zeroF .nil .nil .nil .nil [], rfl, ?_, rfl⟩
  rw [rdT]
  exact ⟨⟨rfl, fun i v h => by simp [zeroF, ints] at h⟩, ⟨rfl, fun i v h => by simp [zeroF, kints] at h⟩, ⟨rfl, fun i v h => by simp [zeroF, ints] at h⟩, grp.nil H⟩

end Go.Proofs

/-
  OWN WORK. Documents are compared.
-/
set_option linter.unusedVariables false
set_option linter.unusedSimpArgs false
set_option maxRecDepth 10000
namespace Go.Proofs
open Go.Sh
variable {H0 H : Heap} {σ : List Rs} {R : Value → Heap → Prop}

mutual
def sameT : Lay → Lay → Bool
  | .mk f ks, .mk g ls => decide (f = g) && sameKs ks ls
def sameKs : List Lay → List Lay → Bool
  | [], [] => true
  | t :: ts, u :: us => sameT t u && sameKs ts us
  | _, _ => false
end
theorem sameT_iff : ∀ t u, sameT t u = true ↔ t = u := Lay.ind fun f ks ih u => by
  cases u with | mk g ls =>
  rw [sameT, Bool.and_eq_true, decide_eq_true_eq]
  have : ∀ (ts us : List Lay), (∀ t ∈ ts, t ∈ ks) → (sameKs ts us = true ↔ ts = us) := by
    intro ts
    induction ts with
    | nil => intro us _; cases us <;> simp [sameKs]
    | cons t ts ih2 =>
      intro us hm
      cases us with
      | nil => simp [sameKs]
      | cons u us => rw [sameKs, Bool.and_eq_true, ih t (hm t List.mem_cons_self) u, ih2 us fun t ht => hm t (List.mem_cons_of_mem _ ht), List.cons.injEq]
  rw [this ks ls fun _ h => h, Lay.mk.injEq]
theorem sameKs_iff : ∀ {ts us : List Lay}, sameKs ts us = true ↔ ts = us
  | [], [] => by simp [sameKs]
  | [], u :: us => by simp [sameKs]
  | t :: ts, [] => by simp [sameKs]
  | t :: ts, u :: us => by rw [sameKs, Bool.and_eq_true, sameT_iff, sameKs_iff, List.cons.injEq]
def sameD (D E : DocL) : Bool := decide (D.w = E.w) && (decide (D.h = E.h) && (decide (D.next = E.next) && sameKs D.ks E.ks))
theorem sameD_iff {D E : DocL} : sameD D E = true ↔ D = E := by
  unfold sameD
  rw [Bool.and_eq_true, Bool.and_eq_true, Bool.and_eq_true, decide_eq_true_eq, decide_eq_true_eq, decide_eq_true_eq, sameKs_iff]
  cases D; cases E; simp

theorem eq_take {α : Type} {xs ys : List α} {k : Nat} {x y : α} (h : xs.take k = ys.take k) (hx : xs[k]? = some x) (hy : ys[k]? = some y) : xs.take (k + 1) = ys.take (k + 1) ↔ x = y := by
  rw [take_succ hx, take_succ hy, h]; simp
theorem ne_take {α : Type} {xs ys : List α} {k : Nat} (h : xs.take k ≠ ys.take k) : xs ≠ ys := fun hh => h (by rw [hh])

theorem c84 {p q : Option Addr} {l m c d : Nat} {xs ys : List Int} (hx : IS H p l (ints xs)) (hy : IS H q m (ints ys)) (hl : l ≤ 1000000000000) (hR : R (.bool (decide (xs = ys))) H) : CallsH Try.prog 84 #[.slice p l c, .slice q m d] H R := by
  have hxl := hx.length
  have hyl := hy.length
  refine Try.s84 (br_ne (fun h => ?_) fun h => ?_)
  · rw [decide_eq_false (fun hh => h (by rw [← hxl, ← hyl, hh]))] at hR; exact hR
  · intro X hX
    have go : ∀ k, k ≤ l → xs.take k = ys.take k → X [.int .i64 (k : Nat)] H := by
      refine upto fun k hk ih ht => hX _ _ (br_dec (fun hlt => ?_) fun hge => ?_)
      · have hk' : k < l := by omega
        have e1 := List.getElem?_eq_getElem (show k < xs.length by omega)
        have e2 := List.getElem?_eq_getElem (show k < ys.length by omega)
        refine IS.rd (i := (k : Int)) hx (by omega) hlt e1 (IS.rd (i := (k : Int)) hy (by omega) (by omega) e2 ?_)
        refine br_ne (fun hne => ?_) fun heq => ?_
        · rw [decide_eq_false (ne_take (k := k + 1) fun hh => hne ((eq_take ht e1 e2).1 hh))] at hR; exact hR
        · rw [wrap_id (by omega) (by omega)]
          exact ih hk' ((eq_take ht e1 e2).2 heq)
      · have : k = l := by omega
        subst this
        rw [List.take_of_length_le (by omega), List.take_of_length_le (by omega)] at ht
        rw [decide_eq_true ht] at hR; exact hR
    exact go 0 (Nat.zero_le _) rfl
theorem c85 {p q : Option Addr} {l m c d : Nat} {xs ys : List Int} (hx : IS H p l (kints .u8 xs)) (hy : IS H q m (kints .u8 ys)) (hl : l ≤ 1000000000000) (hR : R (.bool (decide (xs = ys))) H) : CallsH Try.prog 85 #[.slice p l c, .slice q m d] H R := by
  have hxl := hx.length
  have hyl := hy.length
  refine Try.s85 (br_ne (fun h => ?_) fun h => ?_)
  · rw [decide_eq_false (fun hh => h (by rw [← hxl, ← hyl, hh]))] at hR; exact hR
  · intro X hX
    have go : ∀ k, k ≤ l → xs.take k = ys.take k → X [.int .i64 (k : Nat)] H := by
      refine upto fun k hk ih ht => hX _ _ (br_dec (fun hlt => ?_) fun hge => ?_)
      · have hk' : k < l := by omega
        have e1 := List.getElem?_eq_getElem (show k < xs.length by omega)
        have e2 := List.getElem?_eq_getElem (show k < ys.length by omega)
        refine IS.rd (i := (k : Int)) hx (by omega) hlt e1 (IS.rd (i := (k : Int)) hy (by omega) (by omega) e2 ?_)
        refine br_ne (fun hne => ?_) fun heq => ?_
        · rw [decide_eq_false (ne_take (k := k + 1) fun hh => hne ((eq_take ht e1 e2).1 hh))] at hR; exact hR
        · rw [wrap_id (by omega) (by omega)]
          exact ih hk' ((eq_take ht e1 e2).2 heq)
      · have : k = l := by omega
        subst this
        rw [List.take_of_length_le (by omega), List.take_of_length_le (by omega)] at ht
        rw [decide_eq_true ht] at hR; exact hR
    exact go 0 (Nat.zero_le _) rfl

def SameOk (t : T) : Prop := ∀ (u : T) {H : Heap} {R : Value → Heap → Prop}, rdT H t → rdT H u → okL (layT t) → (∀ H', Ext H H' → R (.bool (sameT (layT t) (layT u))) H') → CallsH Try.prog 58 #[.agg (cellsT t).toArray, .agg (cellsT u).toArray] H R

theorem equalFunc_of {ks : List T} (ih : ∀ t ∈ ks, SameOk t) {ls : List T} {K L : Sl3} (hg : grp H K ks) (hh : grp H L ls) (ho : okKs (layKs ks)) (hl : ks.length ≤ 1000000000) (hR : ∀ H', Ext H H' → R (.bool (sameKs (layKs ks) (layKs ls))) H') :
    CallsH Try.prog 57 #[.slice K.p K.l K.c, .slice L.p L.l L.c, .func (.func 58) #[] #[]] H R := by
  have hKl := hg.1.1
  have hLl := hh.1.1
  have no : ¬ (layKs ks = layKs ls) → ∀ {H'}, Ext H H' → R (.bool false) H' := fun hn {H'} he => by
    have := hR H' he
    rw [show sameKs (layKs ks) (layKs ls) = false from by rw [Bool.eq_false_iff]; exact fun hh => hn (sameKs_iff.1 hh)] at this
    exact this
  refine Try.s57 (br_ne (fun h => no (fun hh => h (by have := congrArg List.length hh; rw [layKs_len, layKs_len] at this; omega)) (Ext.refl H)) fun h => ?_)
  intro X hX
  have go : ∀ k, k ≤ ks.length → ∀ H1, Ext H H1 → (layKs ks).take k = (layKs ls).take k → X [.int .i64 (k : Nat)] H1 := by
    refine upto fun k hk ihk H1 he ht => hX _ _ (br_dec (fun hlt => ?_) fun hge => ?_)
    · have hk' : k < ks.length := by omega
      have e1 := List.getElem?_eq_getElem hk'
      have e2 := List.getElem?_eq_getElem (show k < ls.length by omega)
      have hm := List.getElem_mem hk'
      generalize ks[k] = t at e1 hm
      generalize ls[k]'(by omega) = u at e2
      obtain ⟨a, h1, h2, h3⟩ := (hg.ext he).get e1
      refine ⟨a, h1, by omega, hlt, (cellsT t).toArray, by simp [cellsT_len], h2, (St.nil H1).alc fun b9 H10 hs10 => ⟨by simp [cellsT_len], hs10.putAll 0 rfl (by simp [cellsT_len]) (by simpa using cellsT_one t) fun H11 hs11 => ?_⟩⟩
      obtain ⟨a', g1, g2, g3⟩ := (hh.ext (he.trans hs11.ext)).get e2
      refine ⟨a', g1, by omega, by omega, (cellsT u).toArray, by simp [cellsT_len], g2, hs11.alc fun b14 H15 hs15 => ⟨by simp [cellsT_len], hs15.putAll 0 rfl (by simp [cellsT_len]) (by simpa using cellsT_one u) fun H16 hs16 => ?_⟩⟩
      refine ⟨_, ?_, rowIn_whole (hs16.block 1 rfl), _, ?_, rowIn_whole (hs16.block 0 rfl), ?_⟩
      · simp [cellsT_len]
      · simp [cellsT_len]
      show CallsH Try.prog 58 #[.agg (cellsT t).toArray, .agg (cellsT u).toArray] H16 _
      refine ih t hm u (rdT.ext hs16.ext t h3) (rdT.ext ((he.trans hs16.ext)) u (rdKs_iff.1 hh.2 u (List.mem_of_getElem? e2))) (okKs_iff.1 ho _ (List.mem_of_getElem? (layKs_get e1))) fun H20 he20 => ⟨_, rfl, br_not (fun hf => ?_) fun htr => ?_⟩
      · refine no (ne_take (k := k + 1) fun hh => ?_) (he.trans (hs16.ext.trans he20))
        have := (eq_take ht (layKs_get e1) (layKs_get e2)).1 hh
        rw [(sameT_iff _ _).2 this] at hf; cases hf
      · rw [wrap_id (by omega) (by omega)]
        exact ihk hk' H20 (he.trans (hs16.ext.trans he20)) ((eq_take ht (layKs_get e1) (layKs_get e2)).2 ((sameT_iff _ _).1 htr))
    · have : k = ks.length := by omega
      subst this
      rw [List.take_of_length_le (by rw [layKs_len]; exact Nat.le_refl _), List.take_of_length_le (by rw [layKs_len]; omega)] at ht
      have := hR H1 he
      rw [sameKs_iff.2 ht] at this
      exact this
  exact go 0 (Nat.zero_le _) H (Ext.refl H) rfl

theorem M6_l {m n : M6} : m.l = n.l ↔ m = n := by
  cases m; cases n; simp [M6.l]

theorem c58 : ∀ t, SameOk t := by
  refine T.ind fun f P M A K ks ih => ?_
  intro u H R hr hu ho hR
  cases u with | mk g P2 M2 A2 K2 ks2 =>
  rw [rdT] at hr hu
  obtain ⟨hP, hM, hA, hK, hks⟩ := hr
  obtain ⟨hP2, hM2, hA2, hK2, hks2⟩ := hu
  rw [layT, okL] at ho
  obtain ⟨o1, o2, o3, o4, o5⟩ := ho
  rw [layKs_len] at o4
  have hPl := hP.length
  have hMl := hM.length
  have hAl := hA.length
  refine Try.s58 ?_
  unfold Try.S58
  refine (St.nil H).alc fun b3 H4 hs4 => hs4.alc fun b5 H6 hs6 => ?_
  have he6 := hs6.ext
  have hsame : sameT (layT (.mk f P M A K ks)) (layT (.mk g P2 M2 A2 K2 ks2)) = (decide (f = g) && sameKs (layKs ks) (layKs ks2)) := rfl
  rw [hsame] at hR
  have bad : f ≠ g → ∀ {H'}, Ext H H' → R (.bool false) H' := fun hn {H'} he => by
    have := hR H' he
    rw [decide_eq_false hn, Bool.false_and] at this; exact this
  intro J hJ
  have jbad : f ≠ g → J [.bool false] H6 := fun hn => hJ false H6 (br_f rfl (bad hn he6))
  refine ⟨_, hs6.get 1 rfl (j := 0) rfl, _, hs6.get 0 rfl (j := 0) rfl, br_eq (fun q0 => ?_) fun q0 => jbad fun hh => q0 (by rw [hh])⟩
  refine ⟨_, hs6.get 1 rfl (j := 1) rfl, _, hs6.get 0 rfl (j := 1) rfl, br_eq (fun q1 => ?_) fun q1 => jbad fun hh => q1 (by rw [hh])⟩
  refine ⟨_, hs6.get 1 rfl (j := 2) rfl, _, hs6.get 0 rfl (j := 2) rfl, br_i (fun q2 => ?_) fun q2 => jbad fun hh => by rw [hh] at q2; simp at q2⟩
  refine ⟨_, hs6.get 1 rfl (j := 3) rfl, _, hs6.get 0 rfl (j := 3) rfl, br_eq (fun q3 => ?_) fun q3 => jbad fun hh => q3 (by rw [hh])⟩
  refine ⟨_, hs6.get 1 rfl (j := 4) rfl, _, hs6.get 0 rfl (j := 4) rfl, br_eq (fun q4 => ?_) fun q4 => jbad fun hh => q4 (by rw [hh])⟩
  refine ⟨_, hs6.get 1 rfl (j := 5) rfl, _, hs6.get 0 rfl (j := 5) rfl, br_eq (fun q5 => ?_) fun q5 => jbad fun hh => q5 (by rw [hh])⟩
  refine ⟨_, hs6.get 1 rfl (j := 6) rfl, _, hs6.get 0 rfl (j := 6) rfl, br_eq (fun q6 => ?_) fun q6 => jbad fun hh => q6 (by rw [hh])⟩
  have rowMap : ∀ {b : Nat} {ff : LayF} {p m a k : Value}, H6[b]? = some (.cells (cellsL ff p m a k).toArray 58) → rowIn H6 ⟨b, 9, none⟩ (ints ff.map.l).toArray := fun hb =>
    rowIn_block hb fun j v hv => match j, hv with
      | 0, hv => hv
      | 1, hv => hv
      | 2, hv => hv
      | 3, hv => hv
      | 4, hv => hv
      | 5, hv => hv
      | j + 6, hv => by simp [ints, M6.l] at hv
  refine ⟨_, rfl, rowMap (hs6.block 1 rfl), _, rfl, rowMap (hs6.block 0 rfl), rfl, f.map.l, g.map.l, rfl, rfl, rfl, rfl, br_dec (fun q7 => ?_) fun q7 => jbad fun hh => q7 (by rw [hh])⟩
  refine ⟨_, hs6.get 1 rfl (j := 15) rfl, _, hs6.get 0 rfl (j := 15) rfl, br_i (fun q8 => ?_) fun q8 => jbad fun hh => by rw [hh] at q8; simp at q8⟩
  refine ⟨_, hs6.get 1 rfl (j := 16) rfl, _, hs6.get 0 rfl (j := 16) rfl, ?_⟩
  refine hJ _ _ (br_eq (fun q9 => ?_) fun q9 => bad (fun hh => q9 (by rw [hh])) he6)
  refine ⟨_, _, _, hs6.get 1 rfl (j := 7) rfl, _, _, _, hs6.get 0 rfl (j := 7) rfl, ?_⟩
  refine c84 (hP.ext he6) (hP2.ext he6) (by omega) ⟨_, rfl, br_dec (fun q10 => ?_) fun q10 => bad (fun hh => q10 (by rw [hh])) he6⟩
  refine ⟨_, _, _, hs6.get 1 rfl (j := 8) rfl, _, _, _, hs6.get 0 rfl (j := 8) rfl, ?_⟩
  refine c85 (hM.ext he6) (hM2.ext he6) (by omega) ⟨_, rfl, br_dec (fun q11 => ?_) fun q11 => bad (fun hh => q11 (by rw [hh])) he6⟩
  refine ⟨_, _, _, hs6.get 1 rfl (j := 17) rfl, _, _, _, hs6.get 0 rfl (j := 17) rfl, ?_⟩
  refine c84 (hA.ext he6) (hA2.ext he6) (by omega) ⟨_, rfl, br_dec (fun q12 => ?_) fun q12 => bad (fun hh => q12 (by rw [hh])) he6⟩
  refine ⟨_, _, _, hs6.get 1 rfl (j := 18) rfl, _, _, _, hs6.get 0 rfl (j := 18) rfl, ?_⟩
  have hfg : f = g := by
    have p2 : f.hidden = g.hidden := by simpa using q2
    have p8 : f.smooth = g.smooth := by simpa using q8
    have p7 := M6_l.1 q7
    clear q2 q7 q8
    cases f; cases g
    simp only at q0 q1 p2 q3 q4 q5 q6 p7 p8 q9 q10 q11 q12
    subst q0 q1 p2 q3 q4 q5 q6 p7 p8 q9 q10 q11 q12
    rfl
  refine equalFunc_of ih (K := K) (L := K2) (grp.ext ⟨hK, hks⟩ he6) (grp.ext ⟨hK2, hks2⟩ he6) o5 o4 fun H28 he28 => ⟨_, rfl, ?_⟩
  have := hR H28 (he6.trans he28)
  rw [decide_eq_true hfg, Bool.true_and] at this
  exact this

theorem c30 {A B : Array Value} {D E : DocL} (hd : DocR H A D) (he : DocR H B E) (hok : okKs D.ks) (hc : cntKs D.ks ≤ 1000000000) (hR : ∀ H', Ext H H' → R (.bool (sameD D E)) H') : CallsH Try.prog 30 #[.agg A, .agg B] H R := by
  obtain ⟨K, ks, rfl, hg, hl⟩ := hd
  obtain ⟨K2, ks2, rfl, hg2, hl2⟩ := he
  refine Try.s30 ?_
  unfold Try.S30
  refine (St.nil H).alc fun b3 H4 hs4 => hs4.alc fun b5 H6 hs6 => ?_
  have no : ¬ (D = E) → R (.bool false) H6 := fun hn => by
    have := hR H6 hs6.ext
    rw [show sameD D E = false from by rw [Bool.eq_false_iff]; exact fun hh => hn (sameD_iff.1 hh)] at this
    exact this
  refine ⟨_, hs6.get 1 rfl (j := 0) rfl, _, hs6.get 0 rfl (j := 0) rfl, br_eq (fun q0 => ?_) fun q0 => no fun hh => q0 (by rw [hh])⟩
  refine ⟨_, hs6.get 1 rfl (j := 1) rfl, _, hs6.get 0 rfl (j := 1) rfl, br_eq (fun q1 => ?_) fun q1 => no fun hh => q1 (by rw [hh])⟩
  refine ⟨_, hs6.get 1 rfl (j := 2) rfl, _, hs6.get 0 rfl (j := 2) rfl, br_eq (fun q2 => ?_) fun q2 => no fun hh => q2 (by rw [hh])⟩
  refine ⟨_, _, _, hs6.get 1 rfl (j := 3) rfl, _, _, _, hs6.get 0 rfl (j := 3) rfl, ?_⟩
  have hlk := len_cnt (layKs ks)
  rw [layKs_len, hl] at hlk
  refine equalFunc_of (fun t _ => c58 t) (K := K) (L := K2) (hg.ext hs6.ext) (hg2.ext hs6.ext) (by rw [hl]; exact hok) (by omega) fun H16 he16 => ⟨_, rfl, ?_⟩
  have := hR H16 (hs6.ext.trans he16)
  rw [show sameD D E = sameKs D.ks E.ks from by unfold sameD; rw [decide_eq_true q0, decide_eq_true q1, decide_eq_true q2]; rfl] at this
  rw [hl, hl2]
  exact this

end Go.Proofs

/-
  OWN WORK. The document's example; groups within groups.
-/
set_option linter.unusedVariables false
set_option linter.unusedSimpArgs false
set_option maxRecDepth 100000
namespace Go.Proofs
open Go.Sh
variable {H0 H : Heap} {σ : List Rs} {R : Value → Heap → Prop}

/-- An edit without pixels, shape or params. -/
def ed0 (kind id to at_ n m x y w h : Int) : Ed := ⟨kind, id, to, at_, n, m, x, y, w, h, [], [], zeroM, []⟩
def es0 : EdS := ⟨.nil, .nil, .nil⟩
theorem ed0_ok (H : Heap) (kind id to at_ n m x y w h : Int) : EdOk H (ed0 kind id to at_ n m x y w h) es0 :=
  ⟨⟨⟨rfl, fun i v h => by simp [ed0, ints] at h⟩, IS2.nil H, ⟨rfl, fun i v h => by simp [ed0, ints] at h⟩⟩, by simp [ed0], by simp [ed0]⟩

def anD0 : DocL := ⟨4, 4, 1, []⟩
def anD1 : DocL := (doD anD0 (ed0 1 0 0 (-1) 0 0 0 0 4 4)).2
def anD2 : DocL := (doD anD1 (ed0 1 0 0 0 1 0 0 0 0 0)).2
def anD3 : DocL := (doD anD2 (ed0 3 1 2 (-1) 0 0 0 0 0 0)).2
theorem an1 : (doD anD0 (ed0 1 0 0 (-1) 0 0 0 0 4 4)).1 = 0 := by decide +kernel
theorem an2 : (doD anD1 (ed0 1 0 0 0 1 0 0 0 0 0)).1 = 0 := by decide +kernel
theorem an3 : (doD anD2 (ed0 3 1 2 (-1) 0 0 0 0 0 0)).1 = 0 := by decide +kernel
theorem an4 : (doD anD3 (ed0 3 2 2 0 0 0 0 0 0 0)).1 = 42 := by decide +kernel
theorem an5 : parentL anD3.ks 1 = (2, 0, true) := by decide +kernel
theorem an6 : cntKs anD3.ks = 2 ∧ depKs anD3.ks = 2 ∧ depKs anD2.ks = 1 := by decide +kernel

end Go.Proofs

/-
  OWN WORK. Documents as resources; the anchor; the law TreeDeep, over heaps.
-/
set_option linter.unusedVariables false
set_option linter.unusedSimpArgs false
set_option maxRecDepth 10000
namespace Go.Sh
variable {H0 H H' : Heap} {σ τ : List Rs}
/-- Many as one. -/
def starAll : List Rs → Rs
  | [] => .emp
  | r :: l => .star r (starAll l)
theorem St.addEmp (hs : St H0 H σ) : St H0 H (.emp :: σ) := hs.new (Ext.refl H) (fp := []) rfl (by simp) (by simp)
theorem St.packAll : ∀ (l : List Rs) {σ : List Rs}, St H0 H (l ++ σ) → St H0 H (starAll l :: σ)
  | [], σ, hs => hs.addEmp
  | r :: l, σ, hs => by
    have h1 : St H0 H (l ++ (r :: σ)) := hs.perm List.perm_middle.symm
    exact (St.packAll l h1).swap.cat
theorem St.unpackAll : ∀ (l : List Rs) {σ : List Rs}, St H0 H (starAll l :: σ) → St H0 H (l ++ σ)
  | [], σ, hs => hs.tail
  | r :: l, σ, hs => by
    have h1 : St H0 H (l ++ (r :: σ)) := St.unpackAll l hs.cut.swap
    exact h1.perm List.perm_middle
end Go.Sh
namespace Go.Proofs
open Go.Sh
variable {H0 H : Heap} {σ : List Rs} {R : Value → Heap → Prop}

/-- A document of one's own. -/
def docRs (A : Array Value) (D : DocL) : Rs := .ex fun (x : Sl3 × List T) => .pu (A = docA D.w D.h D.next x.1 ∧ layKs x.2 = D.ks) (starAll (resG x.1 x.2))
theorem St_docIn {A : Array Value} {D : DocL} {K : Sl3} {ks : List T} (hA : A = docA D.w D.h D.next K) (hl : layKs ks = D.ks) (hs : St H0 H (resG K ks ++ σ)) : St H0 H (docRs A D :: σ) :=
  St.inex (f := fun (x : Sl3 × List T) => .pu (A = docA D.w D.h D.next x.1 ∧ layKs x.2 = D.ks) (starAll (resG x.1 x.2))) (K, ks) (St.with ⟨hA, hl⟩ (St.packAll _ hs))
theorem St_docOut {A : Array Value} {D : DocL} (hs : St H0 H (docRs A D :: σ)) : ∃ K ks, A = docA D.w D.h D.next K ∧ layKs ks = D.ks ∧ St H0 H (resG K ks ++ σ) := by
  obtain ⟨⟨K, ks⟩, h1⟩ := St.unex hs
  obtain ⟨⟨h2, h3⟩, h4⟩ := St.fact h1
  exact ⟨K, ks, h2, h3, St.unpackAll _ h4⟩
theorem _root_.Go.Sh.St.doc (hs : St H0 H σ) (i : Nat) {A : Array Value} {D : DocL} (hi : σ[i]? = some (docRs A D)) : DocR H A D := by
  obtain ⟨K, ks, h1, h2, h3⟩ := St_docOut (hs.front i hi)
  exact ⟨K, ks, h1, h3.grp, h2⟩
theorem _root_.Go.Sh.St.docNil (hs : St H0 H σ) (w h next : Int) : St H0 H (docRs (docA w h next .nil) ⟨w, h, next, []⟩ :: σ) :=
  St_docIn (K := .nil) (ks := []) rfl rfl (hs.nilSl _ _)

theorem do_gen {A : Array Value} {D : DocL} {e : Ed} {s : EdS} (hs : St H0 H σ) (hd : DocR H A D) (hok : okKs D.ks) (hcn : cntKs D.ks ≤ 1000000000) (hnx : 0 ≤ D.next ∧ D.next ≤ 1000000000000000) (hsz : e.kind = 7 → sizedB D.w D.h = true) (hras : ∀ fr u ks', flK [] [] e.id D.ks = some (fr :: u, ks') → okRas fr.f) (hed : EdOk H e s)
    (hR : ∀ A' H', DocR H' A' (doD D e).2 → St H0 H' (docRs A' (doD D e).2 :: σ) → R (.tuple #[.agg A', .int .i64 (doD D e).1]) H') :
    CallsH Try.prog 19 #[.agg A, .agg (edL e s).toArray] H R := by
  obtain ⟨K, ks, rfl, hg, hl⟩ := hd
  rw [← hl] at hok hcn hras
  refine c19 hg hok hcn hnx hsz hed hras (fun H' hne he => ?_) fun K' ks' H' h0 hl' hs' => ?_
  · rw [hl] at hne ⊢
    have e1 : doD D e = ((doL D.w D.h D.next D.ks e).1, zeroD) := by unfold doD; rw [if_pos hne]
    have := hR (docA 0 0 0 .nil) H' (by rw [e1]; exact DocR.zero H') (by rw [e1]; exact (hs.step he).docNil 0 0 0)
    rw [e1] at this; exact this
  · rw [hl] at h0 hl' ⊢
    have e1 : doD D e = (0, ⟨D.w, D.h, (doL D.w D.h D.next D.ks e).2.1, (doL D.w D.h D.next D.ks e).2.2⟩) := by unfold doD; rw [if_neg (by rw [h0]; simp)]
    have hs2 : St H0 H' (docRs (docA D.w D.h (doL D.w D.h D.next D.ks e).2.1 K') ⟨D.w, D.h, (doL D.w D.h D.next D.ks e).2.1, (doL D.w D.h D.next D.ks e).2.2⟩ :: σ) := St_docIn rfl hl' (hs.call hs')
    have := hR (docA D.w D.h (doL D.w D.h D.next D.ks e).2.1 K') H' (by rw [e1]; exact hs2.doc 0 rfl) (by rw [e1]; exact hs2)
    rw [e1] at this; exact this
theorem do_st {A : Array Value} {D : DocL} {e : Ed} {s : EdS} (hs : St H0 H σ) (hd : DocR H A D) (hi : Inv D) (hnx : D.next ≤ 1000000000000000) (hed : EdOk H e s) (hR : ∀ A' H', DocR H' A' (doD D e).2 → St H0 H' (docRs A' (doD D e).2 :: σ) → R (.tuple #[.agg A', .int .i64 (doD D e).1]) H') :
    CallsH Try.prog 19 #[.agg A, .agg (edL e s).toArray] H R := by
  have h1 := hi.next
  have h2 := hi.cnt
  exact do_gen hs hd hi.ok (by omega) ⟨by omega, hnx⟩ (fun _ => hi.size) (fun fr u ks' hf => hi.ras hf) hed hR
theorem an_inv0 : Inv anD0 := new_inv (by decide)
theorem an_inv1 : Inv anD1 := do_inv an_inv0 an1
theorem an_inv2 : Inv anD2 := do_inv an_inv1 an2
theorem an_inv3 : Inv anD3 := do_inv an_inv2 an3
theorem an_nx : anD1.next = 2 ∧ anD2.next = 3 ∧ anD3.next = 3 := by decide +kernel
theorem c12 (hR : ∀ H', Ext H H' → R (.bool true) H') : CallsH Try.prog 12 #[] H R := by
  obtain ⟨x1, x2, x3⟩ := an_nx
  refine Try.s12 (_u := ()) ?_
  unfold Try.S12
  refine c13 (fun _ H2 he2 => ⟨_, _, rfl, ?_⟩) fun h => absurd h (by decide)
  refine (St.of_ext he2).alc fun b5 H6 hs6 => ⟨rfl, hs6.putAll 0 rfl rfl (docA_one 4 4 1 .nil) fun H7 hs7 => br_ne (fun h => absurd rfl h) fun _ => ⟨_, ?_, rowIn_whole (hs7.block 0 rfl), ?_⟩⟩
  · rfl
  refine do_st (D := anD0) (e := ed0 1 0 0 (-1) 0 0 0 0 4 4) (s := es0) hs7 (DocR.new H7 4 4) an_inv0 (by decide) (ed0_ok H7 ..) fun A1 H10 hd1 hs10 => ⟨_, _, rfl, hd1.size, hs10.putAll 1 rfl hd1.size hd1.one fun H13 hs13 => ⟨A1, hd1.size, rowIn_whole (hs13.block 1 rfl), ?_⟩⟩
  refine do_st (D := anD1) (e := ed0 1 0 0 0 1 0 0 0 0 0) (s := es0) hs13 (hs13.doc 0 rfl) an_inv1 (by rw [x1]; decide) (ed0_ok H13 ..) fun A2 H16 hd2 hs16 => ⟨_, _, rfl, hd2.size, hs16.putAll 2 rfl (hd2.size.trans hd1.size.symm) hd2.one fun H19 hs19 => ⟨A2, hd2.size, rowIn_whole (hs19.block 2 rfl), ?_⟩⟩
  refine do_st (D := anD2) (e := ed0 3 1 2 (-1) 0 0 0 0 0 0) (s := es0) hs19 (hs19.doc 0 rfl) an_inv2 (by rw [x2]; decide) (ed0_ok H19 ..) fun A3 H22 hd3 hs22 => ⟨_, _, rfl, ?_⟩
  refine hs22.alc fun b25 H26 hs26 => ⟨hd3.size, hs26.putAll 0 rfl hd3.size hd3.one fun H27 hs27 => ⟨A3, hd3.size, rowIn_whole (hs27.block 0 rfl), ?_⟩⟩
  refine do_st (D := anD3) (e := ed0 3 2 2 0 0 0 0 0 0 0) (s := es0) hs27 (hs27.doc 1 rfl) an_inv3 (by rw [x3]; decide) (ed0_ok H27 ..) fun A4 H30 hd4 hs30 => ⟨_, _, rfl, ?_⟩
  refine hs30.alc fun b33 H34 hs34 => ⟨hd4.size, hs34.putAll 0 rfl hd4.size hd4.one fun H35 hs35 => ⟨A3, hd3.size, rowIn_whole (hs35.block 2 rfl), ?_⟩⟩
  have c3 : cntKs anD3.ks ≤ 1000000000 := by rw [an6.1]; decide
  refine c23 (D := anD3) (hs35.doc 3 rfl) c3 fun H38 he38 => ⟨_, _, _, rfl, ?_⟩
  have hs38 := hs35.step he38
  have a1 : (doD anD0 (ed0 1 0 0 (-1) 0 0 0 0 4 4)).1 = 0 := an1
  rw [an1, an2, an3, an4, an5]
  refine br_t rfl (br_t rfl (br_t rfl (br_t rfl (br_t rfl (br_t rfl ⟨A3, hd3.size, rowIn_whole (hs38.block 2 rfl), ?_⟩)))))
  refine c25 (D := anD3) (hs38.doc 3 rfl) c3 fun H44 he44 => ⟨_, rfl, ?_⟩
  have hs44 := hs38.step he44
  rw [an6.1]
  refine br_t rfl ⟨A3, hd3.size, rowIn_whole (hs44.block 2 rfl), ?_⟩
  refine c26 (D := anD3) (hs44.doc 3 rfl) c3 fun H48 he48 => ⟨_, rfl, ?_⟩
  have hs48 := hs44.step he48
  rw [an6.2.1]
  refine br_t rfl ⟨A2, hd2.size, rowIn_whole (hs48.block 6 rfl), ?_⟩
  refine c26 (D := anD2) (hs48.doc 4 rfl) (by have := an_inv2.cnt; omega) fun H52 he52 => ⟨_, rfl, ?_⟩
  rw [an6.2.2]
  exact hR H52 (hs48.ext.trans he52)

end Go.Proofs

/-
  OWN WORK. What the laws begin with; a layer that was found, as a resource.
-/
set_option linter.unusedVariables false
set_option linter.unusedSimpArgs false
set_option maxRecDepth 10000
namespace Go.Proofs
open Go.Sh
variable {H0 H : Heap} {σ : List Rs} {R : Value → Heap → Prop}

/-- A layer of one's own. -/
def layRs (B : Array Value) (l : Lay) : Rs := .ex fun (t : T) => .pu (B = (cellsT t).toArray ∧ layT t = l) (starAll (resT t))
theorem _root_.Go.Sh.St.lay (hs : St H0 H σ) (i : Nat) {B : Array Value} {l : Lay} (hi : σ[i]? = some (layRs B l)) : LayR H B l := by
  obtain ⟨t, h1⟩ := St.unex (hs.front i hi)
  obtain ⟨⟨h2, h3⟩, h4⟩ := St.fact h1
  exact ⟨t, h2, St.rdT t (St.unpackAll _ h4), h3⟩
theorem LayR.size {H : Heap} {B : Array Value} {l : Lay} (h : LayR H B l) : B.size = 19 := by obtain ⟨t, rfl, _⟩ := h; simp [cellsT_len]
theorem LayR.one {H : Heap} {B : Array Value} {l : Lay} (h : LayR H B l) : ∀ v ∈ B.toList, v.oneCell' = true := by obtain ⟨t, rfl, _⟩ := h; simpa using cellsT_one t
theorem c34 {w h : Int} (hR : R (.bool (sizedB w h)) H) : CallsH Try.prog 34 #[.int .i64 w, .int .i64 h] H R := by
  have bad : ¬ (1 ≤ w ∧ 1 ≤ h ∧ w ≤ 32768 ∧ h ≤ 32768 ∧ w * h ≤ 4194304) → R (.bool false) H := fun hn => by
    rw [show sizedB w h = false from decide_eq_false hn] at hR; exact hR
  refine Try.s34 (br_dec (fun h1 => br_dec (fun h2 => br_dec (fun h3 => br_dec (fun h4 => ?_) fun hn => bad (by omega)) fun hn => bad (by omega)) fun hn => bad (by omega)) fun hn => bad (by omega))
  rw [wrap_area h1 h2 h3 h4]
  rw [show sizedB w h = decide (w * h ≤ 4194304) from decide_eq_decide.2 ⟨fun hh => hh.2.2.2.2, fun hh => ⟨h1, h2, h3, h4, hh⟩⟩] at hR
  exact hR
def begunA (w h : Int) : Array Value := if sizedB w h = true then docA w h 1 .nil else docA 0 0 0 .nil
def newE (w h : Int) : Int := if sizedB w h = true then 0 else 31
theorem new_call {w h : Int} (hR : ∀ H', Ext H H' → R (.tuple #[.agg (begunA w h), .int .i64 (newE w h)]) H') : CallsH Try.prog 13 #[.int .i64 w, .int .i64 h] H R := by
  refine c13 (fun hsz H8 he8 => ?_) fun hsz H8 he8 => ?_
  · have := hR H8 he8; unfold begunA newE at this; rw [hsz] at this; exact this
  · have := hR H8 he8; unfold begunA newE at this; rw [hsz] at this; exact this
end Go.Proofs

/-
  OWN WORK. The document's list of layers in a heap: searched, counted, measured.
-/
set_option linter.unusedVariables false
set_option linter.unusedSimpArgs false
set_option maxRecDepth 10000
namespace Go.Proofs
open Go.Sh
variable {H0 H : Heap} {σ : List Rs} {R : Value → Heap → Prop}

/-- A layer of the list, with its slices. -/
structure RT where
  f : LayF
  to : Int
  P : Sl3
  M : Sl3
  A : Sl3
def RT.rw (r : RT) : Rw := ⟨r.f, r.to⟩
abbrev rwS (rs : List RT) : List Rw := rs.map RT.rw
theorem rwS_len (rs : List RT) : (rwS rs).length = rs.length := List.length_map _
def cellsR (r : RT) : List Value :=
  [.int .i64 r.f.id, .int .i64 r.f.kind, .int .i64 r.to, .bool r.f.hidden, .int .i64 r.f.opacity, .int .i64 r.f.mode, .int .i64 r.f.w, .int .i64 r.f.h, r.P.v, r.M.v,
   .int .i64 r.f.map.a, .int .i64 r.f.map.b, .int .i64 r.f.map.c, .int .i64 r.f.map.d, .int .i64 r.f.map.e, .int .i64 r.f.map.f, .bool r.f.smooth, .int .i64 r.f.table, r.A.v]
def cellsRs (rs : List RT) : List Value := (rs.map cellsR).flatten
theorem cellsR_len (r : RT) : (cellsR r).length = 19 := rfl
theorem cellsR_one (r : RT) : ∀ v ∈ cellsR r, v.oneCell' = true := by
  intro v hv
  simp only [cellsR, List.mem_cons, List.not_mem_nil, or_false] at hv
  rcases hv with rfl | rfl | rfl | rfl | rfl | rfl | rfl | rfl | rfl | rfl | rfl | rfl | rfl | rfl | rfl | rfl | rfl | rfl | rfl <;> rfl
theorem cellsRs_len (rs : List RT) : (cellsRs rs).length = rs.length * 19 := by
  induction rs with
  | nil => rfl
  | cons r rs ih => rw [cellsRs, List.map_cons, List.flatten_cons, List.length_append, cellsR_len]; rw [cellsRs] at ih; rw [ih, List.length_cons]; omega
theorem cellsRs_app (a b : List RT) : cellsRs (a ++ b) = cellsRs a ++ cellsRs b := by simp [cellsRs]
theorem cellsRs_one' (r : RT) : cellsRs [r] = cellsR r := by simp [cellsRs]
theorem cellsRs_cons (r : RT) (rs : List RT) : cellsRs (r :: rs) = cellsR r ++ cellsRs rs := by simp [cellsRs]
theorem cellsRs_get {rs : List RT} : ∀ {i : Nat} {r : RT}, rs[i]? = some r → ∀ {j : Nat} {v : Value}, (cellsR r)[j]? = some v → (cellsRs rs)[i * 19 + j]? = some v := by
  induction rs with
  | nil => intro i r h; simp at h
  | cons a rs ih =>
    intro i r h j v hv
    rw [cellsRs_cons]
    cases i with
    | zero =>
      simp at h; subst h
      have := (List.getElem?_eq_some_iff.1 hv).1
      rw [Nat.zero_mul, Nat.zero_add, List.getElem?_append_left this]; exact hv
    | succ i =>
      rw [List.getElem?_cons_succ] at h
      rw [List.getElem?_append_right (by rw [cellsR_len]; omega), cellsR_len, show (i + 1) * 19 + j - 19 = i * 19 + j from by omega]
      exact ih h hv

structure rdR (H : Heap) (r : RT) : Prop where
  p : IS H r.P.p r.P.l (ints r.f.p)
  mask : IS H r.M.p r.M.l (kints .u8 r.f.mask)
  params : IS H r.A.p r.A.l (ints r.f.params)
theorem rdR.ext {H H' : Heap} {r : RT} (h : rdR H r) (he : Ext H H') : rdR H' r := ⟨h.p.ext he, h.mask.ext he, h.params.ext he⟩
/-- The list, in the heap. -/
structure RL (H : Heap) (K : Sl3) (rs : List RT) : Prop where
  sl : RS H K.p K.l 66 19 (cellsRs rs)
  cap : K.l ≤ K.c
  few : rs.length ≤ 1000000
structure RD (H : Heap) (K : Sl3) (rs : List RT) : Prop where
  l : RL H K rs
  rd : ∀ r ∈ rs, rdR H r
theorem RL.ext {H H' : Heap} {K : Sl3} {rs : List RT} (h : RL H K rs) (he : Ext H H') : RL H' K rs := ⟨h.sl.ext he, h.cap, h.few⟩
theorem RD.ext {H H' : Heap} {K : Sl3} {rs : List RT} (h : RD H K rs) (he : Ext H H') : RD H' K rs := ⟨h.l.ext he, fun r hr => (h.rd r hr).ext he⟩
theorem RL.len {H : Heap} {K : Sl3} {rs : List RT} (h : RL H K rs) : K.l = rs.length := by
  have := h.sl.len; rw [cellsRs_len] at this; omega
theorem RL.row {H : Heap} {K : Sl3} {rs : List RT} (h : RL H K rs) {i : Nat} {r : RT} (hr : rs[i]? = some r) : ∃ blk, K.p = some ⟨blk, 0, none⟩ ∧ rowIn H ⟨blk, i * 19, none⟩ (cellsR r).toArray := by
  have hi := (List.getElem?_eq_some_iff.1 hr).1
  exact h.sl.row (by rw [h.len]; exact hi) (by decide) fun j v hv => cellsRs_get hr (by simpa using hv)
theorem RL.nil (H : Heap) : RL H .nil [] := ⟨RS.nil H none _ 19, Nat.le_refl _, by simp⟩
theorem rowR {H : Heap} {b i : Nat} {r : RT} (h : rowIn H ⟨b, i * 19, none⟩ (cellsR r).toArray) {j : Nat} {v : Value} (hv : (cellsR r)[j]? = some v) : Sh.cell H (Addr.add (Addr.add ⟨b, 0, none⟩ (i * 19)) j) = some v := by
  have := h j v (by simpa using hv)
  rw [add_none] at this
  rw [add_none, Nat.zero_add, add_none]; exact this
theorem rowR0 {H : Heap} {b i : Nat} {cs : Array Value} (h : rowIn H ⟨b, i * 19, none⟩ cs) : rowIn H (Addr.add ⟨b, 0, none⟩ (i * 19)) cs := by rw [add_none, Nat.zero_add]; exact h

def findI (id : Int) : Nat → List Rw → Int
  | _, [] => -1
  | b, r :: L => if r.f.id = id then b else findI id (b + 1) L
theorem findI_some : ∀ {L : List Rw} {b i : Nat} {r : Rw}, (idsR L).Nodup → L[i]? = some r → findI r.f.id b L = ((b + i : Nat) : Int)
  | [], b, i, r, _, h => by simp at h
  | a :: L, b, i, r, hn, h => by
    rw [idsR, List.map_cons, List.nodup_cons] at hn
    cases i with
    | zero => simp at h; subst h; rw [findI, if_pos rfl]; rfl
    | succ i =>
      rw [List.getElem?_cons_succ] at h
      have hne : a.f.id ≠ r.f.id := fun he => hn.1 (he ▸ List.mem_map.2 ⟨r, List.mem_of_getElem? h, rfl⟩)
      rw [findI, if_neg hne, findI_some hn.2 h]
      congr 1; omega
theorem docA_3 (w h next : Int) (K : Sl3) : (docA w h next K)[3]? = some (.slice K.p K.l K.c) := rfl
theorem rws_get {rs : List RT} {i : Nat} {r : RT} (h : rs[i]? = some r) : (rwS rs)[i]? = some r.rw := by rw [rwS, List.getElem?_map, h]; rfl

theorem c24 {w h next id : Int} {K : Sl3} {rs : List RT} (hl : RL H K rs) (hR : ∀ H', Ext H H' → R (.int .i64 (findI id 0 (rwS rs))) H') : CallsH Try.prog 24 #[.agg (docA w h next K), .int .i64 id] H R := by
  refine Try.s24 ?_
  unfold Try.S24
  refine (St.nil H).alc fun b3 H4 hs4 => ?_
  intro X hX
  have hlen := hl.len
  have hfew := hl.few
  have go : ∀ k, k ≤ rs.length → findI id 0 (rwS rs) = findI id k ((rwS rs).drop k) → X [.int .i64 (k : Nat)] H4 := by
    refine upto fun k hk ih he => hX _ _ ⟨_, _, _, hs4.get 0 rfl (docA_3 w h next K), br_dec (fun hlt => ?_) fun hge => ?_⟩
    · have hk' : k < rs.length := by omega
      have hr := List.getElem?_eq_getElem hk'
      obtain ⟨blk, hp, hrow⟩ := (hl.ext hs4.ext).row hr
      have hd : (rwS rs).drop k = rs[k].rw :: (rwS rs).drop (k + 1) := by
        rw [List.drop_eq_getElem_cons (by rw [rwS, List.length_map]; exact hk')]; simp
      rw [hd, findI] at he
      refine ⟨_, _, _, hs4.get 0 rfl (docA_3 w h next K), _, hp, by omega, hlt, rs[k].f.id, rowR hrow rfl, br_eq (fun hid => ?_) fun hid => ?_⟩
      · rw [if_pos (show rs[k].rw.f.id = id from hid)] at he
        have := hR H4 hs4.ext
        rw [he] at this; exact this
      · rw [if_neg (show ¬ rs[k].rw.f.id = id from hid)] at he
        rw [wrap_id (by omega) (by omega)]
        exact ih hk' he
    · have : k = rs.length := by omega
      subst this
      rw [List.drop_of_length_le (by rw [rwS, List.length_map]; exact Nat.le_refl _)] at he
      have := hR H4 hs4.ext
      rw [he] at this; exact this
  exact go 0 (by omega) rfl

theorem c55 {w h next id : Int} {K : Sl3} {rs : List RT} (hl : RL H K rs) (hn : (idsR (rwS rs)).Nodup) {c : List Int} (hp : Path (rwS rs) id c) (hc : c.length ≤ 1000000) (hR : ∀ H', Ext H H' → R (.int .i64 c.length) H') : CallsH Try.prog 55 #[.agg (docA w h next K), .int .i64 id] H R := by
  refine Try.s55 ?_
  unfold Try.S55
  refine (St.nil H).alc fun b3 H4 hs4 => ?_
  intro X hX
  have hlen := hl.len
  have go : ∀ {i : Int} {l : List Int}, Path (rwS rs) i l → ∀ (n : Nat) H1, n + l.length = c.length → St H H1 [.cell b3 (docA w h next K) 32] → X [.int .i64 i, .int .i64 (n : Nat)] H1 := by
    intro i l hp
    induction hp with
    | nil =>
      intro n H1 hnl hs1
      refine hX _ _ _ (br_ne (fun h => absurd rfl h) fun _ => ?_)
      rw [show n = c.length from by simpa using hnl]
      exact hR H1 hs1.ext
    | @cons r l hr h0 _ ih =>
      intro n H1 hnl hs1
      rw [List.length_cons] at hnl
      obtain ⟨x, hx, rfl⟩ := List.mem_map.1 hr
      obtain ⟨k, hk⟩ := List.getElem?_of_mem hx
      have hkl := (List.getElem?_eq_some_iff.1 hk).1
      have hf : findI x.rw.f.id 0 (rwS rs) = ((0 + k : Nat) : Int) := findI_some hn (rws_get hk)
      rw [Nat.zero_add] at hf
      refine hX _ _ _ (br_ne (fun _ => ?_) fun h => absurd h h0)
      refine ⟨_, _, _, hs1.get 0 rfl (docA_3 w h next K), docA w h next K, rfl, rowIn_whole (hs1.block 0 rfl), c24 (hl.ext hs1.ext) fun H2 he2 => ?_⟩
      obtain ⟨blk, hpk, hrow⟩ := (hl.ext (hs1.ext.trans he2)).row hk
      rw [hf]
      refine ⟨_, rfl, .inl he2, _, hpk, by omega, by omega, x.to, rowR hrow rfl, ?_⟩
      rw [wrap_id (by omega) (by omega)]
      exact ih (n + 1) H2 (by omega) (hs1.step he2)
  exact go hp 0 H4 (by omega) hs4

theorem c27 {w h next : Int} {K : Sl3} {rs : List RT} {B : Nat} (hl : RL H K rs) (hn : (idsR (rwS rs)).Nodup) (hB : B ≤ 1000000) (h1 : ∀ r ∈ rwS rs, ∃ c, Path (rwS rs) r.f.id c ∧ c.length ≤ B) (h2 : (rs = [] ∧ B = 0) ∨ ∃ r ∈ rwS rs, ∃ c, Path (rwS rs) r.f.id c ∧ c.length = B)
    (hR : ∀ H', Ext H H' → R (.int .i64 B) H') : CallsH Try.prog 27 #[.agg (docA w h next K)] H R := by
  refine Try.s27 ?_
  unfold Try.S27
  refine (St.nil H).alc fun b3 H4 hs4 => ?_
  intro X hX
  have hlen := hl.len
  have hfew := hl.few
  have go : ∀ k, k ≤ rs.length → ∀ (m : Nat) H1, m ≤ B → (∀ r ∈ (rwS rs).take k, ∀ c, Path (rwS rs) r.f.id c → c.length ≤ m) → St H H1 [.cell b3 (docA w h next K) 32] → X [.int .i64 (m : Nat), .int .i64 (k : Nat)] H1 := by
    refine upto fun k hk ih m H1 hm hall hs1 => hX _ _ _ ⟨_, _, _, hs1.get 0 rfl (docA_3 w h next K), br_dec (fun hlt => ?_) fun hge => ?_⟩
    · have hk' : k < rs.length := by omega
      have hr := List.getElem?_eq_getElem hk'
      obtain ⟨blk, hp, hrow⟩ := (hl.ext hs1.ext).row hr
      obtain ⟨c, hpc, hcl⟩ := h1 rs[k].rw (List.mem_of_getElem? (rws_get hr))
      refine ⟨docA w h next K, rfl, rowIn_whole (hs1.block 0 rfl), _, _, _, hs1.get 0 rfl (docA_3 w h next K), _, hp, by omega, hlt, rs[k].f.id, rowR hrow rfl, c55 (hl.ext hs1.ext) hn hpc (by omega) fun H2 he2 => ⟨_, rfl, br_dec (fun hgt => ?_) fun hle => ?_⟩⟩
      · rw [wrap_id (n := (k : Int) + 1) (by omega) (by omega)]
        refine ih hk' c.length H2 hcl (fun r hrm c' hc' => ?_) (hs1.step he2)
        rw [take_succ (rws_get hr)] at hrm
        rcases List.mem_append.1 hrm with hrm | hrm
        · have := hall r hrm c' hc'; omega
        · rw [List.mem_singleton] at hrm; subst hrm; rw [hc'.uniq hn hpc]; exact Nat.le_refl _
      · rw [wrap_id (n := (k : Int) + 1) (by omega) (by omega)]
        refine ih hk' m H2 hm (fun r hrm c' hc' => ?_) (hs1.step he2)
        rw [take_succ (rws_get hr)] at hrm
        rcases List.mem_append.1 hrm with hrm | hrm
        · exact hall r hrm c' hc'
        · rw [List.mem_singleton] at hrm; subst hrm; rw [hc'.uniq hn hpc]; omega
    · have hkl : k = rs.length := by omega
      subst hkl
      rw [List.take_of_length_le (by rw [rwS, List.length_map]; exact Nat.le_refl _)] at hall
      have : m = B := by
        rcases h2 with ⟨_, h0⟩ | ⟨r, hrm, c, hpc, hcl⟩
        · omega
        · have := hall r hrm c hpc; omega
      subst this
      exact hR H1 hs1.ext
  exact go 0 (by omega) 0 H4 (by omega) (fun r hr => by simp at hr) hs4

end Go.Proofs

/-
  OWN WORK. A document is right: the program's answer.
-/
set_option linter.unusedVariables false
set_option linter.unusedSimpArgs false
set_option maxRecDepth 10000
namespace Go.Proofs
open Go.Sh
variable {H0 H : Heap} {σ : List Rs} {R : Value → Heap → Prop}

def _root_.Go.Sh.Rs.obj (r : Nat) (o : Obj) : Rs where
  at_ H fp := fp = [r] ∧ H[r]? = some o
  loc h hk := ⟨h.1, hk _ (by rw [h.1]; exact List.mem_singleton.2 rfl) _ h.2⟩
  has h b hb := by rw [h.1, List.mem_singleton] at hb; subst hb; exact lt_of_get h.2
theorem _root_.Go.Sh.St.objGet (hs : St H0 H σ) (i : Nat) {r : Nat} {o : Obj} (hi : σ[i]? = some (.obj r o)) : H[r]? = some o := by
  obtain ⟨_, fps, hl, _⟩ := hs
  obtain ⟨fp, _, h⟩ := hl.get hi
  exact h.2
theorem _root_.Go.Sh.St.objSet (hs : St H0 H σ) (i : Nat) {r : Nat} {o : Obj} (o' : Obj) (hi : σ[i]? = some (.obj r o)) : St H0 (H.setIfInBounds r o') (σ.set i (.obj r o')) :=
  hs.upd hi fun fp h1 _ _ => ⟨[r], ⟨rfl, get_set_self h1.2⟩, by simp, fun x hx => .inl (h1.1 ▸ hx), fun x o ho hx => get_set_ne (fun he => hx (by rw [h1.1, he]; exact List.mem_singleton.2 rfl)) ho⟩
theorem _root_.Go.Sh.St.alcO (hs : St H0 H σ) {o : Obj} {K : Nat → Heap → Prop} (hK : ∀ b H', St H0 H' (.obj b o :: σ) → K b H') : Sh.alc H o K :=
  hK _ _ (hs.new (Ext.push _ _) (fp := [H.size]) ⟨rfl, get_push_self _ _⟩ (by simp) (by simp))

def kEI (ks : List Int) : List MapEntry := ks.zipIdx.map fun z => { key := .int .i64 z.1, val := .bool true, born := z.2 }
def kI (ks : List Int) : Obj := .map (kEI ks).toArray ks.length
theorem kEI_kf (ks : List Int) : ∀ e ∈ (kEI ks).toArray.toList, kForm (.int .i64) .other e.key := by
  intro e he
  simp only [kEI, List.mem_map] at he
  obtain ⟨z, _, rfl⟩ := he
  exact ⟨_, rfl⟩
theorem kEI_find (x : Int) : ∀ (ks : List Int) (n i : Nat),
    (x ∉ ks → findE (.int .i64 x) ((ks.zipIdx n).map fun z => { key := .int .i64 z.1, val := .bool true, born := z.2 }) i = none) ∧
    (x ∈ ks → ∃ j, findE (.int .i64 x) ((ks.zipIdx n).map fun z => { key := .int .i64 z.1, val := .bool true, born := z.2 }) i = some (j, .bool true))
  | [], n, i => ⟨fun _ => rfl, fun h => by cases h⟩
  | c :: r, n, i => by
    have hk : kEq (.int .i64 x) (.int .i64 c) = (x == c) := by simp [kEq]
    obtain ⟨h1, h2⟩ := kEI_find x r (n + 1) (i + 1)
    simp only [List.zipIdx_cons, List.map_cons, findE, hk]
    by_cases hc : x = c
    · rw [if_pos (by simpa using hc)]
      exact ⟨fun h => absurd (hc ▸ List.mem_cons_self) h, fun _ => ⟨_, rfl⟩⟩
    · rw [if_neg (by simpa using hc)]
      exact ⟨fun h => h1 fun hm => h (List.mem_cons_of_mem _ hm), fun h => h2 ((List.mem_cons.1 h).resolve_left hc)⟩
theorem kEI_look (x : Int) (ks : List Int) : lookV (.int .i64 x) (kEI ks).toArray.toList (.bool false) = .bool (decide (x ∈ ks)) := by
  obtain ⟨h1, h2⟩ := kEI_find x ks 0 0
  unfold lookV
  show (match findE (.int .i64 x) (kEI ks) 0 with | some (_, v) => v | none => _) = _
  by_cases hm : x ∈ ks
  · obtain ⟨j, hj⟩ := h2 hm
    rw [show findE (.int .i64 x) (kEI ks) 0 = _ from hj, decide_eq_true hm]
  · rw [show findE (.int .i64 x) (kEI ks) 0 = _ from h1 hm, decide_eq_false hm]
theorem kEI_upd {r : Nat} {ks : List Int} {x : Int} {f : Heap → Prop} (h : H[r]? = some (kI ks)) (hx : x ∉ ks) (hf : f (H.setIfInBounds r (kI (ks ++ [x])))) : updQ (.int .i64) .other (.map (some r)) (.int .i64 x) (.bool true) H f := by
  obtain ⟨h1, h2⟩ := kEI_find x ks 0 0
  refine ⟨r, rfl, _, _, h, ⟨_, rfl⟩, kEI_kf _, fun _ => ?_, fun n u hs => ?_⟩
  · have : ((kEI ks).toArray.push { key := .int .i64 x, val := .bool true, born := ks.length }) = (kEI (ks ++ [x])).toArray := by
      simp [kEI, List.zipIdx_append]
    rw [this]
    simpa [kI] using hf
  · have := h1 hx
    rw [show findE (.int .i64 x) (kEI ks).toArray.toList 0 = none from this] at hs
    cases hs

/-- What is asked of a layer, behind those that were met. -/
def RightP (w h next : Int) (seen : List Int) (t : Lay) : Prop := gT (goodF w h next) t ∧ (idsT t).Nodup ∧ ∀ x ∈ idsT t, x ∉ seen
def RightK (w h next : Int) (seen : List Int) (ts : List Lay) : Prop := gKs (goodF w h next) ts ∧ (idsKs ts).Nodup ∧ ∀ x ∈ idsKs ts, x ∉ seen
theorem rightK_cons {w h next : Int} {seen : List Int} {t : Lay} {ts : List Lay} : RightK w h next seen (t :: ts) ↔ RightP w h next seen t ∧ RightK w h next (seen ++ idsT t) ts := by
  unfold RightK RightP
  rw [gKs, idsKs, List.nodup_append]
  constructor
  · rintro ⟨⟨h1, h2⟩, ⟨h3, h4, h5⟩, h6⟩
    refine ⟨⟨h1, h3, fun x hx => h6 x (List.mem_append_left _ hx)⟩, h2, h4, fun x hx hm => ?_⟩
    rcases List.mem_append.1 hm with hm | hm
    · exact h6 x (List.mem_append_right _ hx) hm
    · exact h5 x hm x hx rfl
  · rintro ⟨⟨h1, h3, h6⟩, h2, h4, h7⟩
    refine ⟨⟨h1, h2⟩, ⟨h3, h4, fun a ha b hb hab => h7 b hb (List.mem_append_right _ (hab ▸ ha))⟩, fun x hx => ?_⟩
    rcases List.mem_append.1 hx with hx | hx
    · exact h6 x hx
    · exact fun hm => h7 x hx (List.mem_append_left _ hm)

def RightOk (w h next : Int) (Kd : Sl3) (t : T) : Prop := ∀ {H0 H : Heap} {σ : List Rs} {R : Value → Heap → Prop} {r : Nat} {seen : List Int}, rdT H0 t → okL (layT t) → St H0 H (.obj r (kI seen) :: σ) →
  (RightP w h next seen (layT t) → ∀ H', St H0 H' (.obj r (kI (seen ++ idsT (layT t))) :: σ) → R (.bool true) H') → (¬ RightP w h next seen (layT t) → ∀ H', Ext H0 H' → R (.bool false) H') →
  CallsH Try.prog 62 #[.agg (cellsT t).toArray, .agg (docA w h next Kd), .map (some r)] H R

theorem contains_of {w h next : Int} {Kd : Sl3} {g b6 b8 r : Nat}
    (hclo : ∀ {H1 : Heap} {R1 : Value → Heap → Prop} {cs : Array Value}, cs.size = 19 → H1[b6]? = some (.cells (docA w h next Kd) 26) → Sh.cell H1 ⟨b8, 0, none⟩ = some (.map (some r)) → cs.size = 19 →
      (Sh.alc H1 (.cells cs 58) fun _ H2 => CallsH Try.prog 62 #[.agg cs, .agg (docA w h next Kd), .map (some r)] H2 fun v H' => ∃ ok : Bool, v = .bool ok ∧ R1 (.bool (!ok)) H') →
      CallsH Try.prog g #[.agg cs, .pointer (some ⟨b6, 0, none⟩), .pointer (some ⟨b8, 0, none⟩)] H1 R1)
    {ks : List T} (ih : ∀ t ∈ ks, RightOk w h next Kd t) {K : Sl3} (hg : grp H0 K ks) (ho : okKs (layKs ks)) (hkl : ks.length ≤ 1000000000) {seen : List Int} {mt : TypeId}
    (hs : St H0 H (.obj r (kI seen) :: .cell b6 (docA w h next Kd) 26 :: .cell b8 #[.map (some r)] mt :: σ))
    (h1 : RightK w h next seen (layKs ks) → ∀ H', St H0 H' (.obj r (kI (seen ++ idsKs (layKs ks))) :: .cell b6 (docA w h next Kd) 26 :: .cell b8 #[.map (some r)] mt :: σ) → R (.bool false) H')
    (h0 : ¬ RightK w h next seen (layKs ks) → ∀ H', Ext H0 H' → R (.bool true) H') :
    CallsH Try.prog 60 #[K.v, .func (.func g) #[] #[.pointer (some ⟨b6, 0, none⟩), .pointer (some ⟨b8, 0, none⟩)]] H R := by
  show CallsH Try.prog 60 #[.slice K.p K.l K.c, .func (.func g) #[] #[.pointer (some ⟨b6, 0, none⟩), .pointer (some ⟨b8, 0, none⟩)]] H R
  refine Try.s60 ?_
  unfold Try.S60
  refine Try.s86 ?_
  unfold Try.S86
  intro X hX
  have hKl := hg.1.1
  have go : ∀ k, k ≤ ks.length → ∀ (sn : List Int) H1, (RightK w h next seen (layKs ks) ↔ RightK w h next sn (layKs (ks.drop k))) → sn ++ idsKs (layKs (ks.drop k)) = seen ++ idsKs (layKs ks) → St H0 H1 (.obj r (kI sn) :: .cell b6 (docA w h next Kd) 26 :: .cell b8 #[.map (some r)] mt :: σ) → X [.int .i64 (k : Nat)] H1 := by
    refine upto fun k hk ihk sn H1 hiff hsn hs1 => hX _ _ (br_dec (fun hlt => ?_) fun hge => ?_)
    · have hk' : k < ks.length := by omega
      have ht := List.getElem?_eq_getElem hk'
      have htm := List.getElem_mem hk'
      rw [List.drop_eq_getElem_cons hk'] at hiff hsn
      generalize ks[k] = t at ht htm hiff hsn
      rw [layKs] at hiff hsn
      rw [rightK_cons] at hiff
      rw [idsKs] at hsn
      obtain ⟨a, p1, p2, p3⟩ := (hg.ext hs1.ext).get ht
      refine ⟨a, p1, by omega, by omega, (cellsT t).toArray, by simp [cellsT_len], p2, ?_⟩
      refine hclo (by simp [cellsT_len]) (hs1.block 1 rfl) (hs1.get 2 rfl (j := 0) rfl) (by simp [cellsT_len]) (hs1.alc fun b4 H2 hs2 => ?_)
      refine ih t htm (rdKs_iff.1 hg.2 _ htm) (okKs_iff.1 ho _ (List.mem_of_getElem? (layKs_get ht))) hs2.swap (fun hp H3 hs3 => ⟨_, rfl, _, rfl, ?_⟩) fun hp H3 he3 => ⟨_, rfl, _, rfl, ?_⟩
      · refine br_f rfl ?_
        rw [wrap_id (by omega) (by omega)]
        refine ihk hk' _ H3 (hiff.trans ⟨fun hh => hh.2, fun hh => ⟨hp, hh⟩⟩) (by rw [← hsn, List.append_assoc]) ?_
        exact hs3.swap.tail
      · refine br_t rfl ⟨_, rfl, ?_⟩
        rw [show decide ((k : Int) ≥ 0) = true from decide_eq_true (by omega)]
        exact h0 (fun hh => hp (hiff.1 hh).1) H3 he3
    · have hkn : k = ks.length := by omega
      subst hkn
      rw [List.drop_of_length_le (Nat.le_refl _)] at hiff hsn
      rw [show layKs ([] : List T) = [] from rfl, idsKs, List.append_nil] at hsn
      subst hsn
      refine ⟨_, rfl, h1 (hiff.2 ⟨trivial, by simp [layKs, idsKs], fun x hx => by simp [layKs, idsKs] at hx⟩) H1 hs1⟩
  exact go 0 (by omega) seen H Iff.rfl rfl hs

def rX3 (R : Value → Heap → Prop) (J : List Value → Heap → Prop) (b : Nat) (H : Heap) : Prop := ∃ K : Int, Sh.cell H (Addr.add ⟨b, 0, none⟩ 1) = some (Value.int .i64 K) ∧ br ((K : Int) == (2 : Int)) (∃ M : Int, Sh.cell H (Addr.add ⟨b, 0, none⟩ 4) = some (Value.int .i64 M) ∧ br ((M : Int) != (0 : Int)) (R (Value.bool false) H) (J [] H)) (J [] H)
def rX2 (R : Value → Heap → Prop) (J : List Value → Heap → Prop) (b : Nat) (H : Heap) : Prop := ∃ K : Int, Sh.cell H (Addr.add ⟨b, 0, none⟩ 1) = some (Value.int .i64 K) ∧ br ((K : Int) != (1 : Int)) (∃ p : Option Addr, ∃ l : Nat, ∃ c : Nat, Sh.cell H (Addr.add ⟨b, 0, none⟩ 18) = some (Value.slice p l c) ∧ br ((((l : Nat) : Int) : Int) != (0 : Int)) (R (Value.bool false) H) (rX3 R J b H)) (rX3 R J b H)
def rX1 (R : Value → Heap → Prop) (J : List Value → Heap → Prop) (b : Nat) (H : Heap) : Prop := ∃ K : Int, Sh.cell H (Addr.add ⟨b, 0, none⟩ 1) = some (Value.int .i64 K) ∧ br ((K : Int) != (2 : Int)) (∃ T : Int, Sh.cell H (Addr.add ⟨b, 0, none⟩ 16) = some (Value.int .i64 T) ∧ br ((T : Int) != (2 : Int)) (R (Value.bool false) H) (∃ p : Option Addr, ∃ l : Nat, ∃ c : Nat, Sh.cell H (Addr.add ⟨b, 0, none⟩ 17) = some (Value.slice p l c) ∧ br ((((l : Nat) : Int) : Int) != (0 : Int)) (R (Value.bool false) H) (rX2 R J b H))) (rX2 R J b H)
theorem rX3_of {J : List Value → Heap → Prop} {b : Nat} {f : LayF} {P M A K : Value} {ty : TypeId} (hb : H[b]? = some (.cells (cellsL f P M A K).toArray ty)) (bad : (f.kind = 2 ∧ f.mode ≠ 0) → R (.bool false) H) (good : ¬ (f.kind = 2 ∧ f.mode ≠ 0) → J [] H) : rX3 R J b H :=
  ⟨f.kind, cell_get hb rfl, br_eq (fun hk => ⟨f.mode, cell_get hb rfl, br_ne (fun hm => bad ⟨hk, hm⟩) fun hm => good fun hh => hh.2 hm⟩) fun hk => good fun hh => hk hh.1⟩
theorem rX2_of {J : List Value → Heap → Prop} {b : Nat} {f : LayF} {P M A : Value} {K : Sl3} {ty : TypeId} (hb : H[b]? = some (.cells (cellsL f P M A K.v).toArray ty)) (bad : ((f.kind ≠ 1 ∧ K.l ≠ 0) ∨ (f.kind = 2 ∧ f.mode ≠ 0)) → R (.bool false) H) (good : ¬ ((f.kind ≠ 1 ∧ K.l ≠ 0) ∨ (f.kind = 2 ∧ f.mode ≠ 0)) → J [] H) : rX2 R J b H :=
  ⟨f.kind, cell_get hb rfl, br_ne (fun hk => ⟨K.p, K.l, K.c, cell_get hb rfl, br_ne (fun hl => bad (.inl ⟨hk, fun h => hl (by rw [h]; rfl)⟩)) fun hl => rX3_of hb (fun hh => bad (.inr hh)) fun hh => good fun h => h.elim (fun h => h.2 (by omega)) hh⟩) fun hk => rX3_of hb (fun hh => bad (.inr hh)) fun hh => good fun h => h.elim (fun h => h.1 hk) hh⟩
theorem rX1_of {J : List Value → Heap → Prop} {b : Nat} {f : LayF} {P M : Value} {A K : Sl3} {ty : TypeId} (hb : H[b]? = some (.cells (cellsL f P M A.v K.v).toArray ty)) (bad : ((f.kind ≠ 2 ∧ (f.table ≠ 2 ∨ A.l ≠ 0)) ∨ (f.kind ≠ 1 ∧ K.l ≠ 0) ∨ (f.kind = 2 ∧ f.mode ≠ 0)) → R (.bool false) H) (good : ¬ ((f.kind ≠ 2 ∧ (f.table ≠ 2 ∨ A.l ≠ 0)) ∨ (f.kind ≠ 1 ∧ K.l ≠ 0) ∨ (f.kind = 2 ∧ f.mode ≠ 0)) → J [] H) : rX1 R J b H :=
  ⟨f.kind, cell_get hb rfl, br_ne (fun hk => ⟨f.table, cell_get hb rfl, br_ne (fun ht => bad (.inl ⟨hk, .inl ht⟩)) fun ht => ⟨A.p, A.l, A.c, cell_get hb rfl, br_ne (fun hl => bad (.inl ⟨hk, .inr fun h => hl (by rw [h]; rfl)⟩)) fun hl => rX2_of hb (fun hh => bad (.inr hh)) fun hh => good fun h => h.elim (fun h => h.2.elim (fun h => h ht) fun h => h (by omega)) hh⟩⟩) fun hk => rX2_of hb (fun hh => bad (.inr hh)) fun hh => good fun h => h.elim (fun h => h.1 hk) hh⟩

end Go.Proofs

/-
  OWN WORK. A document is right: the program's answer, for a layer, and whole.
-/
set_option linter.unusedVariables false
set_option linter.unusedSimpArgs false
set_option maxRecDepth 10000
namespace Go.Proofs
open Go.Sh
variable {H0 H : Heap} {σ : List Rs} {R : Value → Heap → Prop}

theorem rightP_iff {w h next : Int} {seen : List Int} {f : LayF} {ks : List Lay} : RightP w h next seen (.mk f ks) ↔ goodF w h next f ∧ (f.kind = 1 ∨ ks = []) ∧ f.id ∉ seen ∧ RightK w h next (seen ++ [f.id]) ks := by
  unfold RightP RightK
  rw [gT, idsT, List.nodup_cons]
  constructor
  · rintro ⟨⟨h1, h2, h3⟩, ⟨h4, h5⟩, h6⟩
    refine ⟨h1, h2, h6 _ List.mem_cons_self, h3, h5, fun x hx hm => ?_⟩
    rcases List.mem_append.1 hm with hm | hm
    · exact h6 x (List.mem_cons_of_mem _ hx) hm
    · rw [List.mem_singleton] at hm; exact h4 (hm ▸ hx)
  · rintro ⟨h1, h2, h3, h4, h5, h6⟩
    refine ⟨⟨h1, h2, h4⟩, ⟨fun hm => h6 _ hm (List.mem_append_right _ (List.mem_singleton.2 rfl)), h5⟩, fun x hx hm => ?_⟩
    rcases List.mem_cons.1 hx with rfl | hx
    · exact h3 hm
    · exact h6 x hx (List.mem_append_left _ hm)
theorem cellMap {f : LayF} {P M A K : Value} {b : Nat} {ty : TypeId} (hb : H[b]? = some (.cells (cellsL f P M A K).toArray ty)) : rowIn H (Addr.add ⟨b, 0, none⟩ 9) (ints f.map.l).toArray := by
  intro j v hv
  rw [List.getElem?_toArray] at hv
  have hj : j < 6 := (List.getElem?_eq_some_iff.1 hv).1
  rw [add_none, add_none]
  refine cell_get hb ?_
  obtain rfl | rfl | rfl | rfl | rfl | rfl : j = 0 ∨ j = 1 ∨ j = 2 ∨ j = 3 ∨ j = 4 ∨ j = 5 := by omega
  all_goals (rw [← hv]; rfl)
theorem clo_kid {w h next : Int} {Kd : Sl3} {b6 b8 r : Nat} {H1 : Heap} {R1 : Value → Heap → Prop} {cs : Array Value} (hc : cs.size = 19) (h6 : H1[b6]? = some (.cells (docA w h next Kd) 26)) (h8 : Sh.cell H1 ⟨b8, 0, none⟩ = some (.map (some r)))
    (hk : Sh.alc H1 (.cells cs 58) fun _ H2 => CallsH Try.prog 62 #[.agg cs, .agg (docA w h next Kd), .map (some r)] H2 fun v H' => ∃ ok : Bool, v = .bool ok ∧ R1 (.bool (!ok)) H') :
    CallsH Try.prog 88 #[.agg cs, .pointer (some ⟨b6, 0, none⟩), .pointer (some ⟨b8, 0, none⟩)] H1 R1 := by
  refine Try.s88 ?_
  unfold Try.S88
  have he := Ext.push H1 (.cells cs 58)
  exact ⟨cs, hc, rowIn_whole (get_push_self _ _), docA w h next Kd, rfl, rowIn_whole (he _ _ h6), some r, he.cell h8, hk⟩
theorem clo_root {w h next : Int} {Kd : Sl3} {b6 b8 r : Nat} {H1 : Heap} {R1 : Value → Heap → Prop} {cs : Array Value} (hc : cs.size = 19) (h6 : H1[b6]? = some (.cells (docA w h next Kd) 26)) (h8 : Sh.cell H1 ⟨b8, 0, none⟩ = some (.map (some r)))
    (hk : Sh.alc H1 (.cells cs 58) fun _ H2 => CallsH Try.prog 62 #[.agg cs, .agg (docA w h next Kd), .map (some r)] H2 fun v H' => ∃ ok : Bool, v = .bool ok ∧ R1 (.bool (!ok)) H') :
    CallsH Try.prog 61 #[.agg cs, .pointer (some ⟨b6, 0, none⟩), .pointer (some ⟨b8, 0, none⟩)] H1 R1 := by
  refine Try.s61 ?_
  unfold Try.S61
  have he := Ext.push H1 (.cells cs 58)
  exact ⟨cs, hc, rowIn_whole (get_push_self _ _), docA w h next Kd, rfl, rowIn_whole (he _ _ h6), some r, he.cell h8, hk⟩

theorem right_all {w h next : Int} {Kd : Sl3} (hsz : sizedB w h = true) : ∀ t, RightOk w h next Kd t := by
  refine T.ind fun f P M A K ks ih => ?_
  intro H0 H σ R r seen hr ho hs hok hbad0
  obtain ⟨hrp, hrm, hra, hrg⟩ := hr
  have hP : ∀ {c : Prop}, (goodF w h next f ∧ (f.kind = 1 ∨ layKs ks = []) ∧ f.id ∉ seen ∧ RightK w h next (seen ++ [f.id]) (layKs ks) → ¬ c) → c → ¬ RightP w h next seen (layT (.mk f P M A K ks)) := fun hh c hp => hh (rightP_iff.1 hp) c
  have bad : ∀ {c : Prop}, (goodF w h next f ∧ (f.kind = 1 ∨ layKs ks = []) ∧ f.id ∉ seen ∧ RightK w h next (seen ++ [f.id]) (layKs ks) → ¬ c) → c → ∀ {H' : Heap}, Ext H0 H' → R (.bool false) H' := fun hh c H' he => hbad0 (hP hh c) H' he
  have hpl := hrp.length
  have hml := hrm.length
  have hal := hra.length
  have hkl : K.l = ks.length := hrg.1.1
  obtain ⟨o1, o2, o3, o4, o5⟩ := ho
  rw [layKs_len] at o4
  obtain ⟨z1, z2, z3, z4, z5⟩ := of_decide_eq_true hsz
  have hwh : IntKind.wrap .i64 (w * h) = w * h := wrap_area z1 z2 z3 z4
  refine Try.s62 ?_
  unfold Try.S62
  refine hs.alc fun b4 H5 hs5 => hs5.alc fun b6 H7 hs7 => hs7.alc fun b8 H9 hs9 => ?_
  have hcell : ∀ {H' : Heap} {σ' : List Rs} (hs' : St H0 H' σ') (i : Nat), σ'[i]? = some (.cell b4 (cellsT (.mk f P M A K ks)).toArray 58) → H'[b4]? = some (.cells (cellsL f P.v M.v A.v K.v).toArray 58) := fun hs' i hi => hs'.block i hi
  intro J10 hJ10
  -- first: the number, the kind, and so on
  refine ⟨f.id, hs9.get 2 rfl (j := 0) rfl, br_dec (fun c => bad (fun g => by have := g.1.id; omega) c hs9.ext) fun c1 => ?_⟩
  refine ⟨f.id, hs9.get 2 rfl (j := 0) rfl, next, hs9.get 1 rfl (j := 2) rfl, br_dec (fun c => bad (fun g => by have := g.1.id; omega) c hs9.ext) fun c2 => ?_⟩
  refine ⟨some r, hs9.get 0 rfl (j := 0) rfl, f.id, hs9.get 2 rfl (j := 0) rfl, r, rfl, _, _, hs9.objGet 3 rfl, ⟨_, rfl⟩, kEI_kf _, _, kEI_look f.id seen, br_dec (fun c => bad (fun g => fun hm => g.2.2.1 hm) c hs9.ext) fun hseen => ?_⟩
  refine ⟨f.kind, hs9.get 2 rfl (j := 1) rfl, br_dec (fun c => bad (fun g => by have := g.1.kind; omega) c hs9.ext) fun c3 => ?_⟩
  refine ⟨f.kind, hs9.get 2 rfl (j := 1) rfl, br_dec (fun c => bad (fun g => by have := g.1.kind; omega) c hs9.ext) fun c4 => ?_⟩
  refine ⟨f.opacity, hs9.get 2 rfl (j := 3) rfl, br_dec (fun c => bad (fun g => by have := g.1.opacity; omega) c hs9.ext) fun c5 => ?_⟩
  refine ⟨f.opacity, hs9.get 2 rfl (j := 3) rfl, br_dec (fun c => bad (fun g => by have := g.1.opacity; omega) c hs9.ext) fun c6 => ?_⟩
  refine ⟨f.mode, hs9.get 2 rfl (j := 4) rfl, br_dec (fun c => bad (fun g => by have := g.1.mode; omega) c hs9.ext) fun c7 => ?_⟩
  refine ⟨f.mode, hs9.get 2 rfl (j := 4) rfl, br_dec (fun c => bad (fun g => by have := g.1.mode; omega) c hs9.ext) fun c8 => ?_⟩
  have body : (f.mask = [] ∨ (f.mask.length : Int) = w * h) → J10 [] H9 := fun hmask => by
    refine hJ10 _ ⟨some r, hs9.get 0 rfl (j := 0) rfl, f.id, hs9.get 2 rfl (j := 0) rfl, kEI_upd (hs9.objGet 3 rfl) hseen ?_⟩
    have hs14 := hs9.objSet 3 (kI (seen ++ [f.id])) rfl
    generalize H9.setIfInBounds r (kI (seen ++ [f.id])) = H14 at hs14
    have hs14 : St H0 H14 (.cell b8 #[.map (some r)] 100 :: .cell b6 (docA w h next Kd) 26 :: .cell b4 (cellsT (.mk f P M A K ks)).toArray 58 :: .obj r (kI (seen ++ [f.id])) :: σ) := hs14
    intro J15 hJ15
    -- third: what a raster has, tables, masks, kids
    have third : ∀ {H1 : Heap}, St H0 H1 (.cell b8 #[.map (some r)] 100 :: .cell b6 (docA w h next Kd) 26 :: .cell b4 (cellsT (.mk f P M A K ks)).toArray 58 :: .obj r (kI (seen ++ [f.id])) :: σ) →
        (f.kind ≠ 0 → f.w = 0 ∧ f.h = 0 ∧ f.p = [] ∧ f.map = oneM ∧ f.smooth = false) → (f.kind ≠ 2 → f.table = 2 ∧ f.params = []) → (f.kind = 1 ∨ layKs ks = []) → (f.kind = 2 → f.mode = 0) → J15 [] H1 := fun {H1} hs1 g1 g2 g3 g4 => by
      refine hJ15 _ ?_
      intro J17 hJ17
      have fourth : ∀ {H1 : Heap}, St H0 H1 (.cell b8 #[.map (some r)] 100 :: .cell b6 (docA w h next Kd) 26 :: .cell b4 (cellsT (.mk f P M A K ks)).toArray 58 :: .obj r (kI (seen ++ [f.id])) :: σ) → (f.kind = 0 → sizedB f.w f.h = true ∧ (f.p.length : Int) = f.w * f.h ∧ f.p.all pixelB = true ∧ (backM f.map).1 = 0) → J17 [] H1 := fun {H1} hs1 g5 => by
        refine hJ17 _ ⟨f.table, hs1.get 2 rfl (j := 16) rfl, A.p, A.l, A.c, hs1.get 2 rfl (j := 17) rfl, c81 (hra.ext hs1.ext) (by omega) (fun ht => ⟨_, _, _, _, rfl, br_t rfl (bad (c := tabB f.table f.params = false) (fun g => by rw [g.1.tab]; decide) ht hs1.ext)⟩) fun ht bt H22 he22 => ⟨_, _, _, _, rfl, br_f rfl ?_⟩⟩
        have hs22 := hs1.step he22
        refine ⟨M.p, M.l, M.c, hs22.get 2 rfl (j := 8) rfl, ?_⟩
        intro X26 hX26
        have hmi := hrm.ext hs22.ext
        have go : ∀ k, k ≤ f.mask.length → (∀ c ∈ f.mask.take k, c = 0 ∨ c = 255) → X26 [.int .i64 (k : Nat)] H22 := by
          refine upto fun k hk ihk hall => hX26 _ _ (br_dec (fun hlt => ?_) fun hge => ?_)
          · have hk' : k < f.mask.length := by omega
            have hx := List.getElem?_eq_getElem hk'
            have next' : (f.mask[k] = 0 ∨ f.mask[k] = 255) → X26 [.int .i64 (IntKind.wrap .i64 ((k : Int) + 1))] H22 := fun hc => by
              rw [wrap_id (by omega) (by omega)]
              refine ihk hk' fun c hcm => ?_
              rw [take_succ hx] at hcm
              rcases List.mem_append.1 hcm with hcm | hcm
              · exact hall c hcm
              · rw [List.mem_singleton] at hcm; subst hcm; exact hc
            refine hmi.rd (i := (k : Int)) (x := f.mask[k]) (by omega) hlt (by rw [Int.toNat_natCast]; exact hx) (br_ne (fun n0 => br_ne (fun n255 => bad (c := f.mask[k] ≠ 0 ∧ f.mask[k] ≠ 255) (fun g hh => by rcases g.1.maskV _ (List.getElem_mem hk') with h | h; exact hh.1 h; exact hh.2 h) ⟨n0, n255⟩ hs22.ext) fun e255 => next' (.inr e255)) fun e0 => next' (.inl e0))
          · rw [List.take_of_length_le (by omega)] at hall
            have hgood : goodF w h next f := ⟨⟨by omega, by omega⟩, ⟨by omega, by omega⟩, ⟨by omega, by omega⟩, ⟨by omega, by omega⟩, hmask, hall, g1, g2, g4, g5, ht⟩
            have hiff : RightP w h next seen (layT (.mk f P M A K ks)) ↔ RightK w h next (seen ++ [f.id]) (layKs ks) := rightP_iff.trans ⟨fun g => g.2.2.2, fun g => ⟨hgood, g3, hseen, g⟩⟩
            refine ⟨K.p, K.l, K.c, hs22.get 2 rfl (j := 18) rfl, ?_⟩
            have hs22' : St H0 H22 (.obj r (kI (seen ++ [f.id])) :: .cell b6 (docA w h next Kd) 26 :: .cell b8 #[.map (some r)] 100 :: .cell b4 (cellsT (.mk f P M A K ks)).toArray 58 :: σ) := hs22.perm (permC fun _ x => by simp only [List.count_cons]; ac_rfl)
            refine contains_of (g := 88) (fun hc h6 h8 _ hk => clo_kid hc h6 h8 hk) ih hrg o5 o4 hs22' (fun hK H33 hs33 => ⟨_, rfl, ?_⟩) fun hK H33 he33 => ⟨_, rfl, hbad0 (fun hh => hK (hiff.1 hh)) H33 he33⟩
            refine hok (hiff.2 hK) H33 ?_
            have := (hs33.perm (τ := .cell b6 (docA w h next Kd) 26 :: .cell b8 #[.map (some r)] 100 :: .cell b4 (cellsT (.mk f P M A K ks)).toArray 58 :: .obj r (kI ((seen ++ [f.id]) ++ idsKs (layKs ks))) :: σ) (permC fun _ x => by simp only [List.count_cons]; ac_rfl)).drop 3
            rw [show idsT (layT (.mk f P M A K ks)) = f.id :: idsKs (layKs ks) from by rw [layT, idsT]]
            rw [List.append_assoc] at this
            exact this
        exact go 0 (by omega) fun c hc => by simp at hc
      refine ⟨f.kind, hs1.get 2 rfl (j := 1) rfl, br_eq (fun k0 => ?_) fun k0 => fourth hs1 fun hk => absurd hk k0⟩
      intro J36 hJ36
      refine ⟨f.w, hs1.get 2 rfl (j := 5) rfl, f.h, hs1.get 2 rfl (j := 6) rfl, new_call fun H53 he53 => ⟨_, _, rfl, ?_⟩⟩
      have hone : ∀ v ∈ (begunA f.w f.h).toList, v.oneCell' = true := by unfold begunA; split <;> exact docA_one _ _ _ _
      have hsize : (begunA f.w f.h).size = 4 := by unfold begunA; split <;> rfl
      refine (hs1.step he53).alc fun b56 H57 hs57 => ⟨hsize, hs57.putAll 0 rfl hsize hone fun H58 hs58 => ?_⟩
      refine br_ne (fun hne => bad (c := sizedB f.w f.h = false) (fun g => by rw [(g.1.ras k0).1]; decide) (by unfold newE at hne; cases hh : sizedB f.w f.h with
        | false => rfl
        | true => rw [hh] at hne; exact absurd rfl hne) hs58.ext) fun heq => ?_
      have hsf : sizedB f.w f.h = true := by
        unfold newE at heq
        cases hh : sizedB f.w f.h with
        | true => rfl
        | false => rw [hh] at heq; exact absurd heq (by decide)
      obtain ⟨y1, y2, y3, y4, y5⟩ := of_decide_eq_true hsf
      have hs58' := hs58.tail
      refine ⟨P.p, P.l, P.c, hs58'.get 2 rfl (j := 7) rfl, f.w, hs58'.get 2 rfl (j := 5) rfl, f.h, hs58'.get 2 rfl (j := 6) rfl, ?_⟩
      rw [wrap_area y1 y2 y3 y4]
      refine br_ne (fun hne => bad (c := ((P.l : Nat) : Int) ≠ f.w * f.h) (fun g hh => hh (by rw [← hpl]; exact (g.1.ras k0).2.1)) hne hs58'.ext) fun hpe => hJ36 _ ?_
      refine ⟨(ints f.map.l).toArray, rfl, cellMap (hcell hs58' 2 rfl), c80 fun H40 he40 => ⟨_, _, rfl, ?_⟩⟩
      refine (hs58'.step he40).alc fun b43 H44 hs44 => ⟨rfl, hs44.putAllA 0 rfl rfl fun H45 hs45 => ?_⟩
      refine br_ne (fun hne => bad (c := (backM f.map).1 ≠ 0) (fun g hh => hh (g.1.ras k0).2.2.2) hne hs45.ext) fun hbk => ?_
      have hs45' := hs45.tail
      refine ⟨P.p, P.l, P.c, hs45'.get 2 rfl (j := 7) rfl, ?_⟩
      refine c76 (hrp.ext hs45'.ext) (by omega) (T := fun v => !pixelB v) (fun v _ _ hK => by
        refine Try.s87 ?_
        unfold Try.S87
        exact c78 fun H3 he => ⟨_, rfl, hK H3 he⟩) fun H48 he48 => ⟨_, rfl, br_i (fun hany => bad (c := f.p.any (fun v => !pixelB v) = true) (fun g hh => by
          obtain ⟨v, hv, hb⟩ := List.any_eq_true.1 hh
          have := List.all_eq_true.1 (g.1.ras k0).2.2.1 v hv
          rw [this] at hb; cases hb) hany (hs45'.step he48).ext) fun hany => ?_⟩
      refine fourth (hs45'.step he48) fun _ => ⟨hsf, by rw [hpl]; exact hpe, List.all_eq_true.2 fun v hv => ?_, hbk⟩
      have := List.any_eq_false.1 hany v hv
      simpa using this
    -- second: what other kinds haven't
    have X1 : ∀ {H1 : Heap}, St H0 H1 (.cell b8 #[.map (some r)] 100 :: .cell b6 (docA w h next Kd) 26 :: .cell b4 (cellsT (.mk f P M A K ks)).toArray 58 :: .obj r (kI (seen ++ [f.id])) :: σ) → (f.kind ≠ 0 → f.w = 0 ∧ f.h = 0 ∧ f.p = [] ∧ f.map = oneM ∧ f.smooth = false) → rX1 R J15 b4 H1 := fun {H1} hs1 g1 => by
      refine rX1_of (hcell hs1 2 rfl) (fun hc => bad (fun g hh => ?_) hc hs1.ext) fun hc => third hs1 g1 (fun h2 => ⟨Decidable.byContradiction fun h => hc (.inl ⟨h2, .inl h⟩), ?_⟩) ?_ fun h2 => Decidable.byContradiction fun h => hc (.inr (.inr ⟨h2, h⟩))
      · rcases hh with ⟨h2, h3⟩ | ⟨h2, h3⟩ | ⟨h2, h3⟩
        · obtain ⟨e1, e2⟩ := g.1.plain h2
          rcases h3 with h3 | h3
          · exact h3 e1
          · rw [e2] at hal; exact h3 hal.symm
        · rcases g.2.1 with h4 | h4
          · exact h2 h4
          · have := layKs_len ks; rw [h4] at this; exact h3 (by rw [hkl]; exact this.symm)
        · exact h3 (g.1.adj h2)
      · exact List.length_eq_zero_iff.1 (by rw [hal]; exact Decidable.byContradiction fun h => hc (.inl ⟨h2, .inr h⟩))
      · by_cases h1 : f.kind = 1
        · exact .inl h1
        · right
          exact List.length_eq_zero_iff.1 (by rw [layKs_len, ← hkl]; exact Decidable.byContradiction fun h => hc (.inr (.inl ⟨h1, h⟩)))
    refine ⟨f.kind, hs14.get 2 rfl (j := 1) rfl, br_ne (fun k0 => ?_) fun k0 => X1 hs14 fun hk => absurd k0 hk⟩
    refine ⟨f.w, hs14.get 2 rfl (j := 5) rfl, br_ne (fun c => bad (fun g hh => hh (g.1.bare k0).1) c hs14.ext) fun d1 => ?_⟩
    refine ⟨f.h, hs14.get 2 rfl (j := 6) rfl, br_ne (fun c => bad (fun g hh => hh (g.1.bare k0).2.1) c hs14.ext) fun d2 => ?_⟩
    refine ⟨P.p, P.l, P.c, hs14.get 2 rfl (j := 7) rfl, br_ne (fun c => bad (fun g hh => hh (by have := (g.1.bare k0).2.2.1; rw [this] at hpl; rw [← hpl]; rfl)) c hs14.ext) fun d3 => ?_⟩
    refine ⟨(ints f.map.l).toArray, rfl, cellMap (hcell hs14 2 rfl), c71 fun H68 he68 => ⟨_, rfl, .inl he68, rfl, f.map.l, oneM.l, rfl, rfl, rfl, rfl, br_not (fun c => bad (c := f.map.l ≠ oneM.l) (fun g hh => hh (by rw [(g.1.bare k0).2.2.2.1])) (of_decide_eq_false c) (hs14.step he68).ext) fun d4 => ?_⟩⟩
    have hs68 := hs14.step he68
    have d4 := M6_l.1 (of_decide_eq_true d4)
    refine ⟨f.smooth, hs68.get 2 rfl (j := 15) rfl, br_i (fun c => bad (c := f.smooth = true) (fun g hh => by rw [(g.1.bare k0).2.2.2.2] at hh; cases hh) c hs68.ext) fun d5 => ?_⟩
    exact X1 hs68 fun _ => ⟨d1, d2, List.length_eq_zero_iff.1 (by omega), d4, d5⟩
  refine ⟨M.p, M.l, M.c, hs9.get 2 rfl (j := 8) rfl, br_ne (fun hm0 => ?_) fun hm0 => body (.inl (List.length_eq_zero_iff.1 (by omega)))⟩
  refine ⟨M.p, M.l, M.c, hs9.get 2 rfl (j := 8) rfl, w, hs9.get 1 rfl (j := 0) rfl, h, hs9.get 1 rfl (j := 1) rfl, ?_⟩
  rw [hwh]
  refine br_ne (fun c => bad (c := ((M.l : Nat) : Int) ≠ w * h) (fun g hh => ?_) c hs9.ext) fun c => body (.inr (by rw [hml]; exact c))
  rcases g.1.maskLen with h4 | h4
  · rw [h4] at hml; exact hm0 (by rw [← hml]; rfl)
  · exact hh (by rw [← hml]; exact h4)

theorem c32 {A : Array Value} {D : DocL} (hd : DocR H A D) (hok : okKs D.ks) (hcn : cntKs D.ks ≤ 1000000000) (h1 : Inv D → ∀ H', Ext H H' → R (.bool true) H') (h0 : ¬ Inv D → ∀ H', Ext H H' → R (.bool false) H') : CallsH Try.prog 32 #[.agg A] H R := by
  obtain ⟨K, ks, rfl, hg, hl⟩ := hd
  have hkl : ks.length ≤ 1000000000 := by have := len_cnt D.ks; rw [← hl, layKs_len] at this; rw [← hl] at hcn; omega
  refine Try.s32 ?_
  unfold Try.S32
  refine (St.nil H).alc fun b2 H3 hs3 => ⟨D.w, hs3.get 0 rfl (j := 0) rfl, D.h, hs3.get 0 rfl (j := 1) rfl, new_call fun H7 he7 => ⟨_, _, rfl, ?_⟩⟩
  have hone : ∀ v ∈ (begunA D.w D.h).toList, v.oneCell' = true := by unfold begunA; split <;> exact docA_one _ _ _ _
  have hsize : (begunA D.w D.h).size = 4 := by unfold begunA; split <;> rfl
  refine (hs3.step he7).alc fun b10 H11 hs11 => ⟨hsize, hs11.putAll 0 rfl hsize hone fun H12 hs12 => ?_⟩
  have hs12' := hs12.tail
  intro J13 hJ13
  refine br_ne (fun hne => h0 (fun hi => by have := hi.size; unfold newE at hne; rw [this] at hne; exact hne rfl) _ hs12'.ext) fun heq => ?_
  have hsf : sizedB D.w D.h = true := by
    unfold newE at heq
    cases hh : sizedB D.w D.h with
    | true => rfl
    | false => rw [hh] at heq; exact absurd heq (by decide)
  refine ⟨D.next, hs12'.get 0 rfl (j := 2) rfl, br_dec (fun hlt => h0 (fun hi => by have := hi.next; omega) _ hs12'.ext) fun hnx => ?_⟩
  have hdr : ∀ {H' : Heap}, Ext H H' → DocR H' (docA D.w D.h D.next K) D := fun he => ⟨K, ks, rfl, hg.ext he, hl⟩
  refine ⟨docA D.w D.h D.next K, rfl, rowIn_whole (hs12'.block 0 rfl), c26 (hdr hs12'.ext) hcn fun H27 he27 => ⟨_, rfl, br_dec (fun hgt => h0 (fun hi => by have := hi.dep; omega) _ (hs12'.step he27).ext) fun hdp => ?_⟩⟩
  have hs27 := hs12'.step he27
  refine ⟨docA D.w D.h D.next K, rfl, rowIn_whole (hs27.block 0 rfl), c25 (hdr hs27.ext) hcn fun H31 he31 => ⟨_, rfl, br_dec (fun hgt => h0 (fun hi => by have := hi.cnt; omega) _ (hs27.step he31).ext) fun hct => hJ13 _ ?_⟩⟩
  have hs31 := hs27.step he31
  refine hs31.alcO fun b15 H16 hs16 => hs16.alc fun b17 H18 hs18 => hs18.putAll 0 rfl rfl (by simp [Value.oneCell']) fun H19 hs19 => ?_
  refine ⟨K.p, K.l, K.c, hs19.get 2 rfl (j := 3) rfl, ?_⟩
  have hs19' : St H H19 (.obj b15 (kI []) :: .cell b2 (docA D.w D.h D.next K) 26 :: .cell b17 #[.map (some b15)] 100 :: []) := hs19.perm (permC fun _ x => by simp only [List.set_cons_zero, List.count_cons, List.count_nil]; exact (by ac_rfl))
  have hiff : Inv D ↔ RightK D.w D.h D.next [] (layKs ks) := by
    rw [hl]
    exact ⟨fun hi => ⟨hi.good, hi.ids, fun x _ hx => by cases hx⟩, fun hk => ⟨hsf, by omega, by omega, by omega, hk.2.1, hk.1⟩⟩
  refine contains_of (g := 61) (fun hc h6 h8 _ hk => clo_root hc h6 h8 hk) (fun t _ => right_all hsf t) hg (by rw [hl]; exact hok) hkl hs19' (fun hK H33 hs33 => ⟨_, rfl, h1 (hiff.2 hK) _ hs33.ext⟩) fun hK H33 he33 => ⟨_, rfl, h0 (fun hh => hK (hiff.1 hh)) H33 he33⟩

end Go.Proofs

/-
  OWN WORK. A document, laid flat.
-/
set_option linter.unusedVariables false
set_option linter.unusedSimpArgs false
set_option maxRecDepth 10000
namespace Go.Proofs
open Go.Sh
variable {H0 H : Heap} {σ : List Rs} {R : Value → Heap → Prop}

mutual
def rtT (to : Int) : T → List RT
  | .mk f P M A K ks => ⟨f, to, P, M, A⟩ :: rtKs f.id ks
def rtKs (to : Int) : List T → List RT
  | [] => []
  | t :: ts => rtT to t ++ rtKs to ts
end
theorem rwS_app (a b : List RT) : rwS (a ++ b) = rwS a ++ rwS b := List.map_append
theorem rtKs_of {Q : List RT → List Lay → Int → Prop} (h0 : ∀ to, Q [] [] to) {ts : List T} (h : ∀ t ∈ ts, ∀ to rs ls, Q rs ls to → Q (rtT to t ++ rs) (layT t :: ls) to) (to : Int) : Q (rtKs to ts) (layKs ts) to := by
  induction ts with
  | nil => rw [rtKs, layKs]; exact h0 to
  | cons t ts ih =>
    rw [rtKs, layKs]
    exact h t List.mem_cons_self to _ _ (ih fun u hu => h u (List.mem_cons_of_mem _ hu))
theorem rt_rw : ∀ t to, rwS (rtT to t) = flatT to (layT t) := T.ind fun f P M A K ks ih to => by
  rw [rtT, layT, flatT]
  show _ :: rwS (rtKs f.id ks) = _
  congr 1
  exact rtKs_of (Q := fun rs ls to => rwS rs = flatKs to ls) (fun to => rfl) (fun t ht to rs ls h => by rw [rwS_app, flatKs, ih t ht, h]) f.id
theorem rtKs_rw (ts : List T) (to : Int) : rwS (rtKs to ts) = flatKs to (layKs ts) :=
  rtKs_of (Q := fun rs ls to => rwS rs = flatKs to ls) (fun to => rfl) (fun t ht to rs ls h => by rw [rwS_app, flatKs, rt_rw, h]) to
theorem rt_rd : ∀ t to, rdT H t → ∀ r ∈ rtT to t, rdR H r := T.ind fun f P M A K ks ih to h r hr => by
  rw [rdT] at h
  rw [rtT, List.mem_cons] at hr
  rcases hr with rfl | hr
  · exact ⟨h.1, h.2.1, h.2.2.1⟩
  · have : ∀ ts : List T, (∀ t ∈ ts, t ∈ ks) → ∀ r ∈ rtKs f.id ts, rdR H r := by
      intro ts
      induction ts with
      | nil => intro _ r hr; simp [rtKs] at hr
      | cons t ts iht =>
        intro hm r hr
        rw [rtKs, List.mem_append] at hr
        rcases hr with hr | hr
        · exact ih t (hm t List.mem_cons_self) f.id (rdKs_iff.1 h.2.2.2.2 t (hm t List.mem_cons_self)) r hr
        · exact iht (fun u hu => hm u (List.mem_cons_of_mem _ hu)) r hr
    exact this ks (fun _ h => h) r hr
theorem rtKs_rd {ts : List T} {to : Int} (h : rdKs H ts) : ∀ r ∈ rtKs to ts, rdR H r := by
  induction ts with
  | nil => intro r hr; simp [rtKs] at hr
  | cons t ts ih =>
    rw [rdKs] at h
    intro r hr
    rw [rtKs, List.mem_append] at hr
    exact hr.elim (rt_rd t to h.1 r) (ih h.2 r)

/-- What a list is that a play goes through with. -/
structure Fine (rs : List RT) : Prop where
  nodup : (idsR (rwS rs)).Nodup
  nz : ∀ x ∈ idsR (rwS rs), x ≠ 0
  lens : ∀ r ∈ rs, r.f.p.length ≤ 2000 ∧ r.f.mask.length ≤ 2000 ∧ r.f.params.length ≤ 100
theorem Fine.nil : Fine [] := ⟨by simp [idsR], fun x hx => by simp [idsR] at hx, fun r hr => by simp at hr⟩
theorem Fine.snoc {rs : List RT} {r : RT} (h : Fine rs) (h1 : ∀ x ∈ rs, x.f.id ≠ r.f.id) (h2 : r.f.id ≠ 0) (h3 : r.f.p.length ≤ 2000 ∧ r.f.mask.length ≤ 2000 ∧ r.f.params.length ≤ 100) : Fine (rs ++ [r]) := by
  have e : idsR (rwS (rs ++ [r])) = idsR (rwS rs) ++ [r.f.id] := by rw [rwS_app, idsR_app]; rfl
  refine ⟨?_, ?_, ?_⟩
  · rw [e, List.nodup_append]
    refine ⟨h.nodup, by simp, fun a ha b hb hab => ?_⟩
    rw [List.mem_singleton] at hb
    subst hb; subst hab
    obtain ⟨w, hw, hwe⟩ := List.mem_map.1 ha
    obtain ⟨x, hx, rfl⟩ := List.mem_map.1 hw
    exact h1 x hx hwe
  · rw [e]
    intro x hx
    rcases List.mem_append.1 hx with hx | hx
    · exact h.nz x hx
    · rw [List.mem_singleton] at hx; subst hx; exact h2
  · intro x hx
    rcases List.mem_append.1 hx with hx | hx
    · exact h.lens x hx
    · rw [List.mem_singleton] at hx; subst hx; exact h3

def FlatOk (t : T) : Prop := ∀ {H0 H : Heap} {σ : List Rs} {R : Value → Heap → Prop} {q : Sl3} {out : List RT} {to d : Int}, rdT H0 t → St H0 H (.sl q.p q.l q.c 66 19 (cellsRs out) :: σ) → Fine out → out.length ≤ 301 → 0 ≤ d → d ≤ 81 →
  (∀ (q' : Sl3) H', Fine (out ++ rtKs to t.kids) → (out ++ rtKs to t.kids).length ≤ 300 → St H0 H' (.sl q'.p q'.l q'.c 66 19 (cellsRs (out ++ rtKs to t.kids)) :: σ) → R (.tuple #[.slice q'.p q'.l q'.c, .bool true]) H') →
  (∀ H', Ext H0 H' → R (.tuple #[.slice none 0 0, .bool false]) H') → CallsH Try.prog 59 #[.slice t.K.p t.K.l t.K.c, .int .i64 to, .int .i64 d, .slice q.p q.l q.c] H R

theorem flat_of {ks : List T} (ih : ∀ t ∈ ks, FlatOk t) {K : Sl3} (hg : grp H0 K ks) {q : Sl3} {out : List RT} {to d : Int} (hs : St H0 H (.sl q.p q.l q.c 66 19 (cellsRs out) :: σ)) (hf : Fine out) (hol : out.length ≤ 301) (hd0 : 0 ≤ d) (hd1 : d ≤ 81)
    (h1 : ∀ (q' : Sl3) H', Fine (out ++ rtKs to ks) → (out ++ rtKs to ks).length ≤ 300 → St H0 H' (.sl q'.p q'.l q'.c 66 19 (cellsRs (out ++ rtKs to ks)) :: σ) → R (.tuple #[.slice q'.p q'.l q'.c, .bool true]) H')
    (h0 : ∀ H', Ext H0 H' → R (.tuple #[.slice none 0 0, .bool false]) H') : CallsH Try.prog 59 #[.slice K.p K.l K.c, .int .i64 to, .int .i64 d, .slice q.p q.l q.c] H R := by
  refine Try.s59 ?_
  unfold Try.S59
  have hql : q.l = out.length := by have := (hs.rs 0 rfl).len; rw [cellsRs_len] at this; omega
  intro J hJ
  refine br_dec (fun hd => h0 H hs.ext) fun hd => br_dec (fun hgt => h0 H hs.ext) fun hle => hJ _ ?_
  rw [wrap_id (by omega) (by omega)] at hle
  intro X hX
  have hKl := hg.1.1
  have go : ∀ k, k ≤ ks.length → ∀ (q1 : Sl3) (o1 : List RT) H1, o1 ++ rtKs to (ks.drop k) = out ++ rtKs to ks → Fine o1 → o1.length ≤ 300 → St H0 H1 (.sl q1.p q1.l q1.c 66 19 (cellsRs o1) :: σ) → X [.slice q1.p q1.l q1.c, .int .i64 (k : Nat)] H1 := by
    refine upto fun k hk ihk q1 o1 H1 he hf1 hl1 hs1 => hX _ _ _ _ _ (br_dec (fun hlt => ?_) fun hge => ?_)
    · have hk' : k < ks.length := by omega
      have ht := List.getElem?_eq_getElem hk'
      have htm := List.getElem_mem hk'
      rw [List.drop_eq_getElem_cons hk'] at he
      generalize ks[k] = t at ht htm he
      have iht := @ih t htm
      have hrd := rdKs_iff.1 hg.2 _ htm
      obtain ⟨a, p1, p2, p3⟩ := (hg.ext hs1.ext).get ht
      obtain ⟨f, P, M, A, K2, ks2⟩ := t
      rw [rtKs, rtT] at he
      have hrd' := hrd
      rw [rdT] at hrd'
      have hPl : P.l = f.p.length := by have := hrd'.1.len; rw [ints_len] at this; exact this.symm
      have hMl : M.l = f.mask.length := by have := hrd'.2.1.len; rw [kints_len] at this; exact this.symm
      have hAl : A.l = f.params.length := by have := hrd'.2.2.1.len; rw [ints_len] at this; exact this.symm
      have hq1 : q1.l = o1.length := by have := (hs1.rs 0 rfl).len; rw [cellsRs_len] at this; omega
      refine ⟨a, p1, by omega, by omega, (cellsT (.mk f P M A K2 ks2)).toArray, rfl, p2, hs1.alc fun b13 H14 hs14 => ⟨rfl, hs14.putAll 0 rfl rfl (cellsT_one (.mk f P M A K2 ks2)) fun H15 hs15 => ?_⟩⟩
      intro X16 hX16
      have go2 : ∀ j, j ≤ o1.length → ∀ H2, (∀ r ∈ o1.take j, r.f.id ≠ f.id) → St H0 H2 (.cell b13 (cellsT (.mk f P M A K2 ks2)).toArray 58 :: .sl q1.p q1.l q1.c 66 19 (cellsRs o1) :: σ) → X16 [.int .i64 (j : Nat)] H2 := by
        refine upto fun j hj ihj H2 hne hs2 => hX16 _ _ (br_dec (fun hlt2 => ?_) fun hge2 => ?_)
        · have hj' : j < o1.length := by omega
          have hr := List.getElem?_eq_getElem hj'
          have htk : o1.take (j + 1) = o1.take j ++ [o1[j]] := by rw [List.take_add_one, hr]; rfl
          generalize o1[j] = r at hr htk
          obtain ⟨blk, hp, hrow⟩ := (hs2.rs 1 rfl).row (i := j) (by omega) (by decide) (xs := (cellsR r).toArray) fun i v hv => cellsRs_get hr (by simpa using hv)
          refine ⟨_, hp, by omega, hlt2, (cellsR r).toArray, rfl, by rw [Int.toNat_natCast]; exact rowR0 hrow, hs2.alc fun b21 H22 hs22 => ⟨rfl, hs22.putAll 0 rfl rfl (cellsR_one r) fun H23 hs23 => ?_⟩⟩
          refine ⟨r.f.id, hs23.get 0 rfl (j := 0) rfl, f.id, hs23.get 1 rfl (j := 0) rfl, br_eq (fun _ => h0 _ hs23.ext) fun hid => ⟨f.id, hs23.get 1 rfl (j := 0) rfl, br_eq (fun _ => h0 _ hs23.ext) fun hz => ?_⟩⟩
          rw [wrap_id (by omega) (by omega)]
          refine ihj hj' H23 (fun x hx => ?_) hs23.tail
          rw [htk] at hx
          rcases List.mem_append.1 hx with hx | hx
          · exact hne x hx
          · rw [List.mem_singleton] at hx; subst hx; exact hid
        · have hjn : j = o1.length := by omega
          subst hjn
          rw [List.take_of_length_le (Nat.le_refl _)] at hne
          intro J27 hJ27
          refine ⟨f.id, hs2.get 0 rfl (j := 0) rfl, br_eq (fun _ => h0 _ hs2.ext) fun hz => ⟨P.p, P.l, P.c, hs2.get 0 rfl (j := 7) rfl, br_dec (fun _ => h0 _ hs2.ext) fun hp => ⟨M.p, M.l, M.c, hs2.get 0 rfl (j := 8) rfl, br_dec (fun _ => h0 _ hs2.ext) fun hm => ⟨A.p, A.l, A.c, hs2.get 0 rfl (j := 17) rfl, br_dec (fun _ => h0 _ hs2.ext) fun ha => hJ27 _ ?_⟩⟩⟩⟩
          refine ⟨f.id, hs2.get 0 rfl (j := 0) rfl, f.kind, hs2.get 0 rfl (j := 1) rfl, f.hidden, hs2.get 0 rfl (j := 2) rfl, f.opacity, hs2.get 0 rfl (j := 3) rfl, f.mode, hs2.get 0 rfl (j := 4) rfl, f.w, hs2.get 0 rfl (j := 5) rfl, f.h, hs2.get 0 rfl (j := 6) rfl, P.p, P.l, P.c, hs2.get 0 rfl (j := 7) rfl, M.p, M.l, M.c, hs2.get 0 rfl (j := 8) rfl, (ints f.map.l).toArray, rfl, cellMap (hs2.block 0 rfl), f.smooth, hs2.get 0 rfl (j := 15) rfl, f.table, hs2.get 0 rfl (j := 16) rfl, A.p, A.l, A.c, hs2.get 0 rfl (j := 17) rfl, rfl, by decide, rfl, by decide, ?_⟩
          refine St.alc (cs := (cellsR ⟨f, to, P, M, A⟩).toArray) hs2 fun b42 H43 hs43 => hs43.appC 2 0 rfl rfl rfl (by simpa using cellsR_one _) (by decide) rfl (by omega) (by omega) fun p' c' H45 hs45 => ⟨K2.p, K2.l, K2.c, hs45.get 1 rfl (j := 18) rfl, f.id, hs45.get 1 rfl (j := 0) rfl, ?_⟩
          rw [wrap_id (by omega) (by omega)]
          have hs45' : St H0 H45 (.sl p' (q1.l + 1) c' 66 19 (cellsRs (o1 ++ [⟨f, to, P, M, A⟩])) :: .cell b42 (cellsR ⟨f, to, P, M, A⟩).toArray 66 :: .cell b13 (cellsT (.mk f P M A K2 ks2)).toArray 58 :: σ) := by
            rw [cellsRs_app, cellsRs_one']
            exact hs45.front 2 rfl
          have hfs : Fine (o1 ++ [⟨f, to, P, M, A⟩]) := hf1.snoc hne hz ⟨by show f.p.length ≤ _; omega, by show f.mask.length ≤ _; omega, by show f.params.length ≤ _; omega⟩
          refine iht (q := ⟨p', q1.l + 1, c'⟩) hrd hs45' hfs (by rw [List.length_append, List.length_singleton]; omega) (by omega) (by omega) (fun q2 H49 hf2 hl2 hs49 => ⟨q2.p, q2.l, q2.c, true, rfl, br_f rfl ?_⟩) fun H49 he49 => ⟨none, 0, 0, false, rfl, br_t rfl (h0 _ he49)⟩
          rw [wrap_id (by omega) (by omega)]
          refine ihk hk' q2 _ H49 ?_ hf2 hl2 ((hs49.del 1).del 1)
          rw [← he]
          show o1 ++ [_] ++ rtKs f.id ks2 ++ _ = _
          simp
      exact go2 0 (by omega) H15 (fun r hr => by simp at hr) hs15
    · have hkn : k = ks.length := by omega
      subst hkn
      rw [List.drop_of_length_le (Nat.le_refl _), rtKs, List.append_nil] at he
      subst he
      exact h1 q1 H1 hf1 hl1 hs1
  exact go 0 (by omega) q out H rfl hf (by omega) hs
theorem flat_all : ∀ t, FlatOk t := T.ind fun f P M A K ks ih => by
  intro H0 H σ R q out to d hrd hs hf hol hd0 hd1 h1 h0
  exact flat_of ih hrd.grp hs hf hol hd0 hd1 h1 h0

/-- What is laid flat. -/
theorem Fine.ok {ks : List T} (h : Fine (rtKs 0 ks)) (hl : (rtKs 0 ks).length ≤ 300) : Ids (layKs ks) ∧ cntKs (layKs ks) ≤ 300 ∧ okKs (layKs ks) := by
  have hr := rtKs_rw ks 0
  have hi : idsR (rwS (rtKs 0 ks)) = idsKs (layKs ks) := by rw [hr, flatKs_ids]
  have hc : cntKs (layKs ks) ≤ 300 := by
    have h2 : Rel (layKs ks) (rwS (rtKs 0 ks)) := fun to => by rw [hr]
    have := h2.len
    rw [rwS_len] at this
    omega
  refine ⟨⟨hi ▸ h.nodup, fun x hx => h.nz x (hi ▸ hx)⟩, hc, ?_⟩
  have hm : ∀ x ∈ flatKs 0 (layKs ks), x.f.p.length ≤ 2000 ∧ x.f.mask.length ≤ 2000 ∧ x.f.params.length ≤ 100 := by
    intro x hx
    rw [← hr] at hx
    obtain ⟨r, hr1, rfl⟩ := List.mem_map.1 hx
    exact h.lens r hr1
  have all : ∀ t : Lay, ∀ g, (∀ x ∈ flatT g t, x.f.p.length ≤ 2000 ∧ x.f.mask.length ≤ 2000 ∧ x.f.params.length ≤ 100) → cntL t ≤ 300 → okL t := Lay.ind fun f ts ih g hx hct => by
    rw [flatT] at hx
    rw [cntL] at hct
    have h0 := hx _ List.mem_cons_self
    rw [okL]
    have h00 : f.p.length ≤ 2000 ∧ f.mask.length ≤ 2000 ∧ f.params.length ≤ 100 := h0
    have hlc := len_cnt ts
    refine ⟨by omega, by omega, by omega, by omega, ?_⟩
    have sub : ∀ us : List Lay, (∀ u ∈ us, u ∈ ts) → (∀ x ∈ flatKs f.id us, x ∈ flatKs f.id ts) → cntKs us ≤ 300 → okKs us := by
      intro us
      induction us with
      | nil => intro _ _ _; exact trivial
      | cons u us ihu =>
        intro h1 h2 h3
        rw [cntKs] at h3
        rw [okKs]
        rw [flatKs] at h2
        exact ⟨ih u (h1 u List.mem_cons_self) f.id (fun x hxx => hx x (List.mem_cons_of_mem _ (h2 x (List.mem_append_left _ hxx)))) (by omega), ihu (fun v hv => h1 v (List.mem_cons_of_mem _ hv)) (fun x hxx => h2 x (List.mem_append_right _ hxx)) (by omega)⟩
    exact sub ts (fun _ h => h) (fun _ h => h) (by omega)
  have sub : ∀ us : List Lay, (∀ x ∈ flatKs 0 us, x ∈ flatKs 0 (layKs ks)) → cntKs us ≤ 300 → okKs us := by
    intro us
    induction us with
    | nil => intro _ _; exact trivial
    | cons u us ihu =>
      intro h2 h3
      rw [cntKs] at h3
      rw [okKs]
      rw [flatKs] at h2
      exact ⟨all u 0 (fun x hxx => hm x (h2 x (List.mem_append_left _ hxx))) (by omega), ihu (fun x hxx => h2 x (List.mem_append_right _ hxx)) (by omega)⟩
  exact sub _ (fun _ h => h) hc

theorem c31 {A : Array Value} {D : DocL} (hd : DocR H A D)
    (h1 : ∀ (K : Sl3) (rs : List RT) H', RD H' K rs → (∀ r ∈ rs, r.f.p.length ≤ 2000 ∧ r.f.mask.length ≤ 2000 ∧ r.f.params.length ≤ 100) → rwS rs = flatKs 0 D.ks → Ids D.ks → cntKs D.ks ≤ 300 → okKs D.ks → Ext H H' → R (.tuple #[.agg (docA D.w D.h D.next K), .bool true]) H')
    (h0 : ∀ H', Ext H H' → R (.tuple #[.agg (docA D.w D.h D.next .nil), .bool false]) H') : CallsH Try.prog 31 #[.agg A] H R := by
  obtain ⟨K, ks, rfl, hg, hl⟩ := hd
  refine Try.s31 ?_
  unfold Try.S31
  refine (St.nil H).alc fun b2 H3 hs3 => hs3.alc fun b4 H5 hs5 => ⟨K.p, K.l, K.c, hs5.get 1 rfl (j := 3) rfl, ?_⟩
  refine flat_of (q := .nil) (out := []) (fun t _ => flat_all t) (hg.ext hs5.ext) ((St.nil H5).nilSl _ _) Fine.nil (by decide) (by decide) (by decide) (fun q H8 hf hlen hs8 => ⟨q.p, q.l, q.c, true, rfl, ?_⟩) fun H8 he8 => ⟨none, 0, 0, false, rfl, ?_⟩
  · rw [List.nil_append] at hf hlen hs8
    have hs8' := hs5.call hs8
    refine ⟨D.w, hs8'.get 2 rfl (j := 0) rfl, D.h, hs8'.get 2 rfl (j := 1) rfl, D.next, hs8'.get 2 rfl (j := 2) rfl, rfl, hs8'.putAll 1 rfl rfl (docA_one D.w D.h D.next q) fun H14 hs14 => ⟨docA D.w D.h D.next q, rfl, rowIn_whole (hs14.block 1 rfl), ?_⟩⟩
    obtain ⟨o1, o2, o3⟩ := hf.ok hlen
    rw [hl] at o1 o2 o3
    have hfs := hs14.fs 0 rfl
    refine h1 q (rtKs 0 ks) H14 ⟨⟨hfs.rs, hfs.le, by omega⟩, rtKs_rd (hg.ext hs14.ext).2⟩ hf.lens (by rw [rtKs_rw, hl]) o1 o2 o3 hs14.ext
  · have hs8' := hs5.step he8
    exact ⟨D.w, hs8'.get 1 rfl (j := 0) rfl, D.h, hs8'.get 1 rfl (j := 1) rfl, D.next, hs8'.get 1 rfl (j := 2) rfl, rfl, hs8'.putAll 0 rfl rfl (docA_one D.w D.h D.next .nil) fun H14 hs14 => ⟨docA D.w D.h D.next .nil, rfl, rowIn_whole (hs14.block 0 rfl), h0 H14 hs14.ext⟩⟩

end Go.Proofs
