/-
  OWN WORK. Several texts in one: ShP, ShL, TileW, TileStay, ShG, GTab, GFunA, GFunB, GFunC.
-/
import Derived.Test.YtdnfhenncjhenaaGreatMgPngChunksA
import Derived.ProofKit
import Derived.OpenShut
import Derived.RangeFuncRecord
import Derived.Test.YtdnfhenncjhenaaGreatProg
import Derived.KernelRfl

set_option linter.unusedSimpArgs false
set_option linter.unusedVariables false
set_option maxRecDepth 100000
namespace Go.Sh
def br(t:Bool)(A B:Prop):Prop:=(t=true→A)∧(t=false→B)
def alc(H:Heap)(o:Obj)(K:Nat→Heap→Prop):Prop:=K H.size (H.push o)
def sto(H:Heap)(r:Nat)(o:Obj)(K:Heap→Prop):Prop:=K (H.setIfInBounds r o)
abbrev OA:=Option Addr
abbrev AV:=Array Value
abbrev Kv:=Value→Heap→Prop
abbrev Kl:=List Value→Heap→Prop
namespace Plan
def tl(a:Plan):Plan:=two leaf a
def g0:Plan:=tl (two (tl leaf) leaf)
def tg(a:Plan):Plan:=two g0 a
end Plan
theorem vcs{P:Program}{T:Tab}(hT:TabOk P T)(hm:P.follows .mixedOrders=true){g:FuncId}{fn:Func}(hg:P.funcs[g]?=some fn)(hc:callable P g)(p:Plan){args:Array Value}{H:Heap}
 {R:Value→Heap→Prop}{A:Prop}(h:A)(e:A=vcFun P T fn p args.toList H R):CallsH P g args H R:=by
 have:=vcFun_sound hT hm hg hc (p:=p) (args:=args.toList) (H:=H) (R:=R) (Eq.mp e h)
 simpa using this
end Go.Sh
namespace Go.Sh
theorem br_i{t:Bool}{A B:Prop}(h:t=true→A)(h':t=false→B):br t A B:=⟨h,h'⟩
theorem br_dec{p:Prop}[Decidable p]{A B:Prop}(h:p→A)(h': ¬p→B):br (decide p) A B:=⟨fun e=>h (of_decide_eq_true e),fun e=>h' (of_decide_eq_false e)⟩
theorem br_eq{a b:Int}{A B:Prop}(h:a=b→A)(h':a≠b→B):br (a==b) A B:=⟨fun e=>h (by simpa using e),fun e=>h' (by simpa using e)⟩
theorem br_ne{a b:Int}{A B:Prop}(h:a≠b→A)(h':a=b→B):br (a != b) A B:=⟨fun e=>h (by simpa using e),fun e=>h' (by simpa using e)⟩
theorem br_not{t:Bool}{A B:Prop}(h:t=false→A)(h':t=true→B):br (!t) A B:=⟨fun e=>h (by simpa using e),fun e=>h' (by simpa using e)⟩
theorem br_true{A B:Prop}(h:A):br true A B:=⟨fun _=>h,fun e=>(by cases e)⟩
theorem br_false{A B:Prop}(h:B):br false A B:=⟨fun e=>(by cases e),fun _=>h⟩
theorem br_t{t:Bool}{A B:Prop}(ht:t=true)(h:A):br t A B:=by subst ht;exact br_true h
theorem br_f{t:Bool}{A B:Prop}(ht:t=false)(h:B):br t A B:=by subst ht;exact br_false h
theorem br_y{p:Prop}[Decidable p]{A B:Prop}(hp:p)(h:A):br (decide p) A B:=br_dec (fun _=>h) (fun n=>absurd hp n)
theorem br_n{p:Prop}[Decidable p]{A B:Prop}(hp: ¬p)(h:B):br (decide p) A B:=br_dec (fun y=>absurd y hp) (fun _=>h)
theorem br_none{α:Type}{p:Option α}{A B:Prop}(h:p=none→A)(h': ∀a,p=some a→B):br (Option.isNone p) A B:=by
 cases p with
 |none=>exact br_true (h rfl)
 |some a=>exact br_false (h' a rfl)
theorem lt_of_get{H:Heap}{b:Nat}{o:Obj}(h:H[b]?=some o):b<H.size:=(Array.getElem?_eq_some_iff.1 h).1
theorem get_push_self(H:Heap)(o:Obj):(H.push o)[H.size]?=some o:=by simp
theorem get_push{H:Heap}{b:Nat}{o x:Obj}(h:H[b]?=some x):(H.push o)[b]?=some x:=Ext.push H o b x h
theorem get_set_ne{H:Heap}{b r:Nat}{o x:Obj}(hne:r≠b)(h:H[b]?=some x):(H.setIfInBounds r o)[b]?=some x:=by
 rw[Array.getElem?_setIfInBounds_ne hne];exact h
theorem get_set_self{H:Heap}{r:Nat}{o x:Obj}(h:H[r]?=some x):(H.setIfInBounds r o)[r]?=some o:=by
 rw[Array.getElem?_setIfInBounds_self_of_lt (lt_of_get h)]
theorem cell_block{H:Heap}{b i:Nat}{c:Array Value}{t:TypeId}{f:Nat×Nat}(h:H[b]?=some (.cells c t f)):cell H ⟨b,i,none⟩=c[i]?:=by
 simp[cell,h]
theorem cell_get{H:Heap}{b i:Nat}{c:Array Value}{t:TypeId}{f:Nat×Nat}{v:Value}(h:H[b]?=some (.cells c t f))(hv:c[i]?=some v):cell H ⟨b,i,none⟩=some v:=by
 rw[cell_block h];exact hv
@[simp] theorem add_none(b i n:Nat):Addr.add ⟨b,i,none⟩ n=⟨b,i+n,none⟩:=by
 unfold Addr.add;split<;>simp_all
theorem rowIn_block{H:Heap}{b i:Nat}{c cs:Array Value}{t:TypeId}{f:Nat×Nat}(h:H[b]?=some (.cells c t f))(hc: ∀j v,cs[j]?=some v→c[i+j]?=some v):
 rowIn H ⟨b,i,none⟩ cs:=by
 intro j v hv
 rw[add_none,cell_block h]
 exact hc j v hv
theorem rowIn_whole{H:Heap}{b:Nat}{c:Array Value}{t:TypeId}{f:Nat×Nat}(h:H[b]?=some (.cells c t f)):rowIn H ⟨b,0,none⟩ c:=
 rowIn_block h fun j v hv=>by rw[Nat.zero_add];exact hv
theorem stAt_one{H:Heap}{b i:Nat}{c:Array Value}{t:TypeId}{v:Value}{f:Heap→Prop}(h:H[b]?=some (.cells c t (0,0)))(hi:i<c.size)(ho:v.oneCell'=true)
 (hf:f (H.setIfInBounds b (.cells (c.setIfInBounds i v) t (0,0)))):stAt H ⟨b,i,none⟩ [v] f:=by
 refine⟨c,t,h,rfl,(by simp;omega),by simpa using ho,?_⟩
 have:(setL c.toList i [v]).toArray=c.setIfInBounds i v:=by
  rw[setL_one (by simpa using hi)]
  apply Array.toList_inj.1
  simp
 simp only[this]
 exact hf
theorem stAt_whole{H:Heap}{b:Nat}{c:Array Value}{t:TypeId}{vs:List Value}{f:Heap→Prop}(h:H[b]?=some (.cells c t (0,0)))(hl:vs.length=c.size)(ho: ∀v∈vs,v.oneCell'=true)
 (hf:f (H.setIfInBounds b (.cells vs.toArray t (0,0)))):stAt H ⟨b,0,none⟩ vs f:=by
 refine⟨c,t,h,rfl,by simp;omega,ho,?_⟩
 have:setL c.toList 0 vs=vs:=by simp[setL,hl]
 simp only[this]
 exact hf
theorem wrap_id{n:Int}(h0: -9223372036854775808≤n)(h1:n≤9223372036854775807):IntKind.wrap .i64 n=n:=wrap_i64 h0 h1
theorem wrap_u32{n:Int}(h0:0≤n)(h1:n<4294967296):IntKind.wrap .u32 n=n:=by
 simp only[IntKind.wrap,IntKind.signed,IntKind.bits];simp;omega
theorem wrap_u8{n:Int}(h0:0≤n)(h1:n<256):IntKind.wrap .u8 n=n:=by
 simp only[IntKind.wrap,IntKind.signed,IntKind.bits];simp;omega
end Go.Sh
namespace Go.Sh
open Go.RowKit
theorem kept_of{W w':World}(hos:w'.os=W.os)(ho:Out W w')(hx:Ext W.heap w'.heap)(may:MemPlace→Prop):W.keptBut w' may:=by
 have h0:W.keptBut w' (fun _=>False):=by
  refine⟨hos,ho.output,fun i hi=>?_⟩
  obtain⟨o,h⟩: ∃o,W.heap[i]?=some o:=⟨_,Array.getElem?_eq_getElem hi⟩
  rw[hx i o h,h]
  cases o with
  |cells c t fr=>exact⟨rfl,rfl,rfl,fun _ _=>rfl⟩
  |map es k=>exact .inr ⟨rfl,rfl⟩
  |_=>rfl
 exact World.keptBut_mono (fun _ f=>f.elim) h0
end Go.Sh
namespace Go.Sh
open Go.RowKit Go.ChangeShapes Go.WideShapes Go.ChangeAt
section
variable {H:Type} {enc:TypeId×Value→H} {P:Program} {W W':World}
theorem same_of(hx:Ext W.heap W'.heap){p:MemPlace}(hp:p.block<W.heap.size):W.sameAt W' p:=by
 have h:W'.heap[p.block]?=W.heap[p.block]?:=by
  obtain⟨o,h⟩: ∃o,W.heap[p.block]?=some o:=⟨_,Array.getElem?_eq_getElem hp⟩
  rw[hx _ o h,h]
 cases p with
 |cell b o=>exact World.cell?_of_block (w:=W) h
 |map b=>exact h
theorem trodAll_ext (hl : laidOutB P = true) (hx : Ext W.heap W'.heap) {sp : Nat → Bool} : ∀ {ts : List TypeId} {vs : List Value} {ds : List (DataW H)} {ps : List MemPlace}, (ts.all fun t => P.readableRec t && decide (t < P.types.size)) = true →
    DataW.TrodAll enc P W 0 (fun _ => true) true ts vs ds ps → (∀ x ∈ ps, x.block < W.heap.size) → (∀ x ∈ ps, sp x.block = true) → DataW.TrodAll enc P W' 0 sp true ts vs ds ps
  | [], vs, ds, ps, _, h, _, _ => by
    obtain ⟨rfl, rfl, rfl⟩ := trodAll_nil h
    exact trodAll_mk0
  | t :: ts, vs, ds, ps, hr, h, hlt, hs => by
    obtain ⟨v, vs1, d, ds1, a, b, rfl, rfl, rfl, h1, h2⟩ := trodAll_cons h
    simp only [List.all_cons, Bool.and_eq_true, decide_eq_true_eq] at hr
    exact trodAll_cons_mk (WideElems.Trod_stays hl hr.1.1 hr.1.2 h1 (fun x hx' => same_of hx (hlt x (List.mem_append_left _ hx'))) (fun x hx' => hs x (List.mem_append_left _ hx')))
      (trodAll_ext hl hx (by simpa using hr.2) h2 (fun x hx' => hlt x (List.mem_append_right _ hx')) (fun x hx' => hs x (List.mem_append_right _ hx')))
theorem post_same{f:Func}{s:ChangeSpec}{apart fresh handsOn again:Bool}{args:Array Value}{v:Value}{ds gs:List (DataW H)}{before pa pv:List MemPlace}
 (hW:DataW.Whole enc P f.params.toList s.vars apart W args.toList ds gs before)
 (hres: ∀(b:Nat) (sp:Nat→Bool) (hd:Bool),DataW.TrodAll enc P W' b sp hd f.resultTypes.toList (v.resultList f.resultTypes.size) (s.fn H (ds++gs)).results [])
 (hargs: ∀sp:Nat→Bool,(∀p∈before,sp p.block=true)→DataW.TrodAll enc P W' 0 sp true f.params.toList args.toList (s.fn H (ds++gs)).args pa)
 (hvars: ∀sp:Nat→Bool,(∀p∈before,sp p.block=true)→DataW.TrodVars enc P W' sp s.vars (s.fn H (ds++gs)).vars pv)
 (hps:before=pa++pv)(hk:W.keptBut W' (· ∈before))(hfz: ∀a,a.block<W.heap.size→W'.frozen? a=W.frozen? a)
 (hok: ∀(j:Nat) (t:TypeId) (r:Value),f.resultTypes[j]?=some t→(v.resultList f.resultTypes.size)[j]?=some r→Value.okWide P W' .any 0 t r):
 s.post enc P f apart fresh handsOn again W args v W':=by
 have hold: ∀p∈before,(fun b=>decide (b<W.heap.size)) p.block=true:=fun p hp=>by simpa using hW.lt p hp
 have hlt:=hW.lt
 refine⟨ds,gs,before,[],pa,pv,hW,hres _ _ _,hargs _ hold,hvars _ hold,World.keptBut_mono (fun p hp=>⟨hp,?_⟩) hk,fun _=>?_⟩
 ·rw[hps,List.mem_append] at hp
  exact Or.inr hp
 ·obtain⟨_,_,_,_,_,hz,hn⟩:=hW
  refine⟨hok,_,_,([]++pa)++pv,⟨[]++pa,pv,trodAll_append (hargs _ (fun _ _=>rfl)) (hres _ _ _),hvars _ (fun _ _=>rfl),rfl,?_,?_⟩,?_⟩
  ·intro b off hp
   have hp':(MemPlace.cell b off)∈before:=by rw[hps];simpa using hp
   rw[hfz _ (hlt _ hp')]
   exact hz b off hp'
  ·intro ha
   have:=hn ha
   rw[hps] at this
   simpa using this
  ·intro p hp _
   rw[hps]
   simpa using hp
theorem wf_range{a:Int}(h:(Lit.int .i64 a).wf=true): -9223372036854775808≤a∧a≤9223372036854775807:=by
 simpa[Lit.wf,IntKind.min,IntKind.max,IntKind.signed,IntKind.bits] using h
end
end Go.Sh
namespace Go.Sh
variable {P:Program}
def noDeferB:List Oper→Bool
 |[]=>true
 |o::r=>match o.op with
  | .defer _=>false
  |_=>noDeferB r
theorem noDeferB_ok{l:List Oper}(h:noDeferB l=true): ∀o∈l,∀c,o.op≠ .defer c:=by
 induction l with
 |nil=>intro o ho;cases ho
 |cons o r ih=>
  intro o' ho' c hc
  unfold noDeferB at h
  split at h
  ·cases h
  ·rename_i hn
   rcases List.mem_cons.1 ho' with rfl|ho'
   ·exact hn _ hc
   ·exact ih h o' ho' c hc
def flat:Code→Bool
 | .skip=>true
 | .exit _=>true
 | .ret=>true
 | .region _ ops _=>noDeferB ops.toList
 | .seq a b=>match flat a with
  |true=>flat b
  |false=>false
 | .cond _ a b=>match flat a with
  |true=>flat b
  |false=>false
 | .block _ a=>flat a
 |_=>false
theorem wpAny_in {r : Option Nat} {ops : Array Oper} {md : Region.Mode} {Q : Exit → Act → World → Prop} (hnd : noDeferB ops.toList = true) (hL : ¬ LetsOut Q) :
    ∀ (fuel : Nat) (listed : Array Bool) (a : Act) (w : World), wpAny P md ops Q fuel listed a w → wpAnyIn (FR r) 0 P md ops Q fuel listed a w
  | 0, listed, a, w, h => h
  | fuel + 1, listed, a, w, h => by
    refine ⟨h.1, fun i hi => ?_⟩
    have h := h.2 i hi
    unfold wpOp at h
    unfold wpOpIn
    cases ho : ops[i]? with
    | none => rw [ho] at h; exact wpAny_in hnd hL fuel _ _ _ h
    | some o =>
      simp only [ho] at h ⊢
      have hd : ∀ c, o.op ≠ .defer c := noDeferB_ok hnd o (by simpa using Array.mem_of_getElem? ho)
      split <;> rename_i hw <;> simp only [hw] at h
      · rcases h with h | ⟨_, h⟩
        · exact Oper.wpIn_mono (fun a w h => wpAny_in hnd hL fuel _ _ _ h) (wpIn_of_wp hd (fun _ _ _ h => h) hL h)
        · exact (hL h).elim
      · exact ⟨fun _ _ => trivial, wpAny_in hnd hL fuel _ _ _ h⟩
set_option maxHeartbeats 1000000 in
theorem vc_flat{T:Tab}(hT:TabOk P T)(hm:P.follows .mixedOrders=true){n:Nat}(w0:World)(r:Option Nat): ∀(p:Plan) (c:Code) (e:Env) (dec:Dec) (H:Heap) (Q:Post)
 (Q':Exit→Act→World→Prop) (a:Act) (w:World) (U:Act→Prop),flat c=true→vc P T n p c e dec H Q→Rep n e a→DecOk dec a→w.heap=H→Same w0 w→U a→
 (∀o∈opsOf c,∀a v,U a→U (a.put o.dst v))→Pays n w0 U Q Q'→c.wpIn (FR r) 0 P Q' a w:=by
 have leafs: ∀(c:Code) (e:Env) (dec:Dec) (H:Heap) (Q:Post) (Q':Exit→Act→World→Prop) (a:Act) (w:World) (U:Act→Prop),flat c=true→
  (match c with
   | .skip=>Q .normal e dec H
   | .region _ ops false=>vcOps P T n ops ops.toList e dec H (Q .normal)
   | .region _ ops true=>match Region.noSelect ops with
    |true=>vcAny P T n ops (Q .normal) ops.size (Array.replicate ops.size false) [] e dec H
    |false=>False
   | .exit id=>Q (.exit id) e dec H
   | .ret=>Q .ret e dec H
   |_=>False)→Rep n e a→DecOk dec a→w.heap=H→Same w0 w→U a→
  (∀o∈opsOf c,∀a v,U a→U (a.put o.dst v))→Pays n w0 U Q Q'→c.wpIn (FR r) 0 P Q' a w:=by
  intro c e dec H Q Q' a w U hfl h hr hd hw hs hu hU hpay
  split at h
  ·exact wpIn_skip (hpay _ _ _ _ _ _ h hr hd hw hs hu)
  ·rename_i id ops
   exact wpIn_region_list (vcOps_sound hT w0 U (fun e dec H a w hk hr hd hw hs hu=>hpay .normal e dec H a w hk hr hd hw hs hu) ops.toList e dec H a w h hr hd hw hs hu hU)
  ·rename_i id ops
   split at h
   ·rename_i hsel
    refine Code.wpIn_mono (Q:=fun ex a w=>ex= .normal∧Q' .normal a w) (fun ex a w hq=>by obtain⟨rfl,hq⟩:=hq;exact hq) ?_
    refine wpIn_region_any hm (wpAny_in hfl (fun⟨_,_,h⟩=>by cases h.1) _ _ _ _ (wpAny_of_T _ (fun _=>False) _ _ _ ?_))
    refine vcAny_sound hT hsel w0 U (fun i o ho=>hU o (by simpa[opsOf] using Array.mem_of_getElem? ho)) (fun c a w hq=>by cases hq.1)
     (fun e dec H a w hk hr hd hw hs hu=>⟨rfl,hpay .normal e dec H a w hk hr hd hw hs hu⟩) _ _ _ _ _ _ _ _ _ h hr hd (by exact hw) (hs.trans ⟨rfl,Out.of rfl (Nat.le_refl _) (fun _ _=>rfl)⟩) hu ?_ (fun x hx=>hx.elim)
    intro j oj hj hl
    rw[getD_replicate_false] at hl
    cases hl
   ·exact h.elim
  ·exact wpIn_exit (hpay _ _ _ _ _ _ h hr hd hw hs hu)
  ·exact wpIn_ret (hpay _ _ _ _ _ _ h hr hd hw hs hu)
  ·exact h.elim
 intro p
 induction p with
 |leaf=>
  intro c e dec H Q Q' a w U hfl h
  refine leafs c e dec H Q Q' a w U hfl ?_
  cases c<;>first|exact h|(rename_i id ops draw;cases draw<;>exact h)|(cases hfl;done)
 |join live keep p ih=>
  intro c e dec H Q Q' a w U hfl h hr hd hw hs hu hU hpay
  unfold vc at h
  split at h
  ·rename_i hkeep
   have hko:=keepOk_ok hkeep
   have h:=h (fun vs H'=> ∀a' w',Rep n (zipE live vs++keepE e keep) a'→w'.heap=H'→Same w0 w'→U a'→Q' .normal a' w')
    (allT_true fun vs H' hq a' w' hr' hw' hs' hu'=>hpay .normal _ _ _ a' w' hq hr' (DecOk.nil _) hw' hs' hu')
   refine ih c e dec H _ Q' a w (fun a'=>U a'∧Kept keep a a') hfl h hr hd hw hs ⟨hu,fun _ _=>rfl⟩ (fun o ho a v hua=>⟨hU o ho a v hua.1,hua.2.put (hko o ho) v⟩) ?_
   intro ex e' dec' H' a' w' hq hr' hd' hw' hs' hu'
   cases ex with
   |normal=>
    obtain⟨vs,hJ,hz⟩:=getV_get hq
    exact hJ a' w' (rep_live hr' hr hu'.2 hz) hw' hs' hu'.1
   |exit id=>exact hpay _ _ _ _ _ _ hq hr' hd' hw' hs' hu'.1
   |goto id=>exact hpay _ _ _ _ _ _ hq hr' hd' hw' hs' hu'.1
   |ret=>exact hpay _ _ _ _ _ _ hq hr' hd' hw' hs' hu'.1
  ·exact h.elim
 |loop live keep p ih=>
  intro c e dec H Q Q' a w U hfl h
  refine leafs c e dec H Q Q' a w U hfl ?_
  cases c<;>first|exact h|(rename_i id ops draw;cases draw<;>exact h)|(cases hfl;done)
 |scope live keep pa pb iha ihb=>
  intro c e dec H Q Q' a w U hfl h
  refine leafs c e dec H Q Q' a w U hfl ?_
  cases c<;>first|exact h|(rename_i id ops draw;cases draw<;>exact h)|(cases hfl;done)
 |one p ih=>
  intro c e dec H Q Q' a w U hfl h hr hd hw hs hu hU hpay
  cases c with
  |block id c=>
   refine wpIn_block (ih c e dec H _ _ a w U hfl h hr hd hw hs hu hU ?_)
   intro ex e' dec' H' a' w' hq hr' hd' hw' hs' hu'
   cases ex with
   |normal=>exact hpay .normal _ _ _ _ _ hq hr' hd' hw' hs' hu'
   |ret=>exact hpay .ret _ _ _ _ _ hq hr' hd' hw' hs' hu'
   |goto id=>exact hpay (.goto id) _ _ _ _ _ hq hr' hd' hw' hs' hu'
   |exit id'=>
    simp only[Post.block] at hq
    simp only[Ex.real,Exit.inBlock]
    cases hb:Nat.beq id' id with
    |true=>
     rw[hb] at hq
     rw[if_pos (Nat.eq_of_beq_eq_true hb)]
     exact hpay .normal _ _ _ _ _ hq hr' hd' hw' hs' hu'
    |false=>
     rw[hb] at hq
     rw[if_neg (fun he=>by rw[he,Nat.beq_refl] at hb;cases hb)]
     exact hpay (.exit id') _ _ _ _ _ hq hr' hd' hw' hs' hu'
  |region id ops draw=>
   refine leafs (.region id ops draw) e dec H Q Q' a w U hfl ?_ hr hd hw hs hu hU hpay
   cases draw<;>exact h
  |skip=>exact leafs _ e dec H Q Q' a w U hfl h hr hd hw hs hu hU hpay
  |exit id=>exact leafs _ e dec H Q Q' a w U hfl h hr hd hw hs hu hU hpay
  |ret=>exact leafs _ e dec H Q Q' a w U hfl h hr hd hw hs hu hU hpay
  |goto id=>cases hfl
  |_=>exact h.elim
 |two pa pb iha ihb=>
  intro c e dec H Q Q' a w U hfl h hr hd hw hs hu hU hpay
  cases c with
  |seq x y=>
   have hfx:flat x=true∧flat y=true:=by
    simp only[flat] at hfl
    cases hx:flat x with
    |true=>rw[hx] at hfl;exact⟨rfl,hfl⟩
    |false=>rw[hx] at hfl;cases hfl
   have hUx: ∀o∈opsOf x,∀a v,U a→U (a.put o.dst v):=fun o ho=>hU o (List.mem_append_left _ ho)
   have hUy: ∀o∈opsOf y,∀a v,U a→U (a.put o.dst v):=fun o ho=>hU o (List.mem_append_right _ ho)
   refine wpIn_seq (iha x e dec H _ _ a w U hfx.1 h hr hd hw hs hu hUx ?_)
   intro ex e' dec' H' a' w' hq hr' hd' hw' hs' hu'
   cases ex with
   |normal=>exact ihb y e' dec' H' Q Q' a' w' U hfx.2 hq hr' hd' hw' hs' hu' hUy hpay
   |ret=>exact hpay .ret _ _ _ _ _ hq hr' hd' hw' hs' hu'
   |goto id=>exact hpay (.goto id) _ _ _ _ _ hq hr' hd' hw' hs' hu'
   |exit id'=>exact hpay (.exit id') _ _ _ _ _ hq hr' hd' hw' hs' hu'
  |cond x t f=>
   have hfx:flat t=true∧flat f=true:=by
    simp only[flat] at hfl
    cases hx:flat t with
    |true=>rw[hx] at hfl;exact⟨rfl,hfl⟩
    |false=>rw[hx] at hfl;cases hfl
   have hUx: ∀o∈opsOf t,∀a v,U a→U (a.put o.dst v):=fun o ho=>hU o (List.mem_append_left _ ho)
   have hUy: ∀o∈opsOf f,∀a v,U a→U (a.put o.dst v):=fun o ho=>hU o (List.mem_append_right _ ho)
   unfold vc at h
   split at h
   ·rename_i hc
    exact wpIn_cond_true (decd_ok hd hc) (iha t e dec H Q Q' a w U hfx.1 h hr hd hw hs hu hUx hpay)
   ·rename_i hc
    exact wpIn_cond_false (decd_ok hd hc) (ihb f e dec H Q Q' a w U hfx.2 h hr hd hw hs hu hUy hpay)
   ·split at h
    ·rename_i s _
     split at h
     ·rename_i b hb
      have hv:=hr.val s _ hb
      have hev:a.eval (.tmp s)= .bool b:=hr.ev (x:= .tmp s) hb
      cases b with
      |true=>exact wpIn_cond_true hev (iha t _ _ H Q Q' a w U hfx.1 (h.1 rfl) (hr.cons hv) (hd.cons hv) hw hs hu hUx hpay)
      |false=>exact wpIn_cond_false hev (ihb f _ _ H Q Q' a w U hfx.2 (h.2 rfl) (hr.cons hv) (hd.cons hv) hw hs hu hUy hpay)
     ·exact h.elim
    ·exact h.elim
  |region id ops draw=>
   refine leafs (.region id ops draw) e dec H Q Q' a w U hfl ?_ hr hd hw hs hu hU hpay
   cases draw<;>exact h
  |skip=>exact leafs _ e dec H Q Q' a w U hfl h hr hd hw hs hu hU hpay
  |exit id=>exact leafs _ e dec H Q Q' a w U hfl h hr hd hw hs hu hU hpay
  |ret=>exact leafs _ e dec H Q Q' a w U hfl h hr hd hw hs hu hU hpay
  |goto id=>cases hfl
  |_=>exact h.elim
def IsLoop(lo:LoopState→Option Code→Obj):Prop:= ∃r:Loop,lo=fun s p=> .loop {r with state:=s,pending:=p}
def RdB(l:Nat)(lo:LoopState→Option Code→Obj)(K:Value→Heap→Prop):Post
 | .normal=>fun _ _ H=>H[l]?=some (lo .busy none)∧sto H l (lo .ready none) fun H'=>K (.bool true) H'
 | .ret=>fun _ _ H=>H[l]?=some (lo .busy none)∧sto H l (lo .done (some .ret)) fun H'=>K (.bool false) H'
 |_=>fun _ _ _=>False
def RdA(P:Program)(T:Tab)(n l:Nat)(lo:LoopState→Option Code→Obj)(p:Plan)(body:Code)(K:Value→Heap→Prop):Post
 | .normal=>fun e _ H=>H[l]?=some (lo .ready none)∧sto H l (lo .busy none) fun H'=>vc P T n p body e [] H' (RdB l lo K)
 |_=>fun _ _ _=>False
theorem same_put{w0 w:World}(hs:Same w0 w){l:Nat}{x o:Obj}(h:w.heap[l]?=some x)(ho:fz (some o)=fz (some x)):Same w0 (w.putObj l o):=hs.trans ⟨rfl,Out.set h ho⟩
theorem round_sound{T:Tab}(hT:TabOk P T)(hm:P.follows .mixedOrders=true){n:Nat}{r:Loop}{e:Env}{a:Act}(hr:Rep n e a)(hra:r.tmps=a.tmps){t:Tmp}(ht:t<n)(hps:r.params=#[t])
 (hfa:flat r.assign=true)(hfb:flat r.body=true){l:Nat}{v:Value}{H:Heap}{p:Plan}{K:Value→Heap→Prop}
 (h:vc P T n .leaf r.assign ((t,v)::e) [] H (RdA P T n l (fun s p=> .loop {r with state:=s,pending:=p}) p r.body K))(hl:H[l]?=some (.loop {r with state:= .ready,pending:=none})):YieldH P l #[v] H K:=by
 intro w hw
 subst hw
 refine⟨_,_,_,_,run_yield hl (by simp[hps]),?_⟩
 let a1:Act:={tmps:=r.tmps.setIfInBounds t v,defers:=[]}
 have htm:(({r with state:= .ready,pending:=none}:Loop).params.zip #[v]).foldl (fun(tmps:Array Value) (t,a)=>tmps.setIfInBounds t a) ({r with state:= .ready,pending:=none}:Loop).tmps=a1.tmps:=by
  simp[hps,a1]
 rw[htm]
 refine roundIn_of_wpIn (F:=FR none) (l:=l) trivial ?_
 have hr1:Rep n ((t,v)::e) a1:=by
  have:=hr.put v (d:=t) ht
  refine⟨?_,fun s u hu=>?_⟩
  ·show(r.tmps.setIfInBounds t v).size=n
   rw[hra,Array.size_setIfInBounds];exact hr.size
  ·have:=this.val s u hu
   show(r.tmps.setIfInBounds t v)[s]?=some u
   rw[hra];exact this
 refine vc_flat hT hm w (some l) .leaf r.assign _ [] _ _ _ a1 w (fun _=>True) hfa h hr1 (DecOk.nil _) rfl (Same.refl w) trivial (fun _ _ _ _ _=>trivial) ?_
 intro ex e1 dec1 H1 a2 w1 hq hr2 hd2 hw1 hs1 _
 cases ex with
 |normal=>
  obtain⟨hl1,hq⟩:=hq
  subst hw1
  refine⟨_,run_beginRound hl1 rfl,?_⟩
  refine vc_flat hT hm w (some l) p r.body e1 [] _ _ _ a2 _ (fun _=>True) hfb hq hr2 (DecOk.nil _) rfl (same_put hs1 hl1 rfl) trivial (fun _ _ _ _ _=>trivial) ?_
  intro ex e2 dec2 H2 a3 w2 hq2 hr3 hd3 hw2 hs2 _
  subst hw2
  cases ex with
  |normal=>exact⟨_,_,run_endRound none hq2.1,_,rfl,hs2.os,hs2.output.trans (Out.set hq2.1 rfl),hq2.2⟩
  |ret=>exact⟨_,_,run_endRound (some .ret) hq2.1,_,rfl,hs2.os,hs2.output.trans (Out.set hq2.1 rfl),hq2.2⟩
  |exit id=>exact hq2.elim
  |goto id=>exact hq2.elim
 |exit id=>exact hq.elim
 |goto id=>exact hq.elim
 |ret=>exact hq.elim
def hasR:Code→Bool
 | .rangeFunc _ _ _ _=>true
 | .seq a b=>match hasR a with
  |true=>true
  |false=>hasR b
 | .cond _ a b=>match hasR a with
  |true=>true
  |false=>hasR b
 | .block _ a=>hasR a
 | .loop a=>hasR a
 | .scope a=>hasR a
 |_=>false
def vcRg(P:Program)(T:Tab)(n:Nat)(t:Tmp)(ty:TypeId)(p:Plan)(g:Operand)(assign body:Code)(e:Env)(dec:Dec)(H:Heap)(Q:Option Nat→Post):Prop:=
 wv e g fun
  | .func (.func f) x y=>alc H (.deferred (some [])) fun D H1=> ∀lo:LoopState→Option Code→Obj,IsLoop lo→alc H1 (lo .ready none) fun l H2=>
   (allT T [(t,ty)] fun vs=> ∀(H':Heap) (K:Value→Heap→Prop),H'[l]?=some (lo .ready none)→vc P T n .leaf assign (zipE [(t,ty)] vs++e) [] H' (RdA P T n l lo p body K)→YieldH P l vs.toArray H' K)→
   BodyH P f (x.toList++[Value.func (.yield l) #[] #[]]++y.toList).toArray H2 fun _ H3=>
    (∃st,st≠LoopState.busy∧H3[l]?=some (lo st none)∧sto H3 l (lo .exhausted none) fun H4=>Q (some D) .normal e dec H4)∨
    (H3[l]?=some (lo .done (some .ret))∧sto H3 l (lo .exhausted (some .ret)) fun H4=>Q (some D) .ret e dec H4)
  |_=>False
def vcM(P:Program)(T:Tab)(n:Nat):Plan→Code→Env→Dec→Heap→(Option Nat→Post)→Prop
 | .join live keep p,.rangeFunc g ps assign body,e,dec,H,Q=>match live with
  |[(t,ty)]=>match ps.toList,Nat.blt t n,flat assign,flat body with
   |[t'],true,true,true=>match Nat.beq t t' with
    |true=>vcRg P T n t ty p g assign body e dec H Q
    |false=>False
   |_,_,_,_=>False
  |_=>False
 | .two pa pb,.seq a b,e,dec,H,Q=>match hasR a with
  |false=>vc P T n pa a e dec H ((Q none).then fun e dec H=>vcM P T n pb b e dec H Q)
  |true=>vcM P T n pa a e dec H fun m=>(Q m).then fun e dec H=>vc P T n pb b e dec H (Q m)
 | .one p,.block id a,e,dec,H,Q=>vcM P T n p a e dec H fun m=>(Q m).block id
 |p,c,e,dec,H,Q=>vc P T n p c e dec H (Q none)
theorem allT_one{T:Tab}{t:Nat}{ty:TypeId}{f:List Value→Prop}(h: ∀v,f [v]):allT T [(t,ty)] f:=by
 unfold allT
 split
 ·split<;>(repeat' intro)<;>exact h _
 ·intro;exact h _
def Mk(m:Option Nat)(a:Act):Prop:=a.defers=match m with
 |none=>[]
 |some D=>[{target:= .collected D,args:=#[]}]
def PaysM(n:Nat)(w0:World)(Q:Option Nat→Post)(Q':Exit→Act→World→Prop):Prop:=
 ∀m ex e dec H a w,Q m ex e dec H→Rep n e a→DecOk dec a→w.heap=H→Same w0 w→Mk m a→Q' ex.real a w
theorem Mk.put{m:Option Nat}{a:Act}(h:Mk m a)(d:Option Tmp)(v:Value):Mk m (a.put d v):=by
 unfold Mk at*;rw[put_defers];exact h
theorem vcRg_sound{T:Tab}(hT:TabOk P T)(hm:P.follows .mixedOrders=true){n:Nat}(w0:World){t:Tmp}{ty:TypeId}{p:Plan}{g:Operand}{assign body:Code}{e:Env}{dec:Dec}{H:Heap}{Q:Option Nat→Post}
 {Q':Exit→Act→World→Prop}{a:Act}{w:World}(ht:t<n)(hfa:flat assign=true)(hfb:flat body=true)(h:vcRg P T n t ty p g assign body e dec H Q)(hr:Rep n e a)(hd:DecOk dec a)(hw:w.heap=H)(hs:Same w0 w)(hmk:Mk none a)
 (hpay:PaysM n w0 Q Q'):(Code.rangeFunc g #[t] assign body).wp P Q' a w:=by
 subst hw
 unfold vcRg at h
 have hq:=wv_get h;clear h;obtain⟨vf,hf,h⟩:=hq
 split at h
 ·rename_i f x y
  refine(wpIn_wide (n:=0)).1 (wpIn_rangeFunc fun fn _=>?_)
  let r:Loop:={state:= .ready,pending:=none,fn,tmps:=a.tmps,params:=#[t],assign,body,defers:=w.heap.size}
  have h:=h (fun s p=> .loop {r with state:=s,pending:=p}) ⟨r,rfl⟩ (allT_one fun v H' K hl hv=>by
   have:=round_sound hT hm (r:=r) hr rfl ht rfl hfa hfb hv hl
   exact this)
  obtain⟨hcal,h⟩:=h
  have hy:a.eval g= .func (.func f) x y:=hr.ev hf
  have e1:(x.toList++[Value.func (.yield (w.heap.size+1)) #[] #[]]++y.toList).toArray=x++#[Value.func (.yield (w.heap.size+1)) #[] #[]]++y:=by simp
  let W1:=w.alloc (.deferred (some []))
  let W2:=W1.alloc (.loop r)
  let m:List Deferred:=[{target:= .collected w.heap.size,args:=#[]}]
  let d:Deferred:={target:= .fn (.func f) y,args:=x++#[Value.func (.yield (w.heap.size+1)) #[] #[]]}
  have hsz:W1.heap.size=w.heap.size+1:=by simp[W1]
  refine⟨w.heap.size+1,m,W2,d,W2,f,d.args++y,W2,run_enterLoop_outer fn a.tmps #[t] assign body,?_,fun _ _=>trivial,?_,fun hd=>(by cases hd),?_⟩
  ·have h1:(rangeCall g (w.heap.size+1)).args.map a.eval=#[Value.func (.yield (w.heap.size+1)) #[] #[]]:=by simp[rangeCall,Act.eval]
   unfold resolve
   simp only[rangeCall] at h1 ⊢
   rw[h1]
   simp only[hy,Deferred.ofValue]
   rfl
  ·show(callFunc f _).run P _=_
   exact run_enter hcal _ _
  ·have hh:W2.heap=(w.heap.push (.deferred (some []))).push (.loop r):=rfl
   have h:=h W2 hh
   rw[show(w.heap.push (Obj.deferred (some []))).size=w.heap.size+1 by simp,e1] at h
   refine callsIn_wide.2 (Calls.mono h ?_)
   rintro e' w3 ⟨v,rfl,h1,h2,h3⟩
   have hs2:Same w W2:=⟨rfl,(Out.push w (o:= .deferred (some [])) rfl).trans (Out.push W1 (o:= .loop r) rfl)⟩
   have hs3:Same w0 w3:=(hs.trans hs2).trans ⟨h1,h2⟩
   have hmk':Mk (some w.heap.size) {a with defers:=m++a.defers}:=by
    unfold Mk at hmk ⊢
    simp only[] at hmk ⊢
    rw[hmk];rfl
   have hr':Rep n e {a with defers:=m++a.defers}:=⟨hr.size,hr.val⟩
   have hd':DecOk dec {a with defers:=m++a.defers}:=hd
   rcases h3 with ⟨st,hst,h4,h5⟩|⟨h4,h5⟩
   ·refine⟨none,_,run_endLoop h4 hst,?_⟩
    exact hpay _ .normal _ _ _ _ _ h5 hr' hd' rfl (same_put hs3 h4 rfl) hmk'
   ·refine⟨some .ret,_,run_endLoop h4 (by simp),?_⟩
    exact wpIn_ret (hpay _ .ret _ _ _ _ _ h5 hr' hd' rfl (same_put hs3 h4 rfl) hmk')
 ·exact h.elim
set_option maxHeartbeats 1000000 in
theorem vcM_sound{T:Tab}(hT:TabOk P T)(hm:P.follows .mixedOrders=true){n:Nat}(w0:World): ∀(p:Plan) (c:Code) (e:Env) (dec:Dec) (H:Heap) (Q:Option Nat→Post)
 (Q':Exit→Act→World→Prop) (a:Act) (w:World),vcM P T n p c e dec H Q→Rep n e a→DecOk dec a→w.heap=H→Same w0 w→Mk none a→PaysM n w0 Q Q'→c.wp P Q' a w:=by
 have back: ∀(p:Plan) (c:Code) (e:Env) (dec:Dec) (H:Heap) (Q:Option Nat→Post) (Q':Exit→Act→World→Prop) (a:Act) (w:World) (m:Option Nat),vc P T n p c e dec H (Q m)→Rep n e a→DecOk dec a→w.heap=H→Same w0 w→Mk m a→
  PaysM n w0 Q Q'→c.wp P Q' a w:=fun p c e dec H Q Q' a w m h hr hd hw hs hmk hpay=>
  vc_sound hT hm w0 p c e dec H (Q m) Q' a w (Mk m) h hr hd hw hs hmk (fun o _ a v hu=>hu.put _ _) (fun ex e dec H a w hq hr hd hw hs hu=>hpay m ex e dec H a w hq hr hd hw hs hu)
 intro p
 induction p with
 |leaf=>intro c e dec H Q Q' a w h;exact back _ _ _ _ _ Q Q' a w none (by unfold vcM at h;exact h)
 |loop live keep p ih=>intro c e dec H Q Q' a w h;exact back _ _ _ _ _ Q Q' a w none (by unfold vcM at h;exact h)
 |scope live keep pa pb iha ihb=>intro c e dec H Q Q' a w h;exact back _ _ _ _ _ Q Q' a w none (by unfold vcM at h;exact h)
 |join live keep p ih=>
  intro c e dec H Q Q' a w h hr hd hw hs hmk hpay
  cases c with
  |rangeFunc g ps assign body=>
   unfold vcM at h
   split at h
   ·rename_i t ty
    split at h
    ·rename_i t' hps ht hfa hfb
     split at h
     ·rename_i htt
      have:=Nat.eq_of_beq_eq_true htt
      subst this
      have hps':ps=#[t]:=by rw[←Array.toArray_toList (xs:=ps),hps]
      subst hps'
      exact vcRg_sound hT hm w0 (Nat.le_of_ble_eq_true ht) hfa hfb h hr hd hw hs hmk hpay
     ·exact h.elim
    ·exact h.elim
   ·exact h.elim
  |_=>exact back _ _ _ _ _ Q Q' a w none (by unfold vcM at h;exact h) hr hd hw hs hmk hpay
 |one p ih=>
  intro c e dec H Q Q' a w h hr hd hw hs hmk hpay
  cases c with
  |block id c=>
   unfold vcM at h
   refine wp_block (ih c e dec H _ _ a w h hr hd hw hs hmk ?_)
   intro m ex e' dec' H' a' w' hq hr' hd' hw' hs' hu'
   cases ex with
   |normal=>exact hpay m .normal _ _ _ _ _ hq hr' hd' hw' hs' hu'
   |ret=>exact hpay m .ret _ _ _ _ _ hq hr' hd' hw' hs' hu'
   |goto id=>exact hpay m (.goto id) _ _ _ _ _ hq hr' hd' hw' hs' hu'
   |exit id'=>
    simp only[Post.block] at hq
    simp only[Ex.real,Exit.inBlock]
    cases hb:Nat.beq id' id with
    |true=>
     rw[hb] at hq
     rw[if_pos (Nat.eq_of_beq_eq_true hb)]
     exact hpay m .normal _ _ _ _ _ hq hr' hd' hw' hs' hu'
    |false=>
     rw[hb] at hq
     rw[if_neg (fun he=>by rw[he,Nat.beq_refl] at hb;cases hb)]
     exact hpay m (.exit id') _ _ _ _ _ hq hr' hd' hw' hs' hu'
  |_=>exact back _ _ _ _ _ Q Q' a w none (by unfold vcM at h;exact h) hr hd hw hs hmk hpay
 |two pa pb iha ihb=>
  intro c e dec H Q Q' a w h hr hd hw hs hmk hpay
  cases c with
  |seq x y=>
   unfold vcM at h
   split at h
   ·refine wp_seq (vc_sound hT hm w0 pa x e dec H _ _ a w (Mk none) h hr hd hw hs hmk (fun o _ a v hu=>hu.put _ _) ?_)
    intro ex e' dec' H' a' w' hq hr' hd' hw' hs' hu'
    cases ex with
    |normal=>exact ihb y e' dec' H' Q Q' a' w' hq hr' hd' hw' hs' hu' hpay
    |ret=>exact hpay none .ret _ _ _ _ _ hq hr' hd' hw' hs' hu'
    |goto id=>exact hpay none (.goto id) _ _ _ _ _ hq hr' hd' hw' hs' hu'
    |exit id'=>exact hpay none (.exit id') _ _ _ _ _ hq hr' hd' hw' hs' hu'
   ·refine wp_seq (iha x e dec H _ _ a w h hr hd hw hs hmk ?_)
    intro m ex e' dec' H' a' w' hq hr' hd' hw' hs' hu'
    cases ex with
    |normal=>exact back pb y e' dec' H' Q Q' a' w' m hq hr' hd' hw' hs' hu' hpay
    |ret=>exact hpay m .ret _ _ _ _ _ hq hr' hd' hw' hs' hu'
    |goto id=>exact hpay m (.goto id) _ _ _ _ _ hq hr' hd' hw' hs' hu'
    |exit id'=>exact hpay m (.exit id') _ _ _ _ _ hq hr' hd' hw' hs' hu'
  |_=>exact back _ _ _ _ _ Q Q' a w none (by unfold vcM at h;exact h) hr hd hw hs hmk hpay
def finM(m:Option Nat)(H:Heap)(K:Heap→Prop):Prop:=
 match m with
 |none=>K H
 |some D=>H[D]?=some (.deferred (some []))∧sto H D (.deferred none) K
def vcFunM(P:Program)(T:Tab)(fn:Func)(p:Plan)(args:List Value)(H:Heap)(R:Value→Heap→Prop):Prop:=
 match fn.body with
 |some c=>match Nat.ble args.length fn.ntmps with
  |true=>vcM P T fn.ntmps p c (argE 0 args) [] H fun m=>fun
   | .normal=>fun e _ H'=>finM m H' fun H''=>resQ T e H'' fn.results.toList fun l=>R (retV l) H''
   | .ret=>fun e _ H'=>finM m H' fun H''=>resQ T e H'' fn.results.toList fun l=>R (retV l) H''
   | .exit _=>fun _ _ _=>False
   | .goto _=>fun _ _ _=>False
  |false=>False
 |none=>False
theorem vcFunM_sound{T:Tab}(hT:TabOk P T)(hm:P.follows .mixedOrders=true){g:FuncId}{fn:Func}(hg:P.funcs[g]?=some fn)(hc:callable P g){p:Plan}{args:List Value}{H:Heap}
 {R:Value→Heap→Prop}(h:vcFunM P T fn p args H R):CallsH P g args.toArray H R:=by
 refine .inl ⟨hc,fun w hw=>?_⟩
 unfold vcFunM at h
 split at h
 ·rename_i c hb
  split at h
  ·rename_i hlen
   have hlen':args.length≤fn.ntmps:=Nat.le_of_ble_eq_true hlen
   refine callsIn_wide.1 (callsIn_of_wp_marks (n:=0) hg hb trivial (wpIn_wide.2 ?_))
   refine vcM_sound hT hm w p c _ _ H _ _ _ w h ⟨by simp;omega,fun t v hv=>?_⟩ (DecOk.nil _) hw (Same.refl w) rfl ?_
   ·obtain⟨_,h2⟩:=look_argE hv
    simp only[Nat.sub_zero] at h2
    have hlt:t<args.length:=(List.getElem?_eq_some_iff.1 h2).1
    rw[Array.getElem?_append_left (by simpa using hlt)]
    simpa using h2
   ·intro m ex e dec H' a' w' hq hr' hd' hw' hs' hu'
    subst hw'
    have fin:finM m w'.heap (fun H''=>resQ T e H'' fn.results.toList fun l=>R (retV l) H'')→
     LeavesInM Fence.wide 0 P fn a'.tmps (fun e w'=> ∃v,e= .returned v∧w'.os=w.os∧Out w w'∧R v w'.heap) a'.defers .returning w':=by
     intro hf
     cases m with
     |none=>
      obtain⟨vs,hf,hrun⟩:=results_run hT hr' w' hf
      have hu':a'.defers=[]:=hu'
      rw[hu']
      exact⟨_,hrun,_,rfl,hs'.os,hs'.output,hf⟩
     |some D=>
      have hu':a'.defers=[{target:= .collected D,args:=#[]}]:=hu'
      rw[hu']
      obtain⟨h1,hf⟩:=hf
      obtain⟨vs,hf,hrun⟩:=results_run hT hr' (w'.putObj D (.deferred none)) hf
      refine⟨by simp,.inl ⟨D,_,rfl,run_takeDeferred h1,?_⟩⟩
      exact⟨_,hrun,_,rfl,hs'.os,hs'.output.trans (Out.set h1 rfl),hf⟩
    cases ex with
    |normal=>exact fin hq
    |ret=>exact fin hq
    |exit id=>exact hq.elim
    |goto id=>exact hq.elim
  ·exact h.elim
 ·exact h.elim
theorem vcsM{P:Program}{T:Tab}(hT:TabOk P T)(hm:P.follows .mixedOrders=true){g:FuncId}{fn:Func}(hg:P.funcs[g]?=some fn)(hc:callable P g)(p:Plan){args:Array Value}{H:Heap}
 {R:Value→Heap→Prop}{A:Prop}(h:A)(e:A=vcFunM P T fn p args.toList H R):CallsH P g args H R:=by
 have:=vcFunM_sound hT hm hg hc (p:=p) (args:=args.toList) (H:=H) (R:=R) (Eq.mp e h)
 simpa using this
end Go.Sh
namespace Go.Proofs
open Go.Sh
def Tryz.i0:TI:=⟨.tuple [],1,0,Value.tuple #[]⟩
theorem Tryz.tok0:TIok Tryz.prog 0 Tryz.i0:=⟨by kernel_rfl,by kernel_rfl⟩
def Tryz.i3:TI:=⟨.int .i64,1,8,Value.int .i64 0⟩
theorem Tryz.tok3:TIok Tryz.prog 3 Tryz.i3:=⟨by kernel_rfl,by kernel_rfl⟩
def Tryz.i4:TI:=⟨.bool,1,1,Value.bool false⟩
theorem Tryz.tok4:TIok Tryz.prog 4 Tryz.i4:=⟨by kernel_rfl,by kernel_rfl⟩
def Tryz.i5:TI:=⟨.int .u8,1,1,Value.int .u8 0⟩
theorem Tryz.tok5:TIok Tryz.prog 5 Tryz.i5:=⟨by kernel_rfl,by kernel_rfl⟩
def Tryz.i9:TI:=⟨.str,1,16,Value.string ByteArray.empty⟩
theorem Tryz.tok9:TIok Tryz.prog 9 Tryz.i9:=⟨by kernel_rfl,by kernel_rfl⟩
def Tryz.i22:TI:=⟨.sl 5,1,24,Value.slice none 0 0⟩
theorem Tryz.tok22:TIok Tryz.prog 22 Tryz.i22:=⟨by kernel_rfl,by kernel_rfl⟩
def Tryz.i25:TI:=⟨.int .i64,1,8,Value.int .i64 0⟩
theorem Tryz.tok25:TIok Tryz.prog 25 Tryz.i25:=⟨by kernel_rfl,by kernel_rfl⟩
def Tryz.i26:TI:=⟨.tuple [22,25],1,0,Value.tuple #[Value.slice none 0 0,Value.int .i64 0]⟩
theorem Tryz.tok26:TIok Tryz.prog 26 Tryz.i26:=⟨by kernel_rfl,by kernel_rfl⟩
def Tryz.i28:TI:=⟨.tuple [3,3,22,4],1,0,Value.tuple #[Value.int .i64 0,Value.int .i64 0,Value.slice none 0 0,Value.bool false]⟩
theorem Tryz.tok28:TIok Tryz.prog 28 Tryz.i28:=⟨by kernel_rfl,by kernel_rfl⟩
def Tryz.i33:TI:=⟨.tuple [3,3,22,25],1,0,Value.tuple #[Value.int .i64 0,Value.int .i64 0,Value.slice none 0 0,Value.int .i64 0]⟩
theorem Tryz.tok33:TIok Tryz.prog 33 Tryz.i33:=⟨by kernel_rfl,by kernel_rfl⟩
def Tryz.i36:TI:=⟨.sl 40,1,24,Value.slice none 0 0⟩
theorem Tryz.tok36:TIok Tryz.prog 36 Tryz.i36:=⟨by kernel_rfl,by kernel_rfl⟩
def Tryz.i40:TI:=⟨.struct [(0,9),(1,22)],2,40,Value.agg #[Value.string ByteArray.empty,Value.slice none 0 0]⟩
theorem Tryz.tok40:TIok Tryz.prog 40 Tryz.i40:=⟨by kernel_rfl,by kernel_rfl⟩
def Tryz.i48:TI:=⟨.fn,1,8,Value.nilFunc⟩
theorem Tryz.tok48:TIok Tryz.prog 48 Tryz.i48:=⟨by kernel_rfl,by kernel_rfl⟩
def Tryz.i50:TI:=⟨.tuple [22,3,3,4],1,0,Value.tuple #[Value.slice none 0 0,Value.int .i64 0,Value.int .i64 0,Value.bool false]⟩
theorem Tryz.tok50:TIok Tryz.prog 50 Tryz.i50:=⟨by kernel_rfl,by kernel_rfl⟩
def Tryz.i52:TI:=⟨.tuple [22,3],1,0,Value.tuple #[Value.slice none 0 0,Value.int .i64 0]⟩
theorem Tryz.tok52:TIok Tryz.prog 52 Tryz.i52:=⟨by kernel_rfl,by kernel_rfl⟩
def Tryz.i54:TI:=⟨.tuple [22,22,4],1,0,Value.tuple #[Value.slice none 0 0,Value.slice none 0 0,Value.bool false]⟩
theorem Tryz.tok54:TIok Tryz.prog 54 Tryz.i54:=⟨by kernel_rfl,by kernel_rfl⟩
def Tryz.i60:TI:=⟨.int .u64,1,8,Value.int .u64 0⟩
theorem Tryz.tok60:TIok Tryz.prog 60 Tryz.i60:=⟨by kernel_rfl,by kernel_rfl⟩
def Tryz.i63:TI:=⟨.sl 22,1,24,Value.slice none 0 0⟩
theorem Tryz.tok63:TIok Tryz.prog 63 Tryz.i63:=⟨by kernel_rfl,by kernel_rfl⟩
def Tryz.i64:TI:=⟨.tuple [9,22,3,4],1,0,Value.tuple #[Value.string ByteArray.empty,Value.slice none 0 0,Value.int .i64 0,Value.bool false]⟩
theorem Tryz.tok64:TIok Tryz.prog 64 Tryz.i64:=⟨by kernel_rfl,by kernel_rfl⟩
def Tryz.i66:TI:=⟨.tuple [22,3,3],1,0,Value.tuple #[Value.slice none 0 0,Value.int .i64 0,Value.int .i64 0]⟩
theorem Tryz.tok66:TIok Tryz.prog 66 Tryz.i66:=⟨by kernel_rfl,by kernel_rfl⟩
def Tryz.i69:TI:=⟨.ptr 71,1,8,Value.pointer none⟩
theorem Tryz.tok69:TIok Tryz.prog 69 Tryz.i69:=⟨by kernel_rfl,by kernel_rfl⟩
def Tryz.i71:TI:=⟨.struct [(0,22)],1,24,Value.agg #[Value.slice none 0 0]⟩
theorem Tryz.tok71:TIok Tryz.prog 71 Tryz.i71:=⟨by kernel_rfl,by kernel_rfl⟩
def Tryz.i72:TI:=⟨.tuple [9,22],1,0,Value.tuple #[Value.string ByteArray.empty,Value.slice none 0 0]⟩
theorem Tryz.tok72:TIok Tryz.prog 72 Tryz.i72:=⟨by kernel_rfl,by kernel_rfl⟩
def Tryz.i75:TI:=⟨.tuple [22,3,25],1,0,Value.tuple #[Value.slice none 0 0,Value.int .i64 0,Value.int .i64 0]⟩
theorem Tryz.tok75:TIok Tryz.prog 75 Tryz.i75:=⟨by kernel_rfl,by kernel_rfl⟩
def Tryz.i79:TI:=⟨.sl 120,1,24,Value.slice none 0 0⟩
theorem Tryz.tok79:TIok Tryz.prog 79 Tryz.i79:=⟨by kernel_rfl,by kernel_rfl⟩
def Tryz.i81:TI:=⟨.ptr 127,1,8,Value.pointer none⟩
theorem Tryz.tok81:TIok Tryz.prog 81 Tryz.i81:=⟨by kernel_rfl,by kernel_rfl⟩
def Tryz.i84:TI:=⟨.struct [(0,81)],1,8,Value.agg #[Value.pointer none]⟩
theorem Tryz.tok84:TIok Tryz.prog 84 Tryz.i84:=⟨by kernel_rfl,by kernel_rfl⟩
def Tryz.i86:TI:=⟨.sl 3,1,24,Value.slice none 0 0⟩
theorem Tryz.tok86:TIok Tryz.prog 86 Tryz.i86:=⟨by kernel_rfl,by kernel_rfl⟩
def Tryz.i88:TI:=⟨.struct [(0,86),(1,86),(2,86),(3,86)],4,96,Value.agg #[Value.slice none 0 0,Value.slice none 0 0,Value.slice none 0 0,Value.slice none 0 0]⟩
theorem Tryz.tok88:TIok Tryz.prog 88 Tryz.i88:=⟨by kernel_rfl,by kernel_rfl⟩
def Tryz.i90:TI:=⟨.tuple [86,86],1,0,Value.tuple #[Value.slice none 0 0,Value.slice none 0 0]⟩
theorem Tryz.tok90:TIok Tryz.prog 90 Tryz.i90:=⟨by kernel_rfl,by kernel_rfl⟩
def Tryz.i94:TI:=⟨.ptr 96,1,8,Value.pointer none⟩
theorem Tryz.tok94:TIok Tryz.prog 94 Tryz.i94:=⟨by kernel_rfl,by kernel_rfl⟩
def Tryz.i96:TI:=⟨.struct [(0,22),(1,3),(2,22),(3,3),(4,3)],5,72,Value.agg #[Value.slice none 0 0,Value.int .i64 0,Value.slice none 0 0,Value.int .i64 0,Value.int .i64 0]⟩
theorem Tryz.tok96:TIok Tryz.prog 96 Tryz.i96:=⟨by kernel_rfl,by kernel_rfl⟩
def Tryz.i99:TI:=⟨.struct [(0,86),(1,86),(2,3),(3,4)],4,64,Value.agg #[Value.slice none 0 0,Value.slice none 0 0,Value.int .i64 0,Value.bool false]⟩
theorem Tryz.tok99:TIok Tryz.prog 99 Tryz.i99:=⟨by kernel_rfl,by kernel_rfl⟩
def Tryz.i100:TI:=⟨.tuple [99,99],1,0,Value.tuple #[Value.agg #[Value.slice none 0 0,Value.slice none 0 0,Value.int .i64 0,Value.bool false],Value.agg #[Value.slice none 0 0,Value.slice none 0 0,Value.int .i64 0,Value.bool false]]⟩
theorem Tryz.tok100:TIok Tryz.prog 100 Tryz.i100:=⟨by kernel_rfl,by kernel_rfl⟩
def Tryz.i106:TI:=⟨.ptr 110,1,8,Value.pointer none⟩
theorem Tryz.tok106:TIok Tryz.prog 106 Tryz.i106:=⟨by kernel_rfl,by kernel_rfl⟩
def Tryz.i107:TI:=⟨.ptr 149,1,8,Value.pointer none⟩
theorem Tryz.tok107:TIok Tryz.prog 107 Tryz.i107:=⟨by kernel_rfl,by kernel_rfl⟩
def Tryz.i110:TI:=⟨.struct [(0,107),(1,22),(2,3),(3,25)],4,48,Value.agg #[Value.pointer none,Value.slice none 0 0,Value.int .i64 0,Value.int .i64 0]⟩
theorem Tryz.tok110:TIok Tryz.prog 110 Tryz.i110:=⟨by kernel_rfl,by kernel_rfl⟩
def Tryz.i111:TI:=⟨.ptr 154,1,8,Value.pointer none⟩
theorem Tryz.tok111:TIok Tryz.prog 111 Tryz.i111:=⟨by kernel_rfl,by kernel_rfl⟩
def Tryz.i112:TI:=⟨.tuple [111,4],1,0,Value.tuple #[Value.pointer none,Value.bool false]⟩
theorem Tryz.tok112:TIok Tryz.prog 112 Tryz.i112:=⟨by kernel_rfl,by kernel_rfl⟩
def Tryz.i115:TI:=⟨.tuple [111,111],1,0,Value.tuple #[Value.pointer none,Value.pointer none]⟩
theorem Tryz.tok115:TIok Tryz.prog 115 Tryz.i115:=⟨by kernel_rfl,by kernel_rfl⟩
def Tryz.i120:TI:=⟨.struct [(0,3),(1,3),(2,5)],3,24,Value.agg #[Value.int .i64 0,Value.int .i64 0,Value.int .u8 0]⟩
theorem Tryz.tok120:TIok Tryz.prog 120 Tryz.i120:=⟨by kernel_rfl,by kernel_rfl⟩
def Tryz.i121:TI:=⟨.ptr 123,1,8,Value.pointer none⟩
theorem Tryz.tok121:TIok Tryz.prog 121 Tryz.i121:=⟨by kernel_rfl,by kernel_rfl⟩
def Tryz.i123:TI:=⟨.struct [(0,22),(1,86),(2,86)],3,72,Value.agg #[Value.slice none 0 0,Value.slice none 0 0,Value.slice none 0 0]⟩
theorem Tryz.tok123:TIok Tryz.prog 123 Tryz.i123:=⟨by kernel_rfl,by kernel_rfl⟩
def Tryz.i124:TI:=⟨.tuple [3,3],1,0,Value.tuple #[Value.int .i64 0,Value.int .i64 0]⟩
theorem Tryz.tok124:TIok Tryz.prog 124 Tryz.i124:=⟨by kernel_rfl,by kernel_rfl⟩
def Tryz.i127:TI:=⟨.struct [(0,22),(1,3),(2,4)],3,40,Value.agg #[Value.slice none 0 0,Value.int .i64 0,Value.bool false]⟩
theorem Tryz.tok127:TIok Tryz.prog 127 Tryz.i127:=⟨by kernel_rfl,by kernel_rfl⟩
def Tryz.i129:TI:=⟨.tuple [3,3,3],1,0,Value.tuple #[Value.int .i64 0,Value.int .i64 0,Value.int .i64 0]⟩
theorem Tryz.tok129:TIok Tryz.prog 129 Tryz.i129:=⟨by kernel_rfl,by kernel_rfl⟩
def Tryz.i132:TI:=⟨.fn,1,8,Value.nilFunc⟩
theorem Tryz.tok132:TIok Tryz.prog 132 Tryz.i132:=⟨by kernel_rfl,by kernel_rfl⟩
def Tryz.i133:TI:=⟨.tuple [86,4],1,0,Value.tuple #[Value.slice none 0 0,Value.bool false]⟩
theorem Tryz.tok133:TIok Tryz.prog 133 Tryz.i133:=⟨by kernel_rfl,by kernel_rfl⟩
def Tryz.i141:TI:=⟨.int .u32,1,4,Value.int .u32 0⟩
theorem Tryz.tok141:TIok Tryz.prog 141 Tryz.i141:=⟨by kernel_rfl,by kernel_rfl⟩
def Tryz.i145:TI:=⟨.arr 19 3,19,152,Value.agg #[Value.int .i64 0,Value.int .i64 0,Value.int .i64 0,Value.int .i64 0,Value.int .i64 0,Value.int .i64 0,Value.int .i64 0,Value.int .i64 0,Value.int .i64 0,Value.int .i64 0,Value.int .i64 0,Value.int .i64 0,Value.int .i64 0,Value.int .i64 0,Value.int .i64 0,Value.int .i64 0,Value.int .i64 0,Value.int .i64 0,Value.int .i64 0]⟩
theorem Tryz.tok145:TIok Tryz.prog 145 Tryz.i145:=⟨by kernel_rfl,by kernel_rfl⟩
def Tryz.i149:TI:=⟨.struct [(0,22),(1,3),(2,4)],3,40,Value.agg #[Value.slice none 0 0,Value.int .i64 0,Value.bool false]⟩
theorem Tryz.tok149:TIok Tryz.prog 149 Tryz.i149:=⟨by kernel_rfl,by kernel_rfl⟩
def Tryz.i150:TI:=⟨.tuple [3,4],1,0,Value.tuple #[Value.int .i64 0,Value.bool false]⟩
theorem Tryz.tok150:TIok Tryz.prog 150 Tryz.i150:=⟨by kernel_rfl,by kernel_rfl⟩
def Tryz.i152:TI:=⟨.sl 155,1,24,Value.slice none 0 0⟩
theorem Tryz.tok152:TIok Tryz.prog 152 Tryz.i152:=⟨by kernel_rfl,by kernel_rfl⟩
def Tryz.i154:TI:=⟨.struct [(0,152)],1,24,Value.agg #[Value.slice none 0 0]⟩
theorem Tryz.tok154:TIok Tryz.prog 154 Tryz.i154:=⟨by kernel_rfl,by kernel_rfl⟩
def Tryz.i155:TI:=⟨.arr 2 3,2,16,Value.agg #[Value.int .i64 0,Value.int .i64 0]⟩
theorem Tryz.tok155:TIok Tryz.prog 155 Tryz.i155:=⟨by kernel_rfl,by kernel_rfl⟩
def Tryz.i161:TI:=⟨.sl 86,1,24,Value.slice none 0 0⟩
theorem Tryz.tok161:TIok Tryz.prog 161 Tryz.i161:=⟨by kernel_rfl,by kernel_rfl⟩
def Tryz.i163:TI:=⟨.sl 165,1,24,Value.slice none 0 0⟩
theorem Tryz.tok163:TIok Tryz.prog 163 Tryz.i163:=⟨by kernel_rfl,by kernel_rfl⟩
def Tryz.i165:TI:=⟨.struct [(0,3),(1,86)],2,32,Value.agg #[Value.int .i64 0,Value.slice none 0 0]⟩
theorem Tryz.tok165:TIok Tryz.prog 165 Tryz.i165:=⟨by kernel_rfl,by kernel_rfl⟩
def Tryz.i167:TI:=⟨.fn,1,8,Value.nilFunc⟩
theorem Tryz.tok167:TIok Tryz.prog 167 Tryz.i167:=⟨by kernel_rfl,by kernel_rfl⟩
def Tryz.i178:TI:=⟨.sl 163,1,24,Value.slice none 0 0⟩
theorem Tryz.tok178:TIok Tryz.prog 178 Tryz.i178:=⟨by kernel_rfl,by kernel_rfl⟩
def Tryz.tab:Tab:=[(0,Tryz.i0),(3,Tryz.i3),(4,Tryz.i4),(5,Tryz.i5),(9,Tryz.i9),(22,Tryz.i22),(25,Tryz.i25),(26,Tryz.i26),(28,Tryz.i28),(33,Tryz.i33),(36,Tryz.i36),(40,Tryz.i40),(48,Tryz.i48),(50,Tryz.i50),(52,Tryz.i52),(54,Tryz.i54),(60,Tryz.i60),(63,Tryz.i63),(64,Tryz.i64),(66,Tryz.i66),(69,Tryz.i69),(71,Tryz.i71),(72,Tryz.i72),(75,Tryz.i75),(79,Tryz.i79),(81,Tryz.i81),(84,Tryz.i84),(86,Tryz.i86),(88,Tryz.i88),(90,Tryz.i90),(94,Tryz.i94),(96,Tryz.i96),(99,Tryz.i99),(100,Tryz.i100),(106,Tryz.i106),(107,Tryz.i107),(110,Tryz.i110),(111,Tryz.i111),(112,Tryz.i112),(115,Tryz.i115),(120,Tryz.i120),(121,Tryz.i121),(123,Tryz.i123),(124,Tryz.i124),(127,Tryz.i127),(129,Tryz.i129),(132,Tryz.i132),(133,Tryz.i133),(141,Tryz.i141),(145,Tryz.i145),(149,Tryz.i149),(150,Tryz.i150),(152,Tryz.i152),(154,Tryz.i154),(155,Tryz.i155),(161,Tryz.i161),(163,Tryz.i163),(165,Tryz.i165),(167,Tryz.i167),(178,Tryz.i178)]
theorem Tryz.tab_ok:TabOk Tryz.prog Tryz.tab:=by
 unfold TabOk Tryz.tab
 simp only[List.forall_mem_cons]
 exact⟨Tryz.tok0,Tryz.tok3,Tryz.tok4,Tryz.tok5,Tryz.tok9,Tryz.tok22,Tryz.tok25,Tryz.tok26,Tryz.tok28,Tryz.tok33,Tryz.tok36,Tryz.tok40,Tryz.tok48,Tryz.tok50,Tryz.tok52,Tryz.tok54,Tryz.tok60,Tryz.tok63,Tryz.tok64,Tryz.tok66,Tryz.tok69,Tryz.tok71,Tryz.tok72,Tryz.tok75,Tryz.tok79,Tryz.tok81,Tryz.tok84,Tryz.tok86,Tryz.tok88,Tryz.tok90,Tryz.tok94,Tryz.tok96,Tryz.tok99,Tryz.tok100,Tryz.tok106,Tryz.tok107,Tryz.tok110,Tryz.tok111,Tryz.tok112,Tryz.tok115,Tryz.tok120,Tryz.tok121,Tryz.tok123,Tryz.tok124,Tryz.tok127,Tryz.tok129,Tryz.tok132,Tryz.tok133,Tryz.tok141,Tryz.tok145,Tryz.tok149,Tryz.tok150,Tryz.tok152,Tryz.tok154,Tryz.tok155,Tryz.tok161,Tryz.tok163,Tryz.tok165,Tryz.tok167,Tryz.tok178,fun _ h=>by cases h⟩
abbrev Tryz.C:=CallsH Tryz.prog
theorem Tryz.mixed:Tryz.prog.follows .mixedOrders=true:=by kernel_rfl
theorem Tryz.cal3:callable Tryz.prog 3:=⟨Tryz.f3,Tryz.func3,by kernel_rfl,by kernel_rfl⟩
theorem Tryz.cal4:callable Tryz.prog 4:=⟨Tryz.f4,Tryz.func4,by kernel_rfl,by kernel_rfl⟩
theorem Tryz.cal5:callable Tryz.prog 5:=⟨Tryz.f5,Tryz.func5,by kernel_rfl,by kernel_rfl⟩
theorem Tryz.cal6:callable Tryz.prog 6:=⟨Tryz.f6,Tryz.func6,by kernel_rfl,by kernel_rfl⟩
theorem Tryz.cal7:callable Tryz.prog 7:=⟨Tryz.f7,Tryz.func7,by kernel_rfl,by kernel_rfl⟩
theorem Tryz.cal8:callable Tryz.prog 8:=⟨Tryz.f8,Tryz.func8,by kernel_rfl,by kernel_rfl⟩
theorem Tryz.cal9:callable Tryz.prog 9:=⟨Tryz.f9,Tryz.func9,by kernel_rfl,by kernel_rfl⟩
theorem Tryz.cal10:callable Tryz.prog 10:=⟨Tryz.f10,Tryz.func10,by kernel_rfl,by kernel_rfl⟩
theorem Tryz.cal11:callable Tryz.prog 11:=⟨Tryz.f11,Tryz.func11,by kernel_rfl,by kernel_rfl⟩
theorem Tryz.cal12:callable Tryz.prog 12:=⟨Tryz.f12,Tryz.func12,by kernel_rfl,by kernel_rfl⟩
theorem Tryz.cal13:callable Tryz.prog 13:=⟨Tryz.f13,Tryz.func13,by kernel_rfl,by kernel_rfl⟩
theorem Tryz.cal14:callable Tryz.prog 14:=⟨Tryz.f14,Tryz.func14,by kernel_rfl,by kernel_rfl⟩
theorem Tryz.cal15:callable Tryz.prog 15:=⟨Tryz.f15,Tryz.func15,by kernel_rfl,by kernel_rfl⟩
theorem Tryz.cal16:callable Tryz.prog 16:=⟨Tryz.f16,Tryz.func16,by kernel_rfl,by kernel_rfl⟩
theorem Tryz.cal17:callable Tryz.prog 17:=⟨Tryz.f17,Tryz.func17,by kernel_rfl,by kernel_rfl⟩
theorem Tryz.cal18:callable Tryz.prog 18:=⟨Tryz.f18,Tryz.func18,by kernel_rfl,by kernel_rfl⟩
theorem Tryz.cal19:callable Tryz.prog 19:=⟨Tryz.f19,Tryz.func19,by kernel_rfl,by kernel_rfl⟩
theorem Tryz.cal20:callable Tryz.prog 20:=⟨Tryz.f20,Tryz.func20,by kernel_rfl,by kernel_rfl⟩
theorem Tryz.cal21:callable Tryz.prog 21:=⟨Tryz.f21,Tryz.func21,by kernel_rfl,by kernel_rfl⟩
theorem Tryz.cal22:callable Tryz.prog 22:=⟨Tryz.f22,Tryz.func22,by kernel_rfl,by kernel_rfl⟩
theorem Tryz.cal23:callable Tryz.prog 23:=⟨Tryz.f23,Tryz.func23,by kernel_rfl,by kernel_rfl⟩
theorem Tryz.cal24:callable Tryz.prog 24:=⟨Tryz.f24,Tryz.func24,by kernel_rfl,by kernel_rfl⟩
theorem Tryz.cal25:callable Tryz.prog 25:=⟨Tryz.f25,Tryz.func25,by kernel_rfl,by kernel_rfl⟩
theorem Tryz.cal26:callable Tryz.prog 26:=⟨Tryz.f26,Tryz.func26,by kernel_rfl,by kernel_rfl⟩
theorem Tryz.cal27:callable Tryz.prog 27:=⟨Tryz.f27,Tryz.func27,by kernel_rfl,by kernel_rfl⟩
theorem Tryz.cal28:callable Tryz.prog 28:=⟨Tryz.f28,Tryz.func28,by kernel_rfl,by kernel_rfl⟩
theorem Tryz.cal29:callable Tryz.prog 29:=⟨Tryz.f29,Tryz.func29,by kernel_rfl,by kernel_rfl⟩
theorem Tryz.cal30:callable Tryz.prog 30:=⟨Tryz.f30,Tryz.func30,by kernel_rfl,by kernel_rfl⟩
theorem Tryz.cal31:callable Tryz.prog 31:=⟨Tryz.f31,Tryz.func31,by kernel_rfl,by kernel_rfl⟩
theorem Tryz.cal32:callable Tryz.prog 32:=⟨Tryz.f32,Tryz.func32,by kernel_rfl,by kernel_rfl⟩
theorem Tryz.cal33:callable Tryz.prog 33:=⟨Tryz.f33,Tryz.func33,by kernel_rfl,by kernel_rfl⟩
theorem Tryz.cal34:callable Tryz.prog 34:=⟨Tryz.f34,Tryz.func34,by kernel_rfl,by kernel_rfl⟩
theorem Tryz.cal35:callable Tryz.prog 35:=⟨Tryz.f35,Tryz.func35,by kernel_rfl,by kernel_rfl⟩
theorem Tryz.cal36:callable Tryz.prog 36:=⟨Tryz.f36,Tryz.func36,by kernel_rfl,by kernel_rfl⟩
theorem Tryz.cal37:callable Tryz.prog 37:=⟨Tryz.f37,Tryz.func37,by kernel_rfl,by kernel_rfl⟩
theorem Tryz.cal38:callable Tryz.prog 38:=⟨Tryz.f38,Tryz.func38,by kernel_rfl,by kernel_rfl⟩
theorem Tryz.cal39:callable Tryz.prog 39:=⟨Tryz.f39,Tryz.func39,by kernel_rfl,by kernel_rfl⟩
theorem Tryz.cal40:callable Tryz.prog 40:=⟨Tryz.f40,Tryz.func40,by kernel_rfl,by kernel_rfl⟩
theorem Tryz.cal41:callable Tryz.prog 41:=⟨Tryz.f41,Tryz.func41,by kernel_rfl,by kernel_rfl⟩
theorem Tryz.cal42:callable Tryz.prog 42:=⟨Tryz.f42,Tryz.func42,by kernel_rfl,by kernel_rfl⟩
theorem Tryz.cal43:callable Tryz.prog 43:=⟨Tryz.f43,Tryz.func43,by kernel_rfl,by kernel_rfl⟩
theorem Tryz.cal44:callable Tryz.prog 44:=⟨Tryz.f44,Tryz.func44,by kernel_rfl,by kernel_rfl⟩
theorem Tryz.cal45:callable Tryz.prog 45:=⟨Tryz.f45,Tryz.func45,by kernel_rfl,by kernel_rfl⟩
theorem Tryz.cal46:callable Tryz.prog 46:=⟨Tryz.f46,Tryz.func46,by kernel_rfl,by kernel_rfl⟩
theorem Tryz.cal47:callable Tryz.prog 47:=⟨Tryz.f47,Tryz.func47,by kernel_rfl,by kernel_rfl⟩
theorem Tryz.cal48:callable Tryz.prog 48:=⟨Tryz.f48,Tryz.func48,by kernel_rfl,by kernel_rfl⟩
theorem Tryz.cal49:callable Tryz.prog 49:=⟨Tryz.f49,Tryz.func49,by kernel_rfl,by kernel_rfl⟩
theorem Tryz.cal50:callable Tryz.prog 50:=⟨Tryz.f50,Tryz.func50,by kernel_rfl,by kernel_rfl⟩
theorem Tryz.cal51:callable Tryz.prog 51:=⟨Tryz.f51,Tryz.func51,by kernel_rfl,by kernel_rfl⟩
theorem Tryz.cal52:callable Tryz.prog 52:=⟨Tryz.f52,Tryz.func52,by kernel_rfl,by kernel_rfl⟩
theorem Tryz.cal53:callable Tryz.prog 53:=⟨Tryz.f53,Tryz.func53,by kernel_rfl,by kernel_rfl⟩
theorem Tryz.cal54:callable Tryz.prog 54:=⟨Tryz.f54,Tryz.func54,by kernel_rfl,by kernel_rfl⟩
theorem Tryz.cal55:callable Tryz.prog 55:=⟨Tryz.f55,Tryz.func55,by kernel_rfl,by kernel_rfl⟩
theorem Tryz.cal56:callable Tryz.prog 56:=⟨Tryz.f56,Tryz.func56,by kernel_rfl,by kernel_rfl⟩
theorem Tryz.cal57:callable Tryz.prog 57:=⟨Tryz.f57,Tryz.func57,by kernel_rfl,by kernel_rfl⟩
theorem Tryz.cal58:callable Tryz.prog 58:=⟨Tryz.f58,Tryz.func58,by kernel_rfl,by kernel_rfl⟩
theorem Tryz.cal59:callable Tryz.prog 59:=⟨Tryz.f59,Tryz.func59,by kernel_rfl,by kernel_rfl⟩
theorem Tryz.cal60:callable Tryz.prog 60:=⟨Tryz.f60,Tryz.func60,by kernel_rfl,by kernel_rfl⟩
theorem Tryz.cal61:callable Tryz.prog 61:=⟨Tryz.f61,Tryz.func61,by kernel_rfl,by kernel_rfl⟩
theorem Tryz.cal62:callable Tryz.prog 62:=⟨Tryz.f62,Tryz.func62,by kernel_rfl,by kernel_rfl⟩
theorem Tryz.cal63:callable Tryz.prog 63:=⟨Tryz.f63,Tryz.func63,by kernel_rfl,by kernel_rfl⟩
theorem Tryz.cal64:callable Tryz.prog 64:=⟨Tryz.f64,Tryz.func64,by kernel_rfl,by kernel_rfl⟩
theorem Tryz.cal65:callable Tryz.prog 65:=⟨Tryz.f65,Tryz.func65,by kernel_rfl,by kernel_rfl⟩
theorem Tryz.cal66:callable Tryz.prog 66:=⟨Tryz.f66,Tryz.func66,by kernel_rfl,by kernel_rfl⟩
theorem Tryz.cal67:callable Tryz.prog 67:=⟨Tryz.f67,Tryz.func67,by kernel_rfl,by kernel_rfl⟩
theorem Tryz.cal68:callable Tryz.prog 68:=⟨Tryz.f68,Tryz.func68,by kernel_rfl,by kernel_rfl⟩
theorem Tryz.cal69:callable Tryz.prog 69:=⟨Tryz.f69,Tryz.func69,by kernel_rfl,by kernel_rfl⟩
theorem Tryz.cal70:callable Tryz.prog 70:=⟨Tryz.f70,Tryz.func70,by kernel_rfl,by kernel_rfl⟩
theorem Tryz.cal71:callable Tryz.prog 71:=⟨Tryz.f71,Tryz.func71,by kernel_rfl,by kernel_rfl⟩
theorem Tryz.cal72:callable Tryz.prog 72:=⟨Tryz.f72,Tryz.func72,by kernel_rfl,by kernel_rfl⟩
theorem Tryz.cal73:callable Tryz.prog 73:=⟨Tryz.f73,Tryz.func73,by kernel_rfl,by kernel_rfl⟩
theorem Tryz.cal74:callable Tryz.prog 74:=⟨Tryz.f74,Tryz.func74,by kernel_rfl,by kernel_rfl⟩
theorem Tryz.cal75:callable Tryz.prog 75:=⟨Tryz.f75,Tryz.func75,by kernel_rfl,by kernel_rfl⟩
theorem Tryz.cal76:callable Tryz.prog 76:=⟨Tryz.f76,Tryz.func76,by kernel_rfl,by kernel_rfl⟩
theorem Tryz.cal77:callable Tryz.prog 77:=⟨Tryz.f77,Tryz.func77,by kernel_rfl,by kernel_rfl⟩
theorem Tryz.cal78:callable Tryz.prog 78:=⟨Tryz.f78,Tryz.func78,by kernel_rfl,by kernel_rfl⟩
theorem Tryz.cal79:callable Tryz.prog 79:=⟨Tryz.f79,Tryz.func79,by kernel_rfl,by kernel_rfl⟩
theorem Tryz.cal80:callable Tryz.prog 80:=⟨Tryz.f80,Tryz.func80,by kernel_rfl,by kernel_rfl⟩
theorem Tryz.cal81:callable Tryz.prog 81:=⟨Tryz.f81,Tryz.func81,by kernel_rfl,by kernel_rfl⟩
theorem Tryz.cal82:callable Tryz.prog 82:=⟨Tryz.f82,Tryz.func82,by kernel_rfl,by kernel_rfl⟩
theorem Tryz.cal83:callable Tryz.prog 83:=⟨Tryz.f83,Tryz.func83,by kernel_rfl,by kernel_rfl⟩
theorem Tryz.cal84:callable Tryz.prog 84:=⟨Tryz.f84,Tryz.func84,by kernel_rfl,by kernel_rfl⟩
theorem Tryz.cal85:callable Tryz.prog 85:=⟨Tryz.f85,Tryz.func85,by kernel_rfl,by kernel_rfl⟩
theorem Tryz.cal86:callable Tryz.prog 86:=⟨Tryz.f86,Tryz.func86,by kernel_rfl,by kernel_rfl⟩
theorem Tryz.cal87:callable Tryz.prog 87:=⟨Tryz.f87,Tryz.func87,by kernel_rfl,by kernel_rfl⟩
theorem Tryz.cal88:callable Tryz.prog 88:=⟨Tryz.f88,Tryz.func88,by kernel_rfl,by kernel_rfl⟩
theorem Tryz.cal89:callable Tryz.prog 89:=⟨Tryz.f89,Tryz.func89,by kernel_rfl,by kernel_rfl⟩
theorem Tryz.cal90:callable Tryz.prog 90:=⟨Tryz.f90,Tryz.func90,by kernel_rfl,by kernel_rfl⟩
theorem Tryz.cal91:callable Tryz.prog 91:=⟨Tryz.f91,Tryz.func91,by kernel_rfl,by kernel_rfl⟩
theorem Tryz.cal92:callable Tryz.prog 92:=⟨Tryz.f92,Tryz.func92,by kernel_rfl,by kernel_rfl⟩
theorem Tryz.cal93:callable Tryz.prog 93:=⟨Tryz.f93,Tryz.func93,by kernel_rfl,by kernel_rfl⟩
theorem Tryz.cal94:callable Tryz.prog 94:=⟨Tryz.f94,Tryz.func94,by kernel_rfl,by kernel_rfl⟩
theorem Tryz.cal95:callable Tryz.prog 95:=⟨Tryz.f95,Tryz.func95,by kernel_rfl,by kernel_rfl⟩
theorem Tryz.cal96:callable Tryz.prog 96:=⟨Tryz.f96,Tryz.func96,by kernel_rfl,by kernel_rfl⟩
theorem Tryz.cal97:callable Tryz.prog 97:=⟨Tryz.f97,Tryz.func97,by kernel_rfl,by kernel_rfl⟩
theorem Tryz.cal98:callable Tryz.prog 98:=⟨Tryz.f98,Tryz.func98,by kernel_rfl,by kernel_rfl⟩
theorem Tryz.cal99:callable Tryz.prog 99:=⟨Tryz.f99,Tryz.func99,by kernel_rfl,by kernel_rfl⟩
theorem Tryz.cal100:callable Tryz.prog 100:=⟨Tryz.f100,Tryz.func100,by kernel_rfl,by kernel_rfl⟩
theorem Tryz.cal101:callable Tryz.prog 101:=⟨Tryz.f101,Tryz.func101,by kernel_rfl,by kernel_rfl⟩
theorem Tryz.cal102:callable Tryz.prog 102:=⟨Tryz.f102,Tryz.func102,by kernel_rfl,by kernel_rfl⟩
theorem Tryz.cal103:callable Tryz.prog 103:=⟨Tryz.f103,Tryz.func103,by kernel_rfl,by kernel_rfl⟩
theorem Tryz.cal104:callable Tryz.prog 104:=⟨Tryz.f104,Tryz.func104,by kernel_rfl,by kernel_rfl⟩
theorem Tryz.cal105:callable Tryz.prog 105:=⟨Tryz.f105,Tryz.func105,by kernel_rfl,by kernel_rfl⟩
theorem Tryz.cal106:callable Tryz.prog 106:=⟨Tryz.f106,Tryz.func106,by kernel_rfl,by kernel_rfl⟩
theorem Tryz.cal107:callable Tryz.prog 107:=⟨Tryz.f107,Tryz.func107,by kernel_rfl,by kernel_rfl⟩
theorem Tryz.cal108:callable Tryz.prog 108:=⟨Tryz.f108,Tryz.func108,by kernel_rfl,by kernel_rfl⟩
theorem Tryz.cal109:callable Tryz.prog 109:=⟨Tryz.f109,Tryz.func109,by kernel_rfl,by kernel_rfl⟩
theorem Tryz.cal110:callable Tryz.prog 110:=⟨Tryz.f110,Tryz.func110,by kernel_rfl,by kernel_rfl⟩
theorem Tryz.cal111:callable Tryz.prog 111:=⟨Tryz.f111,Tryz.func111,by kernel_rfl,by kernel_rfl⟩
theorem Tryz.cal112:callable Tryz.prog 112:=⟨Tryz.f112,Tryz.func112,by kernel_rfl,by kernel_rfl⟩
theorem Tryz.cal113:callable Tryz.prog 113:=⟨Tryz.f113,Tryz.func113,by kernel_rfl,by kernel_rfl⟩
theorem Tryz.cal114:callable Tryz.prog 114:=⟨Tryz.f114,Tryz.func114,by kernel_rfl,by kernel_rfl⟩
theorem Tryz.cal115:callable Tryz.prog 115:=⟨Tryz.f115,Tryz.func115,by kernel_rfl,by kernel_rfl⟩
theorem Tryz.cal116:callable Tryz.prog 116:=⟨Tryz.f116,Tryz.func116,by kernel_rfl,by kernel_rfl⟩
theorem Tryz.cal117:callable Tryz.prog 117:=⟨Tryz.f117,Tryz.func117,by kernel_rfl,by kernel_rfl⟩
theorem Tryz.cal118:callable Tryz.prog 118:=⟨Tryz.f118,Tryz.func118,by kernel_rfl,by kernel_rfl⟩
theorem Tryz.cal119:callable Tryz.prog 119:=⟨Tryz.f119,Tryz.func119,by kernel_rfl,by kernel_rfl⟩
theorem Tryz.cal120:callable Tryz.prog 120:=⟨Tryz.f120,Tryz.func120,by kernel_rfl,by kernel_rfl⟩
theorem Tryz.cal121:callable Tryz.prog 121:=⟨Tryz.f121,Tryz.func121,by kernel_rfl,by kernel_rfl⟩
theorem Tryz.cal122:callable Tryz.prog 122:=⟨Tryz.f122,Tryz.func122,by kernel_rfl,by kernel_rfl⟩
theorem Tryz.cal123:callable Tryz.prog 123:=⟨Tryz.f123,Tryz.func123,by kernel_rfl,by kernel_rfl⟩
theorem Tryz.cal124:callable Tryz.prog 124:=⟨Tryz.f124,Tryz.func124,by kernel_rfl,by kernel_rfl⟩
theorem Tryz.cal125:callable Tryz.prog 125:=⟨Tryz.f125,Tryz.func125,by kernel_rfl,by kernel_rfl⟩
theorem Tryz.cal126:callable Tryz.prog 126:=⟨Tryz.f126,Tryz.func126,by kernel_rfl,by kernel_rfl⟩
theorem Tryz.cal127:callable Tryz.prog 127:=⟨Tryz.f127,Tryz.func127,by kernel_rfl,by kernel_rfl⟩
theorem Tryz.cal128:callable Tryz.prog 128:=⟨Tryz.f128,Tryz.func128,by kernel_rfl,by kernel_rfl⟩
theorem Tryz.cal129:callable Tryz.prog 129:=⟨Tryz.f129,Tryz.func129,by kernel_rfl,by kernel_rfl⟩
theorem Tryz.cal130:callable Tryz.prog 130:=⟨Tryz.f130,Tryz.func130,by kernel_rfl,by kernel_rfl⟩
theorem Tryz.cal131:callable Tryz.prog 131:=⟨Tryz.f131,Tryz.func131,by kernel_rfl,by kernel_rfl⟩
theorem Tryz.cal132:callable Tryz.prog 132:=⟨Tryz.f132,Tryz.func132,by kernel_rfl,by kernel_rfl⟩
theorem Tryz.cal133:callable Tryz.prog 133:=⟨Tryz.f133,Tryz.func133,by kernel_rfl,by kernel_rfl⟩
theorem Tryz.cal134:callable Tryz.prog 134:=⟨Tryz.f134,Tryz.func134,by kernel_rfl,by kernel_rfl⟩
end Go.Proofs
namespace Go.Proofs
open Go.Sh Go.Sh.Plan
open Go.IntKind (wrap)
open Int (toNat)
def Tryz.S3(w1 h2:Int)(rg3p:OA)(rg3l rg3c:Nat)(pa4:Int)(H:Heap)(R:Kv):Prop:=
 Tryz.C 6 #[] H fun r5 H6=> ∃r7,r5= .bool r7∧br (!r7)
 (R (.bool false) H6)
 (∀J8:Kl,(∀H9,(Tryz.C 8 #[.int .i64 w1,.int .i64 h2,.slice rg3p rg3l rg3c,.int .i64 pa4] H9 fun r10 H11=> ∃r12p r12l r12c r13,r10= .tuple #[.slice r12p r12l r12c,.int .i64 r13]∧Tryz.C 9 #[.slice r12p r12l r12c] H11 fun r14 H15=> ∃r16 r17 r18p r18l r18c r19,r14= .tuple #[.int .i64 r16,.int .i64 r17,.slice r18p r18l r18c,.bool r19]∧ ∀J20:Kl,(∀H21,(∀X22:Kl,(∀(at_23:Int) H24,(br (decide (((wrap .i64 (at_23+12)):Int)≤(r12l:Int))) (∀J25:Kl,(∀(n26:Int) H27,(X22 [.int .i64 (wrap .i64 (at_23+(wrap .i64 (n26+12))))] H27)→J25 [.int .i64 n26] H27)→0≤(wrap .i64 (at_23+4))∧(wrap .i64 (at_23+4))≤(r12c:Int)∧0≤at_23∧at_23≤(wrap .i64 (at_23+4))∧Tryz.C 11 #[.slice (if r12c=(toNat at_23) then r12p else Option.map (fun x=>Addr.add x ((toNat at_23)*1)) r12p) ((toNat (wrap .i64 (at_23+4)))-(toNat at_23)) (r12c-(toNat at_23))] H24 fun r28 H29=> ∃n30,r28= .int .i64 n30∧0≤(wrap .i64 (at_23+8))∧(wrap .i64 (at_23+8))≤(r12c:Int)∧0≤(wrap .i64 (at_23+4))∧(wrap .i64 (at_23+4))≤(wrap .i64 (at_23+8))∧ ∃bs31:List Int,bsOf H29 (if r12c=(toNat (wrap .i64 (at_23+4))) then r12p else Option.map (fun x=>Addr.add x ((toNat (wrap .i64 (at_23+4)))*1)) r12p) ((toNat (wrap .i64 (at_23+8)))-(toNat (wrap .i64 (at_23+4)))) bs31∧br (((textOf bs31):ByteArray)==(ByteArray.mk #[73,68,65,84])) (br (decide (pa4≥1)) (br (decide (n30>pa4)) (R (.bool false) H29) (J25 [.int .i64 n30] H29)) (J25 [.int .i64 n30] H29)) (J25 [.int .i64 n30] H29)) (R (.bool true) H24))→X22 [.int .i64 at_23] H24)→X22 [.int .i64 8] H21)→J20 [] H21)→br (!r19) (R (.bool false) H15) (br (r16 != w1) (R (.bool false) H15) (br (r17 != h2) (R (.bool false) H15) (Tryz.C 10 #[.slice r18p r18l r18c,.slice rg3p rg3l rg3c] H15 fun r32 H33=> ∃r34,r32= .bool r34∧br (!r34) (R (.bool false) H33) (J20 [] H33)))))→J8 [] H9)→br (decide (((rg3l:Int):Int)>500)) (R (.bool true) H6) (Tryz.C 7 #[.int .i64 w1,.int .i64 h2] H6 fun r35 H36=> ∃r37,r35= .bool r37∧br (!r37) (R (.bool true) H36) (br (((rg3l:Int):Int) != (wrap .i64 ((wrap .i64 ((4:Int)*w1))*h2))) (R (.bool true) H36) (J8 [] H36))))
def Tryz.p3:Plan:=(tl (tg (two (join [] [0,1,2,3] g0) (tl (tl (two (join [] [3,9] g0) (tl (two (tl (one (loop [(16,3)] [3,9] (two (tl (tl leaf)) (two (join [(15,3)] [3,9,16] (one (tl g0))) leaf))))) (tl leaf)))))))))
theorem Tryz.s3{w1 h2:Int}{rg3p:OA}{rg3l rg3c:Nat}{pa4:Int}{H R}(h:Tryz.S3 w1 h2 rg3p rg3l rg3c pa4 H R):Tryz.C 3 #[.int .i64 w1,.int .i64 h2,.slice rg3p rg3l rg3c,.int .i64 pa4] H R:=vcs Tryz.tab_ok Tryz.mixed Tryz.func3 Tryz.cal3 Tryz.p3 h (by kernel_rfl)
def Tryz.S4(b1p:OA)(b1l b1c:Nat)(H:Heap)(R:Kv):Prop:=
 Tryz.C 6 #[] H fun r2 H3=> ∃r4,r2= .bool r4∧br (!r4)
 (R (.bool false) H3)
 (br (decide (((b1l:Int):Int)>1500)) (R (.bool true) H3) (Tryz.C 12 #[.slice b1p b1l b1c] H3 fun r5 H6=> ∃r7 r8 r9p r9l r9c r10,r5= .tuple #[.int .i64 r7,.int .i64 r8,.slice r9p r9l r9c,.int .i64 r10]∧Tryz.C 9 #[.slice b1p b1l b1c] H6 fun r11 H12=> ∃r13 r14 r15p r15l r15c r16,r11= .tuple #[.int .i64 r13,.int .i64 r14,.slice r15p r15l r15c,.bool r16]∧br (!r16) (br (r10==50) (br (r7==0) (br (r8==0) (R (.bool (((r9l:Int):Int)==0)) H12) (R (.bool false) H12)) (R (.bool false) H12)) (R (.bool false) H12)) (br (r10==0) (br (r7==r13) (br (r8==r14) (Tryz.C 10 #[.slice r9p r9l r9c,.slice r15p r15l r15c] H12 fun r17 H18=> ∃r19,r17= .bool r19∧R (.bool r19) H18) (R (.bool false) H12)) (R (.bool false) H12)) (R (.bool false) H12))))
def Tryz.p4:Plan:=(tl (tg (tg (tl (tl (tg (tl leaf)))))))
theorem Tryz.s4{b1p:OA}{b1l b1c:Nat}{H R}(h:Tryz.S4 b1p b1l b1c H R):Tryz.C 4 #[.slice b1p b1l b1c] H R:=vcs Tryz.tab_ok Tryz.mixed Tryz.func4 Tryz.cal4 Tryz.p4 h (by kernel_rfl)
def Tryz.S5(he1p:OA)(he1l he1c:Nat)(ah2p:OA)(ah2l ah2c:Nat)(li3p:OA)(li3l li3c:Nat)(cu4:Int)(be5p:OA)(be5l be5c:Nat)(be6p:OA)(be6l be6c:Nat)(end_7p:OA)(end_7l end_7c:Nat)(H:Heap)(R:Kv):Prop:=
 Tryz.C 6 #[] H fun r8 H9=> ∃r10,r8= .bool r10∧br (!r10)
 (R (.bool false) H9)
 (∀J11:Kl,(∀H12,(Tryz.C 13 #[] H12 fun r13 H14=> ∃r15p r15l r15c,r13= .slice r15p r15l r15c∧Tryz.C 14 #[.string (ByteArray.mk #[73,72,68,82]),.slice he1p he1l he1c] H14 fun r16 H17=> ∃r18p r18l r18c,r16= .slice r18p r18l r18c∧appQ 1 1 #[.int .u8 0] H17 r15p r15l r15c r18p r18l 5 fun ap19p ap19l ap19c H20=>alc H20 (.cells #[.slice none 0 0] 22) fun b21 H22=>stAt H22 ⟨b21,0,none⟩ [.slice ap19p ap19l ap19c] fun H23=>Tryz.C 15 #[.slice ah2p ah2l ah2c,.pointer (some ⟨b21,0,none⟩)] H23 fun r24 H25=>r24= .tuple #[]∧Tryz.C 16 #[.slice li3p li3l li3c,.int .i64 2] H25 fun r26 H27=> ∃z28p z28l z28c,r26= .slice z28p z28l z28c∧ ∃v29p v29l v29c,cell H27 ⟨b21,0,none⟩=some (.slice v29p v29l v29c)∧0≤(max 0 (min cu4 (z28l:Int)))∧(max 0 (min cu4 (z28l:Int)))≤(z28c:Int)∧Tryz.C 14 #[.string (ByteArray.mk #[73,68,65,84]),.slice (if z28c=0 then z28p else Option.map (fun x=>Addr.add x (0*1)) z28p) ((toNat (max 0 (min cu4 (z28l:Int))))-0) (z28c-0)] H27 fun r30 H31=> ∃r32p r32l r32c,r30= .slice r32p r32l r32c∧(Ext H27 H31∨(∃v75p v75l v75c,cell H31 ⟨b21,0,none⟩=some (.slice v75p v75l v75c)∧Value.slice v75p v75l v75c= .slice v29p v29l v29c))∧appQ 1 1 #[.int .u8 0] H31 v29p v29l v29c r32p r32l 5 fun ap33p ap33l ap33c H34=>stAt H34 ⟨b21,0,none⟩ [.slice ap33p ap33l ap33c] fun H35=>Tryz.C 15 #[.slice be5p be5l be5c,.pointer (some ⟨b21,0,none⟩)] H35 fun r36 H37=>r36= .tuple #[]∧ ∃v38p v38l v38c,cell H37 ⟨b21,0,none⟩=some (.slice v38p v38l v38c)∧0≤(max 0 (min cu4 (z28l:Int)))∧(max 0 (min cu4 (z28l:Int)))≤(z28l:Int)∧Tryz.C 14 #[.string (ByteArray.mk #[73,68,65,84]),.slice (if z28c=(toNat (max 0 (min cu4 (z28l:Int)))) then z28p else Option.map (fun x=>Addr.add x ((toNat (max 0 (min cu4 (z28l:Int))))*1)) z28p) (z28l-(toNat (max 0 (min cu4 (z28l:Int))))) (z28c-(toNat (max 0 (min cu4 (z28l:Int)))))] H37 fun r39 H40=> ∃r41p r41l r41c,r39= .slice r41p r41l r41c∧(Ext H37 H40∨(∃v74p v74l v74c,cell H40 ⟨b21,0,none⟩=some (.slice v74p v74l v74c)∧Value.slice v74p v74l v74c= .slice v38p v38l v38c))∧appQ 1 1 #[.int .u8 0] H40 v38p v38l v38c r41p r41l 5 fun ap42p ap42l ap42c H43=>stAt H43 ⟨b21,0,none⟩ [.slice ap42p ap42l ap42c] fun H44=>Tryz.C 15 #[.slice be6p be6l be6c,.pointer (some ⟨b21,0,none⟩)] H44 fun r45 H46=>r45= .tuple #[]∧ ∃v47p v47l v47c,cell H46 ⟨b21,0,none⟩=some (.slice v47p v47l v47c)∧Tryz.C 14 #[.string (ByteArray.mk #[73,69,78,68]),.slice none 0 0] H46 fun r48 H49=> ∃r50p r50l r50c,r48= .slice r50p r50l r50c∧(Ext H46 H49∨(∃v73p v73l v73c,cell H49 ⟨b21,0,none⟩=some (.slice v73p v73l v73c)∧Value.slice v73p v73l v73c= .slice v47p v47l v47c))∧appQ 1 1 #[.int .u8 0] H49 v47p v47l v47c r50p r50l 5 fun ap51p ap51l ap51c H52=>appQ 1 1 #[.int .u8 0] H52 ap51p ap51l ap51c end_7p end_7l 5 fun ap53p ap53l ap53c H54=>stAt H54 ⟨b21,0,none⟩ [.slice ap53p ap53l ap53c] fun H55=> ∃v56p v56l v56c,cell H55 ⟨b21,0,none⟩=some (.slice v56p v56l v56c)∧Tryz.C 12 #[.slice v56p v56l v56c] H55 fun r57 H58=> ∃r59 r60 r61p r61l r61c r62,r57= .tuple #[.int .i64 r59,.int .i64 r60,.slice r61p r61l r61c,.int .i64 r62]∧ ∃v63p v63l v63c,cell H58 ⟨b21,0,none⟩=some (.slice v63p v63l v63c)∧Tryz.C 9 #[.slice v63p v63l v63c] H58 fun r64 H65=> ∃r66 r67 r68p r68l r68c r69,r64= .tuple #[.int .i64 r66,.int .i64 r67,.slice r68p r68l r68c,.bool r69]∧br (r69==(r62==0)) (br (r59==r66) (br (r60==r67) (Tryz.C 10 #[.slice r61p r61l r61c,.slice r68p r68l r68c] H65 fun r70 H71=> ∃r72,r70= .bool r72∧R (.bool r72) H71) (R (.bool false) H65)) (R (.bool false) H65)) (R (.bool false) H65))→J11 [] H12)→br (decide (((he1l:Int):Int)>30)) (R (.bool true) H9) (br (decide (((li3l:Int):Int)>300)) (R (.bool true) H9) (br (decide (((end_7l:Int):Int)>20)) (R (.bool true) H9) (br (decide (((ah2l:Int):Int)>4)) (R (.bool true) H9) (br (decide (((be5l:Int):Int)>4)) (R (.bool true) H9) (br (decide (((be6l:Int):Int)>4)) (R (.bool true) H9) (J11 [] H9)))))))
def Tryz.p5:Plan:=(tl (tg (two (join [] [0,1,2,3,4,5,6] g0) (tl (tl (tl (tl (tl (tl (tl (tl (tl (tl (tl (tl (tl leaf))))))))))))))))
theorem Tryz.s5{he1p:OA}{he1l he1c:Nat}{ah2p:OA}{ah2l ah2c:Nat}{li3p:OA}{li3l li3c:Nat}{cu4:Int}{be5p:OA}{be5l be5c:Nat}{be6p:OA}{be6l be6c:Nat}{end_7p:OA}{end_7l end_7c:Nat}{H R}(h:Tryz.S5 he1p he1l he1c ah2p ah2l ah2c li3p li3l li3c cu4 be5p be5l be5c be6p be6l be6c end_7p end_7l end_7c H R):Tryz.C 5 #[.slice he1p he1l he1c,.slice ah2p ah2l ah2c,.slice li3p li3l li3c,.int .i64 cu4,.slice be5p be5l be5c,.slice be6p be6l be6c,.slice end_7p end_7l end_7c] H R:=vcs Tryz.tab_ok Tryz.mixed Tryz.func5 Tryz.cal5 Tryz.p5 h (by kernel_rfl)
def Tryz.S6(H:Heap)(R:Kv):Prop:=
 alc H (.cells #[.int .u8 1,.int .u8 2,.int .u8 3,.int .u8 4] 5) fun b1 H2=>Tryz.C 8 #[.int .i64 1,.int .i64 1,.slice (some ⟨b1,0,none⟩) 4 4,.int .i64 0] H2 fun r3 H4=> ∃r5p r5l r5c r6,r3= .tuple #[.slice r5p r5l r5c,.int .i64 r6]∧Tryz.C 12 #[.slice r5p r5l r5c] H4 fun r7 H8=> ∃r9 r10 r11p r11l r11c r12,r7= .tuple #[.int .i64 r9,.int .i64 r10,.slice r11p r11l r11c,.int .i64 r12]∧Tryz.C 12 #[.slice none 0 0] H8 fun r13 H14=> ∃r15 r16 r17p r17l r17c r18,r13= .tuple #[.int .i64 r15,.int .i64 r16,.slice r17p r17l r17c,.int .i64 r18]∧br (r6==0) (br (r12==0) (br (r9==1) (br (r10==1) (alc H14 (.cells #[.int .u8 1,.int .u8 2,.int .u8 3,.int .u8 4] 5) fun b19 H20=>Tryz.C 10 #[.slice r11p r11l r11c,.slice (some ⟨b19,0,none⟩) 4 4] H20 fun r21 H22=> ∃r23,r21= .bool r23∧br r23 (R (.bool (r18==50)) H22) (R (.bool false) H22)) (R (.bool false) H14)) (R (.bool false) H14)) (R (.bool false) H14)) (R (.bool false) H14)
def Tryz.p6:Plan:=(tl (tl (tl (tl (tl leaf)))))
theorem Tryz.s6{_u:Unit}{H R}(h:Tryz.S6 H R):Tryz.C 6 #[] H R:=vcs Tryz.tab_ok Tryz.mixed Tryz.func6 Tryz.cal6 Tryz.p6 h (by kernel_rfl)
def Tryz.S7(w1 h2:Int)(H:Heap)(R:Kv):Prop:=
 br (decide (w1≥1)) (br (decide (h2≥1)) (br (decide (w1≤32768)) (br (decide (h2≤32768)) (R (.bool (decide (((wrap .i64 (w1*h2)):Int)≤4194304))) H) (R (.bool false) H)) (R (.bool false) H)) (R (.bool false) H)) (R (.bool false) H)
def Tryz.p7:Plan:=(tl (tl leaf))
theorem Tryz.s7{w1 h2:Int}{H R}(h:Tryz.S7 w1 h2 H R):Tryz.C 7 #[.int .i64 w1,.int .i64 h2] H R:=vcs Tryz.tab_ok Tryz.mixed Tryz.func7 Tryz.cal7 Tryz.p7 h (by kernel_rfl)
def Tryz.S8(w1 h2:Int)(rg3p:OA)(rg3l rg3c:Nat)(pa4:Int)(H:Heap)(R:Kv):Prop:=
 Tryz.C 17 #[.int .i64 w1,.int .i64 h2] H fun r5 H6=> ∃r7,r5= .bool r7∧br (!r7)
 (R (.tuple #[.slice none 0 0,.int .i64 31]) H6)
 (br (((rg3l:Int):Int) != (wrap .i64 ((wrap .i64 ((4:Int)*w1))*h2))) (R (.tuple #[.slice none 0 0,.int .i64 25]) H6) (0≤(wrap .i64 ((4:Int)*w1))∧(wrap .i64 ((4:Int)*w1))≤(wrap .i64 ((4:Int)*w1))∧((1:Nat):Int)*(wrap .i64 ((4:Int)*w1))≤281474976710656∧(wrap .i64 ((4:Int)*w1))≤281474976710656∧alc H6 (.cells (List.toArray (reps (toNat (wrap .i64 ((4:Int)*w1))) (Array.toList #[.int .u8 0]))) 5) fun b8 H9=> ∀X10:Kl,(∀(li11p:OA) (li11l li11c:Nat) (ab12p:OA) (ab12l ab12c:Nat) (y13:Int) H14,(br (decide (y13<h2)) (0≤(wrap .i64 ((wrap .i64 ((4:Int)*w1))*(wrap .i64 (y13+1))))∧(wrap .i64 ((wrap .i64 ((4:Int)*w1))*(wrap .i64 (y13+1))))≤(rg3c:Int)∧0≤(wrap .i64 ((wrap .i64 ((4:Int)*w1))*y13))∧(wrap .i64 ((wrap .i64 ((4:Int)*w1))*y13))≤(wrap .i64 ((wrap .i64 ((4:Int)*w1))*(wrap .i64 (y13+1))))∧Tryz.C 18 #[.int .i64 0,.slice (if rg3c=(toNat (wrap .i64 ((wrap .i64 ((4:Int)*w1))*y13))) then rg3p else Option.map (fun x=>Addr.add x ((toNat (wrap .i64 ((wrap .i64 ((4:Int)*w1))*y13)))*1)) rg3p) ((toNat (wrap .i64 ((wrap .i64 ((4:Int)*w1))*(wrap .i64 (y13+1)))))-(toNat (wrap .i64 ((wrap .i64 ((4:Int)*w1))*y13)))) (rg3c-(toNat (wrap .i64 ((wrap .i64 ((4:Int)*w1))*y13)))),.slice ab12p ab12l ab12c] H14 fun r15 H16=> ∃be17p be17l be17c,r15= .slice be17p be17l be17c∧ ∀X18:Kl,(∀(ki19:Int) (be20p:OA) (be20l be20c:Nat) (k21:Int) H22,(br (decide (k21≤4)) (Tryz.C 18 #[.int .i64 k21,.slice (if rg3c=(toNat (wrap .i64 ((wrap .i64 ((4:Int)*w1))*y13))) then rg3p else Option.map (fun x=>Addr.add x ((toNat (wrap .i64 ((wrap .i64 ((4:Int)*w1))*y13)))*1)) rg3p) ((toNat (wrap .i64 ((wrap .i64 ((4:Int)*w1))*(wrap .i64 (y13+1)))))-(toNat (wrap .i64 ((wrap .i64 ((4:Int)*w1))*y13)))) (rg3c-(toNat (wrap .i64 ((wrap .i64 ((4:Int)*w1))*y13)))),.slice ab12p ab12l ab12c] H22 fun r23 H24=> ∃f25p f25l f25c,r23= .slice f25p f25l f25c∧Tryz.C 19 #[.slice f25p f25l f25c] H24 fun r26 H27=> ∃r28,r26= .int .i64 r28∧Tryz.C 19 #[.slice be20p be20l be20c] H27 fun r29 H30=> ∃r31,r29= .int .i64 r31∧br (decide (r28<r31)) (X18 [.int .i64 k21,.slice f25p f25l f25c,.int .i64 (wrap .i64 (k21+1))] H30) (X18 [.int .i64 ki19,.slice be20p be20l be20c,.int .i64 (wrap .i64 (k21+1))] H30)) (alc H22 (.cells #[.int .u8 (wrap .u8 ki19)] 5) fun b32 H33=>appQ 1 1 #[.int .u8 0] H33 li11p li11l li11c (some ⟨b32,0,none⟩) 1 5 fun ap34p ap34l ap34c H35=>appQ 1 1 #[.int .u8 0] H35 ap34p ap34l ap34c be20p be20l 5 fun li36p li36l li36c H37=>X10 [.slice li36p li36l li36c,.slice (if rg3c=(toNat (wrap .i64 ((wrap .i64 ((4:Int)*w1))*y13))) then rg3p else Option.map (fun x=>Addr.add x ((toNat (wrap .i64 ((wrap .i64 ((4:Int)*w1))*y13)))*1)) rg3p) ((toNat (wrap .i64 ((wrap .i64 ((4:Int)*w1))*(wrap .i64 (y13+1)))))-(toNat (wrap .i64 ((wrap .i64 ((4:Int)*w1))*y13)))) (rg3c-(toNat (wrap .i64 ((wrap .i64 ((4:Int)*w1))*y13)))),.int .i64 (wrap .i64 (y13+1))] H37))→X18 [.int .i64 ki19,.slice be20p be20l be20c,.int .i64 k21] H22)→X18 [.int .i64 0,.slice be17p be17l be17c,.int .i64 1] H16) (Tryz.C 16 #[.slice li11p li11l li11c,.int .i64 4] H14 fun r38 H39=> ∃z40p z40l z40c,r38= .slice z40p z40l z40c∧ ∀J41:Kl,(∀(pa42:Int) H43,(alc H43 (.cells #[.int .u8 137,.int .u8 80,.int .u8 78,.int .u8 71,.int .u8 13,.int .u8 10,.int .u8 26,.int .u8 10] 5) fun b44 H45=>Array.size H43≤b44∧frz H45 b44 fun H46=>Tryz.C 22 #[.int .i64 w1] H46 fun r47 H48=> ∃r49p r49l r49c,r47= .slice r49p r49l r49c∧Tryz.C 22 #[.int .i64 h2] H48 fun r50 H51=> ∃r52p r52l r52c,r50= .slice r52p r52l r52c∧alc H51 (.cells #[.int .u8 8,.int .u8 6,.int .u8 0,.int .u8 0,.int .u8 0] 5) fun b53 H54=>alc H54 (.cells #[.slice r49p r49l r49c,.slice r52p r52l r52c,.slice (some ⟨b53,0,none⟩) 5 5] 22) fun b55 H56=>Tryz.C 20 #[.slice (some ⟨b55,0,none⟩) 3 3] H56 fun r57 H58=> ∃r59p r59l r59c,r57= .slice r59p r59l r59c∧Tryz.C 21 #[.string (ByteArray.mk #[73,72,68,82]),.slice r59p r59l r59c] H58 fun r60 H61=> ∃r62p r62l r62c,r60= .slice r62p r62l r62c∧alc H61 (.cells #[.slice (some ⟨b44,0,none⟩) 8 8,.slice r62p r62l r62c] 22) fun b63 H64=>Tryz.C 20 #[.slice (some ⟨b63,0,none⟩) 2 2] H64 fun r65 H66=> ∃r67p r67l r67c,r65= .slice r67p r67l r67c∧alc H66 (.cells #[.slice none 0 0] 22) fun b68 H69=>stAt H69 ⟨b68,0,none⟩ [.slice r67p r67l r67c] fun H70=>Tryz.C 23 #[.slice z40p z40l z40c,.int .i64 pa42] H70 fun r71 H72=> ∃r73g r73x r73y,r71= .func (.func r73g) r73x r73y∧alc H72 (.deferred (some [])) fun D74 H75=> ∀lo76:LoopState→Option Code→Obj,IsLoop lo76→alc H75 (lo76 .ready none) fun l77 H78=>
 (∀(c86p:OA) (c86l c86c:Nat) H79,∀K80:Kv,H79[l77]?=some (lo76 .ready none)→(H79[l77]?=some (lo76 .ready none)∧sto H79 l77 (lo76 .busy none) fun H87=> ∃v88p v88l v88c,cell H87 ⟨b68,0,none⟩=some (.slice v88p v88l v88c)∧Tryz.C 21 #[.string (ByteArray.mk #[73,68,65,84]),.slice c86p c86l c86c] H87 fun r89 H90=> ∃r91p r91l r91c,r89= .slice r91p r91l r91c∧(Ext H87 H90∨(∃v96p v96l v96c,cell H90 ⟨b68,0,none⟩=some (.slice v96p v96l v96c)∧Value.slice v96p v96l v96c= .slice v88p v88l v88c))∧appQ 1 1 #[.int .u8 0] H90 v88p v88l v88c r91p r91l 5 fun ap92p ap92l ap92c H93=>stAt H93 ⟨b68,0,none⟩ [.slice ap92p ap92l ap92c] fun H94=>H94[l77]?=some (lo76 .busy none)∧sto H94 l77 (lo76 .ready none) fun H95=>K80 (.bool true) H95)→YieldH Tryz.prog l77 #[.slice c86p c86l c86c] H79 K80)→
 BodyH Tryz.prog r73g (List.toArray (Array.toList r73x++[.func (.yield l77) #[] #[]]++Array.toList r73y)) H78 fun r81 H82=>(∃st83:LoopState,st83≠ .busy∧H82[l77]?=some (lo76 st83 none)∧sto H82 l77 (lo76 .exhausted none) fun H84=> ∃v97p v97l v97c,cell H84 ⟨b68,0,none⟩=some (.slice v97p v97l v97c)∧Tryz.C 21 #[.string (ByteArray.mk #[73,69,78,68]),.slice none 0 0] H84 fun r98 H99=> ∃r100p r100l r100c,r98= .slice r100p r100l r100c∧(Ext H84 H99∨(∃v104p v104l v104c,cell H99 ⟨b68,0,none⟩=some (.slice v104p v104l v104c)∧Value.slice v104p v104l v104c= .slice v97p v97l v97c))∧appQ 1 1 #[.int .u8 0] H99 v97p v97l v97c r100p r100l 5 fun ap101p ap101l ap101c H102=>H102[D74]?=some (.deferred (some []))∧sto H102 D74 (.deferred none) fun H103=>R (.tuple #[.slice ap101p ap101l ap101c,.int .i64 0]) H103)∨
 (H82[l77]?=some (lo76 .done (some .ret))∧sto H82 l77 (lo76 .exhausted (some .ret)) fun H85=>H85[D74]?=some (.deferred (some []))∧sto H85 D74 (.deferred none) fun H105=>False))→J41 [.int .i64 pa42] H43)→br (decide (pa4<1)) (J41 [.int .i64 (z40l:Int)] H39) (J41 [.int .i64 pa4] H39)))→X10 [.slice li11p li11l li11c,.slice ab12p ab12l ab12c,.int .i64 y13] H14)→X10 [.slice none 0 0,.slice (some ⟨b8,0,none⟩) (toNat (wrap .i64 ((4:Int)*w1))) (toNat (wrap .i64 ((4:Int)*w1))),.int .i64 0] H9))
def Tryz.p8:Plan:=(tl (two (one (tl (two (tl leaf) g0))) (tl (tl (two (tl (one (loop [(10,22),(11,22),(38,3)] [0,1,2,3,37] (tl (two (tl leaf) (two (one (tl (tl (tl (two (tl (one (loop [(14,3),(15,22),(16,3)] [0,1,2,3,10,11,13,37,38] (two (tl (tl leaf)) (two (one (tl (tl (tl leaf)))) leaf))))) (tl leaf)))))) leaf)))))) (tl (two (join [(3,3)] [0,1,18] (tl (tl leaf))) (tl (two (tl (one (join [(100,22)] [] (one leaf)))) (tl leaf))))))))))
theorem Tryz.s8{w1 h2:Int}{rg3p:OA}{rg3l rg3c:Nat}{pa4:Int}{H R}(h:Tryz.S8 w1 h2 rg3p rg3l rg3c pa4 H R):Tryz.C 8 #[.int .i64 w1,.int .i64 h2,.slice rg3p rg3l rg3c,.int .i64 pa4] H R:=vcsM Tryz.tab_ok Tryz.mixed Tryz.func8 Tryz.cal8 Tryz.p8 h (by kernel_rfl)
def Tryz.S9(b1p:OA)(b1l b1c:Nat)(H:Heap)(R:Kv):Prop:=
 ∀J2:Kl,(∀H3,(0≤(8:Int)∧(8:Int)≤(b1l:Int)∧Tryz.C 24 #[.slice (if b1c=(toNat 8) then b1p else Option.map (fun x=>Addr.add x ((toNat 8)*1)) b1p) (b1l-(toNat 8)) (b1c-(toNat 8))] H3 fun r4 H5=> ∃r6p r6l r6c r7 r8 r9,r4= .tuple #[.slice r6p r6l r6c,.int .i64 r7,.int .i64 r8,.bool r9]∧ ∀J10:Kl,(∀H11,(Tryz.C 25 #[.slice r6p r6l r6c,.int .i64 (wrap .i64 (r8*(wrap .i64 ((wrap .i64 ((4:Int)*r7))+1))))] H11 fun r12 H13=> ∃r14p r14l r14c r15,r12= .tuple #[.slice r14p r14l r14c,.int .i64 r15]∧ ∀J16:Kl,(∀H17,(0≤(wrap .i64 ((4:Int)*r7))∧(wrap .i64 ((4:Int)*r7))≤(wrap .i64 ((4:Int)*r7))∧((1:Nat):Int)*(wrap .i64 ((4:Int)*r7))≤281474976710656∧(wrap .i64 ((4:Int)*r7))≤281474976710656∧alc H17 (.cells (List.toArray (reps (toNat (wrap .i64 ((4:Int)*r7))) (Array.toList #[.int .u8 0]))) 5) fun b18 H19=> ∀X20:Kl,(∀(ou21p:OA) (ou21l ou21c:Nat) (ab22p:OA) (ab22l ab22c:Nat) (y23:Int) H24,(br (decide (y23<r8)) (∃a25,r14p=some a25∧0≤(wrap .i64 (y23*(wrap .i64 ((wrap .i64 ((4:Int)*r7))+1))))∧(wrap .i64 (y23*(wrap .i64 ((wrap .i64 ((4:Int)*r7))+1))))<(r14l:Int)∧ ∃v26,cell H24 (.add a25 (toNat (wrap .i64 (y23*(wrap .i64 ((wrap .i64 ((4:Int)*r7))+1))))*1))=some (.int .u8 v26)∧br (decide (((wrap .i64 v26):Int)>4)) (R (.tuple #[.int .i64 0,.int .i64 0,.slice none 0 0,.bool false]) H24) (0≤(wrap .i64 ((wrap .i64 (y23*(wrap .i64 ((wrap .i64 ((4:Int)*r7))+1))))+(wrap .i64 ((wrap .i64 ((4:Int)*r7))+1))))∧(wrap .i64 ((wrap .i64 (y23*(wrap .i64 ((wrap .i64 ((4:Int)*r7))+1))))+(wrap .i64 ((wrap .i64 ((4:Int)*r7))+1))))≤(r14c:Int)∧0≤(wrap .i64 ((wrap .i64 (y23*(wrap .i64 ((wrap .i64 ((4:Int)*r7))+1))))+1))∧(wrap .i64 ((wrap .i64 (y23*(wrap .i64 ((wrap .i64 ((4:Int)*r7))+1))))+1))≤(wrap .i64 ((wrap .i64 (y23*(wrap .i64 ((wrap .i64 ((4:Int)*r7))+1))))+(wrap .i64 ((wrap .i64 ((4:Int)*r7))+1))))∧Tryz.C 26 #[.int .i64 (wrap .i64 v26),.slice (if r14c=(toNat (wrap .i64 ((wrap .i64 (y23*(wrap .i64 ((wrap .i64 ((4:Int)*r7))+1))))+1))) then r14p else Option.map (fun x=>Addr.add x ((toNat (wrap .i64 ((wrap .i64 (y23*(wrap .i64 ((wrap .i64 ((4:Int)*r7))+1))))+1)))*1)) r14p) ((toNat (wrap .i64 ((wrap .i64 (y23*(wrap .i64 ((wrap .i64 ((4:Int)*r7))+1))))+(wrap .i64 ((wrap .i64 ((4:Int)*r7))+1)))))-(toNat (wrap .i64 ((wrap .i64 (y23*(wrap .i64 ((wrap .i64 ((4:Int)*r7))+1))))+1)))) (r14c-(toNat (wrap .i64 ((wrap .i64 (y23*(wrap .i64 ((wrap .i64 ((4:Int)*r7))+1))))+1)))),.slice ab22p ab22l ab22c] H24 fun r27 H28=> ∃ab29p ab29l ab29c,r27= .slice ab29p ab29l ab29c∧appQ 1 1 #[.int .u8 0] H28 ou21p ou21l ou21c ab29p ab29l 5 fun ou30p ou30l ou30c H31=>X20 [.slice ou30p ou30l ou30c,.slice ab29p ab29l ab29c,.int .i64 (wrap .i64 (y23+1))] H31)) (R (.tuple #[.int .i64 r7,.int .i64 r8,.slice ou21p ou21l ou21c,.bool true]) H24))→X20 [.slice ou21p ou21l ou21c,.slice ab22p ab22l ab22c,.int .i64 y23] H24)→X20 [.slice none 0 0,.slice (some ⟨b18,0,none⟩) (toNat (wrap .i64 ((4:Int)*r7))) (toNat (wrap .i64 ((4:Int)*r7))),.int .i64 0] H19)→J16 [] H17)→br (r15 != 0) (R (.tuple #[.int .i64 0,.int .i64 0,.slice none 0 0,.bool false]) H13) (br (((r14l:Int):Int) != (wrap .i64 (r8*(wrap .i64 ((wrap .i64 ((4:Int)*r7))+1))))) (R (.tuple #[.int .i64 0,.int .i64 0,.slice none 0 0,.bool false]) H13) (J16 [] H13)))→J10 [] H11)→br (!r9) (R (.tuple #[.int .i64 0,.int .i64 0,.slice none 0 0,.bool false]) H5) (Tryz.C 7 #[.int .i64 r7,.int .i64 r8] H5 fun r32 H33=> ∃r34,r32= .bool r34∧br (!r34) (R (.tuple #[.int .i64 0,.int .i64 0,.slice none 0 0,.bool false]) H33) (J10 [] H33)))→J2 [] H3)→
 br (decide (((b1l:Int):Int)<8)) (R (.tuple #[.int .i64 0,.int .i64 0,.slice none 0 0,.bool false]) H) (0≤(8:Int)∧(8:Int)≤(b1c:Int)∧Tryz.C 13 #[] H fun r35 H36=> ∃r37p r37l r37c,r35= .slice r37p r37l r37c∧Tryz.C 10 #[.slice (if b1c=0 then b1p else Option.map (fun x=>Addr.add x (0*1)) b1p) ((toNat 8)-0) (b1c-0),.slice r37p r37l r37c] H36 fun r38 H39=> ∃r40,r38= .bool r40∧br (!r40) (R (.tuple #[.int .i64 0,.int .i64 0,.slice none 0 0,.bool false]) H39) (J2 [] H39))
def Tryz.p9:Plan:=(tl (two (join [] [0] g0) (tl (two (join [] [6,7,8] g0) (tl (tl (two (join [] [7,8,10,11] g0) (tl (tl (two (tl (one (loop [(13,22),(14,22),(15,3)] [7,8,10,11] (two (tl (tl leaf)) (two (one (tl (tg (tl leaf)))) leaf))))) (tl leaf)))))))))))
theorem Tryz.s9{b1p:OA}{b1l b1c:Nat}{H R}(h:Tryz.S9 b1p b1l b1c H R):Tryz.C 9 #[.slice b1p b1l b1c] H R:=vcs Tryz.tab_ok Tryz.mixed Tryz.func9 Tryz.cal9 Tryz.p9 h (by kernel_rfl)
def Tryz.S10(a1p:OA)(a1l a1c:Nat)(b2p:OA)(b2l b2c:Nat)(H:Heap)(R:Kv):Prop:=
 br (((a1l:Int):Int) != (b2l:Int))
 (R (.bool false) H)
 (∀X3:Kl,(∀(i4:Int) H5,(br (decide (i4<(a1l:Int))) (∃a6,a1p=some a6∧0≤i4∧i4<(a1l:Int)∧ ∃v7,cell H5 (.add a6 (toNat i4*1))=some (.int .u8 v7)∧ ∃a8,b2p=some a8∧0≤i4∧i4<(b2l:Int)∧ ∃v9,cell H5 (.add a8 (toNat i4*1))=some (.int .u8 v9)∧br (v7 != v9) (R (.bool false) H5) (X3 [.int .i64 (wrap .i64 (i4+1))] H5)) (R (.bool true) H5))→X3 [.int .i64 i4] H5)→X3 [.int .i64 0] H)
def Tryz.p10:Plan:=(tl (tg (two (tl (one (loop [(5,3)] [0,1] (two (tl (tl leaf)) (two (one g0) leaf))))) (tl leaf))))
theorem Tryz.s10{a1p:OA}{a1l a1c:Nat}{b2p:OA}{b2l b2c:Nat}{H R}(h:Tryz.S10 a1p a1l a1c b2p b2l b2c H R):Tryz.C 10 #[.slice a1p a1l a1c,.slice b2p b2l b2c] H R:=vcs Tryz.tab_ok Tryz.mixed Tryz.func10 Tryz.cal10 Tryz.p10 h (by kernel_rfl)
def Tryz.S11(b1p:OA)(b1l b1c:Nat)(H:Heap)(R:Kv):Prop:=
 ∀X2:Kl,(∀(n3 i4:Int) H5,(br (decide (i4<(b1l:Int))) (∃a6,b1p=some a6∧0≤i4∧i4<(b1l:Int)∧ ∃v7,cell H5 (.add a6 (toNat i4*1))=some (.int .u8 v7)∧X2 [.int .i64 (wrap .i64 ((wrap .i64 ((256:Int)*n3))+(wrap .i64 v7))),.int .i64 (wrap .i64 (i4+1))] H5) (R (.int .i64 n3) H5))→X2 [.int .i64 n3,.int .i64 i4] H5)→X2 [.int .i64 0,.int .i64 0] H
def Tryz.p11:Plan:=(tl (tl (two (tl (one (loop [(3,3),(4,3)] [0] (two (tl (tl leaf)) (two (one leaf) leaf))))) (tl leaf))))
theorem Tryz.s11{b1p:OA}{b1l b1c:Nat}{H R}(h:Tryz.S11 b1p b1l b1c H R):Tryz.C 11 #[.slice b1p b1l b1c] H R:=vcs Tryz.tab_ok Tryz.mixed Tryz.func11 Tryz.cal11 Tryz.p11 h (by kernel_rfl)
def Tryz.S12(b1p:OA)(b1l b1c:Nat)(H:Heap)(R:Kv):Prop:=
 alc H (.cells #[.int .i64 0] 3) fun b2 H3=>alc H3 (.cells #[.int .i64 0] 3) fun b4 H5=>alc H5 (.cells #[.slice none 0 0] 22) fun b6 H7=>alc H7 (.cells #[.int .i64 0] 25) fun b8 H9=> ∀J10:Kl,(∀H11,(Tryz.C 27 #[.slice b1p b1l b1c] H11 fun r12 H13=> ∃r14p r14l r14c r15p r15l r15c r16,r12= .tuple #[.slice r14p r14l r14c,.slice r15p r15l r15c,.bool r16]∧br (!r16) (stAt H13 ⟨b2,0,none⟩ [.int .i64 0] fun H17=>stAt H17 ⟨b4,0,none⟩ [.int .i64 0] fun H18=>stAt H18 ⟨b6,0,none⟩ [.slice none 0 0] fun H19=>stAt H19 ⟨b8,0,none⟩ [.int .i64 50] fun H20=> ∃re21,cell H20 ⟨b2,0,none⟩=some (.int .i64 re21)∧ ∃re22,cell H20 ⟨b4,0,none⟩=some (.int .i64 re22)∧ ∃re23p re23l re23c,cell H20 ⟨b6,0,none⟩=some (.slice re23p re23l re23c)∧ ∃re24,cell H20 ⟨b8,0,none⟩=some (.int .i64 re24)∧R (.tuple #[.int .i64 re21,.int .i64 re22,.slice re23p re23l re23c,.int .i64 re24]) H20) (0≤(4:Int)∧(4:Int)≤(r14l:Int)∧Tryz.C 28 #[.slice r14p r14l r14c] H13 fun r25 H26=> ∃r27,r25= .int .i64 r27∧Tryz.C 28 #[.slice (if r14c=(toNat 4) then r14p else Option.map (fun x=>Addr.add x ((toNat 4)*1)) r14p) (r14l-(toNat 4)) (r14c-(toNat 4))] H26 fun r28 H29=> ∃r30,r28= .int .i64 r30∧stAt H29 ⟨b2,0,none⟩ [.int .i64 r27] fun H31=>stAt H31 ⟨b4,0,none⟩ [.int .i64 r30] fun H32=> ∃v33,cell H32 ⟨b2,0,none⟩=some (.int .i64 v33)∧ ∃v34,cell H32 ⟨b4,0,none⟩=some (.int .i64 v34)∧Tryz.C 17 #[.int .i64 v33,.int .i64 v34] H32 fun r35 H36=> ∃r37,r35= .bool r37∧br (!r37) (stAt H36 ⟨b2,0,none⟩ [.int .i64 0] fun H38=>stAt H38 ⟨b4,0,none⟩ [.int .i64 0] fun H39=>stAt H39 ⟨b6,0,none⟩ [.slice none 0 0] fun H40=>stAt H40 ⟨b8,0,none⟩ [.int .i64 50] fun H41=> ∃re42,cell H41 ⟨b2,0,none⟩=some (.int .i64 re42)∧ ∃re43,cell H41 ⟨b4,0,none⟩=some (.int .i64 re43)∧ ∃re44p re44l re44c,cell H41 ⟨b6,0,none⟩=some (.slice re44p re44l re44c)∧ ∃re45,cell H41 ⟨b8,0,none⟩=some (.int .i64 re45)∧R (.tuple #[.int .i64 re42,.int .i64 re43,.slice re44p re44l re44c,.int .i64 re45]) H41) (∃v46,cell H36 ⟨b4,0,none⟩=some (.int .i64 v46)∧ ∃v47,cell H36 ⟨b2,0,none⟩=some (.int .i64 v47)∧Tryz.C 29 #[.slice r15p r15l r15c,.int .i64 (wrap .i64 (v46*(wrap .i64 ((wrap .i64 ((4:Int)*v47))+1))))] H36 fun r48 H49=> ∃r50p r50l r50c r51,r48= .tuple #[.slice r50p r50l r50c,.int .i64 r51]∧stAt H49 ⟨b8,0,none⟩ [.int .i64 r51] fun H52=> ∀J53:Kl,(∀H54,(∃v55,cell H54 ⟨b2,0,none⟩=some (.int .i64 v55)∧0≤(wrap .i64 ((4:Int)*v55))∧(wrap .i64 ((4:Int)*v55))≤(wrap .i64 ((4:Int)*v55))∧((1:Nat):Int)*(wrap .i64 ((4:Int)*v55))≤281474976710656∧(wrap .i64 ((4:Int)*v55))≤281474976710656∧alc H54 (.cells (List.toArray (reps (toNat (wrap .i64 ((4:Int)*v55))) (Array.toList #[.int .u8 0]))) 5) fun b56 H57=>alc H57 (.cells #[.slice none 0 0] 22) fun b58 H59=>stAt H59 ⟨b58,0,none⟩ [.slice (some ⟨b56,0,none⟩) (toNat (wrap .i64 ((4:Int)*v55))) (toNat (wrap .i64 ((4:Int)*v55)))] fun H60=> ∃v61,cell H60 ⟨b2,0,none⟩=some (.int .i64 v61)∧Tryz.C 23 #[.slice r50p r50l r50c,.int .i64 (wrap .i64 ((wrap .i64 ((4:Int)*v61))+1))] H60 fun r62 H63=> ∃r64g r64x r64y,r62= .func (.func r64g) r64x r64y∧alc H63 (.deferred (some [])) fun D65 H66=> ∀lo67:LoopState→Option Code→Obj,IsLoop lo67→alc H66 (lo67 .ready none) fun l68 H69=>
 (∀(l77p:OA) (l77l l77c:Nat) H70,∀K71:Kv,H70[l68]?=some (lo67 .ready none)→(H70[l68]?=some (lo67 .ready none)∧sto H70 l68 (lo67 .busy none) fun H78=> ∃a79,l77p=some a79∧0≤(0:Int)∧(0:Int)<(l77l:Int)∧ ∃v80,cell H78 (.add a79 (toNat (0:Int)*1))=some (.int .u8 v80)∧br (decide (v80>4))
 (stAt H78 ⟨b2,0,none⟩ [.int .i64 0] fun H81=>stAt H81 ⟨b4,0,none⟩ [.int .i64 0] fun H82=>stAt H82 ⟨b6,0,none⟩ [.slice none 0 0] fun H83=>stAt H83 ⟨b8,0,none⟩ [.int .i64 50] fun H84=>H84[l68]?=some (lo67 .busy none)∧sto H84 l68 (lo67 .done (some .ret)) fun H85=>K71 (.bool false) H85)
 (∃a86,l77p=some a86∧0≤(0:Int)∧(0:Int)<(l77l:Int)∧ ∃v87,cell H78 (.add a86 (toNat (0:Int)*1))=some (.int .u8 v87)∧0≤(1:Int)∧(1:Int)≤(l77l:Int)∧ ∃v88p v88l v88c,cell H78 ⟨b58,0,none⟩=some (.slice v88p v88l v88c)∧Tryz.C 30 #[.int .i64 (wrap .i64 v87),.slice (if l77c=(toNat 1) then l77p else Option.map (fun x=>Addr.add x ((toNat 1)*1)) l77p) (l77l-(toNat 1)) (l77c-(toNat 1)),.slice v88p v88l v88c] H78 fun r89 H90=> ∃r91p r91l r91c,r89= .slice r91p r91l r91c∧stAt H90 ⟨b58,0,none⟩ [.slice r91p r91l r91c] fun H92=> ∃v93p v93l v93c,cell H92 ⟨b6,0,none⟩=some (.slice v93p v93l v93c)∧ ∃v94p v94l v94c,cell H92 ⟨b58,0,none⟩=some (.slice v94p v94l v94c)∧appQ 1 1 #[.int .u8 0] H92 v93p v93l v93c v94p v94l 5 fun ap95p ap95l ap95c H96=>stAt H96 ⟨b6,0,none⟩ [.slice ap95p ap95l ap95c] fun H97=>H97[l68]?=some (lo67 .busy none)∧sto H97 l68 (lo67 .ready none) fun H98=>K71 (.bool true) H98))→YieldH Tryz.prog l68 #[.slice l77p l77l l77c] H70 K71)→
 BodyH Tryz.prog r64g (List.toArray (Array.toList r64x++[.func (.yield l68) #[] #[]]++Array.toList r64y)) H69 fun r72 H73=>(∃st74:LoopState,st74≠ .busy∧H73[l68]?=some (lo67 st74 none)∧sto H73 l68 (lo67 .exhausted none) fun H75=> ∃v99,cell H75 ⟨b2,0,none⟩=some (.int .i64 v99)∧ ∃v100,cell H75 ⟨b4,0,none⟩=some (.int .i64 v100)∧ ∃v101p v101l v101c,cell H75 ⟨b6,0,none⟩=some (.slice v101p v101l v101c)∧stAt H75 ⟨b2,0,none⟩ [.int .i64 v99] fun H102=>(Ext H75 H102∨(∃v112p v112l v112c,cell H102 ⟨b6,0,none⟩=some (.slice v112p v112l v112c)∧Value.slice v112p v112l v112c= .slice v101p v101l v101c)∧(∃v113,cell H102 ⟨b4,0,none⟩=some (.int .i64 v113)∧Value.int .i64 v113= .int .i64 v100))∧stAt H102 ⟨b4,0,none⟩ [.int .i64 v100] fun H103=>(Ext H102 H103∨(∃v111p v111l v111c,cell H103 ⟨b6,0,none⟩=some (.slice v111p v111l v111c)∧Value.slice v111p v111l v111c= .slice v101p v101l v101c))∧stAt H103 ⟨b6,0,none⟩ [.slice v101p v101l v101c] fun H104=>stAt H104 ⟨b8,0,none⟩ [.int .i64 0] fun H105=>H105[D65]?=some (.deferred (some []))∧sto H105 D65 (.deferred none) fun H106=> ∃re107,cell H106 ⟨b2,0,none⟩=some (.int .i64 re107)∧ ∃re108,cell H106 ⟨b4,0,none⟩=some (.int .i64 re108)∧ ∃re109p re109l re109c,cell H106 ⟨b6,0,none⟩=some (.slice re109p re109l re109c)∧ ∃re110,cell H106 ⟨b8,0,none⟩=some (.int .i64 re110)∧R (.tuple #[.int .i64 re107,.int .i64 re108,.slice re109p re109l re109c,.int .i64 re110]) H106)∨
 (H73[l68]?=some (lo67 .done (some .ret))∧sto H73 l68 (lo67 .exhausted (some .ret)) fun H76=>H76[D65]?=some (.deferred (some []))∧sto H76 D65 (.deferred none) fun H114=> ∃re115,cell H114 ⟨b2,0,none⟩=some (.int .i64 re115)∧ ∃re116,cell H114 ⟨b4,0,none⟩=some (.int .i64 re116)∧ ∃re117p re117l re117c,cell H114 ⟨b6,0,none⟩=some (.slice re117p re117l re117c)∧ ∃re118,cell H114 ⟨b8,0,none⟩=some (.int .i64 re118)∧R (.tuple #[.int .i64 re115,.int .i64 re116,.slice re117p re117l re117c,.int .i64 re118]) H114))→J53 [] H54)→ ∃v119,cell H52 ⟨b8,0,none⟩=some (.int .i64 v119)∧br (v119 != 0) (stAt H52 ⟨b2,0,none⟩ [.int .i64 0] fun H120=>stAt H120 ⟨b4,0,none⟩ [.int .i64 0] fun H121=>stAt H121 ⟨b6,0,none⟩ [.slice none 0 0] fun H122=>stAt H122 ⟨b8,0,none⟩ [.int .i64 50] fun H123=> ∃re124,cell H123 ⟨b2,0,none⟩=some (.int .i64 re124)∧ ∃re125,cell H123 ⟨b4,0,none⟩=some (.int .i64 re125)∧ ∃re126p re126l re126c,cell H123 ⟨b6,0,none⟩=some (.slice re126p re126l re126c)∧ ∃re127,cell H123 ⟨b8,0,none⟩=some (.int .i64 re127)∧R (.tuple #[.int .i64 re124,.int .i64 re125,.slice re126p re126l re126c,.int .i64 re127]) H123) (∃v128,cell H52 ⟨b4,0,none⟩=some (.int .i64 v128)∧ ∃v129,cell H52 ⟨b2,0,none⟩=some (.int .i64 v129)∧br (((r50l:Int):Int) != (wrap .i64 (v128*(wrap .i64 ((wrap .i64 ((4:Int)*v129))+1))))) (stAt H52 ⟨b2,0,none⟩ [.int .i64 0] fun H130=>stAt H130 ⟨b4,0,none⟩ [.int .i64 0] fun H131=>stAt H131 ⟨b6,0,none⟩ [.slice none 0 0] fun H132=>stAt H132 ⟨b8,0,none⟩ [.int .i64 50] fun H133=> ∃re134,cell H133 ⟨b2,0,none⟩=some (.int .i64 re134)∧ ∃re135,cell H133 ⟨b4,0,none⟩=some (.int .i64 re135)∧ ∃re136p re136l re136c,cell H133 ⟨b6,0,none⟩=some (.slice re136p re136l re136c)∧ ∃re137,cell H133 ⟨b8,0,none⟩=some (.int .i64 re137)∧R (.tuple #[.int .i64 re134,.int .i64 re135,.slice re136p re136l re136c,.int .i64 re137]) H133) (J53 [] H52)))))→J10 [] H11)→
 br (decide (((b1l:Int):Int)<8)) (stAt H9 ⟨b2,0,none⟩ [.int .i64 0] fun H138=>stAt H138 ⟨b4,0,none⟩ [.int .i64 0] fun H139=>stAt H139 ⟨b6,0,none⟩ [.slice none 0 0] fun H140=>stAt H140 ⟨b8,0,none⟩ [.int .i64 50] fun H141=> ∃re142,cell H141 ⟨b2,0,none⟩=some (.int .i64 re142)∧ ∃re143,cell H141 ⟨b4,0,none⟩=some (.int .i64 re143)∧ ∃re144p re144l re144c,cell H141 ⟨b6,0,none⟩=some (.slice re144p re144l re144c)∧ ∃re145,cell H141 ⟨b8,0,none⟩=some (.int .i64 re145)∧R (.tuple #[.int .i64 re142,.int .i64 re143,.slice re144p re144l re144c,.int .i64 re145]) H141) (0≤(8:Int)∧(8:Int)≤(b1c:Int)∧ ∃bs146:List Int,bsOf H9 (if b1c=0 then b1p else Option.map (fun x=>Addr.add x (0*1)) b1p) ((toNat 8)-0) bs146∧br (!(((textOf bs146):ByteArray)==(ByteArray.mk #[137,80,78,71,13,10,26,10]))) (stAt H9 ⟨b2,0,none⟩ [.int .i64 0] fun H147=>stAt H147 ⟨b4,0,none⟩ [.int .i64 0] fun H148=>stAt H148 ⟨b6,0,none⟩ [.slice none 0 0] fun H149=>stAt H149 ⟨b8,0,none⟩ [.int .i64 50] fun H150=> ∃re151,cell H150 ⟨b2,0,none⟩=some (.int .i64 re151)∧ ∃re152,cell H150 ⟨b4,0,none⟩=some (.int .i64 re152)∧ ∃re153p re153l re153c,cell H150 ⟨b6,0,none⟩=some (.slice re153p re153l re153c)∧ ∃re154,cell H150 ⟨b8,0,none⟩=some (.int .i64 re154)∧R (.tuple #[.int .i64 re151,.int .i64 re152,.slice re153p re153l re153c,.int .i64 re154]) H150) (J10 [] H9))
def Tryz.p12:Plan:=(tl (two (join [] [0,2,3,4,5] g0) (tl (tg (tl (tg (tl (two (join [] [2,3,4,5,9] g0) (tl (two (tl (one (join [(68,22)] [] (one (tg (tl leaf)))))) (tl leaf)))))))))))
theorem Tryz.s12{b1p:OA}{b1l b1c:Nat}{H R}(h:Tryz.S12 b1p b1l b1c H R):Tryz.C 12 #[.slice b1p b1l b1c] H R:=vcsM Tryz.tab_ok Tryz.mixed Tryz.func12 Tryz.cal12 Tryz.p12 h (by kernel_rfl)
def Tryz.S13(H:Heap)(R:Kv):Prop:=
 alc H (.cells #[.int .u8 137,.int .u8 80,.int .u8 78,.int .u8 71,.int .u8 13,.int .u8 10,.int .u8 26,.int .u8 10] 5) fun b1 H2=>R (.slice (some ⟨b1,0,none⟩) 8 8) H2
def Tryz.p13:Plan:=(tl (tl leaf))
theorem Tryz.s13{_u:Unit}{H R}(h:Tryz.S13 H R):Tryz.C 13 #[] H R:=vcs Tryz.tab_ok Tryz.mixed Tryz.func13 Tryz.cal13 Tryz.p13 h (by kernel_rfl)
def Tryz.S14(ki1:ByteArray)(da2p:OA)(da2l da2c:Nat)(H:Heap)(R:Kv):Prop:=
 strQ ki1 5 H fun by_3p by_3l by_3c H4=>Tryz.C 31 #[.slice by_3p by_3l by_3c,.slice da2p da2l da2c] H4 fun r5 H6=> ∃x7p x7l x7c,r5= .slice x7p x7l x7c∧Tryz.C 32 #[.int .i64 (da2l:Int),.int .i64 4] H6 fun r8 H9=> ∃r10p r10l r10c,r8= .slice r10p r10l r10c∧Tryz.C 31 #[.slice r10p r10l r10c,.slice x7p x7l x7c] H9 fun r11 H12=> ∃ou13p ou13l ou13c,r11= .slice ou13p ou13l ou13c∧Tryz.C 33 #[.slice x7p x7l x7c] H12 fun r14 H15=> ∃r16,r14= .int .i64 r16∧Tryz.C 32 #[.int .i64 r16,.int .i64 4] H15 fun r17 H18=> ∃r19p r19l r19c,r17= .slice r19p r19l r19c∧appQ 1 1 #[.int .u8 0] H18 ou13p ou13l ou13c r19p r19l 5 fun ap20p ap20l ap20c H21=>R (.slice ap20p ap20l ap20c) H21
def Tryz.p14:Plan:=(tl (tl (tl (tl leaf))))
theorem Tryz.s14{ki1:ByteArray}{da2p:OA}{da2l da2c:Nat}{H R}(h:Tryz.S14 ki1 da2p da2l da2c H R):Tryz.C 14 #[.string ki1,.slice da2p da2l da2c] H R:=vcs Tryz.tab_ok Tryz.mixed Tryz.func14 Tryz.cal14 Tryz.p14 h (by kernel_rfl)
def Tryz.S15(l1p:OA)(l1l l1c:Nat)(ad2:Addr)(H:Heap)(R:Kv):Prop:=
 ∀X3:Kl,(∀(t4:Int) H5,(br (decide (t4<(l1l:Int))) (∀J6:Kl,(∀H7,(X3 [.int .i64 (wrap .i64 (t4+1))] H7)→J6 [] H7)→ ∃a8,l1p=some a8∧0≤t4∧t4<(l1l:Int)∧ ∃v9,v9.size=2∧rowIn H5 (.add a8 (toNat t4*2)) v9∧alc H5 (.cells #[.string ByteArray.empty,.slice none 0 0] 40) fun b10 H11=>v9.size=2∧stAt H11 ⟨b10,0,none⟩ v9.toList fun H12=> ∃Ki13,cell H12 (.add ⟨b10,0,none⟩ 0)=some (.string Ki13)∧br ((((ByteArray.size Ki13:Nat):Int):Int)==4) (∃Da14p Da14l Da14c,cell H12 (.add ⟨b10,0,none⟩ 1)=some (.slice Da14p Da14l Da14c)∧br (decide (((Da14l:Int):Int)≤100)) (∃v15p v15l v15c,cell H12 ad2=some (.slice v15p v15l v15c)∧ ∃Ki16,cell H12 (.add ⟨b10,0,none⟩ 0)=some (.string Ki16)∧ ∃Da17p Da17l Da17c,cell H12 (.add ⟨b10,0,none⟩ 1)=some (.slice Da17p Da17l Da17c)∧Tryz.C 14 #[.string Ki16,.slice Da17p Da17l Da17c] H12 fun r18 H19=> ∃r20p r20l r20c,r18= .slice r20p r20l r20c∧(Ext H12 H19∨(∃v24p v24l v24c,cell H19 ad2=some (.slice v24p v24l v24c)∧Value.slice v24p v24l v24c= .slice v15p v15l v15c))∧appQ 1 1 #[.int .u8 0] H19 v15p v15l v15c r20p r20l 5 fun ap21p ap21l ap21c H22=>stAt H22 ad2 [.slice ap21p ap21l ap21c] fun H23=>J6 [] H23) (J6 [] H12)) (J6 [] H12)) (R (.tuple #[]) H5))→X3 [.int .i64 t4] H5)→X3 [.int .i64 0] H
def Tryz.p15:Plan:=(tl (one (loop [(7,3)] [1,5,6] (tl (two (tl leaf) (two (join [] [1,5,6,7] (one (tl (tl (tl leaf))))) leaf))))))
theorem Tryz.s15{l1p:OA}{l1l l1c:Nat}{ad2:Addr}{H R}(h:Tryz.S15 l1p l1l l1c ad2 H R):Tryz.C 15 #[.slice l1p l1l l1c,.pointer (some ad2)] H R:=vcs Tryz.tab_ok Tryz.mixed Tryz.func15 Tryz.cal15 Tryz.p15 h (by kernel_rfl)
def Tryz.S16(b1p:OA)(b1l b1c:Nat)(ef2:Int)(H:Heap)(R:Kv):Prop:=
 alc H (.cells #[.slice b1p b1l b1c] 22) fun b3 H4=>Tryz.C 34 #[.slice (some ⟨b3,0,none⟩) 1 1] H4 fun r5 H6=> ∃su7,r5= .int .i64 su7∧alc H6 (.cells #[.int .u8 120,.int .u8 156] 5) fun b8 H9=>Tryz.C 35 #[.slice b1p b1l b1c,.int .i64 ef2] H9 fun r10 H11=> ∃r12p r12l r12c,r10= .slice r12p r12l r12c∧0≤(24:Int)∧0≤(16:Int)∧0≤(8:Int)∧alc H11 (.cells #[.int .u8 (wrap .u8 (shrI .i64 su7 24)),.int .u8 (wrap .u8 (shrI .i64 su7 16)),.int .u8 (wrap .u8 (shrI .i64 su7 8)),.int .u8 (wrap .u8 su7)] 5) fun b13 H14=>alc H14 (.cells #[.slice (some ⟨b8,0,none⟩) 2 2,.slice r12p r12l r12c,.slice (some ⟨b13,0,none⟩) 4 4] 22) fun b15 H16=>Tryz.C 20 #[.slice (some ⟨b15,0,none⟩) 3 3] H16 fun r17 H18=> ∃r19p r19l r19c,r17= .slice r19p r19l r19c∧R (.slice r19p r19l r19c) H18
def Tryz.p16:Plan:=(tl (tl (tl leaf)))
theorem Tryz.s16{b1p:OA}{b1l b1c:Nat}{ef2:Int}{H R}(h:Tryz.S16 b1p b1l b1c ef2 H R):Tryz.C 16 #[.slice b1p b1l b1c,.int .i64 ef2] H R:=vcs Tryz.tab_ok Tryz.mixed Tryz.func16 Tryz.cal16 Tryz.p16 h (by kernel_rfl)
def Tryz.S17(w1 h2:Int)(H:Heap)(R:Kv):Prop:=
 br (decide (w1≥1)) (br (decide (h2≥1)) (br (decide (w1≤32768)) (br (decide (h2≤32768)) (R (.bool (decide (((wrap .i64 (w1*h2)):Int)≤4194304))) H) (R (.bool false) H)) (R (.bool false) H)) (R (.bool false) H)) (R (.bool false) H)
def Tryz.p17:Plan:=(tl (tl leaf))
theorem Tryz.s17{w1 h2:Int}{H R}(h:Tryz.S17 w1 h2 H R):Tryz.C 17 #[.int .i64 w1,.int .i64 h2] H R:=vcs Tryz.tab_ok Tryz.mixed Tryz.func17 Tryz.cal17 Tryz.p17 h (by kernel_rfl)
def Tryz.S18(ki1:Int)(li2p:OA)(li2l li2c:Nat)(ab3p:OA)(ab3l ab3c:Nat)(H:Heap)(R:Kv):Prop:=
 Tryz.C 36 #[.int .i64 ki1,.slice li2p li2l li2c,.slice ab3p ab3l ab3c] H fun r4 H5=> ∃r6,r4= .bool r6∧br (!r6)
 (R (.slice none 0 0) H5)
 (0≤(li2l:Int)∧(li2l:Int)≤(li2l:Int)∧((1:Nat):Int)*(li2l:Int)≤281474976710656∧(li2l:Int)≤281474976710656∧alc H5 (.cells (List.toArray (reps (toNat (li2l:Int)) (Array.toList #[.int .u8 0]))) 5) fun b7 H8=> ∀X9:Kl,(∀(i10:Int) H11,(br (decide (i10<(li2l:Int))) (∃a12,li2p=some a12∧0≤i10∧i10<(li2l:Int)∧ ∃v13,cell H11 (.add a12 (toNat i10*1))=some (.int .u8 v13)∧Tryz.C 37 #[.int .i64 ki1,.slice li2p li2l li2c,.slice ab3p ab3l ab3c,.int .i64 i10] H11 fun r14 H15=> ∃r16,r14= .int .u8 r16∧ ∃a17,(some ⟨b7,0,none⟩)=some a17∧0≤i10∧i10<(((toNat (li2l:Int)):Nat):Int)∧stAt H15 (.add a17 (toNat i10*1)) [.int .u8 (wrap .u8 (v13-r16))] fun H18=>X9 [.int .i64 (wrap .i64 (i10+1))] H18) (R (.slice (some ⟨b7,0,none⟩) (toNat (li2l:Int)) (toNat (li2l:Int))) H11))→X9 [.int .i64 i10] H11)→X9 [.int .i64 0] H8)
def Tryz.p18:Plan:=(tl (tg (tl (two (tl (one (loop [(20,3)] [0,1,2,7,18,19] (tl (two (tl leaf) (two (one (tl leaf)) leaf)))))) (tl leaf)))))
theorem Tryz.s18{ki1:Int}{li2p:OA}{li2l li2c:Nat}{ab3p:OA}{ab3l ab3c:Nat}{H R}(h:Tryz.S18 ki1 li2p li2l li2c ab3p ab3l ab3c H R):Tryz.C 18 #[.int .i64 ki1,.slice li2p li2l li2c,.slice ab3p ab3l ab3c] H R:=vcs Tryz.tab_ok Tryz.mixed Tryz.func18 Tryz.cal18 Tryz.p18 h (by kernel_rfl)
def Tryz.S19(li1p:OA)(li1l li1c:Nat)(H:Heap)(R:Kv):Prop:=
 ∀X2:Kl,(∀(n3 t4:Int) H5,(br (decide (t4<(li1l:Int))) (∃a6,li1p=some a6∧0≤t4∧t4<(li1l:Int)∧ ∃c7,cell H5 (.add a6 (toNat t4*1))=some (.int .u8 c7)∧X2 [.int .i64 (wrap .i64 (n3+(min (wrap .i64 c7) (wrap .i64 ((256:Int)-(wrap .i64 c7)))))),.int .i64 (wrap .i64 (t4+1))] H5) (R (.int .i64 n3) H5))→X2 [.int .i64 n3,.int .i64 t4] H5)→X2 [.int .i64 0,.int .i64 0] H
def Tryz.p19:Plan:=(tl (tl (two (tl (one (loop [(3,3),(8,3)] [6,7] (tl (two (tl leaf) (two (one (tl leaf)) leaf)))))) (tl leaf))))
theorem Tryz.s19{li1p:OA}{li1l li1c:Nat}{H R}(h:Tryz.S19 li1p li1l li1c H R):Tryz.C 19 #[.slice li1p li1l li1c] H R:=vcs Tryz.tab_ok Tryz.mixed Tryz.func19 Tryz.cal19 Tryz.p19 h (by kernel_rfl)
def Tryz.S20(sl1p:OA)(sl1l sl1c:Nat)(H:Heap)(R:Kv):Prop:=
 ∀X2:Kl,(∀(si3 t4:Int) H5,(br (decide (t4<(sl1l:Int))) (∃a6,sl1p=some a6∧0≤t4∧t4<(sl1l:Int)∧ ∃s7p s7l s7c,cell H5 (.add a6 (toNat t4*1))=some (.slice s7p s7l s7c)∧br (decide (((wrap .i64 (si3+(s7l:Int))):Int)<0)) (False) (X2 [.int .i64 (wrap .i64 (si3+(s7l:Int))),.int .i64 (wrap .i64 (t4+1))] H5)) (Tryz.C 38 #[.slice none 0 0,.int .i64 si3] H5 fun r8 H9=> ∃ne10p ne10l ne10c,r8= .slice ne10p ne10l ne10c∧ ∀X11:Kl,(∀(ne12p:OA) (ne12l ne12c:Nat) (t13:Int) H14,(br (decide (t13<(sl1l:Int))) (∃a15,sl1p=some a15∧0≤t13∧t13<(sl1l:Int)∧ ∃s16p s16l s16c,cell H14 (.add a15 (toNat t13*1))=some (.slice s16p s16l s16c)∧appQ 1 1 #[.int .u8 0] H14 ne12p ne12l ne12c s16p s16l 5 fun ne17p ne17l ne17c H18=>X11 [.slice ne17p ne17l ne17c,.int .i64 (wrap .i64 (t13+1))] H18) (R (.slice ne12p ne12l ne12c) H14))→X11 [.slice ne12p ne12l ne12c,.int .i64 t13] H14)→X11 [.slice ne10p ne10l ne10c,.int .i64 0] H9))→X2 [.int .i64 si3,.int .i64 t4] H5)→X2 [.int .i64 0,.int .i64 0] H
def Tryz.p20:Plan:=(tl (tl (two (tl (one (loop [(3,3),(11,3)] [0,9,10] (tl (two (tl leaf) (two (one (tl (tl (tl (tl leaf))))) leaf)))))) (tl (two (tl (one (loop [(6,22),(27,3)] [25,26] (tl (two (tl leaf) (two (one (tl leaf)) leaf)))))) (tl leaf))))))
theorem Tryz.s20{sl1p:OA}{sl1l sl1c:Nat}{H R}(h:Tryz.S20 sl1p sl1l sl1c H R):Tryz.C 20 #[.slice sl1p sl1l sl1c] H R:=vcs Tryz.tab_ok Tryz.mixed Tryz.func20 Tryz.cal20 Tryz.p20 h (by kernel_rfl)
def Tryz.S21(ki1:ByteArray)(da2p:OA)(da2l da2c:Nat)(H:Heap)(R:Kv):Prop:=
 Tryz.C 22 #[.int .i64 (da2l:Int)] H fun r3 H4=> ∃r5p r5l r5c,r3= .slice r5p r5l r5c∧strQ ki1 5 H4 fun by_6p by_6l by_6c H7=>strQ ki1 5 H7 fun by_8p by_8l by_8c H9=>alc H9 (.cells #[.slice by_8p by_8l by_8c,.slice da2p da2l da2c] 22) fun b10 H11=>Tryz.C 39 #[.slice (some ⟨b10,0,none⟩) 2 2] H11 fun r12 H13=> ∃r14,r12= .int .i64 r14∧Tryz.C 22 #[.int .i64 r14] H13 fun r15 H16=> ∃r17p r17l r17c,r15= .slice r17p r17l r17c∧alc H16 (.cells #[.slice r5p r5l r5c,.slice by_6p by_6l by_6c,.slice da2p da2l da2c,.slice r17p r17l r17c] 22) fun b18 H19=>Tryz.C 20 #[.slice (some ⟨b18,0,none⟩) 4 4] H19 fun r20 H21=> ∃r22p r22l r22c,r20= .slice r22p r22l r22c∧R (.slice r22p r22l r22c) H21
def Tryz.p21:Plan:=(tl (tl leaf))
theorem Tryz.s21{ki1:ByteArray}{da2p:OA}{da2l da2c:Nat}{H R}(h:Tryz.S21 ki1 da2p da2l da2c H R):Tryz.C 21 #[.string ki1,.slice da2p da2l da2c] H R:=vcs Tryz.tab_ok Tryz.mixed Tryz.func21 Tryz.cal21 Tryz.p21 h (by kernel_rfl)
def Tryz.S22(n1:Int)(H:Heap)(R:Kv):Prop:=
 0≤(24:Int)∧0≤(16:Int)∧0≤(8:Int)∧alc H (.cells #[.int .u8 (wrap .u8 (shrI .i64 n1 24)),.int .u8 (wrap .u8 (shrI .i64 n1 16)),.int .u8 (wrap .u8 (shrI .i64 n1 8)),.int .u8 (wrap .u8 n1)] 5) fun b2 H3=>R (.slice (some ⟨b2,0,none⟩) 4 4) H3
def Tryz.p22:Plan:=(tl (tl leaf))
theorem Tryz.s22{n1:Int}{H R}(h:Tryz.S22 n1 H R):Tryz.C 22 #[.int .i64 n1] H R:=vcs Tryz.tab_ok Tryz.mixed Tryz.func22 Tryz.cal22 Tryz.p22 h (by kernel_rfl)
def Tryz.S23(s1p:OA)(s1l s1c:Nat)(n2:Int)(H:Heap)(R:Kv):Prop:=
 alc H (.cells #[.slice s1p s1l s1c] 22) fun b3 H4=>alc H4 (.cells #[.int .i64 n2] 3) fun b5 H6=> ∃v7,cell H6 ⟨b5,0,none⟩=some (.int .i64 v7)∧br (decide (v7<1))
 (False)
 (R (.func (.func 40) #[] #[.pointer (some ⟨b3,0,none⟩),.pointer (some ⟨b5,0,none⟩)]) H6)
def Tryz.p23:Plan:=(tl (two (tl (tl leaf)) (tl leaf)))
theorem Tryz.s23{s1p:OA}{s1l s1c:Nat}{n2:Int}{H R}(h:Tryz.S23 s1p s1l s1c n2 H R):Tryz.C 23 #[.slice s1p s1l s1c,.int .i64 n2] H R:=vcs Tryz.tab_ok Tryz.mixed Tryz.func23 Tryz.cal23 Tryz.p23 h (by kernel_rfl)
end Go.Proofs
namespace Go.Proofs
open Go.Sh Go.Sh.Plan
open Go.IntKind (wrap)
open Int (toNat)
def Tryz.S24(b1p:OA)(b1l b1c:Nat)(H:Heap)(R:Kv):Prop:=
 Tryz.C 41 #[.slice b1p b1l b1c] H fun r2 H3=> ∃r4 r5p r5l r5c r6 r7,r2= .tuple #[.string r4,.slice r5p r5l r5c,.int .i64 r6,.bool r7]∧ ∀J8:Kl,(∀H9,(0≤(4:Int)∧(4:Int)≤(r5c:Int)∧Tryz.C 11 #[.slice (if r5c=0 then r5p else Option.map (fun x=>Addr.add x (0*1)) r5p) ((toNat 4)-0) (r5c-0)] H9 fun r10 H11=> ∃w12,r10= .int .i64 w12∧0≤(8:Int)∧(8:Int)≤(r5c:Int)∧0≤(4:Int)∧(4:Int)≤(8:Int)∧Tryz.C 11 #[.slice (if r5c=(toNat 4) then r5p else Option.map (fun x=>Addr.add x ((toNat 4)*1)) r5p) ((toNat 8)-(toNat 4)) (r5c-(toNat 4))] H11 fun r13 H14=> ∃h15,r13= .int .i64 h15∧0≤r6∧r6≤(b1l:Int)∧ ∀X16:Kl,(∀(b17p:OA) (b17l b17c:Nat) (ou18p:OA) (ou18l ou18c:Nat) (st19:Int) H20,(Tryz.C 41 #[.slice b17p b17l b17c] H20 fun r21 H22=> ∃r23 r24p r24l r24c r25 r26,r21= .tuple #[.string r23,.slice r24p r24l r24c,.int .i64 r25,.bool r26]∧br (!r26) (R (.tuple #[.slice none 0 0,.int .i64 0,.int .i64 0,.bool false]) H22) (0≤r25∧r25≤(b17l:Int)∧ ∀J27:Kl,(∀(ou28p:OA) (ou28l ou28c:Nat) (st29:Int) H30,(∃b31:UInt8,0≤(0:Int)∧r23[toNat 0]?=some b31∧br (decide ((((UInt8.toNat b31:Nat):Int):Int)≥97)) (br (st29==1) (X16 [.slice (if b17c=(toNat r25) then b17p else Option.map (fun x=>Addr.add x ((toNat r25)*1)) b17p) (b17l-(toNat r25)) (b17c-(toNat r25)),.slice ou28p ou28l ou28c,.int .i64 2] H30) (X16 [.slice (if b17c=(toNat r25) then b17p else Option.map (fun x=>Addr.add x ((toNat r25)*1)) b17p) (b17l-(toNat r25)) (b17c-(toNat r25)),.slice ou28p ou28l ou28c,.int .i64 st29] H30)) (br ((r23:ByteArray)==(ByteArray.mk #[73,69,78,68])) (br (decide (st29>0)) (br (((r24l:Int):Int)==0) (R (.tuple #[.slice ou28p ou28l ou28c,.int .i64 w12,.int .i64 h15,.bool (((((b17l-(toNat r25)):Nat):Int):Int)==0)]) H30) (R (.tuple #[.slice ou28p ou28l ou28c,.int .i64 w12,.int .i64 h15,.bool false]) H30)) (R (.tuple #[.slice ou28p ou28l ou28c,.int .i64 w12,.int .i64 h15,.bool false]) H30)) (R (.tuple #[.slice ou28p ou28l ou28c,.int .i64 w12,.int .i64 h15,.bool false]) H30)))→J27 [.slice ou28p ou28l ou28c,.int .i64 st29] H30)→br ((r23:ByteArray)==(ByteArray.mk #[73,68,65,84])) (br (decide (st19<2)) (appQ 1 1 #[.int .u8 0] H22 ou18p ou18l ou18c r24p r24l 5 fun ou32p ou32l ou32c H33=>X16 [.slice (if b17c=(toNat r25) then b17p else Option.map (fun x=>Addr.add x ((toNat r25)*1)) b17p) (b17l-(toNat r25)) (b17c-(toNat r25)),.slice ou32p ou32l ou32c,.int .i64 1] H33) (J27 [.slice ou18p ou18l ou18c,.int .i64 st19] H22)) (J27 [.slice ou18p ou18l ou18c,.int .i64 st19] H22)))→X16 [.slice b17p b17l b17c,.slice ou18p ou18l ou18c,.int .i64 st19] H20)→X16 [.slice (if b1c=(toNat r6) then b1p else Option.map (fun x=>Addr.add x ((toNat r6)*1)) b1p) (b1l-(toNat r6)) (b1c-(toNat r6)),.slice none 0 0,.int .i64 0] H14)→J8 [] H9)→
 br (!r7) (R (.tuple #[.slice none 0 0,.int .i64 0,.int .i64 0,.bool false]) H3) (br (!((r4:ByteArray)==(ByteArray.mk #[73,72,68,82]))) (R (.tuple #[.slice none 0 0,.int .i64 0,.int .i64 0,.bool false]) H3) (br (((r5l:Int):Int) != 13) (R (.tuple #[.slice none 0 0,.int .i64 0,.int .i64 0,.bool false]) H3) (0≤(8:Int)∧(8:Int)≤(r5l:Int)∧alc H3 (.cells #[.int .u8 8,.int .u8 6,.int .u8 0,.int .u8 0,.int .u8 0] 5) fun b34 H35=>Tryz.C 10 #[.slice (if r5c=(toNat 8) then r5p else Option.map (fun x=>Addr.add x ((toNat 8)*1)) r5p) (r5l-(toNat 8)) (r5c-(toNat 8)),.slice (some ⟨b34,0,none⟩) 5 5] H35 fun r36 H37=> ∃r38,r36= .bool r38∧br (!r38) (R (.tuple #[.slice none 0 0,.int .i64 0,.int .i64 0,.bool false]) H37) (J8 [] H37))))
def Tryz.p24:Plan:=(tl (tl (two (join [] [0,7,8] g0) (tl (tl (tl (tl (tl (one (loop [(0,22),(12,22),(13,3)] [10,11] (one (tl (tg (tl (two (join [(12,22),(13,3)] [0,10,11,14,15] (tl (two (tl (tl leaf)) leaf))) (two (tl (two (two (tl (tl leaf)) leaf) leaf)) (tl leaf)))))))))))))))))
theorem Tryz.s24{b1p:OA}{b1l b1c:Nat}{H R}(h:Tryz.S24 b1p b1l b1c H R):Tryz.C 24 #[.slice b1p b1l b1c] H R:=vcs Tryz.tab_ok Tryz.mixed Tryz.func24 Tryz.cal24 Tryz.p24 h (by kernel_rfl)
def Tryz.S25(b1p:OA)(b1l b1c:Nat)(mo2:Int)(H:Heap)(R:Kv):Prop:=
 br (decide (((b1l:Int):Int)<2))
 (R (.tuple #[.slice none 0 0,.int .i64 20]) H)
 (∃a3,b1p=some a3∧0≤(0:Int)∧(0:Int)<(b1l:Int)∧ ∃v4,cell H (.add a3 (toNat (0:Int)*1))=some (.int .u8 v4)∧ ∃a5,b1p=some a5∧0≤(1:Int)∧(1:Int)<(b1l:Int)∧ ∃v6,cell H (.add a5 (toNat (1:Int)*1))=some (.int .u8 v6)∧Tryz.C 42 #[.int .i64 (wrap .i64 v4),.int .i64 (wrap .i64 v6)] H fun r7 H8=> ∃r9,r7= .bool r9∧br (!r9) (R (.tuple #[.slice none 0 0,.int .i64 25]) H8) (0≤(2:Int)∧(2:Int)≤(b1l:Int)∧Tryz.C 43 #[.slice (if b1c=(toNat 2) then b1p else Option.map (fun x=>Addr.add x ((toNat 2)*1)) b1p) (b1l-(toNat 2)) (b1c-(toNat 2)),.int .i64 mo2] H8 fun r10 H11=> ∃r12p r12l r12c r13 r14,r10= .tuple #[.slice r12p r12l r12c,.int .i64 r13,.int .i64 r14]∧br (r14 != 0) (R (.tuple #[.slice none 0 0,.int .i64 r14]) H11) (0≤(wrap .i64 ((2:Int)+r13))∧(wrap .i64 ((2:Int)+r13))≤(b1l:Int)∧br (decide (((((b1l-(toNat (wrap .i64 ((2:Int)+r13)))):Nat):Int):Int)<4)) (R (.tuple #[.slice none 0 0,.int .i64 20]) H11) (0≤(4:Int)∧(4:Int)≤(((b1c-(toNat (wrap .i64 ((2:Int)+r13)))):Nat):Int)∧Tryz.C 11 #[.slice (if (b1c-(toNat (wrap .i64 ((2:Int)+r13))))=0 then(if b1c=(toNat (wrap .i64 ((2:Int)+r13))) then b1p else Option.map (fun x=>Addr.add x ((toNat (wrap .i64 ((2:Int)+r13)))*1)) b1p) else Option.map (fun x=>Addr.add x (0*1)) (if b1c=(toNat (wrap .i64 ((2:Int)+r13))) then b1p else Option.map (fun x=>Addr.add x ((toNat (wrap .i64 ((2:Int)+r13)))*1)) b1p)) ((toNat 4)-0) ((b1c-(toNat (wrap .i64 ((2:Int)+r13))))-0)] H11 fun r15 H16=> ∃r17,r15= .int .i64 r17∧Tryz.C 44 #[.slice r12p r12l r12c] H16 fun r18 H19=> ∃r20,r18= .int .i64 r20∧br (r17 != r20) (R (.tuple #[.slice none 0 0,.int .i64 23]) H19) (br (decide (((((b1l-(toNat (wrap .i64 ((2:Int)+r13)))):Nat):Int):Int)>4)) (R (.tuple #[.slice none 0 0,.int .i64 25]) H19) (R (.tuple #[.slice r12p r12l r12c,.int .i64 0]) H19))))))
def Tryz.p25:Plan:=(tl (tg (tg (tl (tg (tl (tg (tg (tg (tl leaf))))))))))
theorem Tryz.s25{b1p:OA}{b1l b1c:Nat}{mo2:Int}{H R}(h:Tryz.S25 b1p b1l b1c mo2 H R):Tryz.C 25 #[.slice b1p b1l b1c,.int .i64 mo2] H R:=vcs Tryz.tab_ok Tryz.mixed Tryz.func25 Tryz.cal25 Tryz.p25 h (by kernel_rfl)
def Tryz.S26(ki1:Int)(li2p:OA)(li2l li2c:Nat)(ab3p:OA)(ab3l ab3c:Nat)(H:Heap)(R:Kv):Prop:=
 ∀X4:Kl,(∀(ou5p:OA) (ou5l ou5c:Nat) (i6:Int) H7,(br (decide (i6<(li2l:Int))) (∃a8,li2p=some a8∧0≤i6∧i6<(li2l:Int)∧ ∃v9,cell H7 (.add a8 (toNat i6*1))=some (.int .u8 v9)∧Tryz.C 45 #[.int .i64 ki1,.slice ou5p ou5l ou5c,.slice ab3p ab3l ab3c,.int .i64 i6] H7 fun r10 H11=> ∃r12,r10= .int .i64 r12∧(Ext H7 H11∨(∃v17,cell H11 (.add a8 (toNat i6*1))=some (.int .u8 v17)∧Value.int .u8 v17= .int .u8 v9))∧alc H11 (.cells #[.int .u8 (wrap .u8 (wrap .i64 ((wrap .i64 v9)+r12)))] 5) fun b13 H14=>appQ 1 1 #[.int .u8 0] H14 ou5p ou5l ou5c (some ⟨b13,0,none⟩) 1 5 fun ou15p ou15l ou15c H16=>X4 [.slice ou15p ou15l ou15c,.int .i64 (wrap .i64 (i6+1))] H16) (R (.slice ou5p ou5l ou5c) H7))→X4 [.slice ou5p ou5l ou5c,.int .i64 i6] H7)→X4 [.slice none 0 0,.int .i64 0] H
def Tryz.p26:Plan:=(tl (tl (two (tl (one (loop [(7,22),(8,3)] [0,1,2] (two (tl (tl leaf)) (two (one leaf) leaf))))) (tl leaf))))
theorem Tryz.s26{ki1:Int}{li2p:OA}{li2l li2c:Nat}{ab3p:OA}{ab3l ab3c:Nat}{H R}(h:Tryz.S26 ki1 li2p li2l li2c ab3p ab3l ab3c H R):Tryz.C 26 #[.int .i64 ki1,.slice li2p li2l li2c,.slice ab3p ab3l ab3c] H R:=vcs Tryz.tab_ok Tryz.mixed Tryz.func26 Tryz.cal26 Tryz.p26 h (by kernel_rfl)
def Tryz.S27(b1p:OA)(b1l b1c:Nat)(H:Heap)(R:Kv):Prop:=
 0≤(8:Int)∧(8:Int)≤(b1l:Int)∧alc H (.cells #[.slice (if b1c=(toNat 8) then b1p else Option.map (fun x=>Addr.add x ((toNat 8)*1)) b1p) (b1l-(toNat 8)) (b1c-(toNat 8))] 71) fun b2 H3=>Tryz.C 46 #[.pointer (some ⟨b2,0,none⟩)] H3 fun r4 H5=> ∃r6 r7p r7l r7c,r4= .tuple #[.string r6,.slice r7p r7l r7c]∧ ∀J8:Kl,(∀(he9p:OA) (he9l he9c:Nat) (z10p:OA) (z10l z10c:Nat) H11,(Tryz.C 46 #[.pointer (some ⟨b2,0,none⟩)] H11 fun r12 H13=> ∃r14 r15p r15l r15c,r12= .tuple #[.string r14,.slice r15p r15l r15c]∧ ∀X16:Kl,(∀(ki17:ByteArray) (da18p:OA) (da18l da18c:Nat) H19,(Tryz.C 48 #[.string ki17] H19 fun r20 H21=> ∃r22,r20= .bool r22∧br r22 (Tryz.C 46 #[.pointer (some ⟨b2,0,none⟩)] H21 fun r23 H24=> ∃r25 r26p r26l r26c,r23= .tuple #[.string r25,.slice r26p r26l r26c]∧X16 [.string r25,.slice r26p r26l r26c] H24) (br (!((ki17:ByteArray)==(ByteArray.mk #[73,68,65,84]))) (R (.tuple #[.slice none 0 0,.slice none 0 0,.bool false]) H21) (∀X27:Kl,(∀(z28p:OA) (z28l z28c:Nat) (ki29:ByteArray) (da30p:OA) (da30l da30c:Nat) H31,(br ((ki29:ByteArray)==(ByteArray.mk #[73,68,65,84])) (appQ 1 1 #[.int .u8 0] H31 z28p z28l z28c da30p da30l 5 fun z32p z32l z32c H33=>Tryz.C 46 #[.pointer (some ⟨b2,0,none⟩)] H33 fun r34 H35=> ∃r36 r37p r37l r37c,r34= .tuple #[.string r36,.slice r37p r37l r37c]∧X27 [.slice z32p z32l z32c,.string r36,.slice r37p r37l r37c] H35) (∀X38:Kl,(∀(ki39:ByteArray) (da40p:OA) (da40l da40c:Nat) H41,(Tryz.C 48 #[.string ki39] H41 fun r42 H43=> ∃r44,r42= .bool r44∧br r44 (Tryz.C 46 #[.pointer (some ⟨b2,0,none⟩)] H43 fun r45 H46=> ∃r47 r48p r48l r48c,r45= .tuple #[.string r47,.slice r48p r48l r48c]∧X38 [.string r47,.slice r48p r48l r48c] H46) (br ((ki39:ByteArray)==(ByteArray.mk #[73,69,78,68])) (br (((da40l:Int):Int)==0) (∃a49,(some ⟨b2,0,none⟩)=some a49∧ ∃b50p b50l b50c,cell H43 (.add a49 0)=some (.slice b50p b50l b50c)∧R (.tuple #[.slice he9p he9l he9c,.slice z28p z28l z28c,.bool (((b50l:Int):Int)==0)]) H43) (R (.tuple #[.slice he9p he9l he9c,.slice z28p z28l z28c,.bool false]) H43)) (R (.tuple #[.slice he9p he9l he9c,.slice z28p z28l z28c,.bool false]) H43)))→X38 [.string ki39,.slice da40p da40l da40c] H41)→X38 [.string ki29,.slice da30p da30l da30c] H31))→X27 [.slice z28p z28l z28c,.string ki29,.slice da30p da30l da30c] H31)→X27 [.slice z10p z10l z10c,.string ki17,.slice da18p da18l da18c] H21)))→X16 [.string ki17,.slice da18p da18l da18c] H19)→X16 [.string r14,.slice r15p r15l r15c] H13)→J8 [.slice he9p he9l he9c,.slice z10p z10l z10c] H11)→
 br (!((r6:ByteArray)==(ByteArray.mk #[73,72,68,82]))) (R (.tuple #[.slice none 0 0,.slice none 0 0,.bool false]) H5) (br (((r7l:Int):Int) != 13) (R (.tuple #[.slice none 0 0,.slice none 0 0,.bool false]) H5) (0≤(8:Int)∧(8:Int)≤(r7l:Int)∧alc H5 (.cells #[.int .u8 8,.int .u8 6,.int .u8 0,.int .u8 0,.int .u8 0] 5) fun b51 H52=>Tryz.C 47 #[.slice (if r7c=(toNat 8) then r7p else Option.map (fun x=>Addr.add x ((toNat 8)*1)) r7p) (r7l-(toNat 8)) (r7c-(toNat 8)),.slice (some ⟨b51,0,none⟩) 5 5] H52 fun r53 H54=> ∃r55,r53= .bool r55∧br (!r55) (R (.tuple #[.slice none 0 0,.slice none 0 0,.bool false]) H54) (J8 [.slice r7p r7l r7c,.slice none 0 0] H54)))
def Tryz.p27:Plan:=(tl (tl (tl (two (join [(2,22),(3,22)] [5] g0) (tl (two (one (loop [(6,9),(7,22)] [2,3,5] (two (tl (tl leaf)) (one leaf)))) (tg (two (one (loop [(3,22),(6,9),(7,22)] [2,5] (two (tl (tl leaf)) (one (tl leaf))))) (two (one (loop [(6,9),(7,22)] [2,3,5] (two (tl (tl leaf)) (one leaf)))) (tl leaf))))))))))
theorem Tryz.s27{b1p:OA}{b1l b1c:Nat}{H R}(h:Tryz.S27 b1p b1l b1c H R):Tryz.C 27 #[.slice b1p b1l b1c] H R:=vcs Tryz.tab_ok Tryz.mixed Tryz.func27 Tryz.cal27 Tryz.p27 h (by kernel_rfl)
def Tryz.S28(b1p:OA)(b1l b1c:Nat)(H:Heap)(R:Kv):Prop:=
 ∃a2,b1p=some a2∧0≤(0:Int)∧(0:Int)<(b1l:Int)∧ ∃v3,cell H (.add a2 (toNat (0:Int)*1))=some (.int .u8 v3)∧0≤(24:Int)∧ ∃a4,b1p=some a4∧0≤(1:Int)∧(1:Int)<(b1l:Int)∧ ∃v5,cell H (.add a4 (toNat (1:Int)*1))=some (.int .u8 v5)∧0≤(16:Int)∧ ∃a6,b1p=some a6∧0≤(2:Int)∧(2:Int)<(b1l:Int)∧ ∃v7,cell H (.add a6 (toNat (2:Int)*1))=some (.int .u8 v7)∧0≤(8:Int)∧ ∃a8,b1p=some a8∧0≤(3:Int)∧(3:Int)<(b1l:Int)∧ ∃v9,cell H (.add a8 (toNat (3:Int)*1))=some (.int .u8 v9)∧R (.int .i64 (orI .i64 (orI .i64 (orI .i64 (shlI .i64 (wrap .i64 v3) 24) (shlI .i64 (wrap .i64 v5) 16)) (shlI .i64 (wrap .i64 v7) 8)) (wrap .i64 v9))) H
def Tryz.p28:Plan:=(tl (tl leaf))
theorem Tryz.s28{b1p:OA}{b1l b1c:Nat}{H R}(h:Tryz.S28 b1p b1l b1c H R):Tryz.C 28 #[.slice b1p b1l b1c] H R:=vcs Tryz.tab_ok Tryz.mixed Tryz.func28 Tryz.cal28 Tryz.p28 h (by kernel_rfl)
def Tryz.S29(b1p:OA)(b1l b1c:Nat)(mo2:Int)(H:Heap)(R:Kv):Prop:=
 br (decide (((b1l:Int):Int)<2))
 (R (.tuple #[.slice none 0 0,.int .i64 20]) H)
 (∀J3:Kl,(∀H4,(0≤(2:Int)∧(2:Int)≤(b1l:Int)∧Tryz.C 49 #[.slice (if b1c=(toNat 2) then b1p else Option.map (fun x=>Addr.add x ((toNat 2)*1)) b1p) (b1l-(toNat 2)) (b1c-(toNat 2)),.int .i64 mo2] H4 fun r5 H6=> ∃r7p r7l r7c r8 r9,r5= .tuple #[.slice r7p r7l r7c,.int .i64 r8,.int .i64 r9]∧br (r9 != 0) (R (.tuple #[.slice none 0 0,.int .i64 r9]) H6) (0≤(wrap .i64 ((2:Int)+r8))∧(wrap .i64 ((2:Int)+r8))≤(b1l:Int)∧br (decide (((((b1l-(toNat (wrap .i64 ((2:Int)+r8)))):Nat):Int):Int)<4)) (R (.tuple #[.slice none 0 0,.int .i64 20]) H6) (0≤(4:Int)∧(4:Int)≤(((b1c-(toNat (wrap .i64 ((2:Int)+r8)))):Nat):Int)∧ ∀X10:Kl,(∀(su11 t12:Int) H13,(br (decide (t12<((((toNat 4)-0):Nat):Int))) (∃a14,(if (b1c-(toNat (wrap .i64 ((2:Int)+r8))))=0 then(if b1c=(toNat (wrap .i64 ((2:Int)+r8))) then b1p else Option.map (fun x=>Addr.add x ((toNat (wrap .i64 ((2:Int)+r8)))*1)) b1p) else Option.map (fun x=>Addr.add x (0*1)) (if b1c=(toNat (wrap .i64 ((2:Int)+r8))) then b1p else Option.map (fun x=>Addr.add x ((toNat (wrap .i64 ((2:Int)+r8)))*1)) b1p))=some a14∧0≤t12∧t12<((((toNat 4)-0):Nat):Int)∧ ∃c15,cell H13 (.add a14 (toNat t12*1))=some (.int .u8 c15)∧0≤(8:Int)∧X10 [.int .i64 (orI .i64 (shlI .i64 su11 8) (wrap .i64 c15)),.int .i64 (wrap .i64 (t12+1))] H13) (alc H13 (.cells #[.slice r7p r7l r7c] 22) fun b16 H17=>Tryz.C 34 #[.slice (some ⟨b16,0,none⟩) 1 1] H17 fun r18 H19=> ∃r20,r18= .int .i64 r20∧br (su11 != r20) (R (.tuple #[.slice none 0 0,.int .i64 23]) H19) (br (decide (((((b1l-(toNat (wrap .i64 ((2:Int)+r8)))):Nat):Int):Int)>4)) (R (.tuple #[.slice none 0 0,.int .i64 25]) H19) (R (.tuple #[.slice r7p r7l r7c,.int .i64 0]) H19))))→X10 [.int .i64 su11,.int .i64 t12] H13)→X10 [.int .i64 0,.int .i64 0] H6)))→J3 [] H4)→ ∃a21,b1p=some a21∧0≤(0:Int)∧(0:Int)<(b1l:Int)∧ ∃v22,cell H (.add a21 (toNat (0:Int)*1))=some (.int .u8 v22)∧0≤(8:Int)∧ ∃a23,b1p=some a23∧0≤(1:Int)∧(1:Int)<(b1l:Int)∧ ∃v24,cell H (.add a23 (toNat (1:Int)*1))=some (.int .u8 v24)∧(31:Int)≠0∧br (((Int.tmod (orI .i64 (shlI .i64 (wrap .i64 v22) 8) (wrap .i64 v24)) 31):Int) != 0) (R (.tuple #[.slice none 0 0,.int .i64 25]) H) (∃a25,b1p=some a25∧0≤(0:Int)∧(0:Int)<(b1l:Int)∧ ∃v26,cell H (.add a25 (toNat (0:Int)*1))=some (.int .u8 v26)∧br (((andI .u8 v26 15):Int) != 8) (R (.tuple #[.slice none 0 0,.int .i64 25]) H) (∃a27,b1p=some a27∧0≤(0:Int)∧(0:Int)<(b1l:Int)∧ ∃v28,cell H (.add a27 (toNat (0:Int)*1))=some (.int .u8 v28)∧0≤(4:Int)∧br (decide (((shrI .u8 v28 4):Int)>7)) (R (.tuple #[.slice none 0 0,.int .i64 25]) H) (∃a29,b1p=some a29∧0≤(1:Int)∧(1:Int)<(b1l:Int)∧ ∃v30,cell H (.add a29 (toNat (1:Int)*1))=some (.int .u8 v30)∧br (((andI .u8 v30 32):Int) != 0) (R (.tuple #[.slice none 0 0,.int .i64 25]) H) (J3 [] H)))))
def Tryz.p29:Plan:=(tl (tg (two (join [] [0,1] (tl g0)) (tl (tg (tl (tg (tl (two (tl (one (loop [(11,3),(72,3)] [7,10,70,71] (tl (two (tl leaf) (two (one (tl leaf)) leaf)))))) (two (one (tl (two (tl leaf) g0))) (tl leaf)))))))))))
theorem Tryz.s29{b1p:OA}{b1l b1c:Nat}{mo2:Int}{H R}(h:Tryz.S29 b1p b1l b1c mo2 H R):Tryz.C 29 #[.slice b1p b1l b1c,.int .i64 mo2] H R:=vcs Tryz.tab_ok Tryz.mixed Tryz.func29 Tryz.cal29 Tryz.p29 h (by kernel_rfl)
def Tryz.S30(ki1:Int)(li2p:OA)(li2l li2c:Nat)(ab3p:OA)(ab3l ab3c:Nat)(H:Heap)(R:Kv):Prop:=
 Tryz.C 36 #[.int .i64 ki1,.slice li2p li2l li2c,.slice ab3p ab3l ab3c] H fun r4 H5=> ∃r6,r4= .bool r6∧br (!r6)
 (R (.slice none 0 0) H5)
 (Tryz.C 50 #[.slice li2p li2l li2c] H5 fun r7 H8=> ∃ou9p ou9l ou9c,r7= .slice ou9p ou9l ou9c∧ ∀X10:Kl,(∀(i11:Int) H12,(br (decide (i11<(ou9l:Int))) (∃a13,ou9p=some a13∧0≤i11∧i11<(ou9l:Int)∧ ∃v14,cell H12 (.add a13 (toNat i11*1))=some (.int .u8 v14)∧Tryz.C 37 #[.int .i64 ki1,.slice ou9p ou9l ou9c,.slice ab3p ab3l ab3c,.int .i64 i11] H12 fun r15 H16=> ∃r17,r15= .int .u8 r17∧(Ext H12 H16∨(∃v20,cell H16 (.add a13 (toNat i11*1))=some (.int .u8 v20)∧Value.int .u8 v20= .int .u8 v14))∧ ∃a18,ou9p=some a18∧0≤i11∧i11<(ou9l:Int)∧stAt H16 (.add a18 (toNat i11*1)) [.int .u8 (wrap .u8 (v14+r17))] fun H19=>X10 [.int .i64 (wrap .i64 (i11+1))] H19) (R (.slice ou9p ou9l ou9c) H12))→X10 [.int .i64 i11] H12)→X10 [.int .i64 0] H8)
def Tryz.p30:Plan:=(tl (tg (tl (two (tl (one (loop [(18,3)] [0,2,7,17] (tl (two (tl leaf) (two (one (tl leaf)) leaf)))))) (tl leaf)))))
theorem Tryz.s30{ki1:Int}{li2p:OA}{li2l li2c:Nat}{ab3p:OA}{ab3l ab3c:Nat}{H R}(h:Tryz.S30 ki1 li2p li2l li2c ab3p ab3l ab3c H R):Tryz.C 30 #[.int .i64 ki1,.slice li2p li2l li2c,.slice ab3p ab3l ab3c] H R:=vcs Tryz.tab_ok Tryz.mixed Tryz.func30 Tryz.cal30 Tryz.p30 h (by kernel_rfl)
def Tryz.S31(a1p:OA)(a1l a1c:Nat)(b2p:OA)(b2l b2c:Nat)(H:Heap)(R:Kv):Prop:=
 alc H (.cells #[] 5) fun b3 H4=>appQ 1 1 #[.int .u8 0] H4 (some ⟨b3,0,none⟩) 0 0 a1p a1l 5 fun ou5p ou5l ou5c H6=>appQ 1 1 #[.int .u8 0] H6 ou5p ou5l ou5c b2p b2l 5 fun ap7p ap7l ap7c H8=>R (.slice ap7p ap7l ap7c) H8
def Tryz.p31:Plan:=(tl (tl (tl leaf)))
theorem Tryz.s31{a1p:OA}{a1l a1c:Nat}{b2p:OA}{b2l b2c:Nat}{H R}(h:Tryz.S31 a1p a1l a1c b2p b2l b2c H R):Tryz.C 31 #[.slice a1p a1l a1c,.slice b2p b2l b2c] H R:=vcs Tryz.tab_ok Tryz.mixed Tryz.func31 Tryz.cal31 Tryz.p31 h (by kernel_rfl)
def Tryz.S32(n1 si2:Int)(H:Heap)(R:Kv):Prop:=
 0≤si2∧si2≤si2∧((1:Nat):Int)*si2≤281474976710656∧si2≤281474976710656∧alc H (.cells (List.toArray (reps (toNat si2) (Array.toList #[.int .u8 0]))) 5) fun b3 H4=> ∀X5:Kl,(∀(n6 i7:Int) H8,(br (decide (i7≥0)) (∃a9,(some ⟨b3,0,none⟩)=some a9∧0≤i7∧i7<(((toNat si2):Nat):Int)∧stAt H8 (.add a9 (toNat i7*1)) [.int .u8 (wrap .u8 n6)] fun H10=>0≤(8:Int)∧X5 [.int .i64 (shrI .i64 n6 8),.int .i64 (wrap .i64 (i7-1))] H10) (R (.slice (some ⟨b3,0,none⟩) (toNat si2) (toNat si2)) H8))→X5 [.int .i64 n6,.int .i64 i7] H8)→X5 [.int .i64 n1,.int .i64 (wrap .i64 (si2-1))] H4
def Tryz.p32:Plan:=(tl (tl (two (tl (one (loop [(0,3),(6,3)] [5] (two (tl (tl leaf)) (two (one (tl leaf)) leaf))))) (tl leaf))))
theorem Tryz.s32{n1 si2:Int}{H R}(h:Tryz.S32 n1 si2 H R):Tryz.C 32 #[.int .i64 n1,.int .i64 si2] H R:=vcs Tryz.tab_ok Tryz.mixed Tryz.func32 Tryz.cal32 Tryz.p32 h (by kernel_rfl)
def Tryz.S33(b1p:OA)(b1l b1c:Nat)(H:Heap)(R:Kv):Prop:=
 ∀X2:Kl,(∀(c3 i4:Int) H5,(br (decide (i4<(b1l:Int))) (∃a6,b1p=some a6∧0≤i4∧i4<(b1l:Int)∧ ∃v7,cell H5 (.add a6 (toNat i4*1))=some (.int .u8 v7)∧ ∀X8:Kl,(∀(c9 k10:Int) H11,(br (decide (k10<8)) ((2:Int)≠0∧br (((Int.tmod c9 2):Int)==1) (0≤(1:Int)∧X8 [.int .i64 (xorI .i64 (shrI .i64 c9 1) 3988292384),.int .i64 (wrap .i64 (k10+1))] H11) (0≤(1:Int)∧X8 [.int .i64 (shrI .i64 c9 1),.int .i64 (wrap .i64 (k10+1))] H11)) (X2 [.int .i64 c9,.int .i64 (wrap .i64 (i4+1))] H11))→X8 [.int .i64 c9,.int .i64 k10] H11)→X8 [.int .i64 (xorI .i64 c3 (wrap .i64 v7)),.int .i64 0] H5) (R (.int .i64 (xorI .i64 c3 4294967295)) H5))→X2 [.int .i64 c3,.int .i64 i4] H5)→X2 [.int .i64 4294967295,.int .i64 0] H
def Tryz.p33:Plan:=(tl (tl (two (tl (one (loop [(3,3),(4,3)] [0] (two (tl (tl leaf)) (two (one (tl (tl (one (loop [(3,3),(5,3)] [0,4] (two (tl (tl leaf)) (two (one (tl (tl leaf))) leaf))))))) leaf))))) (tl leaf))))
theorem Tryz.s33{b1p:OA}{b1l b1c:Nat}{H R}(h:Tryz.S33 b1p b1l b1c H R):Tryz.C 33 #[.slice b1p b1l b1c] H R:=vcs Tryz.tab_ok Tryz.mixed Tryz.func33 Tryz.cal33 Tryz.p33 h (by kernel_rfl)
def Tryz.S34(pa1p:OA)(pa1l pa1c:Nat)(H:Heap)(R:Kv):Prop:=
 ∀X2:Kl,(∀(su3 t4:Int) H5,(br (decide (t4<(pa1l:Int))) (∃a6,pa1p=some a6∧0≤t4∧t4<(pa1l:Int)∧ ∃p7p p7l p7c,cell H5 (.add a6 (toNat t4*1))=some (.slice p7p p7l p7c)∧Tryz.C 51 #[.int .i64 su3,.slice p7p p7l p7c] H5 fun r8 H9=> ∃su10,r8= .int .i64 su10∧X2 [.int .i64 su10,.int .i64 (wrap .i64 (t4+1))] H9) (R (.int .i64 su3) H5))→X2 [.int .i64 su3,.int .i64 t4] H5)→X2 [.int .i64 1,.int .i64 0] H
def Tryz.p34:Plan:=(tl (tl (two (tl (one (loop [(3,3),(8,3)] [6,7] (tl (two (tl leaf) (two (one (tl leaf)) leaf)))))) (tl leaf))))
theorem Tryz.s34{pa1p:OA}{pa1l pa1c:Nat}{H R}(h:Tryz.S34 pa1p pa1l pa1c H R):Tryz.C 34 #[.slice pa1p pa1l pa1c] H R:=vcs Tryz.tab_ok Tryz.mixed Tryz.func34 Tryz.cal34 Tryz.p34 h (by kernel_rfl)
def Tryz.S35(b1p:OA)(b1l b1c:Nat)(ef2:Int)(H:Heap)(R:Kv):Prop:=
 Tryz.C 52 #[.slice b1p b1l b1c,.int .i64 ef2] H fun r3 H4=> ∃li5p li5l li5c,r3= .slice li5p li5l li5c∧Tryz.C 53 #[.bool false] H4 fun r6 H7=> ∃r8,r6= .pointer r8∧alc H7 (.cells #[.pointer none] 84) fun b9 H10=>#[Value.pointer r8].size=1∧stAt H10 ⟨b9,0,none⟩ (Array.toList #[.pointer r8]) fun H11=> ∃Wr12,cell H11 (.add ⟨b9,0,none⟩ 0)=some (.pointer Wr12)∧Tryz.C 54 #[.pointer Wr12,.int .i64 3,.int .i64 3] H11 fun r13 H14=> ∃r15,r13= .bool r15∧ ∃v16,v16.size=1∧rowIn H14 ⟨b9,0,none⟩ v16∧Tryz.C 57 #[] H14 fun r17 H18=> ∃r19p r19l r19c r20p r20l r20c,r17= .tuple #[.slice r19p r19l r19c,.slice r20p r20l r20c]∧(Ext H14 H18∨(∃v50,v50.size=1∧rowIn H18 ⟨b9,0,none⟩ v50∧Value.agg v50= .agg v16))∧Tryz.C 56 #[.slice r19p r19l r19c,.slice r20p r20l r20c] H18 fun r21 H22=> ∃r23,r21= .agg r23∧(Ext H18 H22∨(∃v49,v49.size=1∧rowIn H22 ⟨b9,0,none⟩ v49∧Value.agg v49= .agg v16))∧Tryz.C 55 #[.agg v16,.slice li5p li5l li5c,.agg r23] H22 fun r24 H25=>r24= .tuple #[]∧ ∃Wr26,cell H25 (.add ⟨b9,0,none⟩ 0)=some (.pointer Wr26)∧Tryz.C 58 #[.pointer Wr26] H25 fun r27 H28=> ∃be29p be29l be29c,r27= .slice be29p be29l be29c∧ ∀J30:Kl,(∀(be31p:OA) (be31l be31c:Nat) H32,(Tryz.C 60 #[.slice b1p b1l b1c] H32 fun r33 H34=> ∃x35p x35l x35c,r33= .slice x35p x35l x35c∧br (decide (((x35l:Int):Int)<(be31l:Int))) (R (.slice x35p x35l x35c) H34) (R (.slice be31p be31l be31c) H34))→J30 [.slice be31p be31l be31c] H32)→
 br (decide (((li5l:Int):Int)>20))
 (Tryz.C 53 #[.bool false] H28 fun r36 H37=> ∃r38,r36= .pointer r38∧alc H37 (.cells #[.pointer none] 84) fun b39 H40=>#[Value.pointer r38].size=1∧stAt H40 ⟨b39,0,none⟩ (Array.toList #[.pointer r38]) fun H41=> ∃v42,v42.size=1∧rowIn H41 ⟨b39,0,none⟩ v42∧Tryz.C 59 #[.agg v42,.slice li5p li5l li5c,.int .i64 1] H41 fun r43 H44=>r43= .tuple #[]∧ ∃Wr45,cell H44 (.add ⟨b39,0,none⟩ 0)=some (.pointer Wr45)∧Tryz.C 58 #[.pointer Wr45] H44 fun r46 H47=> ∃x48p x48l x48c,r46= .slice x48p x48l x48c∧br (decide (((x48l:Int):Int)<(be29l:Int))) (J30 [.slice x48p x48l x48c] H47) (J30 [.slice be29p be29l be29c] H47))
 (J30 [.slice be29p be29l be29c] H28)
def Tryz.p35:Plan:=(tl (tl (tl (tl (tl (tl (two (join [(7,22)] [0] (tl (two (tl (tl (tl (tl (tl leaf))))) leaf))) (two (tl (tl (tl leaf))) (tl leaf)))))))))
theorem Tryz.s35{b1p:OA}{b1l b1c:Nat}{ef2:Int}{H R}(h:Tryz.S35 b1p b1l b1c ef2 H R):Tryz.C 35 #[.slice b1p b1l b1c,.int .i64 ef2] H R:=vcs Tryz.tab_ok Tryz.mixed Tryz.func35 Tryz.cal35 Tryz.p35 h (by kernel_rfl)
def Tryz.S36(ki1:Int)(li2p:OA)(li2l li2c:Nat)(ab3p:OA)(ab3l ab3c:Nat)(H:Heap)(R:Kv):Prop:=
 br (decide (ki1≥0)) (br (decide (ki1≤4)) (R (.bool (((li2l:Int):Int)==(ab3l:Int))) H) (R (.bool false) H)) (R (.bool false) H)
def Tryz.p36:Plan:=(tl (tl leaf))
theorem Tryz.s36{ki1:Int}{li2p:OA}{li2l li2c:Nat}{ab3p:OA}{ab3l ab3c:Nat}{H R}(h:Tryz.S36 ki1 li2p li2l li2c ab3p ab3l ab3c H R):Tryz.C 36 #[.int .i64 ki1,.slice li2p li2l li2c,.slice ab3p ab3l ab3c] H R:=vcs Tryz.tab_ok Tryz.mixed Tryz.func36 Tryz.cal36 Tryz.p36 h (by kernel_rfl)
def Tryz.S37(ki1:Int)(li2p:OA)(li2l li2c:Nat)(ab3p:OA)(ab3l ab3c:Nat)(i4:Int)(H:Heap)(R:Kv):Prop:=
 ∀J5:Kl,(∀(a6 c7:Int) H8,(∃a9,ab3p=some a9∧0≤i4∧i4<(ab3l:Int)∧ ∃b10,cell H8 (.add a9 (toNat i4*1))=some (.int .u8 b10)∧br (ki1==1) (R (.int .u8 a6) H8) (br (ki1==2) (R (.int .u8 b10) H8) (br (ki1==3) ((2:Int)≠0∧R (.int .u8 (wrap .u8 (wrap .i64 (Int.tdiv (wrap .i64 ((wrap .i64 a6)+(wrap .i64 b10))) 2)))) H8) (br (ki1==4) (Tryz.C 61 #[.int .u8 a6,.int .u8 b10,.int .u8 c7] H8 fun r11 H12=> ∃r13,r11= .int .u8 r13∧R (.int .u8 r13) H12) (R (.int .u8 0) H8)))))→J5 [.int .u8 a6,.int .u8 c7] H8)→
 br (decide (i4≥4))
 (∃a14,li2p=some a14∧0≤(wrap .i64 (i4-4))∧(wrap .i64 (i4-4))<(li2l:Int)∧ ∃a15,cell H (.add a14 (toNat (wrap .i64 (i4-4))*1))=some (.int .u8 a15)∧ ∃a16,ab3p=some a16∧0≤(wrap .i64 (i4-4))∧(wrap .i64 (i4-4))<(ab3l:Int)∧ ∃c17,cell H (.add a16 (toNat (wrap .i64 (i4-4))*1))=some (.int .u8 c17)∧J5 [.int .u8 a15,.int .u8 c17] H)
 (J5 [.int .u8 0,.int .u8 0] H)
def Tryz.p37:Plan:=(tl (tl (two (join [(9,5),(10,5)] [0,2,3] (tl (tl leaf))) (tl (two (tl (one (tl (two (tl leaf) (tl (two (tl leaf) (tl (two (tl leaf) g0)))))))) (tl leaf))))))
theorem Tryz.s37{ki1:Int}{li2p:OA}{li2l li2c:Nat}{ab3p:OA}{ab3l ab3c:Nat}{i4:Int}{H R}(h:Tryz.S37 ki1 li2p li2l li2c ab3p ab3l ab3c i4 H R):Tryz.C 37 #[.int .i64 ki1,.slice li2p li2l li2c,.slice ab3p ab3l ab3c,.int .i64 i4] H R:=vcs Tryz.tab_ok Tryz.mixed Tryz.func37 Tryz.cal37 Tryz.p37 h (by kernel_rfl)
def Tryz.S38(s1p:OA)(s1l s1c:Nat)(n2:Int)(H:Heap)(R:Kv):Prop:=
 ∀J3:Kl,(∀H4,(br (decide (((wrap .i64 (n2-(wrap .i64 ((s1c:Int)-(s1l:Int))))):Int)>0)) (0≤(s1c:Int)∧(s1c:Int)≤(s1c:Int)∧appZ 1 1 #[.int .u8 0] H4 (if s1c=0 then s1p else Option.map (fun x=>Addr.add x (0*1)) s1p) ((toNat (s1c:Int))-0) (s1c-0) (wrap .i64 (n2-(wrap .i64 ((s1c:Int)-(s1l:Int))))) 5 fun ap5p ap5l ap5c H6=>0≤(s1l:Int)∧(s1l:Int)≤(ap5c:Int)∧R (.slice (if ap5c=0 then ap5p else Option.map (fun x=>Addr.add x (0*1)) ap5p) ((toNat (s1l:Int))-0) (ap5c-0)) H6) (R (.slice s1p s1l s1c) H4))→J3 [] H4)→
 br (decide (n2<0))
 (False)
 (J3 [] H)
def Tryz.p38:Plan:=(tl (two (join [] [0,1] (tl (tl leaf))) (two (tl (tl (tl leaf))) (tl leaf))))
theorem Tryz.s38{s1p:OA}{s1l s1c:Nat}{n2:Int}{H R}(h:Tryz.S38 s1p s1l s1c n2 H R):Tryz.C 38 #[.slice s1p s1l s1c,.int .i64 n2] H R:=vcs Tryz.tab_ok Tryz.mixed Tryz.func38 Tryz.cal38 Tryz.p38 h (by kernel_rfl)
def Tryz.S39(pa1p:OA)(pa1l pa1c:Nat)(H:Heap)(R:Kv):Prop:=
 ∀X2:Kl,(∀(su3 t4:Int) H5,(br (decide (t4<(pa1l:Int))) (∃a6,pa1p=some a6∧0≤t4∧t4<(pa1l:Int)∧ ∃p7p p7l p7c,cell H5 (.add a6 (toNat t4*1))=some (.slice p7p p7l p7c)∧Tryz.C 62 #[.int .i64 su3,.slice p7p p7l p7c] H5 fun r8 H9=> ∃su10,r8= .int .i64 su10∧X2 [.int .i64 su10,.int .i64 (wrap .i64 (t4+1))] H9) (R (.int .i64 su3) H5))→X2 [.int .i64 su3,.int .i64 t4] H5)→X2 [.int .i64 0,.int .i64 0] H
def Tryz.p39:Plan:=(tl (tl (two (tl (one (loop [(3,3),(8,3)] [6,7] (tl (two (tl leaf) (two (one (tl leaf)) leaf)))))) (tl leaf))))
theorem Tryz.s39{pa1p:OA}{pa1l pa1c:Nat}{H R}(h:Tryz.S39 pa1p pa1l pa1c H R):Tryz.C 39 #[.slice pa1p pa1l pa1c] H R:=vcs Tryz.tab_ok Tryz.mixed Tryz.func39 Tryz.cal39 Tryz.p39 h (by kernel_rfl)
def Tryz.S40(yl1:Nat)(ad2 ad3:Addr)(H:Heap)(R:Kv):Prop:=
 ∀X4:Kl,(∀(i5:Int) H6,(∃v7p v7l v7c,cell H6 ad2=some (.slice v7p v7l v7c)∧br (decide (i5<(v7l:Int))) (∃v8,cell H6 ad3=some (.int .i64 v8)∧ ∃v9p v9l v9c,cell H6 ad2=some (.slice v9p v9l v9c)∧0≤i5∧i5≤(v9l:Int)∧ ∃v10p v10l v10c,cell H6 ad2=some (.slice v10p v10l v10c)∧0≤(wrap .i64 (i5+(min v8 (((v9l-(toNat i5)):Nat):Int))))∧(wrap .i64 (i5+(min v8 (((v9l-(toNat i5)):Nat):Int))))≤(v10c:Int)∧0≤(wrap .i64 (i5+(min v8 (((v9l-(toNat i5)):Nat):Int))))∧(wrap .i64 (i5+(min v8 (((v9l-(toNat i5)):Nat):Int))))≤(wrap .i64 (i5+(min v8 (((v9l-(toNat i5)):Nat):Int))))∧0≤i5∧i5≤(wrap .i64 (i5+(min v8 (((v9l-(toNat i5)):Nat):Int))))∧YieldH Tryz.prog yl1 #[.slice (if (toNat (wrap .i64 (i5+(min v8 (((v9l-(toNat i5)):Nat):Int)))))=(toNat i5) then v10p else Option.map (fun x=>Addr.add x ((toNat i5)*1)) v10p) ((toNat (wrap .i64 (i5+(min v8 (((v9l-(toNat i5)):Nat):Int)))))-(toNat i5)) ((toNat (wrap .i64 (i5+(min v8 (((v9l-(toNat i5)):Nat):Int)))))-(toNat i5))] H6 fun r11 H12=> ∃r13,r11= .bool r13∧br (!r13) (R (.tuple #[]) H12) (∃v14,cell H12 ad3=some (.int .i64 v14)∧X4 [.int .i64 (wrap .i64 (i5+v14))] H12)) (R (.tuple #[]) H6))→X4 [.int .i64 i5] H6)→X4 [.int .i64 0] H
def Tryz.p40:Plan:=(tl (one (loop [(4,3)] [0,1,2] (two (tl (tl leaf)) (two (one (tl (tl (tl leaf)))) leaf)))))
theorem Tryz.s40{yl1:Nat}{ad2 ad3:Addr}{H R}(h:Tryz.S40 yl1 ad2 ad3 H R):Tryz.C 40 #[.func (.yield yl1) #[] #[],.pointer (some ad2),.pointer (some ad3)] H R:=vcs Tryz.tab_ok Tryz.mixed Tryz.func40 Tryz.cal40 Tryz.p40 h (by kernel_rfl)
def Tryz.S41(b1p:OA)(b1l b1c:Nat)(H:Heap)(R:Kv):Prop:=
 br (decide (((b1l:Int):Int)<12))
 (R (.tuple #[.string (ByteArray.mk #[]),.slice none 0 0,.int .i64 0,.bool false]) H)
 (0≤(4:Int)∧(4:Int)≤(b1c:Int)∧Tryz.C 11 #[.slice (if b1c=0 then b1p else Option.map (fun x=>Addr.add x (0*1)) b1p) ((toNat 4)-0) (b1c-0)] H fun r2 H3=> ∃n4,r2= .int .i64 n4∧ ∀J5:Kl,(∀H6,(0≤(8:Int)∧(8:Int)≤(b1c:Int)∧0≤(4:Int)∧(4:Int)≤(8:Int)∧ ∃bs7:List Int,bsOf H6 (if b1c=(toNat 4) then b1p else Option.map (fun x=>Addr.add x ((toNat 4)*1)) b1p) ((toNat 8)-(toNat 4)) bs7∧ ∀X8:Kl,(∀(i9:Int) H10,(br (decide (i9<4)) (∀J11:Kl,(∀H12,(X8 [.int .i64 (wrap .i64 (i9+1))] H12)→J11 [] H12)→ ∃b13:UInt8,0≤i9∧(textOf bs7)[toNat i9]?=some b13∧br (decide ((((UInt8.toNat b13:Nat):Int):Int)<97)) (br (decide ((((UInt8.toNat b13:Nat):Int):Int)<65)) (R (.tuple #[.string (ByteArray.mk #[]),.slice none 0 0,.int .i64 0,.bool false]) H10) (br (decide ((((UInt8.toNat b13:Nat):Int):Int)>90)) (R (.tuple #[.string (ByteArray.mk #[]),.slice none 0 0,.int .i64 0,.bool false]) H10) (J11 [] H10))) (br (decide ((((UInt8.toNat b13:Nat):Int):Int)>122)) (br (decide ((((UInt8.toNat b13:Nat):Int):Int)<65)) (R (.tuple #[.string (ByteArray.mk #[]),.slice none 0 0,.int .i64 0,.bool false]) H10) (br (decide ((((UInt8.toNat b13:Nat):Int):Int)>90)) (R (.tuple #[.string (ByteArray.mk #[]),.slice none 0 0,.int .i64 0,.bool false]) H10) (J11 [] H10))) (J11 [] H10))) (0≤(wrap .i64 ((8:Int)+n4))∧(wrap .i64 ((8:Int)+n4))≤(b1c:Int)∧0≤(8:Int)∧(8:Int)≤(wrap .i64 ((8:Int)+n4))∧0≤(wrap .i64 (n4+12))∧(wrap .i64 (n4+12))≤(b1c:Int)∧Tryz.C 14 #[.string (textOf bs7),.slice (if b1c=(toNat 8) then b1p else Option.map (fun x=>Addr.add x ((toNat 8)*1)) b1p) ((toNat (wrap .i64 ((8:Int)+n4)))-(toNat 8)) (b1c-(toNat 8))] H10 fun r14 H15=> ∃r16p r16l r16c,r14= .slice r16p r16l r16c∧Tryz.C 10 #[.slice r16p r16l r16c,.slice (if b1c=0 then b1p else Option.map (fun x=>Addr.add x (0*1)) b1p) ((toNat (wrap .i64 (n4+12)))-0) (b1c-0)] H15 fun r17 H18=> ∃r19,r17= .bool r19∧R (.tuple #[.string (textOf bs7),.slice (if b1c=(toNat 8) then b1p else Option.map (fun x=>Addr.add x ((toNat 8)*1)) b1p) ((toNat (wrap .i64 ((8:Int)+n4)))-(toNat 8)) (b1c-(toNat 8)),.int .i64 (wrap .i64 (n4+12)),.bool r19]) H18))→X8 [.int .i64 i9] H10)→X8 [.int .i64 0] H6)→J5 [] H6)→br (decide (n4≥2147483648)) (R (.tuple #[.string (ByteArray.mk #[]),.slice none 0 0,.int .i64 0,.bool false]) H3) (br (decide (((wrap .i64 (n4+12)):Int)>(b1l:Int))) (R (.tuple #[.string (ByteArray.mk #[]),.slice none 0 0,.int .i64 0,.bool false]) H3) (J5 [] H3)))
def Tryz.p41:Plan:=(tl (tg (tl (two (join [] [0,6] g0) (tl (two (tl (one (loop [(8,3)] [0,6,7] (two (tl (tl leaf)) (two (join [] [0,6,7,8] (one (tl g0))) leaf))))) (tl (tl leaf))))))))
theorem Tryz.s41{b1p:OA}{b1l b1c:Nat}{H R}(h:Tryz.S41 b1p b1l b1c H R):Tryz.C 41 #[.slice b1p b1l b1c] H R:=vcs Tryz.tab_ok Tryz.mixed Tryz.func41 Tryz.cal41 Tryz.p41 h (by kernel_rfl)
def Tryz.S42(a1 b2:Int)(H:Heap)(R:Kv):Prop:=
 (31:Int)≠0∧br (((Int.tmod (wrap .i64 ((wrap .i64 ((256:Int)*a1))+b2)) 31):Int)==0) ((16:Int)≠0∧br (((Int.tmod a1 16):Int)==8) ((16:Int)≠0∧br (decide (((wrap .i64 (Int.tdiv a1 16)):Int)≤7)) ((32:Int)≠0∧(2:Int)≠0∧R (.bool (((Int.tmod (wrap .i64 (Int.tdiv b2 32)) 2):Int)==0)) H) (R (.bool false) H)) (R (.bool false) H)) (R (.bool false) H)
def Tryz.p42:Plan:=(tl (tl leaf))
theorem Tryz.s42{a1 b2:Int}{H R}(h:Tryz.S42 a1 b2 H R):Tryz.C 42 #[.int .i64 a1,.int .i64 b2] H R:=vcs Tryz.tab_ok Tryz.mixed Tryz.func42 Tryz.cal42 Tryz.p42 h (by kernel_rfl)
def Tryz.S43(b1p:OA)(b1l b1c:Nat)(mo2:Int)(H:Heap)(R:Kv):Prop:=
 ∀J3:Kl,(∀(mo4:Int) H5,(alc H5 (.cells #[.slice b1p b1l b1c,.int .i64 0,.slice none 0 0,.int .i64 mo4,.int .i64 0] 96) fun b6 H7=> ∀J8:Kl,(∀H9,(∃a10,(some ⟨b6,0,none⟩)=some a10∧ ∃E11,cell H9 (.add a10 4)=some (.int .i64 E11)∧br (E11 != 0) (∃a12,(some ⟨b6,0,none⟩)=some a12∧ ∃E13,cell H9 (.add a12 4)=some (.int .i64 E13)∧R (.tuple #[.slice none 0 0,.int .i64 0,.int .i64 E13]) H9) (∃a14,(some ⟨b6,0,none⟩)=some a14∧ ∃Ou15p Ou15l Ou15c,cell H9 (.add a14 2)=some (.slice Ou15p Ou15l Ou15c)∧ ∃a16,(some ⟨b6,0,none⟩)=some a16∧ ∃At17,cell H9 (.add a16 1)=some (.int .i64 At17)∧(8:Int)≠0∧R (.tuple #[.slice Ou15p Ou15l Ou15c,.int .i64 (wrap .i64 (Int.tdiv (wrap .i64 (At17+7)) 8)),.int .i64 0]) H9))→J8 [] H9)→ ∀X18:Kl,(∀(la19:Int) H20,(∀J21:Kl,(∀H22,(Tryz.C 63 #[.pointer (some ⟨b6,0,none⟩),.int .i64 1] H22 fun r23 H24=> ∃la25,r23= .int .i64 la25∧Tryz.C 63 #[.pointer (some ⟨b6,0,none⟩),.int .i64 2] H24 fun r26 H27=> ∃ki28,r26= .int .i64 ki28∧ ∃a29,(some ⟨b6,0,none⟩)=some a29∧ ∃E30,cell H27 (.add a29 4)=some (.int .i64 E30)∧br (E30 != 0) (J8 [] H27) (br (ki28==0) (Tryz.C 64 #[.pointer (some ⟨b6,0,none⟩)] H27 fun r31 H32=>r31= .tuple #[]∧X18 [.int .i64 la25] H32) (br (ki28==1) (Tryz.C 65 #[] H27 fun r33 H34=> ∃r35 r36,r33= .tuple #[.agg r35,.agg r36]∧alc H34 (.cells #[.slice none 0 0,.slice none 0 0,.int .i64 0,.bool false] 99) fun b37 H38=>alc H38 (.cells #[.slice none 0 0,.slice none 0 0,.int .i64 0,.bool false] 99) fun b39 H40=>r35.size=4∧stAt H40 ⟨b37,0,none⟩ r35.toList fun H41=>r36.size=4∧stAt H41 ⟨b39,0,none⟩ r36.toList fun H42=> ∃v43,v43.size=4∧rowIn H42 ⟨b37,0,none⟩ v43∧ ∃v44,v44.size=4∧rowIn H42 ⟨b39,0,none⟩ v44∧Tryz.C 66 #[.pointer (some ⟨b6,0,none⟩),.agg v43,.agg v44] H42 fun r45 H46=>r45= .tuple #[]∧X18 [.int .i64 la25] H46) (br (ki28==2) (Tryz.C 67 #[.pointer (some ⟨b6,0,none⟩)] H27 fun r47 H48=> ∃r49 r50,r47= .tuple #[.agg r49,.agg r50]∧alc H48 (.cells #[.slice none 0 0,.slice none 0 0,.int .i64 0,.bool false] 99) fun b51 H52=>alc H52 (.cells #[.slice none 0 0,.slice none 0 0,.int .i64 0,.bool false] 99) fun b53 H54=>r49.size=4∧stAt H54 ⟨b51,0,none⟩ r49.toList fun H55=>r50.size=4∧stAt H55 ⟨b53,0,none⟩ r50.toList fun H56=> ∃v57,v57.size=4∧rowIn H56 ⟨b51,0,none⟩ v57∧ ∃v58,v58.size=4∧rowIn H56 ⟨b53,0,none⟩ v58∧Tryz.C 66 #[.pointer (some ⟨b6,0,none⟩),.agg v57,.agg v58] H56 fun r59 H60=>r59= .tuple #[]∧X18 [.int .i64 la25] H60) (Tryz.C 68 #[.pointer (some ⟨b6,0,none⟩),.int .i64 25] H27 fun r61 H62=>r61= .tuple #[]∧X18 [.int .i64 la25] H62)))))→J21 [] H22)→br (la19==0) (∃a63,(some ⟨b6,0,none⟩)=some a63∧ ∃E64,cell H20 (.add a63 4)=some (.int .i64 E64)∧br (E64==0) (J21 [] H20) (J8 [] H20)) (J8 [] H20))→X18 [.int .i64 la19] H20)→X18 [.int .i64 0] H7)→J3 [.int .i64 mo4] H5)→
 br (decide (mo2<0))
 (J3 [.int .i64 0] H)
 (J3 [.int .i64 mo2] H)
def Tryz.p43:Plan:=(tl (two (join [(1,3)] [0] (tl (tl leaf))) (tl (tl (two (join [] [7] (one (loop [(8,3)] [7] (two (join [] [7] (tl (tl leaf))) (one (tl (tl (two (tl (tl leaf)) (tl (one (tl (tl (tl (two (tl leaf) g0)))))))))))))) (tg (tl leaf)))))))
theorem Tryz.s43{b1p:OA}{b1l b1c:Nat}{mo2:Int}{H R}(h:Tryz.S43 b1p b1l b1c mo2 H R):Tryz.C 43 #[.slice b1p b1l b1c,.int .i64 mo2] H R:=vcs Tryz.tab_ok Tryz.mixed Tryz.func43 Tryz.cal43 Tryz.p43 h (by kernel_rfl)
def Tryz.S44(b1p:OA)(b1l b1c:Nat)(H:Heap)(R:Kv):Prop:=
 ∀X2:Kl,(∀(x3 y4 i5:Int) H6,(br (decide (i5<(b1l:Int))) (∃a7,b1p=some a7∧0≤i5∧i5<(b1l:Int)∧ ∃v8,cell H6 (.add a7 (toNat i5*1))=some (.int .u8 v8)∧(65521:Int)≠0∧(65521:Int)≠0∧X2 [.int .i64 (Int.tmod (wrap .i64 (x3+(wrap .i64 v8))) 65521),.int .i64 (Int.tmod (wrap .i64 (y4+(Int.tmod (wrap .i64 (x3+(wrap .i64 v8))) 65521))) 65521),.int .i64 (wrap .i64 (i5+1))] H6) (R (.int .i64 (wrap .i64 ((wrap .i64 ((65536:Int)*y4))+x3))) H6))→X2 [.int .i64 x3,.int .i64 y4,.int .i64 i5] H6)→X2 [.int .i64 1,.int .i64 0,.int .i64 0] H
def Tryz.p44:Plan:=(tl (tl (tl (two (tl (one (loop [(3,3),(4,3),(5,3)] [0] (two (tl (tl leaf)) (two (one (tl leaf)) leaf))))) (tl leaf)))))
theorem Tryz.s44{b1p:OA}{b1l b1c:Nat}{H R}(h:Tryz.S44 b1p b1l b1c H R):Tryz.C 44 #[.slice b1p b1l b1c] H R:=vcs Tryz.tab_ok Tryz.mixed Tryz.func44 Tryz.cal44 Tryz.p44 h (by kernel_rfl)
def Tryz.S45(ki1:Int)(li2p:OA)(li2l li2c:Nat)(ab3p:OA)(ab3l ab3c:Nat)(i4:Int)(H:Heap)(R:Kv):Prop:=
 Tryz.C 69 #[.slice li2p li2l li2c,.int .i64 (wrap .i64 (i4-4))] H fun r5 H6=> ∃a7,r5= .int .i64 a7∧Tryz.C 69 #[.slice ab3p ab3l ab3c,.int .i64 i4] H6 fun r8 H9=> ∃b10,r8= .int .i64 b10∧Tryz.C 69 #[.slice ab3p ab3l ab3c,.int .i64 (wrap .i64 (i4-4))] H9 fun r11 H12=> ∃c13,r11= .int .i64 c13∧br (ki1==1)
 (R (.int .i64 a7) H12)
 (br (ki1==2) (R (.int .i64 b10) H12) (br (ki1==3) ((2:Int)≠0∧R (.int .i64 (wrap .i64 (Int.tdiv (wrap .i64 (a7+b10)) 2))) H12) (br (ki1==4) (∀J14:Kl,(∀H15,(Tryz.C 70 #[.int .i64 (wrap .i64 ((wrap .i64 (a7+b10))-c13)),.int .i64 b10] H15 fun r16 H17=> ∃r18,r16= .int .i64 r18∧Tryz.C 70 #[.int .i64 (wrap .i64 ((wrap .i64 (a7+b10))-c13)),.int .i64 c13] H17 fun r19 H20=> ∃r21,r19= .int .i64 r21∧br (decide (r18≤r21)) (R (.int .i64 b10) H20) (R (.int .i64 c13) H20))→J14 [] H15)→Tryz.C 70 #[.int .i64 (wrap .i64 ((wrap .i64 (a7+b10))-c13)),.int .i64 a7] H12 fun r22 H23=> ∃r24,r22= .int .i64 r24∧Tryz.C 70 #[.int .i64 (wrap .i64 ((wrap .i64 (a7+b10))-c13)),.int .i64 b10] H23 fun r25 H26=> ∃r27,r25= .int .i64 r27∧br (decide (r24≤r27)) (Tryz.C 70 #[.int .i64 (wrap .i64 ((wrap .i64 (a7+b10))-c13)),.int .i64 a7] H26 fun r28 H29=> ∃r30,r28= .int .i64 r30∧Tryz.C 70 #[.int .i64 (wrap .i64 ((wrap .i64 (a7+b10))-c13)),.int .i64 c13] H29 fun r31 H32=> ∃r33,r31= .int .i64 r33∧br (decide (r30≤r33)) (R (.int .i64 a7) H32) (J14 [] H32)) (J14 [] H26)) (R (.int .i64 0) H12))))
def Tryz.p45:Plan:=(tl (tl (tl (tl (two (tl (one (tl (two (tl leaf) (tl (two (tl leaf) (tl (two (tl leaf) (tl (two (tl (two (join [] [10,11,12] g0) (tg (tl leaf)))) leaf)))))))))) (tl leaf))))))
theorem Tryz.s45{ki1:Int}{li2p:OA}{li2l li2c:Nat}{ab3p:OA}{ab3l ab3c:Nat}{i4:Int}{H R}(h:Tryz.S45 ki1 li2p li2l li2c ab3p ab3l ab3c i4 H R):Tryz.C 45 #[.int .i64 ki1,.slice li2p li2l li2c,.slice ab3p ab3l ab3c,.int .i64 i4] H R:=vcs Tryz.tab_ok Tryz.mixed Tryz.func45 Tryz.cal45 Tryz.p45 h (by kernel_rfl)
def Tryz.S46(r1:OA)(H:Heap)(R:Kv):Prop:=
 ∃a2,r1=some a2∧ ∃b3p b3l b3c,cell H (.add a2 0)=some (.slice b3p b3l b3c)∧br (decide (((b3l:Int):Int)<12))
 (R (.tuple #[.string (ByteArray.mk #[]),.slice none 0 0]) H)
 (∃a4,r1=some a4∧ ∃b5p b5l b5c,cell H (.add a4 0)=some (.slice b5p b5l b5c)∧Tryz.C 28 #[.slice b5p b5l b5c] H fun r6 H7=> ∃n8,r6= .int .i64 n8∧ ∀J9:Kl,(∀H10,(∃a11,r1=some a11∧ ∃b12p b12l b12c,cell H10 (.add a11 0)=some (.slice b12p b12l b12c)∧0≤(8:Int)∧(8:Int)≤(b12c:Int)∧0≤(4:Int)∧(4:Int)≤(8:Int)∧ ∃bs13:List Int,bsOf H10 (if b12c=(toNat 4) then b12p else Option.map (fun x=>Addr.add x ((toNat 4)*1)) b12p) ((toNat 8)-(toNat 4)) bs13∧ ∃a14,r1=some a14∧ ∃b15p b15l b15c,cell H10 (.add a14 0)=some (.slice b15p b15l b15c)∧0≤(wrap .i64 ((8:Int)+n8))∧(wrap .i64 ((8:Int)+n8))≤(b15c:Int)∧0≤(8:Int)∧(8:Int)≤(wrap .i64 ((8:Int)+n8))∧strQ (textOf bs13) 5 H10 fun by_16p by_16l by_16c H17=> ∀X18:Kl,(∀(ki19:ByteArray) (da20p:OA) (da20l da20c:Nat) (t21:Int) H22,(br (decide (t21<(by_16l:Int))) (∀J23:Kl,(∀(ki24:ByteArray) (da25p:OA) (da25l da25c:Nat) H26,(X18 [.string ki24,.slice da25p da25l da25c,.int .i64 (wrap .i64 (t21+1))] H26)→J23 [.string ki24,.slice da25p da25l da25c] H26)→ ∃a27,by_16p=some a27∧0≤t21∧t21<(by_16l:Int)∧ ∃c28,cell H22 (.add a27 (toNat t21*1))=some (.int .u8 c28)∧br (decide (c28≥97)) (br (decide (c28≤122)) (J23 [.string ki19,.slice da20p da20l da20c] H22) (br (decide (c28≥65)) (br (!(decide (c28≤90))) (R (.tuple #[.string (ByteArray.mk #[]),.slice none 0 0]) H22) (J23 [.string ki19,.slice da20p da20l da20c] H22)) (R (.tuple #[.string (ByteArray.mk #[]),.slice none 0 0]) H22))) (br (decide (c28≥65)) (br (!(decide (c28≤90))) (R (.tuple #[.string (ByteArray.mk #[]),.slice none 0 0]) H22) (J23 [.string ki19,.slice da20p da20l da20c] H22)) (R (.tuple #[.string (ByteArray.mk #[]),.slice none 0 0]) H22))) (∃a29,r1=some a29∧ ∃b30p b30l b30c,cell H22 (.add a29 0)=some (.slice b30p b30l b30c)∧0≤(wrap .i64 ((8:Int)+n8))∧(wrap .i64 ((8:Int)+n8))≤(b30l:Int)∧Tryz.C 28 #[.slice (if b30c=(toNat (wrap .i64 ((8:Int)+n8))) then b30p else Option.map (fun x=>Addr.add x ((toNat (wrap .i64 ((8:Int)+n8)))*1)) b30p) (b30l-(toNat (wrap .i64 ((8:Int)+n8)))) (b30c-(toNat (wrap .i64 ((8:Int)+n8))))] H22 fun r31 H32=> ∃r33,r31= .int .i64 r33∧strQ ki19 5 H32 fun by_34p by_34l by_34c H35=>alc H35 (.cells #[.slice by_34p by_34l by_34c,.slice da20p da20l da20c] 22) fun b36 H37=>Tryz.C 39 #[.slice (some ⟨b36,0,none⟩) 2 2] H37 fun r38 H39=> ∃r40,r38= .int .i64 r40∧br (r33 != r40) (R (.tuple #[.string (ByteArray.mk #[]),.slice none 0 0]) H39) (∃a41,r1=some a41∧ ∃b42p b42l b42c,cell H39 (.add a41 0)=some (.slice b42p b42l b42c)∧0≤(wrap .i64 ((12:Int)+n8))∧(wrap .i64 ((12:Int)+n8))≤(b42l:Int)∧ ∃a43,r1=some a43∧stAt H39 (.add a43 0) [.slice (if b42c=(toNat (wrap .i64 ((12:Int)+n8))) then b42p else Option.map (fun x=>Addr.add x ((toNat (wrap .i64 ((12:Int)+n8)))*1)) b42p) (b42l-(toNat (wrap .i64 ((12:Int)+n8)))) (b42c-(toNat (wrap .i64 ((12:Int)+n8))))] fun H44=>R (.tuple #[.string ki19,.slice da20p da20l da20c]) H44)))→X18 [.string ki19,.slice da20p da20l da20c,.int .i64 t21] H22)→X18 [.string (textOf bs13),.slice (if b15c=(toNat 8) then b15p else Option.map (fun x=>Addr.add x ((toNat 8)*1)) b15p) ((toNat (wrap .i64 ((8:Int)+n8)))-(toNat 8)) (b15c-(toNat 8)),.int .i64 0] H17)→J9 [] H10)→br (decide (n8≥2147483648)) (R (.tuple #[.string (ByteArray.mk #[]),.slice none 0 0]) H7) (∃a45,r1=some a45∧ ∃b46p b46l b46c,cell H7 (.add a45 0)=some (.slice b46p b46l b46c)∧br (decide (n8>(wrap .i64 ((b46l:Int)-12)))) (R (.tuple #[.string (ByteArray.mk #[]),.slice none 0 0]) H7) (J9 [] H7)))
def Tryz.p46:Plan:=(tl (tg (tl (two (join [] [0,4] g0) (tl (two (tl (one (loop [(2,9),(3,22),(46,3)] [0,4,44,45] (tl (two (tl leaf) (two (join [(2,9),(3,22)] [0,4,44,45,46] (one (tl g0))) leaf)))))) (tg (tl (tl leaf)))))))))
theorem Tryz.s46{r1:OA}{H R}(h:Tryz.S46 r1 H R):Tryz.C 46 #[.pointer r1] H R:=vcs Tryz.tab_ok Tryz.mixed Tryz.func46 Tryz.cal46 Tryz.p46 h (by kernel_rfl)
def Tryz.S47(a1p:OA)(a1l a1c:Nat)(b2p:OA)(b2l b2c:Nat)(H:Heap)(R:Kv):Prop:=
 ∃bs3:List Int,bsOf H a1p a1l bs3∧ ∃bs4:List Int,bsOf H b2p b2l bs4∧R (.bool (((textOf bs3):ByteArray)==(textOf bs4))) H
def Tryz.p47:Plan:=(tl (tl leaf))
theorem Tryz.s47{a1p:OA}{a1l a1c:Nat}{b2p:OA}{b2l b2c:Nat}{H R}(h:Tryz.S47 a1p a1l a1c b2p b2l b2c H R):Tryz.C 47 #[.slice a1p a1l a1c,.slice b2p b2l b2c] H R:=vcs Tryz.tab_ok Tryz.mixed Tryz.func47 Tryz.cal47 Tryz.p47 h (by kernel_rfl)
def Tryz.S48(ki1:ByteArray)(H:Heap)(R:Kv):Prop:=
 br (!((ki1:ByteArray)==(ByteArray.mk #[]))) (∃b2:UInt8,0≤(0:Int)∧ki1[toNat 0]?=some b2∧R (.bool (decide ((((UInt8.toNat b2:Nat):Int):Int)≥97))) H) (R (.bool false) H)
def Tryz.p48:Plan:=(tl (tl leaf))
theorem Tryz.s48{ki1:ByteArray}{H R}(h:Tryz.S48 ki1 H R):Tryz.C 48 #[.string ki1] H R:=vcs Tryz.tab_ok Tryz.mixed Tryz.func48 Tryz.cal48 Tryz.p48 h (by kernel_rfl)
def Tryz.S49(b1p:OA)(b1l b1c:Nat)(mo2:Int)(H:Heap)(R:Kv):Prop:=
 Tryz.C 71 #[.slice b1p b1l b1c,.bool false] H fun r3 H4=> ∃r5,r3= .pointer r5∧alc H4 (.cells #[.pointer r5,.slice none 0 0,.int .i64 (max mo2 0),.int .i64 0] 110) fun b6 H7=> ∀J8:Kl,(∀H9,(∃a10,(some ⟨b6,0,none⟩)=some a10∧ ∃e11,cell H9 (.add a10 3)=some (.int .i64 e11)∧br (e11 != 0) (∃a12,(some ⟨b6,0,none⟩)=some a12∧ ∃e13,cell H9 (.add a12 3)=some (.int .i64 e13)∧R (.tuple #[.slice none 0 0,.int .i64 0,.int .i64 e13]) H9) (∃a14,(some ⟨b6,0,none⟩)=some a14∧ ∃ou15p ou15l ou15c,cell H9 (.add a14 1)=some (.slice ou15p ou15l ou15c)∧ ∃a16,(some ⟨b6,0,none⟩)=some a16∧ ∃r17,cell H9 (.add a16 0)=some (.pointer r17)∧Tryz.C 78 #[.pointer r17] H9 fun r18 H19=> ∃r20,r18= .int .i64 r20∧(Ext H9 H19∨(∃ou21p ou21l ou21c,cell H19 (.add a14 1)=some (.slice ou21p ou21l ou21c)∧Value.slice ou21p ou21l ou21c= .slice ou15p ou15l ou15c))∧(8:Int)≠0∧R (.tuple #[.slice ou15p ou15l ou15c,.int .i64 (wrap .i64 (Int.tdiv (wrap .i64 (r20+7)) 8)),.int .i64 0]) H19))→J8 [] H9)→
 ∀X22:Kl,(∀(la23:Bool) H24,(∀J25:Kl,(∀H26,(Tryz.C 72 #[.pointer (some ⟨b6,0,none⟩),.int .i64 1] H26 fun r27 H28=> ∃r29,r27= .int .i64 r29∧Tryz.C 72 #[.pointer (some ⟨b6,0,none⟩),.int .i64 2] H28 fun r30 H31=> ∃ki32,r30= .int .i64 ki32∧ ∃a33,(some ⟨b6,0,none⟩)=some a33∧ ∃e34,cell H31 (.add a33 3)=some (.int .i64 e34)∧br (e34 != 0) (X22 [.bool (r29==1)] H31) (br (ki32==0) (Tryz.C 73 #[.pointer (some ⟨b6,0,none⟩)] H31 fun r35 H36=>r35= .tuple #[]∧X22 [.bool (r29==1)] H36) (br (ki32==1) (Tryz.C 57 #[] H31 fun r37 H38=> ∃r39p r39l r39c r40p r40l r40c,r37= .tuple #[.slice r39p r39l r39c,.slice r40p r40l r40c]∧Tryz.C 74 #[.slice r39p r39l r39c] H38 fun r41 H42=> ∃r43 r44,r41= .tuple #[.pointer r43,.bool r44]∧Tryz.C 74 #[.slice r40p r40l r40c] H42 fun r45 H46=> ∃r47 r48,r45= .tuple #[.pointer r47,.bool r48]∧Tryz.C 75 #[.pointer (some ⟨b6,0,none⟩),.pointer r43,.pointer r47] H46 fun r49 H50=>r49= .tuple #[]∧X22 [.bool (r29==1)] H50) (br (ki32==2) (Tryz.C 76 #[.pointer (some ⟨b6,0,none⟩)] H31 fun r51 H52=> ∃r53 r54,r51= .tuple #[.pointer r53,.pointer r54]∧Tryz.C 75 #[.pointer (some ⟨b6,0,none⟩),.pointer r53,.pointer r54] H52 fun r55 H56=>r55= .tuple #[]∧X22 [.bool (r29==1)] H56) (Tryz.C 77 #[.pointer (some ⟨b6,0,none⟩),.int .i64 25] H31 fun r57 H58=>r57= .tuple #[]∧X22 [.bool (r29==1)] H58)))))→J25 [] H26)→br (!la23) (∃a59,(some ⟨b6,0,none⟩)=some a59∧ ∃e60,cell H24 (.add a59 3)=some (.int .i64 e60)∧br (e60==0) (J25 [] H24) (J8 [] H24)) (J8 [] H24))→X22 [.bool la23] H24)→X22 [.bool false] H7
def Tryz.p49:Plan:=(tl (tl (two (join [] [7] (tl (one (loop [(8,4)] [7] (two (join [] [7] (tl (tl leaf))) (one (tl (tl (one (tl (tl (tl (tl (tl (two (tl (tl (tl leaf))) g0))))))))))))))) (tg (tl leaf)))))
theorem Tryz.s49{b1p:OA}{b1l b1c:Nat}{mo2:Int}{H R}(h:Tryz.S49 b1p b1l b1c mo2 H R):Tryz.C 49 #[.slice b1p b1l b1c,.int .i64 mo2] H R:=vcs Tryz.tab_ok Tryz.mixed Tryz.func49 Tryz.cal49 Tryz.p49 h (by kernel_rfl)
end Go.Proofs
namespace Go.Proofs
open Go.Sh Go.Sh.Plan
open Go.IntKind (wrap)
open Int (toNat)
def Tryz.S50(s1p:OA)(s1l s1c:Nat)(H:Heap)(R:Kv):Prop:=
 br (Option.isNone s1p)
 (R (.slice none 0 0) H)
 (alc H (.cells #[] 5) fun b2 H3=>appQ 1 1 #[.int .u8 0] H3 (some ⟨b2,0,none⟩) 0 0 s1p s1l 5 fun ap4p ap4l ap4c H5=>R (.slice ap4p ap4l ap4c) H5)
def Tryz.p50:Plan:=(tl (tg (tl leaf)))
theorem Tryz.s50{s1p:OA}{s1l s1c:Nat}{H R}(h:Tryz.S50 s1p s1l s1c H R):Tryz.C 50 #[.slice s1p s1l s1c] H R:=vcs Tryz.tab_ok Tryz.mixed Tryz.func50 Tryz.cal50 Tryz.p50 h (by kernel_rfl)
def Tryz.S51(su1:Int)(b2p:OA)(b2l b2c:Nat)(H:Heap)(R:Kv):Prop:=
 0≤(16:Int)∧ ∀X3:Kl,(∀(lo4 hi5 t6:Int) H7,(br (decide (t6<(b2l:Int))) (∃a8,b2p=some a8∧0≤t6∧t6<(b2l:Int)∧ ∃x9,cell H7 (.add a8 (toNat t6*1))=some (.int .u8 x9)∧(65521:Int)≠0∧(65521:Int)≠0∧X3 [.int .i64 (Int.tmod (wrap .i64 (lo4+(wrap .i64 x9))) 65521),.int .i64 (Int.tmod (wrap .i64 (hi5+(Int.tmod (wrap .i64 (lo4+(wrap .i64 x9))) 65521))) 65521),.int .i64 (wrap .i64 (t6+1))] H7) (0≤(16:Int)∧R (.int .i64 (orI .i64 (shlI .i64 hi5 16) lo4)) H7))→X3 [.int .i64 lo4,.int .i64 hi5,.int .i64 t6] H7)→X3 [.int .i64 (andI .i64 su1 65535),.int .i64 (shrI .i64 su1 16),.int .i64 0] H
def Tryz.p51:Plan:=(tl (tl (two (tl (one (loop [(5,3),(6,3),(15,3)] [13,14] (tl (two (tl leaf) (two (one (tl (tl leaf))) leaf)))))) (tl leaf))))
theorem Tryz.s51{su1:Int}{b2p:OA}{b2l b2c:Nat}{H R}(h:Tryz.S51 su1 b2p b2l b2c H R):Tryz.C 51 #[.int .i64 su1,.slice b2p b2l b2c] H R:=vcs Tryz.tab_ok Tryz.mixed Tryz.func51 Tryz.cal51 Tryz.p51 h (by kernel_rfl)
def Tryz.S52(b1p:OA)(b1l b1c:Nat)(ef2:Int)(H:Heap)(R:Kv):Prop:=
 br (decide (ef2≤0))
 (∀X3:Kl,(∀(ou4p:OA) (ou4l ou4c:Nat) (t5:Int) H6,(br (decide (t5<(b1l:Int))) (∃a7,b1p=some a7∧0≤t5∧t5<(b1l:Int)∧ ∃c8,cell H6 (.add a7 (toNat t5*1))=some (.int .u8 c8)∧#[Value.int .i64 0,Value.int .i64 0,Value.int .u8 c8].size=3∧0+3≤3∧alc H6 (.cells (List.toArray (setL [.int .i64 0,.int .i64 0,.int .u8 0] 0 (Array.toList #[.int .i64 0,.int .i64 0,.int .u8 c8]))) 120) fun b9 H10=>appQ 3 24 #[.int .i64 0,.int .i64 0,.int .u8 0] H10 ou4p ou4l ou4c (some ⟨b9,0,none⟩) 1 120 fun ou11p ou11l ou11c H12=>X3 [.slice ou11p ou11l ou11c,.int .i64 (wrap .i64 (t5+1))] H12) (R (.slice ou4p ou4l ou4c) H6))→X3 [.slice ou4p ou4l ou4c,.int .i64 t5] H6)→X3 [.slice none 0 0,.int .i64 0] H)
 (∀J13:Kl,(∀(f14:OA) H15,(∀X16:Kl,(∀(ou17p:OA) (ou17l ou17c:Nat) (at_18:Int) H19,(br (decide (at_18<(b1l:Int))) (Tryz.C 79 #[.pointer f14,.int .i64 at_18,.int .i64 (min ef2 64)] H19 fun r20 H21=> ∃r22 r23,r20= .tuple #[.int .i64 r22,.int .i64 r23]∧br (r22==0) (∃a24,b1p=some a24∧0≤at_18∧at_18<(b1l:Int)∧ ∃v25,cell H21 (.add a24 (toNat at_18*1))=some (.int .u8 v25)∧#[Value.int .i64 0,Value.int .i64 0,Value.int .u8 v25].size=3∧0+3≤3∧alc H21 (.cells (List.toArray (setL [.int .i64 0,.int .i64 0,.int .u8 0] 0 (Array.toList #[.int .i64 0,.int .i64 0,.int .u8 v25]))) 120) fun b26 H27=>appQ 3 24 #[.int .i64 0,.int .i64 0,.int .u8 0] H27 ou17p ou17l ou17c (some ⟨b26,0,none⟩) 1 120 fun ou28p ou28l ou28c H29=>Tryz.C 80 #[.pointer f14,.int .i64 at_18] H29 fun r30 H31=>r30= .tuple #[]∧X16 [.slice ou28p ou28l ou28c,.int .i64 (wrap .i64 (at_18+1))] H31) (#[Value.int .i64 r22,Value.int .i64 r23,Value.int .u8 0].size=3∧0+3≤3∧alc H21 (.cells (List.toArray (setL [.int .i64 0,.int .i64 0,.int .u8 0] 0 (Array.toList #[.int .i64 r22,.int .i64 r23,.int .u8 0]))) 120) fun b32 H33=>appQ 3 24 #[.int .i64 0,.int .i64 0,.int .u8 0] H33 ou17p ou17l ou17c (some ⟨b32,0,none⟩) 1 120 fun ou34p ou34l ou34c H35=> ∀X36:Kl,(∀(at_37 t38:Int) H39,(br (decide (t38<r22)) (Tryz.C 80 #[.pointer f14,.int .i64 at_37] H39 fun r40 H41=>r40= .tuple #[]∧X36 [.int .i64 (wrap .i64 (at_37+1)),.int .i64 (wrap .i64 (t38+1))] H41) (X16 [.slice ou34p ou34l ou34c,.int .i64 at_37] H39))→X36 [.int .i64 at_37,.int .i64 t38] H39)→X36 [.int .i64 at_18,.int .i64 0] H35)) (R (.slice ou17p ou17l ou17c) H19))→X16 [.slice ou17p ou17l ou17c,.int .i64 at_18] H19)→X16 [.slice none 0 0,.int .i64 0] H15)→J13 [.pointer f14] H15)→(0≤(4096:Int)∧(4096:Int)≤(4096:Int)∧((8:Nat):Int)*(4096:Int)≤281474976710656∧(4096:Int)≤281474976710656∧alc H (.cells (List.toArray (reps (toNat 4096) (Array.toList #[.int .i64 0]))) 3) fun b42 H43=>(Ext H H43∨(Value.int .i64 (b1l:Int)= .int .i64 (b1l:Int)))∧0≤(b1l:Int)∧(b1l:Int)≤(b1l:Int)∧((8:Nat):Int)*(b1l:Int)≤281474976710656∧(b1l:Int)≤281474976710656∧alc H43 (.cells (List.toArray (reps (toNat (b1l:Int)) (Array.toList #[.int .i64 0]))) 3) fun b44 H45=>alc H45 (.cells #[.slice b1p b1l b1c,.slice (some ⟨b42,0,none⟩) (toNat 4096) (toNat 4096),.slice (some ⟨b44,0,none⟩) (toNat (b1l:Int)) (toNat (b1l:Int))] 123) fun b46 H47=>J13 [.pointer (some ⟨b46,0,none⟩)] H47)∧(0≤(b1l:Int)∧(b1l:Int)≤(b1l:Int)∧((8:Nat):Int)*(b1l:Int)≤281474976710656∧(b1l:Int)≤281474976710656∧alc H (.cells (List.toArray (reps (toNat (b1l:Int)) (Array.toList #[.int .i64 0]))) 3) fun b48 H49=>0≤(4096:Int)∧(4096:Int)≤(4096:Int)∧((8:Nat):Int)*(4096:Int)≤281474976710656∧(4096:Int)≤281474976710656∧alc H49 (.cells (List.toArray (reps (toNat 4096) (Array.toList #[.int .i64 0]))) 3) fun b50 H51=>alc H51 (.cells #[.slice b1p b1l b1c,.slice (some ⟨b50,0,none⟩) (toNat 4096) (toNat 4096),.slice (some ⟨b48,0,none⟩) (toNat (b1l:Int)) (toNat (b1l:Int))] 123) fun b52 H53=>J13 [.pointer (some ⟨b52,0,none⟩)] H53))
def Tryz.p52:Plan:=(tl (tl (two (tl (two (two (tl (one (loop [(5,79),(16,3)] [14,15] (tl (two (tl leaf) (two (one (tl leaf)) leaf)))))) (tl leaf)) leaf)) (tl (two (join [(8,121)] [0,1,5] leaf) (two (tl (one (loop [(5,79),(9,3)] [0,1,8] (two (tl (tl leaf)) (one (tl (two (tl (two (tl (tl (tl leaf))) leaf)) (tl (tl (one (loop [(9,3),(69,3)] [0,1,5,8,68] (tl (two (tl leaf) (two (one (tl leaf)) leaf)))))))))))))) (tl leaf)))))))
theorem Tryz.s52{b1p:OA}{b1l b1c:Nat}{ef2:Int}{H R}(h:Tryz.S52 b1p b1l b1c ef2 H R):Tryz.C 52 #[.slice b1p b1l b1c,.int .i64 ef2] H R:=vcs Tryz.tab_ok Tryz.mixed Tryz.func52 Tryz.cal52 Tryz.p52 h (by kernel_rfl)
def Tryz.S53(hi1:Bool)(H:Heap)(R:Kv):Prop:=
 alc H (.cells #[.slice none 0 0,.int .i64 0,.bool hi1] 127) fun b2 H3=>R (.pointer (some ⟨b2,0,none⟩)) H3
def Tryz.p53:Plan:=(tl (tl leaf))
theorem Tryz.s53{hi1:Bool}{H R}(h:Tryz.S53 hi1 H R):Tryz.C 53 #[.bool hi1] H R:=vcs Tryz.tab_ok Tryz.mixed Tryz.func53 Tryz.cal53 Tryz.p53 h (by kernel_rfl)
def Tryz.S54(w1:OA)(v2 n3:Int)(H:Heap)(R:Kv):Prop:=
 ∀J4:Kl,(∀H5,(∀X6:Kl,(∀(k7:Int) H8,(br (decide (k7<n3)) (∀J9:Kl,(∀(k10:Int) H11,(0≤k10∧Tryz.C 81 #[.pointer w1,.int .i64 (shrI .i64 v2 k10)] H11 fun r12 H13=>r12= .tuple #[]∧X6 [.int .i64 (wrap .i64 (k7+1))] H13)→J9 [.int .i64 k10] H11)→ ∃a14,w1=some a14∧ ∃hi15,cell H8 (.add a14 2)=some (.bool hi15)∧br hi15 (J9 [.int .i64 (wrap .i64 ((wrap .i64 (n3-1))-k7))] H8) (J9 [.int .i64 k7] H8)) (R (.bool true) H8))→X6 [.int .i64 k7] H8)→X6 [.int .i64 0] H5)→J4 [] H5)→
 br (decide (n3<0)) (R (.bool false) H) (br (decide (n3>24)) (R (.bool false) H) (br (decide (v2<0)) (R (.bool false) H) (0≤n3∧br (decide (v2≥(shlI .i64 1 n3))) (R (.bool false) H) (J4 [] H))))
def Tryz.p54:Plan:=(tl (two (join [] [0,1,2] g0) (two (tl (one (loop [(25,3)] [0,1,2,24] (tl (two (tl leaf) (two (one (tl (two (join [(7,3)] [0,1,2,24,25] (tl (tl leaf))) leaf))) leaf)))))) (tl leaf))))
theorem Tryz.s54{w1:OA}{v2 n3:Int}{H R}(h:Tryz.S54 w1 v2 n3 H R):Tryz.C 54 #[.pointer w1,.int .i64 v2,.int .i64 n3] H R:=vcs Tryz.tab_ok Tryz.mixed Tryz.func54 Tryz.cal54 Tryz.p54 h (by kernel_rfl)
def Tryz.S55(d1:AV)(li2p:OA)(li2l li2c:Nat)(c3:AV)(H:Heap)(R:Kv):Prop:=
 alc H (.cells d1 84) fun b4 H5=>alc H5 (.cells c3 88) fun b6 H7=> ∀X8:Kl,(∀(t9:Int) H10,(br (decide (t9<(li2l:Int))) (∃a11,li2p=some a11∧0≤t9∧t9<(li2l:Int)∧ ∃v12,v12.size=3∧rowIn H10 (.add a11 (toNat t9*3)) v12∧alc H10 (.cells #[.int .i64 0,.int .i64 0,.int .u8 0] 120) fun b13 H14=>v12.size=3∧stAt H14 ⟨b13,0,none⟩ v12.toList fun H15=> ∃Le16,cell H15 (.add ⟨b13,0,none⟩ 0)=some (.int .i64 Le16)∧br (Le16==0) (∃v17,v17.size=1∧rowIn H15 ⟨b4,0,none⟩ v17∧ ∃l18p l18l l18c,cell H15 (.add ⟨b6,0,none⟩ 2)=some (.slice l18p l18l l18c)∧ ∃Li19,cell H15 (.add ⟨b13,0,none⟩ 2)=some (.int .u8 Li19)∧ ∃a20,l18p=some a20∧0≤Li19∧Li19<(l18l:Int)∧ ∃v21,cell H15 (.add a20 (toNat Li19*1))=some (.int .i64 v21)∧ ∃li22p li22l li22c,cell H15 (.add ⟨b6,0,none⟩ 0)=some (.slice li22p li22l li22c)∧ ∃Li23,cell H15 (.add ⟨b13,0,none⟩ 2)=some (.int .u8 Li23)∧ ∃a24,li22p=some a24∧0≤Li23∧Li23<(li22l:Int)∧ ∃v25,cell H15 (.add a24 (toNat Li23*1))=some (.int .i64 v25)∧Tryz.C 82 #[.agg v17,.int .i64 v21,.int .i64 v25] H15 fun r26 H27=>r26= .tuple #[]∧X8 [.int .i64 (wrap .i64 (t9+1))] H27) (∃Le28,cell H15 (.add ⟨b13,0,none⟩ 0)=some (.int .i64 Le28)∧Tryz.C 83 #[.int .i64 Le28] H15 fun r29 H30=> ∃r31 r32 r33,r29= .tuple #[.int .i64 r31,.int .i64 r32,.int .i64 r33]∧ ∃v34,v34.size=1∧rowIn H30 ⟨b4,0,none⟩ v34∧ ∃l35p l35l l35c,cell H30 (.add ⟨b6,0,none⟩ 2)=some (.slice l35p l35l l35c)∧ ∃a36,l35p=some a36∧0≤r31∧r31<(l35l:Int)∧ ∃v37,cell H30 (.add a36 (toNat r31*1))=some (.int .i64 v37)∧ ∃li38p li38l li38c,cell H30 (.add ⟨b6,0,none⟩ 0)=some (.slice li38p li38l li38c)∧ ∃a39,li38p=some a39∧0≤r31∧r31<(li38l:Int)∧ ∃v40,cell H30 (.add a39 (toNat r31*1))=some (.int .i64 v40)∧Tryz.C 82 #[.agg v34,.int .i64 v37,.int .i64 v40] H30 fun r41 H42=>r41= .tuple #[]∧ ∃Wr43,cell H42 (.add ⟨b4,0,none⟩ 0)=some (.pointer Wr43)∧Tryz.C 54 #[.pointer Wr43,.int .i64 r32,.int .i64 r33] H42 fun r44 H45=> ∃r46,r44= .bool r46∧ ∃Di47,cell H45 (.add ⟨b13,0,none⟩ 1)=some (.int .i64 Di47)∧Tryz.C 84 #[.int .i64 Di47,.int .i64 0,.int .i64 29,.func (.func 85) #[] #[]] H45 fun r48 H49=> ∃r50 r51 r52,r48= .tuple #[.int .i64 r50,.int .i64 r51,.int .i64 r52]∧ ∃v53,v53.size=1∧rowIn H49 ⟨b4,0,none⟩ v53∧ ∃d54p d54l d54c,cell H49 (.add ⟨b6,0,none⟩ 3)=some (.slice d54p d54l d54c)∧ ∃a55,d54p=some a55∧0≤r50∧r50<(d54l:Int)∧ ∃v56,cell H49 (.add a55 (toNat r50*1))=some (.int .i64 v56)∧ ∃di57p di57l di57c,cell H49 (.add ⟨b6,0,none⟩ 1)=some (.slice di57p di57l di57c)∧ ∃a58,di57p=some a58∧0≤r50∧r50<(di57l:Int)∧ ∃v59,cell H49 (.add a58 (toNat r50*1))=some (.int .i64 v59)∧Tryz.C 82 #[.agg v53,.int .i64 v56,.int .i64 v59] H49 fun r60 H61=>r60= .tuple #[]∧ ∃Wr62,cell H61 (.add ⟨b4,0,none⟩ 0)=some (.pointer Wr62)∧Tryz.C 54 #[.pointer Wr62,.int .i64 r51,.int .i64 r52] H61 fun r63 H64=> ∃r65,r63= .bool r65∧X8 [.int .i64 (wrap .i64 (t9+1))] H64)) (∃v66,v66.size=1∧rowIn H10 ⟨b4,0,none⟩ v66∧ ∃l67p l67l l67c,cell H10 (.add ⟨b6,0,none⟩ 2)=some (.slice l67p l67l l67c)∧ ∃a68,l67p=some a68∧0≤(256:Int)∧(256:Int)<(l67l:Int)∧ ∃v69,cell H10 (.add a68 (toNat (256:Int)*1))=some (.int .i64 v69)∧ ∃li70p li70l li70c,cell H10 (.add ⟨b6,0,none⟩ 0)=some (.slice li70p li70l li70c)∧ ∃a71,li70p=some a71∧0≤(256:Int)∧(256:Int)<(li70l:Int)∧ ∃v72,cell H10 (.add a71 (toNat (256:Int)*1))=some (.int .i64 v72)∧Tryz.C 82 #[.agg v66,.int .i64 v69,.int .i64 v72] H10 fun r73 H74=>r73= .tuple #[]∧R (.tuple #[]) H74))→X8 [.int .i64 t9] H10)→X8 [.int .i64 0] H7
def Tryz.p55:Plan:=(tl (two (tl (one (loop [(13,3)] [3,5,11,12] (tl (two (tl leaf) (two (one (tl (tg (tl (tl (tl (tl (tl leaf)))))))) leaf)))))) leaf))
theorem Tryz.s55{d1:AV}{li2p:OA}{li2l li2c:Nat}{c3:AV}{H R}(h:Tryz.S55 d1 li2p li2l li2c c3 H R):Tryz.C 55 #[.agg d1,.slice li2p li2l li2c,.agg c3] H R:=vcs Tryz.tab_ok Tryz.mixed Tryz.func55 Tryz.cal55 Tryz.p55 h (by kernel_rfl)
def Tryz.S56(li1p:OA)(li1l li1c:Nat)(di2p:OA)(di2l di2c:Nat)(H:Heap)(R:Kv):Prop:=
 alc H (.cells #[.slice none 0 0,.slice none 0 0,.slice none 0 0,.slice none 0 0] 88) fun b3 H4=>Tryz.C 86 #[.slice li1p li1l li1c] H4 fun r5 H6=> ∃r7p r7l r7c r8,r5= .tuple #[.slice r7p r7l r7c,.bool r8]∧Tryz.C 86 #[.slice di2p di2l di2c] H6 fun r9 H10=> ∃r11p r11l r11c r12,r9= .tuple #[.slice r11p r11l r11c,.bool r12]∧#[Value.slice li1p li1l li1c,Value.slice di2p di2l di2c,Value.slice r7p r7l r7c,Value.slice r11p r11l r11c].size=4∧stAt H10 ⟨b3,0,none⟩ (Array.toList #[.slice li1p li1l li1c,.slice di2p di2l di2c,.slice r7p r7l r7c,.slice r11p r11l r11c]) fun H13=> ∃re14,re14.size=4∧rowIn H13 ⟨b3,0,none⟩ re14∧R (.agg re14) H13
def Tryz.p56:Plan:=(tl (tl (tl (tl leaf))))
theorem Tryz.s56{li1p:OA}{li1l li1c:Nat}{di2p:OA}{di2l di2c:Nat}{H R}(h:Tryz.S56 li1p li1l li1c di2p di2l di2c H R):Tryz.C 56 #[.slice li1p li1l li1c,.slice di2p di2l di2c] H R:=vcs Tryz.tab_ok Tryz.mixed Tryz.func56 Tryz.cal56 Tryz.p56 h (by kernel_rfl)
def Tryz.S57(H:Heap)(R:Kv):Prop:=
 ∀X1:Kl,(∀(li2p:OA) (li2l li2c:Nat) (s3:Int) H4,(br (decide (s3<288)) (∀J5:Kl,(∀(n6:Int) H7,(alc H7 (.cells #[.int .i64 n6] 3) fun b8 H9=>appQ 1 8 #[.int .i64 0] H9 li2p li2l li2c (some ⟨b8,0,none⟩) 1 3 fun li10p li10l li10c H11=>X1 [.slice li10p li10l li10c,.int .i64 (wrap .i64 (s3+1))] H11)→J5 [.int .i64 n6] H7)→br (decide (s3≥144)) (br (decide (s3<256)) (J5 [.int .i64 9] H4) (br (decide (s3≥256)) (br (decide (s3<280)) (J5 [.int .i64 7] H4) (J5 [.int .i64 8] H4)) (J5 [.int .i64 8] H4))) (br (decide (s3≥256)) (br (decide (s3<280)) (J5 [.int .i64 7] H4) (J5 [.int .i64 8] H4)) (J5 [.int .i64 8] H4))) (∀X12:Kl,(∀(di13p:OA) (di13l di13c:Nat) (t14:Int) H15,(br (decide (t14<32)) (alc H15 (.cells #[.int .i64 5] 3) fun b16 H17=>appQ 1 8 #[.int .i64 0] H17 di13p di13l di13c (some ⟨b16,0,none⟩) 1 3 fun di18p di18l di18c H19=>X12 [.slice di18p di18l di18c,.int .i64 (wrap .i64 (t14+1))] H19) (R (.tuple #[.slice li2p li2l li2c,.slice di13p di13l di13c]) H15))→X12 [.slice di13p di13l di13c,.int .i64 t14] H15)→X12 [.slice none 0 0,.int .i64 0] H4))→X1 [.slice li2p li2l li2c,.int .i64 s3] H4)→X1 [.slice none 0 0,.int .i64 0] H
def Tryz.p57:Plan:=(tl (two (tl (one (loop [(0,86),(4,3)] [1] (tl (two (tl leaf) (two (one (tl (tl (two (join [(3,3)] [0,1,4] (tl (tl (tl (tl leaf))))) leaf)))) leaf)))))) (two (tl (one (loop [(1,86),(24,3)] [0] (tl (two (tl leaf) (two (one leaf) leaf)))))) (tl leaf))))
theorem Tryz.s57{_u:Unit}{H R}(h:Tryz.S57 H R):Tryz.C 57 #[] H R:=vcs Tryz.tab_ok Tryz.mixed Tryz.func57 Tryz.cal57 Tryz.p57 h (by kernel_rfl)
def Tryz.S58(w1:OA)(H:Heap)(R:Kv):Prop:=
 ∃a2,w1=some a2∧ ∃b3p b3l b3c,cell H (.add a2 0)=some (.slice b3p b3l b3c)∧Tryz.C 50 #[.slice b3p b3l b3c] H fun r4 H5=> ∃r6p r6l r6c,r4= .slice r6p r6l r6c∧R (.slice r6p r6l r6c) H5
def Tryz.p58:Plan:=(tl (tl leaf))
theorem Tryz.s58{w1:OA}{H R}(h:Tryz.S58 w1 H R):Tryz.C 58 #[.pointer w1] H R:=vcs Tryz.tab_ok Tryz.mixed Tryz.func58 Tryz.cal58 Tryz.p58 h (by kernel_rfl)
def Tryz.S59(d1:AV)(li2p:OA)(li2l li2c:Nat)(la3:Int)(H:Heap)(R:Kv):Prop:=
 alc H (.cells d1 84) fun b4 H5=>Tryz.C 87 #[.slice li2p li2l li2c] H5 fun r6 H7=> ∃r8p r8l r8c r9p r9l r9c,r6= .tuple #[.slice r8p r8l r8c,.slice r9p r9l r9c]∧Tryz.C 88 #[.slice r8p r8l r8c] H7 fun r10 H11=> ∃r12p r12l r12c,r10= .slice r12p r12l r12c∧Tryz.C 88 #[.slice r9p r9l r9c] H11 fun r13 H14=> ∃r15p r15l r15c,r13= .slice r15p r15l r15c∧Tryz.C 56 #[.slice r12p r12l r12c,.slice r15p r15l r15c] H14 fun r16 H17=> ∃r18,r16= .agg r18∧alc H17 (.cells #[.slice none 0 0,.slice none 0 0,.slice none 0 0,.slice none 0 0] 88) fun b19 H20=>r18.size=4∧stAt H20 ⟨b19,0,none⟩ r18.toList fun H21=> ∃li22p li22l li22c,cell H21 (.add ⟨b19,0,none⟩ 0)=some (.slice li22p li22l li22c)∧ ∃di23p di23l di23c,cell H21 (.add ⟨b19,0,none⟩ 1)=some (.slice di23p di23l di23c)∧alc H21 (.cells #[.slice li22p li22l li22c,.slice di23p di23l di23c] 86) fun b24 H25=>Tryz.C 89 #[.slice (some ⟨b24,0,none⟩) 2 2] H25 fun r26 H27=> ∃al28p al28l al28c,r26= .slice al28p al28l al28c∧0≤(19:Int)∧(19:Int)≤(19:Int)∧((8:Nat):Int)*(19:Int)≤281474976710656∧(19:Int)≤281474976710656∧alc H27 (.cells (List.toArray (reps (toNat 19) (Array.toList #[.int .i64 0]))) 3) fun b29 H30=> ∀X31:Kl,(∀(t32:Int) H33,(br (decide (t32<(al28l:Int))) (∃a34,al28p=some a34∧0≤t32∧t32<(al28l:Int)∧ ∃n35,cell H33 (.add a34 (toNat t32*1))=some (.int .i64 n35)∧ ∃a36,(some ⟨b29,0,none⟩)=some a36∧0≤n35∧n35<(((toNat 19):Nat):Int)∧ ∃v37,cell H33 (.add a36 (toNat n35*1))=some (.int .i64 v37)∧ ∃a38,(some ⟨b29,0,none⟩)=some a38∧0≤n35∧n35<(((toNat 19):Nat):Int)∧stAt H33 (.add a38 (toNat n35*1)) [.int .i64 (wrap .i64 (v37+1))] fun H39=>X31 [.int .i64 (wrap .i64 (t32+1))] H39) (Tryz.C 91 #[.slice (some ⟨b29,0,none⟩) (toNat 19) (toNat 19)] H33 fun r40 H41=> ∃r42p r42l r42c,r40= .slice r42p r42l r42c∧Tryz.C 90 #[.slice r42p r42l r42c,.int .i64 7] H41 fun r43 H44=> ∃r45p r45l r45c r46,r43= .tuple #[.slice r45p r45l r45c,.bool r46]∧Tryz.C 86 #[.slice r45p r45l r45c] H44 fun r47 H48=> ∃r49p r49l r49c r50,r47= .tuple #[.slice r49p r49l r49c,.bool r50]∧ ∃Wr51,cell H48 (.add ⟨b4,0,none⟩ 0)=some (.pointer Wr51)∧Tryz.C 54 #[.pointer Wr51,.int .i64 la3,.int .i64 1] H48 fun r52 H53=> ∃r54,r52= .bool r54∧ ∃Wr55,cell H53 (.add ⟨b4,0,none⟩ 0)=some (.pointer Wr55)∧Tryz.C 54 #[.pointer Wr55,.int .i64 2,.int .i64 2] H53 fun r56 H57=> ∃r58,r56= .bool r58∧ ∃Wr59,cell H57 (.add ⟨b4,0,none⟩ 0)=some (.pointer Wr59)∧ ∃li60p li60l li60c,cell H57 (.add ⟨b19,0,none⟩ 0)=some (.slice li60p li60l li60c)∧Tryz.C 54 #[.pointer Wr59,.int .i64 (wrap .i64 ((li60l:Int)-257)),.int .i64 5] H57 fun r61 H62=> ∃r63,r61= .bool r63∧ ∃Wr64,cell H62 (.add ⟨b4,0,none⟩ 0)=some (.pointer Wr64)∧ ∃di65p di65l di65c,cell H62 (.add ⟨b19,0,none⟩ 1)=some (.slice di65p di65l di65c)∧Tryz.C 54 #[.pointer Wr64,.int .i64 (wrap .i64 ((di65l:Int)-1)),.int .i64 5] H62 fun r66 H67=> ∃r68,r66= .bool r68∧ ∃Wr69,cell H67 (.add ⟨b4,0,none⟩ 0)=some (.pointer Wr69)∧Tryz.C 54 #[.pointer Wr69,.int .i64 15,.int .i64 4] H67 fun r70 H71=> ∃r72,r70= .bool r72∧Tryz.C 92 #[] H71 fun r73 H74=> ∃r75p r75l r75c,r73= .slice r75p r75l r75c∧ ∀X76:Kl,(∀(t77:Int) H78,(br (decide (t77<(r75l:Int))) (∃a79,r75p=some a79∧0≤t77∧t77<(r75l:Int)∧ ∃s80,cell H78 (.add a79 (toNat t77*1))=some (.int .i64 s80)∧ ∃Wr81,cell H78 (.add ⟨b4,0,none⟩ 0)=some (.pointer Wr81)∧ ∃a82,r45p=some a82∧0≤s80∧s80<(r45l:Int)∧ ∃v83,cell H78 (.add a82 (toNat s80*1))=some (.int .i64 v83)∧Tryz.C 54 #[.pointer Wr81,.int .i64 v83,.int .i64 3] H78 fun r84 H85=> ∃r86,r84= .bool r86∧X76 [.int .i64 (wrap .i64 (t77+1))] H85) (∀X87:Kl,(∀(t88:Int) H89,(br (decide (t88<(al28l:Int))) (∃a90,al28p=some a90∧0≤t88∧t88<(al28l:Int)∧ ∃n91,cell H89 (.add a90 (toNat t88*1))=some (.int .i64 n91)∧ ∃v92,v92.size=1∧rowIn H89 ⟨b4,0,none⟩ v92∧ ∃a93,r49p=some a93∧0≤n91∧n91<(r49l:Int)∧ ∃v94,cell H89 (.add a93 (toNat n91*1))=some (.int .i64 v94)∧ ∃a95,r45p=some a95∧0≤n91∧n91<(r45l:Int)∧ ∃v96,cell H89 (.add a95 (toNat n91*1))=some (.int .i64 v96)∧Tryz.C 82 #[.agg v92,.int .i64 v94,.int .i64 v96] H89 fun r97 H98=>r97= .tuple #[]∧X87 [.int .i64 (wrap .i64 (t88+1))] H98) (∃v99,v99.size=1∧rowIn H89 ⟨b4,0,none⟩ v99∧ ∃v100,v100.size=4∧rowIn H89 ⟨b19,0,none⟩ v100∧Tryz.C 55 #[.agg v99,.slice li2p li2l li2c,.agg v100] H89 fun r101 H102=>r101= .tuple #[]∧R (.tuple #[]) H102))→X87 [.int .i64 t88] H89)→X87 [.int .i64 0] H78))→X76 [.int .i64 t77] H78)→X76 [.int .i64 0] H74))→X31 [.int .i64 t32] H33)→X31 [.int .i64 0] H30
def Tryz.p59:Plan:=(tl (tl (tl (tl (tl (two (tl (one (loop [(40,3)] [1,2,3,8,9,10,38,39] (tl (two (tl leaf) (two (one (tl leaf)) leaf)))))) (tl (tl (tl (tl (tl (tl (tl (two (tl (one (loop [(88,3)] [1,3,8,9,13,15,86,87] (tl (two (tl leaf) (two (one (tl leaf)) leaf)))))) (two (tl (one (loop [(102,3)] [1,3,8,13,15,100,101] (tl (two (tl leaf) (two (one (tl leaf)) leaf)))))) leaf)))))))))))))))
theorem Tryz.s59{d1:AV}{li2p:OA}{li2l li2c:Nat}{la3:Int}{H R}(h:Tryz.S59 d1 li2p li2l li2c la3 H R):Tryz.C 59 #[.agg d1,.slice li2p li2l li2c,.int .i64 la3] H R:=vcs Tryz.tab_ok Tryz.mixed Tryz.func59 Tryz.cal59 Tryz.p59 h (by kernel_rfl)
def Tryz.S60(b1p:OA)(b1l b1c:Nat)(H:Heap)(R:Kv):Prop:=
 Tryz.C 53 #[.bool false] H fun r2 H3=> ∃r4,r2= .pointer r4∧alc H3 (.cells #[.pointer none] 84) fun b5 H6=>#[Value.pointer r4].size=1∧stAt H6 ⟨b5,0,none⟩ (Array.toList #[.pointer r4]) fun H7=> ∀X8:Kl,(∀(b9p:OA) (b9l b9c:Nat) (la10:Bool) H11,(br (!la10) (∀J12:Kl,(∀H13,(∃Wr14,cell H13 (.add ⟨b5,0,none⟩ 0)=some (.pointer Wr14)∧Tryz.C 93 #[.pointer Wr14,.int .i64 0] H13 fun r15 H16=>r15= .tuple #[]∧ ∃Wr17,cell H16 (.add ⟨b5,0,none⟩ 0)=some (.pointer Wr17)∧Tryz.C 54 #[.pointer Wr17,.int .i64 (min (b9l:Int) 65535),.int .i64 16] H16 fun r18 H19=> ∃r20,r18= .bool r20∧ ∃Wr21,cell H19 (.add ⟨b5,0,none⟩ 0)=some (.pointer Wr21)∧Tryz.C 54 #[.pointer Wr21,.int .i64 (xorI .i64 (min (b9l:Int) 65535) 65535),.int .i64 16] H19 fun r22 H23=> ∃r24,r22= .bool r24∧0≤(min (b9l:Int) 65535)∧(min (b9l:Int) 65535)≤(b9c:Int)∧ ∀X25:Kl,(∀(t26:Int) H27,(br (decide (t26<((((toNat (min (b9l:Int) 65535))-0):Nat):Int))) (∃a28,(if b9c=0 then b9p else Option.map (fun x=>Addr.add x (0*1)) b9p)=some a28∧0≤t26∧t26<((((toNat (min (b9l:Int) 65535))-0):Nat):Int)∧ ∃c29,cell H27 (.add a28 (toNat t26*1))=some (.int .u8 c29)∧ ∃Wr30,cell H27 (.add ⟨b5,0,none⟩ 0)=some (.pointer Wr30)∧Tryz.C 54 #[.pointer Wr30,.int .i64 (wrap .i64 c29),.int .i64 8] H27 fun r31 H32=> ∃r33,r31= .bool r33∧X25 [.int .i64 (wrap .i64 (t26+1))] H32) (0≤(min (b9l:Int) 65535)∧(min (b9l:Int) 65535)≤(b9l:Int)∧X8 [.slice (if b9c=(toNat (min (b9l:Int) 65535)) then b9p else Option.map (fun x=>Addr.add x ((toNat (min (b9l:Int) 65535))*1)) b9p) (b9l-(toNat (min (b9l:Int) 65535))) (b9c-(toNat (min (b9l:Int) 65535))),.bool (((min (b9l:Int) 65535):Int)==(b9l:Int))] H27))→X25 [.int .i64 t26] H27)→X25 [.int .i64 0] H23)→J12 [] H13)→br (((min (b9l:Int) 65535):Int)==(b9l:Int)) (∃Wr34,cell H11 (.add ⟨b5,0,none⟩ 0)=some (.pointer Wr34)∧Tryz.C 54 #[.pointer Wr34,.int .i64 1,.int .i64 3] H11 fun r35 H36=> ∃r37,r35= .bool r37∧J12 [] H36) (∃Wr38,cell H11 (.add ⟨b5,0,none⟩ 0)=some (.pointer Wr38)∧Tryz.C 54 #[.pointer Wr38,.int .i64 0,.int .i64 3] H11 fun r39 H40=> ∃r41,r39= .bool r41∧J12 [] H40)) (∃Wr42,cell H11 (.add ⟨b5,0,none⟩ 0)=some (.pointer Wr42)∧Tryz.C 58 #[.pointer Wr42] H11 fun r43 H44=> ∃r45p r45l r45c,r43= .slice r45p r45l r45c∧R (.slice r45p r45l r45c) H44))→X8 [.slice b9p b9l b9c,.bool la10] H11)→X8 [.slice b1p b1l b1c,.bool false] H7
def Tryz.p60:Plan:=(tl (tl (two (tl (one (loop [(0,22),(4,4)] [3] (two (tl (tl leaf)) (one (tl (tl (two (join [] [0,3,4,5] (tl (tl leaf))) (tl (tl (tl (two (tl (one (loop [(42,3)] [0,3,4,5,40,41] (tl (two (tl leaf) (two (one (tl leaf)) leaf)))))) leaf)))))))))))) (tl leaf))))
theorem Tryz.s60{b1p:OA}{b1l b1c:Nat}{H R}(h:Tryz.S60 b1p b1l b1c H R):Tryz.C 60 #[.slice b1p b1l b1c] H R:=vcs Tryz.tab_ok Tryz.mixed Tryz.func60 Tryz.cal60 Tryz.p60 h (by kernel_rfl)
def Tryz.S61(a1 b2 c3:Int)(H:Heap)(R:Kv):Prop:=
 alc H (.cells #[.int .i64 0] 3) fun b4 H5=>stAt H5 ⟨b4,0,none⟩ [.int .i64 (wrap .i64 ((wrap .i64 ((wrap .i64 a1)+(wrap .i64 b2)))-(wrap .i64 c3)))] fun H6=>Tryz.C 94 #[.int .u8 a1,.pointer (some ⟨b4,0,none⟩)] H6 fun r7 H8=> ∃r9,r7= .int .i64 r9∧Tryz.C 94 #[.int .u8 b2,.pointer (some ⟨b4,0,none⟩)] H8 fun r10 H11=> ∃r12,r10= .int .i64 r12∧br (decide (r9≤r12)) (Tryz.C 94 #[.int .u8 a1,.pointer (some ⟨b4,0,none⟩)] H11 fun r13 H14=> ∃r15,r13= .int .i64 r15∧Tryz.C 94 #[.int .u8 c3,.pointer (some ⟨b4,0,none⟩)] H14 fun r16 H17=> ∃r18,r16= .int .i64 r18∧br (decide (r15≤r18)) (R (.int .u8 a1) H17) (Tryz.C 94 #[.int .u8 b2,.pointer (some ⟨b4,0,none⟩)] H17 fun r19 H20=> ∃r21,r19= .int .i64 r21∧Tryz.C 94 #[.int .u8 c3,.pointer (some ⟨b4,0,none⟩)] H20 fun r22 H23=> ∃r24,r22= .int .i64 r24∧br (decide (r21≤r24)) (R (.int .u8 b2) H23) (R (.int .u8 c3) H23))) (Tryz.C 94 #[.int .u8 b2,.pointer (some ⟨b4,0,none⟩)] H11 fun r25 H26=> ∃r27,r25= .int .i64 r27∧Tryz.C 94 #[.int .u8 c3,.pointer (some ⟨b4,0,none⟩)] H26 fun r28 H29=> ∃r30,r28= .int .i64 r30∧br (decide (r27≤r30)) (R (.int .u8 b2) H29) (R (.int .u8 c3) H29))
def Tryz.p61:Plan:=(tl (tl (tl (two (one (tl (two (tl leaf) g0))) (tl leaf)))))
theorem Tryz.s61{a1 b2 c3:Int}{H R}(h:Tryz.S61 a1 b2 c3 H R):Tryz.C 61 #[.int .u8 a1,.int .u8 b2,.int .u8 c3] H R:=vcs Tryz.tab_ok Tryz.mixed Tryz.func61 Tryz.cal61 Tryz.p61 h (by kernel_rfl)
def Tryz.S62(su1:Int)(b2p:OA)(b2l b2c:Nat)(H:Heap)(R:Kv):Prop:=
 ∀X3:Kl,(∀(c4 t5:Int) H6,(br (decide (t5<(b2l:Int))) (∃a7,b2p=some a7∧0≤t5∧t5<(b2l:Int)∧ ∃x8,cell H6 (.add a7 (toNat t5*1))=some (.int .u8 x8)∧ ∀X9:Kl,(∀(c10 t11:Int) H12,(br (decide (t11<8)) (0≤(1:Int)∧X9 [.int .u32 (xorI .u32 (shrI .u32 c10 1) (andI .u32 3988292384 (wrap .u32 (0-(andI .u32 c10 1))))),.int .i64 (wrap .i64 (t11+1))] H12) (X3 [.int .u32 c10,.int .i64 (wrap .i64 (t5+1))] H12))→X9 [.int .u32 c10,.int .i64 t11] H12)→X9 [.int .u32 (xorI .u32 c4 (wrap .u32 x8)),.int .i64 0] H6) (R (.int .i64 (wrap .i64 (xorI .u32 c4 4294967295))) H6))→X3 [.int .u32 c4,.int .i64 t5] H6)→X3 [.int .u32 (xorI .u32 (wrap .u32 su1) 4294967295),.int .i64 0] H
def Tryz.p62:Plan:=(tl (tl (two (tl (one (loop [(5,141),(13,3)] [11,12] (tl (two (tl leaf) (two (one (tl (tl (tl (one (loop [(5,141),(21,3)] [11,12,13] (tl (two (tl leaf) (two (one leaf) leaf))))))))) leaf)))))) (tl leaf))))
theorem Tryz.s62{su1:Int}{b2p:OA}{b2l b2c:Nat}{H R}(h:Tryz.S62 su1 b2p b2l b2c H R):Tryz.C 62 #[.int .i64 su1,.slice b2p b2l b2c] H R:=vcs Tryz.tab_ok Tryz.mixed Tryz.func62 Tryz.cal62 Tryz.p62 h (by kernel_rfl)
def Tryz.S63(r1:OA)(n2:Int)(H:Heap)(R:Kv):Prop:=
 ∃a3,r1=some a3∧ ∃At4,cell H (.add a3 1)=some (.int .i64 At4)∧ ∃a5,r1=some a5∧ ∃B6p B6l B6c,cell H (.add a5 0)=some (.slice B6p B6l B6c)∧br (decide (((wrap .i64 (At4+n2)):Int)>(wrap .i64 ((8:Int)*(B6l:Int)))))
 (Tryz.C 68 #[.pointer r1,.int .i64 20] H fun r7 H8=>r7= .tuple #[]∧R (.int .i64 0) H8)
 (∀X9:Kl,(∀(v10 k11:Int) H12,(br (decide (k11<n2)) (∃a13,r1=some a13∧ ∃B14p B14l B14c,cell H12 (.add a13 0)=some (.slice B14p B14l B14c)∧ ∃a15,r1=some a15∧ ∃At16,cell H12 (.add a15 1)=some (.int .i64 At16)∧(8:Int)≠0∧ ∃a17,B14p=some a17∧0≤(wrap .i64 (Int.tdiv At16 8))∧(wrap .i64 (Int.tdiv At16 8))<(B14l:Int)∧ ∃v18,cell H12 (.add a17 (toNat (wrap .i64 (Int.tdiv At16 8))*1))=some (.int .u8 v18)∧ ∃a19,r1=some a19∧ ∃At20,cell H12 (.add a19 1)=some (.int .i64 At20)∧(8:Int)≠0∧0≤(Int.tmod At20 8)∧(2:Int)≠0∧0≤k11∧ ∃a21,r1=some a21∧ ∃At22,cell H12 (.add a21 1)=some (.int .i64 At22)∧ ∃a23,r1=some a23∧stAt H12 (.add a23 1) [.int .i64 (wrap .i64 (At22+1))] fun H24=>X9 [.int .i64 (wrap .i64 (v10+(shlI .i64 (Int.tmod (shrI .i64 (wrap .i64 v18) (Int.tmod At20 8)) 2) k11))),.int .i64 (wrap .i64 (k11+1))] H24) (R (.int .i64 v10) H12))→X9 [.int .i64 v10,.int .i64 k11] H12)→X9 [.int .i64 0,.int .i64 0] H)
def Tryz.p63:Plan:=(tl (two (tl (two (tl (tl leaf)) leaf)) (tl (two (tl (one (loop [(5,3),(6,3)] [0,1] (two (tl (tl leaf)) (two (one (tl leaf)) leaf))))) (tl leaf)))))
theorem Tryz.s63{r1:OA}{n2:Int}{H R}(h:Tryz.S63 r1 n2 H R):Tryz.C 63 #[.pointer r1,.int .i64 n2] H R:=vcs Tryz.tab_ok Tryz.mixed Tryz.func63 Tryz.cal63 Tryz.p63 h (by kernel_rfl)
def Tryz.S64(r1:OA)(H:Heap)(R:Kv):Prop:=
 ∃a2,r1=some a2∧ ∃At3,cell H (.add a2 1)=some (.int .i64 At3)∧(8:Int)≠0∧ ∃a4,r1=some a4∧stAt H (.add a4 1) [.int .i64 (wrap .i64 ((wrap .i64 (Int.tdiv (wrap .i64 (At3+7)) 8))*8))] fun H5=>Tryz.C 63 #[.pointer r1,.int .i64 16] H5 fun r6 H7=> ∃n8,r6= .int .i64 n8∧Tryz.C 63 #[.pointer r1,.int .i64 16] H7 fun r9 H10=> ∃m11,r9= .int .i64 m11∧ ∃a12,r1=some a12∧ ∃E13,cell H10 (.add a12 4)=some (.int .i64 E13)∧br (E13 != 0)
 (R (.tuple #[]) H10)
 (∀J14:Kl,(∀H15,(∃a16,r1=some a16∧ ∃Ou17p Ou17l Ou17c,cell H15 (.add a16 2)=some (.slice Ou17p Ou17l Ou17c)∧ ∃a18,r1=some a18∧ ∃Mo19,cell H15 (.add a18 3)=some (.int .i64 Mo19)∧br (decide (((wrap .i64 ((Ou17l:Int)+n8)):Int)>Mo19)) (Tryz.C 68 #[.pointer r1,.int .i64 24] H15 fun r20 H21=>r20= .tuple #[]∧R (.tuple #[]) H21) (∀X22:Kl,(∀(k23:Int) H24,(br (decide (k23<n8)) (Tryz.C 63 #[.pointer r1,.int .i64 8] H24 fun r25 H26=> ∃c27,r25= .int .i64 c27∧ ∃a28,r1=some a28∧ ∃E29,cell H26 (.add a28 4)=some (.int .i64 E29)∧br (E29 != 0) (R (.tuple #[]) H26) (∃a30,r1=some a30∧ ∃Ou31p Ou31l Ou31c,cell H26 (.add a30 2)=some (.slice Ou31p Ou31l Ou31c)∧alc H26 (.cells #[.int .u8 (wrap .u8 c27)] 5) fun b32 H33=>appQ 1 1 #[.int .u8 0] H33 Ou31p Ou31l Ou31c (some ⟨b32,0,none⟩) 1 5 fun ap34p ap34l ap34c H35=> ∃a36,r1=some a36∧stAt H35 (.add a36 2) [.slice ap34p ap34l ap34c] fun H37=>X22 [.int .i64 (wrap .i64 (k23+1))] H37)) (R (.tuple #[]) H24))→X22 [.int .i64 k23] H24)→X22 [.int .i64 0] H15))→J14 [] H15)→br (((wrap .i64 (n8+m11)):Int) != 65535) (Tryz.C 68 #[.pointer r1,.int .i64 25] H10 fun r38 H39=>r38= .tuple #[]∧R (.tuple #[]) H39) (br (((andI .i64 n8 m11):Int) != 0) (Tryz.C 68 #[.pointer r1,.int .i64 25] H10 fun r40 H41=>r40= .tuple #[]∧R (.tuple #[]) H41) (J14 [] H10)))
def Tryz.p64:Plan:=(tl (tl (tl (two (tl (tl leaf)) (two (join [] [0,2] g0) (tg (tl (one (loop [(4,3)] [0,2] (two (tl (tl leaf)) (two (one (tl (two (tl (tl leaf)) leaf))) leaf)))))))))))
theorem Tryz.s64{r1:OA}{H R}(h:Tryz.S64 r1 H R):Tryz.C 64 #[.pointer r1] H R:=vcs Tryz.tab_ok Tryz.mixed Tryz.func64 Tryz.cal64 Tryz.p64 h (by kernel_rfl)
def Tryz.S65(H:Heap)(R:Kv):Prop:=
 alc H (.cells #[.slice none 0 0,.slice none 0 0,.int .i64 0,.bool false] 99) fun b1 H2=>alc H2 (.cells #[.slice none 0 0,.slice none 0 0,.int .i64 0,.bool false] 99) fun b3 H4=>0≤(288:Int)∧(288:Int)≤(288:Int)∧((8:Nat):Int)*(288:Int)≤281474976710656∧(288:Int)≤281474976710656∧alc H4 (.cells (List.toArray (reps (toNat 288) (Array.toList #[.int .i64 0]))) 3) fun b5 H6=> ∀X7:Kl,(∀(s8:Int) H9,(br (decide (s8<288)) (∃a10,(some ⟨b5,0,none⟩)=some a10∧0≤s8∧s8<(((toNat 288):Nat):Int)∧stAt H9 (.add a10 (toNat s8*1)) [.int .i64 8] fun H11=> ∀J12:Kl,(∀H13,(∀J14:Kl,(∀H15,(br (decide (s8≥280)) (∃a16,(some ⟨b5,0,none⟩)=some a16∧0≤s8∧s8<(((toNat 288):Nat):Int)∧stAt H15 (.add a16 (toNat s8*1)) [.int .i64 8] fun H17=>X7 [.int .i64 (wrap .i64 (s8+1))] H17) (X7 [.int .i64 (wrap .i64 (s8+1))] H15))→J14 [] H15)→br (decide (s8≥256)) (∃a18,(some ⟨b5,0,none⟩)=some a18∧0≤s8∧s8<(((toNat 288):Nat):Int)∧stAt H13 (.add a18 (toNat s8*1)) [.int .i64 7] fun H19=>J14 [] H19) (J14 [] H13))→J12 [] H13)→br (decide (s8≥144)) (∃a20,(some ⟨b5,0,none⟩)=some a20∧0≤s8∧s8<(((toNat 288):Nat):Int)∧stAt H11 (.add a20 (toNat s8*1)) [.int .i64 9] fun H21=>J12 [] H21) (J12 [] H11)) (0≤(32:Int)∧(32:Int)≤(32:Int)∧((8:Nat):Int)*(32:Int)≤281474976710656∧(32:Int)≤281474976710656∧alc H9 (.cells (List.toArray (reps (toNat 32) (Array.toList #[.int .i64 0]))) 3) fun b22 H23=> ∀X24:Kl,(∀(s25:Int) H26,(br (decide (s25<32)) (∃a27,(some ⟨b22,0,none⟩)=some a27∧0≤s25∧s25<(((toNat 32):Nat):Int)∧stAt H26 (.add a27 (toNat s25*1)) [.int .i64 5] fun H28=>X24 [.int .i64 (wrap .i64 (s25+1))] H28) (Tryz.C 95 #[.slice (some ⟨b5,0,none⟩) (toNat 288) (toNat 288)] H26 fun r29 H30=> ∃r31,r29= .agg r31∧Tryz.C 95 #[.slice (some ⟨b22,0,none⟩) (toNat 32) (toNat 32)] H30 fun r32 H33=> ∃r34,r32= .agg r34∧r31.size=4∧stAt H33 ⟨b1,0,none⟩ r31.toList fun H35=>r34.size=4∧stAt H35 ⟨b3,0,none⟩ r34.toList fun H36=> ∃re37,re37.size=4∧rowIn H36 ⟨b1,0,none⟩ re37∧ ∃re38,re38.size=4∧rowIn H36 ⟨b3,0,none⟩ re38∧R (.tuple #[.agg re37,.agg re38]) H36))→X24 [.int .i64 s25] H26)→X24 [.int .i64 0] H23))→X7 [.int .i64 s8] H9)→X7 [.int .i64 0] H6
def Tryz.p65:Plan:=(tl (tl (two (tl (one (loop [(3,3)] [0,1,2] (two (tl (tl leaf)) (two (one (tl (two (join [] [0,1,2,3] (tl (tl leaf))) (two (join [] [0,1,2,3] (tl (tl leaf))) (tl (tl leaf)))))) leaf))))) (tl (two (tl (one (loop [(5,3)] [0,1,2,4] (two (tl (tl leaf)) (two (one leaf) leaf))))) (tl leaf))))))
theorem Tryz.s65{_u:Unit}{H R}(h:Tryz.S65 H R):Tryz.C 65 #[] H R:=vcs Tryz.tab_ok Tryz.mixed Tryz.func65 Tryz.cal65 Tryz.p65 h (by kernel_rfl)
def Tryz.S66(r1:OA)(l2 d3:AV)(H:Heap)(R:Kv):Prop:=
 alc H (.cells l2 99) fun b4 H5=>alc H5 (.cells d3 99) fun b6 H7=> ∀X8:Kl,(∀H9,(∃a10,r1=some a10∧ ∃E11,cell H9 (.add a10 4)=some (.int .i64 E11)∧br (E11==0) (∃v12,v12.size=4∧rowIn H9 ⟨b4,0,none⟩ v12∧Tryz.C 96 #[.pointer r1,.agg v12] H9 fun r13 H14=> ∃s15,r13= .int .i64 s15∧ ∀J16:Kl,(∀H17,(br (decide (s15>256)) (∃v18,v18.size=4∧rowIn H17 ⟨b6,0,none⟩ v18∧Tryz.C 97 #[.pointer r1,.int .i64 s15,.agg v18] H17 fun r19 H20=>r19= .tuple #[]∧X8 [] H20) (∃a21,r1=some a21∧ ∃Ou22p Ou22l Ou22c,cell H17 (.add a21 2)=some (.slice Ou22p Ou22l Ou22c)∧ ∃a23,r1=some a23∧ ∃Mo24,cell H17 (.add a23 3)=some (.int .i64 Mo24)∧br (decide (((wrap .i64 ((Ou22l:Int)+1)):Int)>Mo24)) (Tryz.C 68 #[.pointer r1,.int .i64 24] H17 fun r25 H26=>r25= .tuple #[]∧R (.tuple #[]) H26) (∃a27,r1=some a27∧ ∃Ou28p Ou28l Ou28c,cell H17 (.add a27 2)=some (.slice Ou28p Ou28l Ou28c)∧alc H17 (.cells #[.int .u8 (wrap .u8 s15)] 5) fun b29 H30=>appQ 1 1 #[.int .u8 0] H30 Ou28p Ou28l Ou28c (some ⟨b29,0,none⟩) 1 5 fun ap31p ap31l ap31c H32=> ∃a33,r1=some a33∧stAt H32 (.add a33 2) [.slice ap31p ap31l ap31c] fun H34=>X8 [] H34)))→J16 [] H17)→ ∃a35,r1=some a35∧ ∃E36,cell H14 (.add a35 4)=some (.int .i64 E36)∧br (E36 != 0) (R (.tuple #[]) H14) (br (s15==256) (R (.tuple #[]) H14) (J16 [] H14))) (R (.tuple #[]) H9))→X8 [] H9)→X8 [] H7
def Tryz.p66:Plan:=(tl (one (loop [] [0,4,5] (two (tl (tl leaf)) (one (tl (two (join [] [0,4,5,6] (tl (tl leaf))) (tg (tg leaf)))))))))
theorem Tryz.s66{r1:OA}{l2 d3:AV}{H R}(h:Tryz.S66 r1 l2 d3 H R):Tryz.C 66 #[.pointer r1,.agg l2,.agg d3] H R:=vcs Tryz.tab_ok Tryz.mixed Tryz.func66 Tryz.cal66 Tryz.p66 h (by kernel_rfl)
def Tryz.S67(r1:OA)(H:Heap)(R:Kv):Prop:=
 alc H (.cells #[.slice none 0 0,.slice none 0 0,.int .i64 0,.bool false] 99) fun b2 H3=>alc H3 (.cells #[.slice none 0 0,.slice none 0 0,.int .i64 0,.bool false] 99) fun b4 H5=>Tryz.C 63 #[.pointer r1,.int .i64 5] H5 fun r6 H7=> ∃hl8,r6= .int .i64 hl8∧Tryz.C 63 #[.pointer r1,.int .i64 5] H7 fun r9 H10=> ∃hd11,r9= .int .i64 hd11∧Tryz.C 63 #[.pointer r1,.int .i64 4] H10 fun r12 H13=> ∃hc14,r12= .int .i64 hc14∧ ∀J15:Kl,(∀H16,(alc H16 (.cells #[.int .i64 0,.int .i64 0,.int .i64 0,.int .i64 0,.int .i64 0,.int .i64 0,.int .i64 0,.int .i64 0,.int .i64 0,.int .i64 0,.int .i64 0,.int .i64 0,.int .i64 0,.int .i64 0,.int .i64 0,.int .i64 0,.int .i64 0,.int .i64 0,.int .i64 0] 145) fun b17 H18=>#[Value.int .i64 16,Value.int .i64 17,Value.int .i64 18,Value.int .i64 0,Value.int .i64 8,Value.int .i64 7,Value.int .i64 9,Value.int .i64 6,Value.int .i64 10,Value.int .i64 5,Value.int .i64 11,Value.int .i64 4,Value.int .i64 12,Value.int .i64 3,Value.int .i64 13,Value.int .i64 2,Value.int .i64 14,Value.int .i64 1,Value.int .i64 15].size=19∧stAt H18 ⟨b17,0,none⟩ (Array.toList #[.int .i64 16,.int .i64 17,.int .i64 18,.int .i64 0,.int .i64 8,.int .i64 7,.int .i64 9,.int .i64 6,.int .i64 10,.int .i64 5,.int .i64 11,.int .i64 4,.int .i64 12,.int .i64 3,.int .i64 13,.int .i64 2,.int .i64 14,.int .i64 1,.int .i64 15]) fun H19=>0≤(19:Int)∧(19:Int)≤(19:Int)∧((8:Nat):Int)*(19:Int)≤281474976710656∧(19:Int)≤281474976710656∧alc H19 (.cells (List.toArray (reps (toNat 19) (Array.toList #[.int .i64 0]))) 3) fun b20 H21=> ∀X22:Kl,(∀(i23:Int) H24,(br (decide (i23<(wrap .i64 (hc14+4)))) (0≤i23∧i23<((19:Nat):Int)∧ ∃v25,cell H24 (.add ⟨b17,0,none⟩ (toNat i23*1))=some (.int .i64 v25)∧Tryz.C 63 #[.pointer r1,.int .i64 3] H24 fun r26 H27=> ∃r28,r26= .int .i64 r28∧(Ext H24 H27∨(∃v31,cell H27 (.add ⟨b17,0,none⟩ (toNat i23*1))=some (.int .i64 v31)∧Value.int .i64 v31= .int .i64 v25))∧ ∃a29,(some ⟨b20,0,none⟩)=some a29∧0≤v25∧v25<(((toNat 19):Nat):Int)∧stAt H27 (.add a29 (toNat v25*1)) [.int .i64 r28] fun H30=>X22 [.int .i64 (wrap .i64 (i23+1))] H30) (Tryz.C 95 #[.slice (some ⟨b20,0,none⟩) (toNat 19) (toNat 19)] H24 fun r32 H33=> ∃r34,r32= .agg r34∧alc H33 (.cells #[.slice none 0 0,.slice none 0 0,.int .i64 0,.bool false] 99) fun b35 H36=>r34.size=4∧stAt H36 ⟨b35,0,none⟩ r34.toList fun H37=> ∀J38:Kl,(∀H39,(∀J40:Kl,(∀(li41p:OA) (li41l li41c:Nat) H42,(∃a43,r1=some a43∧ ∃E44,cell H42 (.add a43 4)=some (.int .i64 E44)∧br (E44 != 0) (#[Value.slice none 0 0,Value.slice none 0 0,Value.int .i64 0,Value.bool false].size=4∧stAt H42 ⟨b2,0,none⟩ (Array.toList #[.slice none 0 0,.slice none 0 0,.int .i64 0,.bool false]) fun H45=>#[Value.slice none 0 0,Value.slice none 0 0,Value.int .i64 0,Value.bool false].size=4∧stAt H45 ⟨b4,0,none⟩ (Array.toList #[.slice none 0 0,.slice none 0 0,.int .i64 0,.bool false]) fun H46=> ∃re47,re47.size=4∧rowIn H46 ⟨b2,0,none⟩ re47∧ ∃re48,re48.size=4∧rowIn H46 ⟨b4,0,none⟩ re48∧R (.tuple #[.agg re47,.agg re48]) H46) (0≤(wrap .i64 (hl8+257))∧(wrap .i64 (hl8+257))≤(li41c:Int)∧Tryz.C 95 #[.slice (if li41c=0 then li41p else Option.map (fun x=>Addr.add x (0*1)) li41p) ((toNat (wrap .i64 (hl8+257)))-0) (li41c-0)] H42 fun r49 H50=> ∃r51,r49= .agg r51∧alc H50 (.cells #[.slice none 0 0,.slice none 0 0,.int .i64 0,.bool false] 99) fun b52 H53=>r51.size=4∧stAt H53 ⟨b52,0,none⟩ r51.toList fun H54=>0≤(wrap .i64 (hl8+257))∧(wrap .i64 (hl8+257))≤(li41l:Int)∧Tryz.C 95 #[.slice (if li41c=(toNat (wrap .i64 (hl8+257))) then li41p else Option.map (fun x=>Addr.add x ((toNat (wrap .i64 (hl8+257)))*1)) li41p) (li41l-(toNat (wrap .i64 (hl8+257)))) (li41c-(toNat (wrap .i64 (hl8+257))))] H54 fun r55 H56=> ∃r57,r55= .agg r57∧alc H56 (.cells #[.slice none 0 0,.slice none 0 0,.int .i64 0,.bool false] 99) fun b58 H59=>r57.size=4∧stAt H59 ⟨b58,0,none⟩ r57.toList fun H60=> ∀J61:Kl,(∀H62,(∃v63,v63.size=4∧rowIn H62 ⟨b52,0,none⟩ v63∧ ∃v64,v64.size=4∧rowIn H62 ⟨b58,0,none⟩ v64∧v63.size=4∧stAt H62 ⟨b2,0,none⟩ v63.toList fun H65=>(Ext H62 H65∨(∃v69,v69.size=4∧rowIn H65 ⟨b58,0,none⟩ v69∧Value.agg v69= .agg v64))∧v64.size=4∧stAt H65 ⟨b4,0,none⟩ v64.toList fun H66=> ∃re67,re67.size=4∧rowIn H66 ⟨b2,0,none⟩ re67∧ ∃re68,re68.size=4∧rowIn H66 ⟨b4,0,none⟩ re68∧R (.tuple #[.agg re67,.agg re68]) H66)→J61 [] H62)→ ∃v70,v70.size=4∧rowIn H60 ⟨b52,0,none⟩ v70∧Tryz.C 98 #[.agg v70,.bool true,.bool false] H60 fun r71 H72=> ∃r73,r71= .bool r73∧br (!r73) (Tryz.C 68 #[.pointer r1,.int .i64 21] H72 fun r74 H75=>r74= .tuple #[]∧J61 [] H75) (∃v76,v76.size=4∧rowIn H72 ⟨b58,0,none⟩ v76∧Tryz.C 98 #[.agg v76,.bool true,.bool true] H72 fun r77 H78=> ∃r79,r77= .bool r79∧br (!r79) (Tryz.C 68 #[.pointer r1,.int .i64 21] H78 fun r80 H81=>r80= .tuple #[]∧J61 [] H81) (J61 [] H78))))→J40 [.slice li41p li41l li41c] H42)→ ∀X82:Kl,(∀(li83p:OA) (li83l li83c:Nat) H84,(∀J85:Kl,(∀H86,(∃v87,v87.size=4∧rowIn H86 ⟨b35,0,none⟩ v87∧Tryz.C 99 #[.pointer r1,.agg v87,.slice li83p li83l li83c,.int .i64 (wrap .i64 ((wrap .i64 (hl8+hd11))+258))] H86 fun r88 H89=> ∃li90p li90l li90c,r88= .slice li90p li90l li90c∧X82 [.slice li90p li90l li90c] H89)→J85 [] H86)→br (decide (((li83l:Int):Int)<(wrap .i64 ((wrap .i64 (hl8+hd11))+258)))) (∃a91,r1=some a91∧ ∃E92,cell H84 (.add a91 4)=some (.int .i64 E92)∧br (E92==0) (J85 [] H84) (J40 [.slice li83p li83l li83c] H84)) (J40 [.slice li83p li83l li83c] H84))→X82 [.slice li83p li83l li83c] H84)→X82 [.slice none 0 0] H39)→J38 [] H39)→ ∃a93,r1=some a93∧ ∃E94,cell H37 (.add a93 4)=some (.int .i64 E94)∧br (E94==0) (∃v95,v95.size=4∧rowIn H37 ⟨b35,0,none⟩ v95∧Tryz.C 98 #[.agg v95,.bool false,.bool false] H37 fun r96 H97=> ∃r98,r96= .bool r98∧br (!r98) (Tryz.C 68 #[.pointer r1,.int .i64 21] H97 fun r99 H100=>r99= .tuple #[]∧J38 [] H100) (J38 [] H97)) (J38 [] H37)))→X22 [.int .i64 i23] H24)→X22 [.int .i64 0] H21)→J15 [] H16)→
 ∃a101,r1=some a101∧ ∃E102,cell H13 (.add a101 4)=some (.int .i64 E102)∧br (E102==0) (br (decide (hl8>29)) (Tryz.C 68 #[.pointer r1,.int .i64 25] H13 fun r103 H104=>r103= .tuple #[]∧J15 [] H104) (br (decide (hd11>29)) (Tryz.C 68 #[.pointer r1,.int .i64 25] H13 fun r105 H106=>r105= .tuple #[]∧J15 [] H106) (J15 [] H13))) (J15 [] H13)
def Tryz.p67:Plan:=(tl (tl (tl (tl (two (join [] [0,2,3,4,5,6] (tl (tl leaf))) (tl (tl (two (tl (one (loop [(9,3)] [0,2,3,4,5,6,7,8] (two (tl (tl leaf)) (two (one leaf) leaf))))) (tl (two (join [] [0,2,3,4,5,10] (tl (tl leaf))) (tl (tl (two (join [(12,86)] [0,2,3,4] (one (loop [(12,86)] [0,2,3,4,10,11] (two (join [] [0,2,3,4,10,11,12] (tl (tl leaf))) (one leaf))))) (tg (tl (tl (two (join [] [2,3,13,14] (tl (tl leaf))) (tl leaf))))))))))))))))))
theorem Tryz.s67{r1:OA}{H R}(h:Tryz.S67 r1 H R):Tryz.C 67 #[.pointer r1] H R:=vcs Tryz.tab_ok Tryz.mixed Tryz.func67 Tryz.cal67 Tryz.p67 h (by kernel_rfl)
def Tryz.S68(r1:OA)(e2:Int)(H:Heap)(R:Kv):Prop:=
 ∃a3,r1=some a3∧ ∃E4,cell H (.add a3 4)=some (.int .i64 E4)∧br (E4==0)
 (∃a5,r1=some a5∧stAt H (.add a5 4) [.int .i64 e2] fun H6=>R (.tuple #[]) H6)
 (R (.tuple #[]) H)
def Tryz.p68:Plan:=(tl (tl leaf))
theorem Tryz.s68{r1:OA}{e2:Int}{H R}(h:Tryz.S68 r1 e2 H R):Tryz.C 68 #[.pointer r1,.int .i64 e2] H R:=vcs Tryz.tab_ok Tryz.mixed Tryz.func68 Tryz.cal68 Tryz.p68 h (by kernel_rfl)
def Tryz.S69(b1p:OA)(b1l b1c:Nat)(i2:Int)(H:Heap)(R:Kv):Prop:=
 br (decide (i2<0))
 (R (.int .i64 0) H)
 (∃a3,b1p=some a3∧0≤i2∧i2<(b1l:Int)∧ ∃v4,cell H (.add a3 (toNat i2*1))=some (.int .u8 v4)∧R (.int .i64 (wrap .i64 v4)) H)
def Tryz.p69:Plan:=(tl (tg (tl leaf)))
theorem Tryz.s69{b1p:OA}{b1l b1c:Nat}{i2:Int}{H R}(h:Tryz.S69 b1p b1l b1c i2 H R):Tryz.C 69 #[.slice b1p b1l b1c,.int .i64 i2] H R:=vcs Tryz.tab_ok Tryz.mixed Tryz.func69 Tryz.cal69 Tryz.p69 h (by kernel_rfl)
def Tryz.S70(p1 v2:Int)(H:Heap)(R:Kv):Prop:=
 br (decide (p1>v2))
 (R (.int .i64 (wrap .i64 (p1-v2))) H)
 (R (.int .i64 (wrap .i64 (v2-p1))) H)
def Tryz.p70:Plan:=(tl (tg (tl leaf)))
theorem Tryz.s70{p1 v2:Int}{H R}(h:Tryz.S70 p1 v2 H R):Tryz.C 70 #[.int .i64 p1,.int .i64 v2] H R:=vcs Tryz.tab_ok Tryz.mixed Tryz.func70 Tryz.cal70 Tryz.p70 h (by kernel_rfl)
def Tryz.S71(b1p:OA)(b1l b1c:Nat)(hi2:Bool)(H:Heap)(R:Kv):Prop:=
 Tryz.C 50 #[.slice b1p b1l b1c] H fun r3 H4=> ∃r5p r5l r5c,r3= .slice r5p r5l r5c∧alc H4 (.cells #[.slice r5p r5l r5c,.int .i64 0,.bool hi2] 149) fun b6 H7=>R (.pointer (some ⟨b6,0,none⟩)) H7
def Tryz.p71:Plan:=(tl (tl leaf))
theorem Tryz.s71{b1p:OA}{b1l b1c:Nat}{hi2:Bool}{H R}(h:Tryz.S71 b1p b1l b1c hi2 H R):Tryz.C 71 #[.slice b1p b1l b1c,.bool hi2] H R:=vcs Tryz.tab_ok Tryz.mixed Tryz.func71 Tryz.cal71 Tryz.p71 h (by kernel_rfl)
def Tryz.S72(f1:OA)(n2:Int)(H:Heap)(R:Kv):Prop:=
 ∃a3,f1=some a3∧ ∃r4,cell H (.add a3 0)=some (.pointer r4)∧Tryz.C 100 #[.pointer r4,.int .i64 n2] H fun r5 H6=> ∃r7 r8,r5= .tuple #[.int .i64 r7,.bool r8]∧br (!r8)
 (Tryz.C 77 #[.pointer f1,.int .i64 20] H6 fun r9 H10=>r9= .tuple #[]∧R (.int .i64 r7) H10)
 (R (.int .i64 r7) H6)
def Tryz.p72:Plan:=(tl (tl (two (tl (tl leaf)) (tl leaf))))
theorem Tryz.s72{f1:OA}{n2:Int}{H R}(h:Tryz.S72 f1 n2 H R):Tryz.C 72 #[.pointer f1,.int .i64 n2] H R:=vcs Tryz.tab_ok Tryz.mixed Tryz.func72 Tryz.cal72 Tryz.p72 h (by kernel_rfl)
def Tryz.S73(f1:OA)(H:Heap)(R:Kv):Prop:=
 ∃a2,f1=some a2∧ ∃r3,cell H (.add a2 0)=some (.pointer r3)∧Tryz.C 101 #[.pointer r3] H fun r4 H5=>r4= .tuple #[]∧Tryz.C 72 #[.pointer f1,.int .i64 16] H5 fun r6 H7=> ∃n8,r6= .int .i64 n8∧Tryz.C 72 #[.pointer f1,.int .i64 16] H7 fun r9 H10=> ∃m11,r9= .int .i64 m11∧ ∀J12:Kl,(∀H13,(∀X14:Kl,(∀(k15:Int) H16,(∀J17:Kl,(∀H18,(∃a19,f1=some a19∧ ∃ou20p ou20l ou20c,cell H18 (.add a19 1)=some (.slice ou20p ou20l ou20c)∧Tryz.C 72 #[.pointer f1,.int .i64 8] H18 fun r21 H22=> ∃r23,r21= .int .i64 r23∧(Ext H18 H22∨(∃ou31p ou31l ou31c,cell H22 (.add a19 1)=some (.slice ou31p ou31l ou31c)∧Value.slice ou31p ou31l ou31c= .slice ou20p ou20l ou20c))∧alc H22 (.cells #[.int .u8 (wrap .u8 r23)] 5) fun b24 H25=>(Ext H22 H25∨(∃ou30p ou30l ou30c,cell H25 (.add a19 1)=some (.slice ou30p ou30l ou30c)∧Value.slice ou30p ou30l ou30c= .slice ou20p ou20l ou20c))∧appQ 1 1 #[.int .u8 0] H25 ou20p ou20l ou20c (some ⟨b24,0,none⟩) 1 5 fun ap26p ap26l ap26c H27=> ∃a28,f1=some a28∧stAt H27 (.add a28 1) [.slice ap26p ap26l ap26c] fun H29=>X14 [.int .i64 (wrap .i64 (k15+1))] H29)→J17 [] H18)→br (decide (k15<n8)) (∃a32,f1=some a32∧ ∃e33,cell H16 (.add a32 3)=some (.int .i64 e33)∧br (e33==0) (J17 [] H16) (R (.tuple #[]) H16)) (R (.tuple #[]) H16))→X14 [.int .i64 k15] H16)→X14 [.int .i64 0] H13)→J12 [] H13)→
 ∃a34,f1=some a34∧ ∃e35,cell H10 (.add a34 3)=some (.int .i64 e35)∧br (e35 != 0)
 (R (.tuple #[]) H10)
 (br (((xorI .i64 n8 m11):Int) != 65535) (Tryz.C 77 #[.pointer f1,.int .i64 25] H10 fun r36 H37=>r36= .tuple #[]∧J12 [] H37) (∃a38,f1=some a38∧ ∃mo39,cell H10 (.add a38 2)=some (.int .i64 mo39)∧ ∃a40,f1=some a40∧ ∃ou41p ou41l ou41c,cell H10 (.add a40 1)=some (.slice ou41p ou41l ou41c)∧br (decide (n8>(wrap .i64 (mo39-(ou41l:Int))))) (Tryz.C 77 #[.pointer f1,.int .i64 24] H10 fun r42 H43=>r42= .tuple #[]∧J12 [] H43) (J12 [] H10)))
def Tryz.p73:Plan:=(tl (tl (two (join [] [0,2] (one (tl (tl (tl (tl (tl (tl leaf)))))))) (tl (one (loop [(4,3)] [0,2] (two (join [] [0,2,4] (tl (tl leaf))) (two (one leaf) leaf))))))))
theorem Tryz.s73{f1:OA}{H R}(h:Tryz.S73 f1 H R):Tryz.C 73 #[.pointer f1] H R:=vcs Tryz.tab_ok Tryz.mixed Tryz.func73 Tryz.cal73 Tryz.p73 h (by kernel_rfl)
end Go.Proofs
