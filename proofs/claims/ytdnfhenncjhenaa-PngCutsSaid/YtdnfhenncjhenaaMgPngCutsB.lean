/-
  OWN WORK. Several texts in one: ShP, ShL, TileW, TileStay, ShG, GTab, GFunA, GFunB, GFunC.
-/
import Derived.Test.YtdnfhenncjhenaaMgPngCutsA
import Derived.ProofKit
import Derived.OpenShut
import Derived.RangeFuncRecord
import Derived.Test.YtdnfhenncjhenaaProg
import Derived.KernelRfl

set_option linter.unusedSimpArgs false
set_option linter.unusedVariables false
set_option maxRecDepth 100000
namespace Go.Sh
def br(t:Bool)(A B:Prop):Prop:=(t=true→A)∧(t=false→B)
def alc(H:Heap)(o:Obj)(K:Nat→Heap→Prop):Prop:=K H.size (H.push o)
def sto(H:Heap)(r:Nat)(o:Obj)(K:Heap→Prop):Prop:=K (H.setIfInBounds r o)
abbrev OA:=Option Addr
abbrev AV:=Array Value
abbrev Kv:=Value→Heap→Prop
abbrev Kl:=List Value→Heap→Prop
namespace Plan
def tl(a:Plan):Plan:=two leaf a
def g0:Plan:=tl (two (tl leaf) leaf)
def tg(a:Plan):Plan:=two g0 a
end Plan
theorem vcs{P:Program}{T:Tab}(hT:TabOk P T)(hm:P.follows .mixedOrders=true){g:FuncId}{fn:Func}(hg:P.funcs[g]?=some fn)(hc:callable P g)(p:Plan){args:Array Value}{H:Heap}
 {R:Value→Heap→Prop}{A:Prop}(h:A)(e:A=vcFun P T fn p args.toList H R):CallsH P g args H R:=by
 have:=vcFun_sound hT hm hg hc (p:=p) (args:=args.toList) (H:=H) (R:=R) (Eq.mp e h)
 simpa using this
end Go.Sh
namespace Go.Sh
theorem br_i{t:Bool}{A B:Prop}(h:t=true→A)(h':t=false→B):br t A B:=⟨h,h'⟩
theorem br_dec{p:Prop}[Decidable p]{A B:Prop}(h:p→A)(h': ¬p→B):br (decide p) A B:=⟨fun e=>h (of_decide_eq_true e),fun e=>h' (of_decide_eq_false e)⟩
theorem br_eq{a b:Int}{A B:Prop}(h:a=b→A)(h':a≠b→B):br (a==b) A B:=⟨fun e=>h (by simpa using e),fun e=>h' (by simpa using e)⟩
theorem br_ne{a b:Int}{A B:Prop}(h:a≠b→A)(h':a=b→B):br (a != b) A B:=⟨fun e=>h (by simpa using e),fun e=>h' (by simpa using e)⟩
theorem br_not{t:Bool}{A B:Prop}(h:t=false→A)(h':t=true→B):br (!t) A B:=⟨fun e=>h (by simpa using e),fun e=>h' (by simpa using e)⟩
theorem br_true{A B:Prop}(h:A):br true A B:=⟨fun _=>h,fun e=>(by cases e)⟩
theorem br_false{A B:Prop}(h:B):br false A B:=⟨fun e=>(by cases e),fun _=>h⟩
theorem br_t{t:Bool}{A B:Prop}(ht:t=true)(h:A):br t A B:=by subst ht;exact br_true h
theorem br_f{t:Bool}{A B:Prop}(ht:t=false)(h:B):br t A B:=by subst ht;exact br_false h
theorem br_y{p:Prop}[Decidable p]{A B:Prop}(hp:p)(h:A):br (decide p) A B:=br_dec (fun _=>h) (fun n=>absurd hp n)
theorem br_n{p:Prop}[Decidable p]{A B:Prop}(hp: ¬p)(h:B):br (decide p) A B:=br_dec (fun y=>absurd y hp) (fun _=>h)
theorem br_none{α:Type}{p:Option α}{A B:Prop}(h:p=none→A)(h': ∀a,p=some a→B):br (Option.isNone p) A B:=by
 cases p with
 |none=>exact br_true (h rfl)
 |some a=>exact br_false (h' a rfl)
theorem lt_of_get{H:Heap}{b:Nat}{o:Obj}(h:H[b]?=some o):b<H.size:=(Array.getElem?_eq_some_iff.1 h).1
theorem get_push_self(H:Heap)(o:Obj):(H.push o)[H.size]?=some o:=by simp
theorem get_push{H:Heap}{b:Nat}{o x:Obj}(h:H[b]?=some x):(H.push o)[b]?=some x:=Ext.push H o b x h
theorem get_set_ne{H:Heap}{b r:Nat}{o x:Obj}(hne:r≠b)(h:H[b]?=some x):(H.setIfInBounds r o)[b]?=some x:=by
 rw[Array.getElem?_setIfInBounds_ne hne];exact h
theorem get_set_self{H:Heap}{r:Nat}{o x:Obj}(h:H[r]?=some x):(H.setIfInBounds r o)[r]?=some o:=by
 rw[Array.getElem?_setIfInBounds_self_of_lt (lt_of_get h)]
theorem cell_block{H:Heap}{b i:Nat}{c:Array Value}{t:TypeId}{f:Nat×Nat}(h:H[b]?=some (.cells c t f)):cell H ⟨b,i,none⟩=c[i]?:=by
 simp[cell,h]
theorem cell_get{H:Heap}{b i:Nat}{c:Array Value}{t:TypeId}{f:Nat×Nat}{v:Value}(h:H[b]?=some (.cells c t f))(hv:c[i]?=some v):cell H ⟨b,i,none⟩=some v:=by
 rw[cell_block h];exact hv
@[simp] theorem add_none(b i n:Nat):Addr.add ⟨b,i,none⟩ n=⟨b,i+n,none⟩:=by
 unfold Addr.add;split<;>simp_all
theorem rowIn_block{H:Heap}{b i:Nat}{c cs:Array Value}{t:TypeId}{f:Nat×Nat}(h:H[b]?=some (.cells c t f))(hc: ∀j v,cs[j]?=some v→c[i+j]?=some v):
 rowIn H ⟨b,i,none⟩ cs:=by
 intro j v hv
 rw[add_none,cell_block h]
 exact hc j v hv
theorem rowIn_whole{H:Heap}{b:Nat}{c:Array Value}{t:TypeId}{f:Nat×Nat}(h:H[b]?=some (.cells c t f)):rowIn H ⟨b,0,none⟩ c:=
 rowIn_block h fun j v hv=>by rw[Nat.zero_add];exact hv
theorem stAt_one{H:Heap}{b i:Nat}{c:Array Value}{t:TypeId}{v:Value}{f:Heap→Prop}(h:H[b]?=some (.cells c t (0,0)))(hi:i<c.size)(ho:v.oneCell'=true)
 (hf:f (H.setIfInBounds b (.cells (c.setIfInBounds i v) t (0,0)))):stAt H ⟨b,i,none⟩ [v] f:=by
 refine⟨c,t,h,rfl,(by simp;omega),by simpa using ho,?_⟩
 have:(setL c.toList i [v]).toArray=c.setIfInBounds i v:=by
  rw[setL_one (by simpa using hi)]
  apply Array.toList_inj.1
  simp
 simp only[this]
 exact hf
theorem stAt_whole{H:Heap}{b:Nat}{c:Array Value}{t:TypeId}{vs:List Value}{f:Heap→Prop}(h:H[b]?=some (.cells c t (0,0)))(hl:vs.length=c.size)(ho: ∀v∈vs,v.oneCell'=true)
 (hf:f (H.setIfInBounds b (.cells vs.toArray t (0,0)))):stAt H ⟨b,0,none⟩ vs f:=by
 refine⟨c,t,h,rfl,by simp;omega,ho,?_⟩
 have:setL c.toList 0 vs=vs:=by simp[setL,hl]
 simp only[this]
 exact hf
theorem wrap_id{n:Int}(h0: -9223372036854775808≤n)(h1:n≤9223372036854775807):IntKind.wrap .i64 n=n:=wrap_i64 h0 h1
theorem wrap_u32{n:Int}(h0:0≤n)(h1:n<4294967296):IntKind.wrap .u32 n=n:=by
 simp only[IntKind.wrap,IntKind.signed,IntKind.bits];simp;omega
theorem wrap_u8{n:Int}(h0:0≤n)(h1:n<256):IntKind.wrap .u8 n=n:=by
 simp only[IntKind.wrap,IntKind.signed,IntKind.bits];simp;omega
end Go.Sh
namespace Go.Sh
open Go.RowKit
theorem kept_of{W w':World}(hos:w'.os=W.os)(ho:Out W w')(hx:Ext W.heap w'.heap)(may:MemPlace→Prop):W.keptBut w' may:=by
 have h0:W.keptBut w' (fun _=>False):=by
  refine⟨hos,ho.output,fun i hi=>?_⟩
  obtain⟨o,h⟩: ∃o,W.heap[i]?=some o:=⟨_,Array.getElem?_eq_getElem hi⟩
  rw[hx i o h,h]
  cases o with
  |cells c t fr=>exact⟨rfl,rfl,rfl,fun _ _=>rfl⟩
  |map es k=>exact .inr ⟨rfl,rfl⟩
  |_=>rfl
 exact World.keptBut_mono (fun _ f=>f.elim) h0
end Go.Sh
namespace Go.Sh
open Go.RowKit Go.ChangeShapes Go.WideShapes Go.ChangeAt
section
variable {H:Type} {enc:TypeId×Value→H} {P:Program} {W W':World}
theorem same_of(hx:Ext W.heap W'.heap){p:MemPlace}(hp:p.block<W.heap.size):W.sameAt W' p:=by
 have h:W'.heap[p.block]?=W.heap[p.block]?:=by
  obtain⟨o,h⟩: ∃o,W.heap[p.block]?=some o:=⟨_,Array.getElem?_eq_getElem hp⟩
  rw[hx _ o h,h]
 cases p with
 |cell b o=>exact World.cell?_of_block (w:=W) h
 |map b=>exact h
theorem trodAll_ext (hl : laidOutB P = true) (hx : Ext W.heap W'.heap) {sp : Nat → Bool} : ∀ {ts : List TypeId} {vs : List Value} {ds : List (DataW H)} {ps : List MemPlace}, (ts.all fun t => P.readableRec t && decide (t < P.types.size)) = true →
    DataW.TrodAll enc P W 0 (fun _ => true) true ts vs ds ps → (∀ x ∈ ps, x.block < W.heap.size) → (∀ x ∈ ps, sp x.block = true) → DataW.TrodAll enc P W' 0 sp true ts vs ds ps
  | [], vs, ds, ps, _, h, _, _ => by
    obtain ⟨rfl, rfl, rfl⟩ := trodAll_nil h
    exact trodAll_mk0
  | t :: ts, vs, ds, ps, hr, h, hlt, hs => by
    obtain ⟨v, vs1, d, ds1, a, b, rfl, rfl, rfl, h1, h2⟩ := trodAll_cons h
    simp only [List.all_cons, Bool.and_eq_true, decide_eq_true_eq] at hr
    exact trodAll_cons_mk (WideElems.Trod_stays hl hr.1.1 hr.1.2 h1 (fun x hx' => same_of hx (hlt x (List.mem_append_left _ hx'))) (fun x hx' => hs x (List.mem_append_left _ hx')))
      (trodAll_ext hl hx (by simpa using hr.2) h2 (fun x hx' => hlt x (List.mem_append_right _ hx')) (fun x hx' => hs x (List.mem_append_right _ hx')))
theorem post_same{f:Func}{s:ChangeSpec}{apart fresh handsOn again:Bool}{args:Array Value}{v:Value}{ds gs:List (DataW H)}{before pa pv:List MemPlace}
 (hW:DataW.Whole enc P f.params.toList s.vars apart W args.toList ds gs before)
 (hres: ∀(b:Nat) (sp:Nat→Bool) (hd:Bool),DataW.TrodAll enc P W' b sp hd f.resultTypes.toList (v.resultList f.resultTypes.size) (s.fn H (ds++gs)).results [])
 (hargs: ∀sp:Nat→Bool,(∀p∈before,sp p.block=true)→DataW.TrodAll enc P W' 0 sp true f.params.toList args.toList (s.fn H (ds++gs)).args pa)
 (hvars: ∀sp:Nat→Bool,(∀p∈before,sp p.block=true)→DataW.TrodVars enc P W' sp s.vars (s.fn H (ds++gs)).vars pv)
 (hps:before=pa++pv)(hk:W.keptBut W' (· ∈before))(hfz: ∀a,a.block<W.heap.size→W'.frozen? a=W.frozen? a)
 (hok: ∀(j:Nat) (t:TypeId) (r:Value),f.resultTypes[j]?=some t→(v.resultList f.resultTypes.size)[j]?=some r→Value.okWide P W' .any 0 t r):
 s.post enc P f apart fresh handsOn again W args v W':=by
 have hold: ∀p∈before,(fun b=>decide (b<W.heap.size)) p.block=true:=fun p hp=>by simpa using hW.lt p hp
 have hlt:=hW.lt
 refine⟨ds,gs,before,[],pa,pv,hW,hres _ _ _,hargs _ hold,hvars _ hold,World.keptBut_mono (fun p hp=>⟨hp,?_⟩) hk,fun _=>?_⟩
 ·rw[hps,List.mem_append] at hp
  exact Or.inr hp
 ·obtain⟨_,_,_,_,_,hz,hn⟩:=hW
  refine⟨hok,_,_,([]++pa)++pv,⟨[]++pa,pv,trodAll_append (hargs _ (fun _ _=>rfl)) (hres _ _ _),hvars _ (fun _ _=>rfl),rfl,?_,?_⟩,?_⟩
  ·intro b off hp
   have hp':(MemPlace.cell b off)∈before:=by rw[hps];simpa using hp
   rw[hfz _ (hlt _ hp')]
   exact hz b off hp'
  ·intro ha
   have:=hn ha
   rw[hps] at this
   simpa using this
  ·intro p hp _
   rw[hps]
   simpa using hp
theorem wf_range{a:Int}(h:(Lit.int .i64 a).wf=true): -9223372036854775808≤a∧a≤9223372036854775807:=by
 simpa[Lit.wf,IntKind.min,IntKind.max,IntKind.signed,IntKind.bits] using h
end
end Go.Sh
namespace Go.Sh
variable {P:Program}
def noDeferB:List Oper→Bool
 |[]=>true
 |o::r=>match o.op with
  | .defer _=>false
  |_=>noDeferB r
theorem noDeferB_ok{l:List Oper}(h:noDeferB l=true): ∀o∈l,∀c,o.op≠ .defer c:=by
 induction l with
 |nil=>intro o ho;cases ho
 |cons o r ih=>
  intro o' ho' c hc
  unfold noDeferB at h
  split at h
  ·cases h
  ·rename_i hn
   rcases List.mem_cons.1 ho' with rfl|ho'
   ·exact hn _ hc
   ·exact ih h o' ho' c hc
def flat:Code→Bool
 | .skip=>true
 | .exit _=>true
 | .ret=>true
 | .region _ ops _=>noDeferB ops.toList
 | .seq a b=>match flat a with
  |true=>flat b
  |false=>false
 | .cond _ a b=>match flat a with
  |true=>flat b
  |false=>false
 | .block _ a=>flat a
 |_=>false
theorem wpAny_in {r : Option Nat} {ops : Array Oper} {md : Region.Mode} {Q : Exit → Act → World → Prop} (hnd : noDeferB ops.toList = true) (hL : ¬ LetsOut Q) :
    ∀ (fuel : Nat) (listed : Array Bool) (a : Act) (w : World), wpAny P md ops Q fuel listed a w → wpAnyIn (FR r) 0 P md ops Q fuel listed a w
  | 0, listed, a, w, h => h
  | fuel + 1, listed, a, w, h => by
    refine ⟨h.1, fun i hi => ?_⟩
    have h := h.2 i hi
    unfold wpOp at h
    unfold wpOpIn
    cases ho : ops[i]? with
    | none => rw [ho] at h; exact wpAny_in hnd hL fuel _ _ _ h
    | some o =>
      simp only [ho] at h ⊢
      have hd : ∀ c, o.op ≠ .defer c := noDeferB_ok hnd o (by simpa using Array.mem_of_getElem? ho)
      split <;> rename_i hw <;> simp only [hw] at h
      · rcases h with h | ⟨_, h⟩
        · exact Oper.wpIn_mono (fun a w h => wpAny_in hnd hL fuel _ _ _ h) (wpIn_of_wp hd (fun _ _ _ h => h) hL h)
        · exact (hL h).elim
      · exact ⟨fun _ _ => trivial, wpAny_in hnd hL fuel _ _ _ h⟩
set_option maxHeartbeats 1000000 in
theorem vc_flat{T:Tab}(hT:TabOk P T)(hm:P.follows .mixedOrders=true){n:Nat}(w0:World)(r:Option Nat): ∀(p:Plan) (c:Code) (e:Env) (dec:Dec) (H:Heap) (Q:Post)
 (Q':Exit→Act→World→Prop) (a:Act) (w:World) (U:Act→Prop),flat c=true→vc P T n p c e dec H Q→Rep n e a→DecOk dec a→w.heap=H→Same w0 w→U a→
 (∀o∈opsOf c,∀a v,U a→U (a.put o.dst v))→Pays n w0 U Q Q'→c.wpIn (FR r) 0 P Q' a w:=by
 have leafs: ∀(c:Code) (e:Env) (dec:Dec) (H:Heap) (Q:Post) (Q':Exit→Act→World→Prop) (a:Act) (w:World) (U:Act→Prop),flat c=true→
  (match c with
   | .skip=>Q .normal e dec H
   | .region _ ops false=>vcOps P T n ops ops.toList e dec H (Q .normal)
   | .region _ ops true=>match Region.noSelect ops with
    |true=>vcAny P T n ops (Q .normal) ops.size (Array.replicate ops.size false) [] e dec H
    |false=>False
   | .exit id=>Q (.exit id) e dec H
   | .ret=>Q .ret e dec H
   |_=>False)→Rep n e a→DecOk dec a→w.heap=H→Same w0 w→U a→
  (∀o∈opsOf c,∀a v,U a→U (a.put o.dst v))→Pays n w0 U Q Q'→c.wpIn (FR r) 0 P Q' a w:=by
  intro c e dec H Q Q' a w U hfl h hr hd hw hs hu hU hpay
  split at h
  ·exact wpIn_skip (hpay _ _ _ _ _ _ h hr hd hw hs hu)
  ·rename_i id ops
   exact wpIn_region_list (vcOps_sound hT w0 U (fun e dec H a w hk hr hd hw hs hu=>hpay .normal e dec H a w hk hr hd hw hs hu) ops.toList e dec H a w h hr hd hw hs hu hU)
  ·rename_i id ops
   split at h
   ·rename_i hsel
    refine Code.wpIn_mono (Q:=fun ex a w=>ex= .normal∧Q' .normal a w) (fun ex a w hq=>by obtain⟨rfl,hq⟩:=hq;exact hq) ?_
    refine wpIn_region_any hm (wpAny_in hfl (fun⟨_,_,h⟩=>by cases h.1) _ _ _ _ (wpAny_of_T _ (fun _=>False) _ _ _ ?_))
    refine vcAny_sound hT hsel w0 U (fun i o ho=>hU o (by simpa[opsOf] using Array.mem_of_getElem? ho)) (fun c a w hq=>by cases hq.1)
     (fun e dec H a w hk hr hd hw hs hu=>⟨rfl,hpay .normal e dec H a w hk hr hd hw hs hu⟩) _ _ _ _ _ _ _ _ _ h hr hd (by exact hw) (hs.trans ⟨rfl,Out.of rfl (Nat.le_refl _) (fun _ _=>rfl)⟩) hu ?_ (fun x hx=>hx.elim)
    intro j oj hj hl
    rw[getD_replicate_false] at hl
    cases hl
   ·exact h.elim
  ·exact wpIn_exit (hpay _ _ _ _ _ _ h hr hd hw hs hu)
  ·exact wpIn_ret (hpay _ _ _ _ _ _ h hr hd hw hs hu)
  ·exact h.elim
 intro p
 induction p with
 |leaf=>
  intro c e dec H Q Q' a w U hfl h
  refine leafs c e dec H Q Q' a w U hfl ?_
  cases c<;>first|exact h|(rename_i id ops draw;cases draw<;>exact h)|(cases hfl;done)
 |join live keep p ih=>
  intro c e dec H Q Q' a w U hfl h hr hd hw hs hu hU hpay
  unfold vc at h
  split at h
  ·rename_i hkeep
   have hko:=keepOk_ok hkeep
   have h:=h (fun vs H'=> ∀a' w',Rep n (zipE live vs++keepE e keep) a'→w'.heap=H'→Same w0 w'→U a'→Q' .normal a' w')
    (allT_true fun vs H' hq a' w' hr' hw' hs' hu'=>hpay .normal _ _ _ a' w' hq hr' (DecOk.nil _) hw' hs' hu')
   refine ih c e dec H _ Q' a w (fun a'=>U a'∧Kept keep a a') hfl h hr hd hw hs ⟨hu,fun _ _=>rfl⟩ (fun o ho a v hua=>⟨hU o ho a v hua.1,hua.2.put (hko o ho) v⟩) ?_
   intro ex e' dec' H' a' w' hq hr' hd' hw' hs' hu'
   cases ex with
   |normal=>
    obtain⟨vs,hJ,hz⟩:=getV_get hq
    exact hJ a' w' (rep_live hr' hr hu'.2 hz) hw' hs' hu'.1
   |exit id=>exact hpay _ _ _ _ _ _ hq hr' hd' hw' hs' hu'.1
   |goto id=>exact hpay _ _ _ _ _ _ hq hr' hd' hw' hs' hu'.1
   |ret=>exact hpay _ _ _ _ _ _ hq hr' hd' hw' hs' hu'.1
  ·exact h.elim
 |loop live keep p ih=>
  intro c e dec H Q Q' a w U hfl h
  refine leafs c e dec H Q Q' a w U hfl ?_
  cases c<;>first|exact h|(rename_i id ops draw;cases draw<;>exact h)|(cases hfl;done)
 |scope live keep pa pb iha ihb=>
  intro c e dec H Q Q' a w U hfl h
  refine leafs c e dec H Q Q' a w U hfl ?_
  cases c<;>first|exact h|(rename_i id ops draw;cases draw<;>exact h)|(cases hfl;done)
 |one p ih=>
  intro c e dec H Q Q' a w U hfl h hr hd hw hs hu hU hpay
  cases c with
  |block id c=>
   refine wpIn_block (ih c e dec H _ _ a w U hfl h hr hd hw hs hu hU ?_)
   intro ex e' dec' H' a' w' hq hr' hd' hw' hs' hu'
   cases ex with
   |normal=>exact hpay .normal _ _ _ _ _ hq hr' hd' hw' hs' hu'
   |ret=>exact hpay .ret _ _ _ _ _ hq hr' hd' hw' hs' hu'
   |goto id=>exact hpay (.goto id) _ _ _ _ _ hq hr' hd' hw' hs' hu'
   |exit id'=>
    simp only[Post.block] at hq
    simp only[Ex.real,Exit.inBlock]
    cases hb:Nat.beq id' id with
    |true=>
     rw[hb] at hq
     rw[if_pos (Nat.eq_of_beq_eq_true hb)]
     exact hpay .normal _ _ _ _ _ hq hr' hd' hw' hs' hu'
    |false=>
     rw[hb] at hq
     rw[if_neg (fun he=>by rw[he,Nat.beq_refl] at hb;cases hb)]
     exact hpay (.exit id') _ _ _ _ _ hq hr' hd' hw' hs' hu'
  |region id ops draw=>
   refine leafs (.region id ops draw) e dec H Q Q' a w U hfl ?_ hr hd hw hs hu hU hpay
   cases draw<;>exact h
  |skip=>exact leafs _ e dec H Q Q' a w U hfl h hr hd hw hs hu hU hpay
  |exit id=>exact leafs _ e dec H Q Q' a w U hfl h hr hd hw hs hu hU hpay
  |ret=>exact leafs _ e dec H Q Q' a w U hfl h hr hd hw hs hu hU hpay
  |goto id=>cases hfl
  |_=>exact h.elim
 |two pa pb iha ihb=>
  intro c e dec H Q Q' a w U hfl h hr hd hw hs hu hU hpay
  cases c with
  |seq x y=>
   have hfx:flat x=true∧flat y=true:=by
    simp only[flat] at hfl
    cases hx:flat x with
    |true=>rw[hx] at hfl;exact⟨rfl,hfl⟩
    |false=>rw[hx] at hfl;cases hfl
   have hUx: ∀o∈opsOf x,∀a v,U a→U (a.put o.dst v):=fun o ho=>hU o (List.mem_append_left _ ho)
   have hUy: ∀o∈opsOf y,∀a v,U a→U (a.put o.dst v):=fun o ho=>hU o (List.mem_append_right _ ho)
   refine wpIn_seq (iha x e dec H _ _ a w U hfx.1 h hr hd hw hs hu hUx ?_)
   intro ex e' dec' H' a' w' hq hr' hd' hw' hs' hu'
   cases ex with
   |normal=>exact ihb y e' dec' H' Q Q' a' w' U hfx.2 hq hr' hd' hw' hs' hu' hUy hpay
   |ret=>exact hpay .ret _ _ _ _ _ hq hr' hd' hw' hs' hu'
   |goto id=>exact hpay (.goto id) _ _ _ _ _ hq hr' hd' hw' hs' hu'
   |exit id'=>exact hpay (.exit id') _ _ _ _ _ hq hr' hd' hw' hs' hu'
  |cond x t f=>
   have hfx:flat t=true∧flat f=true:=by
    simp only[flat] at hfl
    cases hx:flat t with
    |true=>rw[hx] at hfl;exact⟨rfl,hfl⟩
    |false=>rw[hx] at hfl;cases hfl
   have hUx: ∀o∈opsOf t,∀a v,U a→U (a.put o.dst v):=fun o ho=>hU o (List.mem_append_left _ ho)
   have hUy: ∀o∈opsOf f,∀a v,U a→U (a.put o.dst v):=fun o ho=>hU o (List.mem_append_right _ ho)
   unfold vc at h
   split at h
   ·rename_i hc
    exact wpIn_cond_true (decd_ok hd hc) (iha t e dec H Q Q' a w U hfx.1 h hr hd hw hs hu hUx hpay)
   ·rename_i hc
    exact wpIn_cond_false (decd_ok hd hc) (ihb f e dec H Q Q' a w U hfx.2 h hr hd hw hs hu hUy hpay)
   ·split at h
    ·rename_i s _
     split at h
     ·rename_i b hb
      have hv:=hr.val s _ hb
      have hev:a.eval (.tmp s)= .bool b:=hr.ev (x:= .tmp s) hb
      cases b with
      |true=>exact wpIn_cond_true hev (iha t _ _ H Q Q' a w U hfx.1 (h.1 rfl) (hr.cons hv) (hd.cons hv) hw hs hu hUx hpay)
      |false=>exact wpIn_cond_false hev (ihb f _ _ H Q Q' a w U hfx.2 (h.2 rfl) (hr.cons hv) (hd.cons hv) hw hs hu hUy hpay)
     ·exact h.elim
    ·exact h.elim
  |region id ops draw=>
   refine leafs (.region id ops draw) e dec H Q Q' a w U hfl ?_ hr hd hw hs hu hU hpay
   cases draw<;>exact h
  |skip=>exact leafs _ e dec H Q Q' a w U hfl h hr hd hw hs hu hU hpay
  |exit id=>exact leafs _ e dec H Q Q' a w U hfl h hr hd hw hs hu hU hpay
  |ret=>exact leafs _ e dec H Q Q' a w U hfl h hr hd hw hs hu hU hpay
  |goto id=>cases hfl
  |_=>exact h.elim
def IsLoop(lo:LoopState→Option Code→Obj):Prop:= ∃r:Loop,lo=fun s p=> .loop {r with state:=s,pending:=p}
def RdB(l:Nat)(lo:LoopState→Option Code→Obj)(K:Value→Heap→Prop):Post
 | .normal=>fun _ _ H=>H[l]?=some (lo .busy none)∧sto H l (lo .ready none) fun H'=>K (.bool true) H'
 | .ret=>fun _ _ H=>H[l]?=some (lo .busy none)∧sto H l (lo .done (some .ret)) fun H'=>K (.bool false) H'
 |_=>fun _ _ _=>False
def RdA(P:Program)(T:Tab)(n l:Nat)(lo:LoopState→Option Code→Obj)(p:Plan)(body:Code)(K:Value→Heap→Prop):Post
 | .normal=>fun e _ H=>H[l]?=some (lo .ready none)∧sto H l (lo .busy none) fun H'=>vc P T n p body e [] H' (RdB l lo K)
 |_=>fun _ _ _=>False
theorem same_put{w0 w:World}(hs:Same w0 w){l:Nat}{x o:Obj}(h:w.heap[l]?=some x)(ho:fz (some o)=fz (some x)):Same w0 (w.putObj l o):=hs.trans ⟨rfl,Out.set h ho⟩
theorem round_sound{T:Tab}(hT:TabOk P T)(hm:P.follows .mixedOrders=true){n:Nat}{r:Loop}{e:Env}{a:Act}(hr:Rep n e a)(hra:r.tmps=a.tmps){t:Tmp}(ht:t<n)(hps:r.params=#[t])
 (hfa:flat r.assign=true)(hfb:flat r.body=true){l:Nat}{v:Value}{H:Heap}{p:Plan}{K:Value→Heap→Prop}
 (h:vc P T n .leaf r.assign ((t,v)::e) [] H (RdA P T n l (fun s p=> .loop {r with state:=s,pending:=p}) p r.body K))(hl:H[l]?=some (.loop {r with state:= .ready,pending:=none})):YieldH P l #[v] H K:=by
 intro w hw
 subst hw
 refine⟨_,_,_,_,run_yield hl (by simp[hps]),?_⟩
 let a1:Act:={tmps:=r.tmps.setIfInBounds t v,defers:=[]}
 have htm:(({r with state:= .ready,pending:=none}:Loop).params.zip #[v]).foldl (fun(tmps:Array Value) (t,a)=>tmps.setIfInBounds t a) ({r with state:= .ready,pending:=none}:Loop).tmps=a1.tmps:=by
  simp[hps,a1]
 rw[htm]
 refine roundIn_of_wpIn (F:=FR none) (l:=l) trivial ?_
 have hr1:Rep n ((t,v)::e) a1:=by
  have:=hr.put v (d:=t) ht
  refine⟨?_,fun s u hu=>?_⟩
  ·show(r.tmps.setIfInBounds t v).size=n
   rw[hra,Array.size_setIfInBounds];exact hr.size
  ·have:=this.val s u hu
   show(r.tmps.setIfInBounds t v)[s]?=some u
   rw[hra];exact this
 refine vc_flat hT hm w (some l) .leaf r.assign _ [] _ _ _ a1 w (fun _=>True) hfa h hr1 (DecOk.nil _) rfl (Same.refl w) trivial (fun _ _ _ _ _=>trivial) ?_
 intro ex e1 dec1 H1 a2 w1 hq hr2 hd2 hw1 hs1 _
 cases ex with
 |normal=>
  obtain⟨hl1,hq⟩:=hq
  subst hw1
  refine⟨_,run_beginRound hl1 rfl,?_⟩
  refine vc_flat hT hm w (some l) p r.body e1 [] _ _ _ a2 _ (fun _=>True) hfb hq hr2 (DecOk.nil _) rfl (same_put hs1 hl1 rfl) trivial (fun _ _ _ _ _=>trivial) ?_
  intro ex e2 dec2 H2 a3 w2 hq2 hr3 hd3 hw2 hs2 _
  subst hw2
  cases ex with
  |normal=>exact⟨_,_,run_endRound none hq2.1,_,rfl,hs2.os,hs2.output.trans (Out.set hq2.1 rfl),hq2.2⟩
  |ret=>exact⟨_,_,run_endRound (some .ret) hq2.1,_,rfl,hs2.os,hs2.output.trans (Out.set hq2.1 rfl),hq2.2⟩
  |exit id=>exact hq2.elim
  |goto id=>exact hq2.elim
 |exit id=>exact hq.elim
 |goto id=>exact hq.elim
 |ret=>exact hq.elim
def hasR:Code→Bool
 | .rangeFunc _ _ _ _=>true
 | .seq a b=>match hasR a with
  |true=>true
  |false=>hasR b
 | .cond _ a b=>match hasR a with
  |true=>true
  |false=>hasR b
 | .block _ a=>hasR a
 | .loop a=>hasR a
 | .scope a=>hasR a
 |_=>false
def vcRg(P:Program)(T:Tab)(n:Nat)(t:Tmp)(ty:TypeId)(p:Plan)(g:Operand)(assign body:Code)(e:Env)(dec:Dec)(H:Heap)(Q:Option Nat→Post):Prop:=
 wv e g fun
  | .func (.func f) x y=>alc H (.deferred (some [])) fun D H1=> ∀lo:LoopState→Option Code→Obj,IsLoop lo→alc H1 (lo .ready none) fun l H2=>
   (allT T [(t,ty)] fun vs=> ∀(H':Heap) (K:Value→Heap→Prop),H'[l]?=some (lo .ready none)→vc P T n .leaf assign (zipE [(t,ty)] vs++e) [] H' (RdA P T n l lo p body K)→YieldH P l vs.toArray H' K)→
   BodyH P f (x.toList++[Value.func (.yield l) #[] #[]]++y.toList).toArray H2 fun _ H3=>
    (∃st,st≠LoopState.busy∧H3[l]?=some (lo st none)∧sto H3 l (lo .exhausted none) fun H4=>Q (some D) .normal e dec H4)∨
    (H3[l]?=some (lo .done (some .ret))∧sto H3 l (lo .exhausted (some .ret)) fun H4=>Q (some D) .ret e dec H4)
  |_=>False
def vcM(P:Program)(T:Tab)(n:Nat):Plan→Code→Env→Dec→Heap→(Option Nat→Post)→Prop
 | .join live keep p,.rangeFunc g ps assign body,e,dec,H,Q=>match live with
  |[(t,ty)]=>match ps.toList,Nat.blt t n,flat assign,flat body with
   |[t'],true,true,true=>match Nat.beq t t' with
    |true=>vcRg P T n t ty p g assign body e dec H Q
    |false=>False
   |_,_,_,_=>False
  |_=>False
 | .two pa pb,.seq a b,e,dec,H,Q=>match hasR a with
  |false=>vc P T n pa a e dec H ((Q none).then fun e dec H=>vcM P T n pb b e dec H Q)
  |true=>vcM P T n pa a e dec H fun m=>(Q m).then fun e dec H=>vc P T n pb b e dec H (Q m)
 | .one p,.block id a,e,dec,H,Q=>vcM P T n p a e dec H fun m=>(Q m).block id
 |p,c,e,dec,H,Q=>vc P T n p c e dec H (Q none)
theorem allT_one{T:Tab}{t:Nat}{ty:TypeId}{f:List Value→Prop}(h: ∀v,f [v]):allT T [(t,ty)] f:=by
 unfold allT
 split
 ·split<;>(repeat' intro)<;>exact h _
 ·intro;exact h _
def Mk(m:Option Nat)(a:Act):Prop:=a.defers=match m with
 |none=>[]
 |some D=>[{target:= .collected D,args:=#[]}]
def PaysM(n:Nat)(w0:World)(Q:Option Nat→Post)(Q':Exit→Act→World→Prop):Prop:=
 ∀m ex e dec H a w,Q m ex e dec H→Rep n e a→DecOk dec a→w.heap=H→Same w0 w→Mk m a→Q' ex.real a w
theorem Mk.put{m:Option Nat}{a:Act}(h:Mk m a)(d:Option Tmp)(v:Value):Mk m (a.put d v):=by
 unfold Mk at*;rw[put_defers];exact h
theorem vcRg_sound{T:Tab}(hT:TabOk P T)(hm:P.follows .mixedOrders=true){n:Nat}(w0:World){t:Tmp}{ty:TypeId}{p:Plan}{g:Operand}{assign body:Code}{e:Env}{dec:Dec}{H:Heap}{Q:Option Nat→Post}
 {Q':Exit→Act→World→Prop}{a:Act}{w:World}(ht:t<n)(hfa:flat assign=true)(hfb:flat body=true)(h:vcRg P T n t ty p g assign body e dec H Q)(hr:Rep n e a)(hd:DecOk dec a)(hw:w.heap=H)(hs:Same w0 w)(hmk:Mk none a)
 (hpay:PaysM n w0 Q Q'):(Code.rangeFunc g #[t] assign body).wp P Q' a w:=by
 subst hw
 unfold vcRg at h
 have hq:=wv_get h;clear h;obtain⟨vf,hf,h⟩:=hq
 split at h
 ·rename_i f x y
  refine(wpIn_wide (n:=0)).1 (wpIn_rangeFunc fun fn _=>?_)
  let r:Loop:={state:= .ready,pending:=none,fn,tmps:=a.tmps,params:=#[t],assign,body,defers:=w.heap.size}
  have h:=h (fun s p=> .loop {r with state:=s,pending:=p}) ⟨r,rfl⟩ (allT_one fun v H' K hl hv=>by
   have:=round_sound hT hm (r:=r) hr rfl ht rfl hfa hfb hv hl
   exact this)
  obtain⟨hcal,h⟩:=h
  have hy:a.eval g= .func (.func f) x y:=hr.ev hf
  have e1:(x.toList++[Value.func (.yield (w.heap.size+1)) #[] #[]]++y.toList).toArray=x++#[Value.func (.yield (w.heap.size+1)) #[] #[]]++y:=by simp
  let W1:=w.alloc (.deferred (some []))
  let W2:=W1.alloc (.loop r)
  let m:List Deferred:=[{target:= .collected w.heap.size,args:=#[]}]
  let d:Deferred:={target:= .fn (.func f) y,args:=x++#[Value.func (.yield (w.heap.size+1)) #[] #[]]}
  have hsz:W1.heap.size=w.heap.size+1:=by simp[W1]
  refine⟨w.heap.size+1,m,W2,d,W2,f,d.args++y,W2,run_enterLoop_outer fn a.tmps #[t] assign body,?_,fun _ _=>trivial,?_,fun hd=>(by cases hd),?_⟩
  ·have h1:(rangeCall g (w.heap.size+1)).args.map a.eval=#[Value.func (.yield (w.heap.size+1)) #[] #[]]:=by simp[rangeCall,Act.eval]
   unfold resolve
   simp only[rangeCall] at h1 ⊢
   rw[h1]
   simp only[hy,Deferred.ofValue]
   rfl
  ·show(callFunc f _).run P _=_
   exact run_enter hcal _ _
  ·have hh:W2.heap=(w.heap.push (.deferred (some []))).push (.loop r):=rfl
   have h:=h W2 hh
   rw[show(w.heap.push (Obj.deferred (some []))).size=w.heap.size+1 by simp,e1] at h
   refine callsIn_wide.2 (Calls.mono h ?_)
   rintro e' w3 ⟨v,rfl,h1,h2,h3⟩
   have hs2:Same w W2:=⟨rfl,(Out.push w (o:= .deferred (some [])) rfl).trans (Out.push W1 (o:= .loop r) rfl)⟩
   have hs3:Same w0 w3:=(hs.trans hs2).trans ⟨h1,h2⟩
   have hmk':Mk (some w.heap.size) {a with defers:=m++a.defers}:=by
    unfold Mk at hmk ⊢
    simp only[] at hmk ⊢
    rw[hmk];rfl
   have hr':Rep n e {a with defers:=m++a.defers}:=⟨hr.size,hr.val⟩
   have hd':DecOk dec {a with defers:=m++a.defers}:=hd
   rcases h3 with ⟨st,hst,h4,h5⟩|⟨h4,h5⟩
   ·refine⟨none,_,run_endLoop h4 hst,?_⟩
    exact hpay _ .normal _ _ _ _ _ h5 hr' hd' rfl (same_put hs3 h4 rfl) hmk'
   ·refine⟨some .ret,_,run_endLoop h4 (by simp),?_⟩
    exact wpIn_ret (hpay _ .ret _ _ _ _ _ h5 hr' hd' rfl (same_put hs3 h4 rfl) hmk')
 ·exact h.elim
set_option maxHeartbeats 1000000 in
theorem vcM_sound{T:Tab}(hT:TabOk P T)(hm:P.follows .mixedOrders=true){n:Nat}(w0:World): ∀(p:Plan) (c:Code) (e:Env) (dec:Dec) (H:Heap) (Q:Option Nat→Post)
 (Q':Exit→Act→World→Prop) (a:Act) (w:World),vcM P T n p c e dec H Q→Rep n e a→DecOk dec a→w.heap=H→Same w0 w→Mk none a→PaysM n w0 Q Q'→c.wp P Q' a w:=by
 have back: ∀(p:Plan) (c:Code) (e:Env) (dec:Dec) (H:Heap) (Q:Option Nat→Post) (Q':Exit→Act→World→Prop) (a:Act) (w:World) (m:Option Nat),vc P T n p c e dec H (Q m)→Rep n e a→DecOk dec a→w.heap=H→Same w0 w→Mk m a→
  PaysM n w0 Q Q'→c.wp P Q' a w:=fun p c e dec H Q Q' a w m h hr hd hw hs hmk hpay=>
  vc_sound hT hm w0 p c e dec H (Q m) Q' a w (Mk m) h hr hd hw hs hmk (fun o _ a v hu=>hu.put _ _) (fun ex e dec H a w hq hr hd hw hs hu=>hpay m ex e dec H a w hq hr hd hw hs hu)
 intro p
 induction p with
 |leaf=>intro c e dec H Q Q' a w h;exact back _ _ _ _ _ Q Q' a w none (by unfold vcM at h;exact h)
 |loop live keep p ih=>intro c e dec H Q Q' a w h;exact back _ _ _ _ _ Q Q' a w none (by unfold vcM at h;exact h)
 |scope live keep pa pb iha ihb=>intro c e dec H Q Q' a w h;exact back _ _ _ _ _ Q Q' a w none (by unfold vcM at h;exact h)
 |join live keep p ih=>
  intro c e dec H Q Q' a w h hr hd hw hs hmk hpay
  cases c with
  |rangeFunc g ps assign body=>
   unfold vcM at h
   split at h
   ·rename_i t ty
    split at h
    ·rename_i t' hps ht hfa hfb
     split at h
     ·rename_i htt
      have:=Nat.eq_of_beq_eq_true htt
      subst this
      have hps':ps=#[t]:=by rw[←Array.toArray_toList (xs:=ps),hps]
      subst hps'
      exact vcRg_sound hT hm w0 (Nat.le_of_ble_eq_true ht) hfa hfb h hr hd hw hs hmk hpay
     ·exact h.elim
    ·exact h.elim
   ·exact h.elim
  |_=>exact back _ _ _ _ _ Q Q' a w none (by unfold vcM at h;exact h) hr hd hw hs hmk hpay
 |one p ih=>
  intro c e dec H Q Q' a w h hr hd hw hs hmk hpay
  cases c with
  |block id c=>
   unfold vcM at h
   refine wp_block (ih c e dec H _ _ a w h hr hd hw hs hmk ?_)
   intro m ex e' dec' H' a' w' hq hr' hd' hw' hs' hu'
   cases ex with
   |normal=>exact hpay m .normal _ _ _ _ _ hq hr' hd' hw' hs' hu'
   |ret=>exact hpay m .ret _ _ _ _ _ hq hr' hd' hw' hs' hu'
   |goto id=>exact hpay m (.goto id) _ _ _ _ _ hq hr' hd' hw' hs' hu'
   |exit id'=>
    simp only[Post.block] at hq
    simp only[Ex.real,Exit.inBlock]
    cases hb:Nat.beq id' id with
    |true=>
     rw[hb] at hq
     rw[if_pos (Nat.eq_of_beq_eq_true hb)]
     exact hpay m .normal _ _ _ _ _ hq hr' hd' hw' hs' hu'
    |false=>
     rw[hb] at hq
     rw[if_neg (fun he=>by rw[he,Nat.beq_refl] at hb;cases hb)]
     exact hpay m (.exit id') _ _ _ _ _ hq hr' hd' hw' hs' hu'
  |_=>exact back _ _ _ _ _ Q Q' a w none (by unfold vcM at h;exact h) hr hd hw hs hmk hpay
 |two pa pb iha ihb=>
  intro c e dec H Q Q' a w h hr hd hw hs hmk hpay
  cases c with
  |seq x y=>
   unfold vcM at h
   split at h
   ·refine wp_seq (vc_sound hT hm w0 pa x e dec H _ _ a w (Mk none) h hr hd hw hs hmk (fun o _ a v hu=>hu.put _ _) ?_)
    intro ex e' dec' H' a' w' hq hr' hd' hw' hs' hu'
    cases ex with
    |normal=>exact ihb y e' dec' H' Q Q' a' w' hq hr' hd' hw' hs' hu' hpay
    |ret=>exact hpay none .ret _ _ _ _ _ hq hr' hd' hw' hs' hu'
    |goto id=>exact hpay none (.goto id) _ _ _ _ _ hq hr' hd' hw' hs' hu'
    |exit id'=>exact hpay none (.exit id') _ _ _ _ _ hq hr' hd' hw' hs' hu'
   ·refine wp_seq (iha x e dec H _ _ a w h hr hd hw hs hmk ?_)
    intro m ex e' dec' H' a' w' hq hr' hd' hw' hs' hu'
    cases ex with
    |normal=>exact back pb y e' dec' H' Q Q' a' w' m hq hr' hd' hw' hs' hu' hpay
    |ret=>exact hpay m .ret _ _ _ _ _ hq hr' hd' hw' hs' hu'
    |goto id=>exact hpay m (.goto id) _ _ _ _ _ hq hr' hd' hw' hs' hu'
    |exit id'=>exact hpay m (.exit id') _ _ _ _ _ hq hr' hd' hw' hs' hu'
  |_=>exact back _ _ _ _ _ Q Q' a w none (by unfold vcM at h;exact h) hr hd hw hs hmk hpay
def finM(m:Option Nat)(H:Heap)(K:Heap→Prop):Prop:=
 match m with
 |none=>K H
 |some D=>H[D]?=some (.deferred (some []))∧sto H D (.deferred none) K
def vcFunM(P:Program)(T:Tab)(fn:Func)(p:Plan)(args:List Value)(H:Heap)(R:Value→Heap→Prop):Prop:=
 match fn.body with
 |some c=>match Nat.ble args.length fn.ntmps with
  |true=>vcM P T fn.ntmps p c (argE 0 args) [] H fun m=>fun
   | .normal=>fun e _ H'=>finM m H' fun H''=>resQ T e H'' fn.results.toList fun l=>R (retV l) H''
   | .ret=>fun e _ H'=>finM m H' fun H''=>resQ T e H'' fn.results.toList fun l=>R (retV l) H''
   | .exit _=>fun _ _ _=>False
   | .goto _=>fun _ _ _=>False
  |false=>False
 |none=>False
theorem vcFunM_sound{T:Tab}(hT:TabOk P T)(hm:P.follows .mixedOrders=true){g:FuncId}{fn:Func}(hg:P.funcs[g]?=some fn)(hc:callable P g){p:Plan}{args:List Value}{H:Heap}
 {R:Value→Heap→Prop}(h:vcFunM P T fn p args H R):CallsH P g args.toArray H R:=by
 refine .inl ⟨hc,fun w hw=>?_⟩
 unfold vcFunM at h
 split at h
 ·rename_i c hb
  split at h
  ·rename_i hlen
   have hlen':args.length≤fn.ntmps:=Nat.le_of_ble_eq_true hlen
   refine callsIn_wide.1 (callsIn_of_wp_marks (n:=0) hg hb trivial (wpIn_wide.2 ?_))
   refine vcM_sound hT hm w p c _ _ H _ _ _ w h ⟨by simp;omega,fun t v hv=>?_⟩ (DecOk.nil _) hw (Same.refl w) rfl ?_
   ·obtain⟨_,h2⟩:=look_argE hv
    simp only[Nat.sub_zero] at h2
    have hlt:t<args.length:=(List.getElem?_eq_some_iff.1 h2).1
    rw[Array.getElem?_append_left (by simpa using hlt)]
    simpa using h2
   ·intro m ex e dec H' a' w' hq hr' hd' hw' hs' hu'
    subst hw'
    have fin:finM m w'.heap (fun H''=>resQ T e H'' fn.results.toList fun l=>R (retV l) H'')→
     LeavesInM Fence.wide 0 P fn a'.tmps (fun e w'=> ∃v,e= .returned v∧w'.os=w.os∧Out w w'∧R v w'.heap) a'.defers .returning w':=by
     intro hf
     cases m with
     |none=>
      obtain⟨vs,hf,hrun⟩:=results_run hT hr' w' hf
      have hu':a'.defers=[]:=hu'
      rw[hu']
      exact⟨_,hrun,_,rfl,hs'.os,hs'.output,hf⟩
     |some D=>
      have hu':a'.defers=[{target:= .collected D,args:=#[]}]:=hu'
      rw[hu']
      obtain⟨h1,hf⟩:=hf
      obtain⟨vs,hf,hrun⟩:=results_run hT hr' (w'.putObj D (.deferred none)) hf
      refine⟨by simp,.inl ⟨D,_,rfl,run_takeDeferred h1,?_⟩⟩
      exact⟨_,hrun,_,rfl,hs'.os,hs'.output.trans (Out.set h1 rfl),hf⟩
    cases ex with
    |normal=>exact fin hq
    |ret=>exact fin hq
    |exit id=>exact hq.elim
    |goto id=>exact hq.elim
  ·exact h.elim
 ·exact h.elim
theorem vcsM{P:Program}{T:Tab}(hT:TabOk P T)(hm:P.follows .mixedOrders=true){g:FuncId}{fn:Func}(hg:P.funcs[g]?=some fn)(hc:callable P g)(p:Plan){args:Array Value}{H:Heap}
 {R:Value→Heap→Prop}{A:Prop}(h:A)(e:A=vcFunM P T fn p args.toList H R):CallsH P g args H R:=by
 have:=vcFunM_sound hT hm hg hc (p:=p) (args:=args.toList) (H:=H) (R:=R) (Eq.mp e h)
 simpa using this
end Go.Sh
namespace Go.Proofs
open Go.Sh
def Try.i0:TI:=⟨.tuple [],1,0,Value.tuple #[]⟩
theorem Try.tok0:TIok Try.prog 0 Try.i0:=⟨by kernel_rfl,by kernel_rfl⟩
def Try.i3:TI:=⟨.int .i64,1,8,Value.int .i64 0⟩
theorem Try.tok3:TIok Try.prog 3 Try.i3:=⟨by kernel_rfl,by kernel_rfl⟩
def Try.i4:TI:=⟨.bool,1,1,Value.bool false⟩
theorem Try.tok4:TIok Try.prog 4 Try.i4:=⟨by kernel_rfl,by kernel_rfl⟩
def Try.i5:TI:=⟨.int .u8,1,1,Value.int .u8 0⟩
theorem Try.tok5:TIok Try.prog 5 Try.i5:=⟨by kernel_rfl,by kernel_rfl⟩
def Try.i9:TI:=⟨.str,1,16,Value.string ByteArray.empty⟩
theorem Try.tok9:TIok Try.prog 9 Try.i9:=⟨by kernel_rfl,by kernel_rfl⟩
def Try.i22:TI:=⟨.sl 5,1,24,Value.slice none 0 0⟩
theorem Try.tok22:TIok Try.prog 22 Try.i22:=⟨by kernel_rfl,by kernel_rfl⟩
def Try.i27:TI:=⟨.int .i64,1,8,Value.int .i64 0⟩
theorem Try.tok27:TIok Try.prog 27 Try.i27:=⟨by kernel_rfl,by kernel_rfl⟩
def Try.i28:TI:=⟨.tuple [22,27],1,0,Value.tuple #[Value.slice none 0 0,Value.int .i64 0]⟩
theorem Try.tok28:TIok Try.prog 28 Try.i28:=⟨by kernel_rfl,by kernel_rfl⟩
def Try.i31:TI:=⟨.tuple [3,3,22,27],1,0,Value.tuple #[Value.int .i64 0,Value.int .i64 0,Value.slice none 0 0,Value.int .i64 0]⟩
theorem Try.tok31:TIok Try.prog 31 Try.i31:=⟨by kernel_rfl,by kernel_rfl⟩
def Try.i45:TI:=⟨.fn,1,8,Value.nilFunc⟩
theorem Try.tok45:TIok Try.prog 45 Try.i45:=⟨by kernel_rfl,by kernel_rfl⟩
def Try.i47:TI:=⟨.tuple [22,22,4],1,0,Value.tuple #[Value.slice none 0 0,Value.slice none 0 0,Value.bool false]⟩
theorem Try.tok47:TIok Try.prog 47 Try.i47:=⟨by kernel_rfl,by kernel_rfl⟩
def Try.i54:TI:=⟨.int .u64,1,8,Value.int .u64 0⟩
theorem Try.tok54:TIok Try.prog 54 Try.i54:=⟨by kernel_rfl,by kernel_rfl⟩
def Try.i55:TI:=⟨.sl 22,1,24,Value.slice none 0 0⟩
theorem Try.tok55:TIok Try.prog 55 Try.i55:=⟨by kernel_rfl,by kernel_rfl⟩
def Try.i57:TI:=⟨.ptr 59,1,8,Value.pointer none⟩
theorem Try.tok57:TIok Try.prog 57 Try.i57:=⟨by kernel_rfl,by kernel_rfl⟩
def Try.i59:TI:=⟨.struct [(0,22)],1,24,Value.agg #[Value.slice none 0 0]⟩
theorem Try.tok59:TIok Try.prog 59 Try.i59:=⟨by kernel_rfl,by kernel_rfl⟩
def Try.i60:TI:=⟨.tuple [9,22],1,0,Value.tuple #[Value.string ByteArray.empty,Value.slice none 0 0]⟩
theorem Try.tok60:TIok Try.prog 60 Try.i60:=⟨by kernel_rfl,by kernel_rfl⟩
def Try.i63:TI:=⟨.tuple [22,3,27],1,0,Value.tuple #[Value.slice none 0 0,Value.int .i64 0,Value.int .i64 0]⟩
theorem Try.tok63:TIok Try.prog 63 Try.i63:=⟨by kernel_rfl,by kernel_rfl⟩
def Try.i67:TI:=⟨.sl 97,1,24,Value.slice none 0 0⟩
theorem Try.tok67:TIok Try.prog 67 Try.i67:=⟨by kernel_rfl,by kernel_rfl⟩
def Try.i69:TI:=⟨.ptr 105,1,8,Value.pointer none⟩
theorem Try.tok69:TIok Try.prog 69 Try.i69:=⟨by kernel_rfl,by kernel_rfl⟩
def Try.i72:TI:=⟨.struct [(0,69)],1,8,Value.agg #[Value.pointer none]⟩
theorem Try.tok72:TIok Try.prog 72 Try.i72:=⟨by kernel_rfl,by kernel_rfl⟩
def Try.i74:TI:=⟨.sl 3,1,24,Value.slice none 0 0⟩
theorem Try.tok74:TIok Try.prog 74 Try.i74:=⟨by kernel_rfl,by kernel_rfl⟩
def Try.i76:TI:=⟨.struct [(0,74),(1,74),(2,74),(3,74)],4,96,Value.agg #[Value.slice none 0 0,Value.slice none 0 0,Value.slice none 0 0,Value.slice none 0 0]⟩
theorem Try.tok76:TIok Try.prog 76 Try.i76:=⟨by kernel_rfl,by kernel_rfl⟩
def Try.i78:TI:=⟨.tuple [74,74],1,0,Value.tuple #[Value.slice none 0 0,Value.slice none 0 0]⟩
theorem Try.tok78:TIok Try.prog 78 Try.i78:=⟨by kernel_rfl,by kernel_rfl⟩
def Try.i82:TI:=⟨.ptr 86,1,8,Value.pointer none⟩
theorem Try.tok82:TIok Try.prog 82 Try.i82:=⟨by kernel_rfl,by kernel_rfl⟩
def Try.i83:TI:=⟨.ptr 120,1,8,Value.pointer none⟩
theorem Try.tok83:TIok Try.prog 83 Try.i83:=⟨by kernel_rfl,by kernel_rfl⟩
def Try.i86:TI:=⟨.struct [(0,83),(1,22),(2,3),(3,27)],4,48,Value.agg #[Value.pointer none,Value.slice none 0 0,Value.int .i64 0,Value.int .i64 0]⟩
theorem Try.tok86:TIok Try.prog 86 Try.i86:=⟨by kernel_rfl,by kernel_rfl⟩
def Try.i88:TI:=⟨.ptr 125,1,8,Value.pointer none⟩
theorem Try.tok88:TIok Try.prog 88 Try.i88:=⟨by kernel_rfl,by kernel_rfl⟩
def Try.i89:TI:=⟨.tuple [88,4],1,0,Value.tuple #[Value.pointer none,Value.bool false]⟩
theorem Try.tok89:TIok Try.prog 89 Try.i89:=⟨by kernel_rfl,by kernel_rfl⟩
def Try.i92:TI:=⟨.tuple [88,88],1,0,Value.tuple #[Value.pointer none,Value.pointer none]⟩
theorem Try.tok92:TIok Try.prog 92 Try.i92:=⟨by kernel_rfl,by kernel_rfl⟩
def Try.i97:TI:=⟨.struct [(0,3),(1,3),(2,5)],3,24,Value.agg #[Value.int .i64 0,Value.int .i64 0,Value.int .u8 0]⟩
theorem Try.tok97:TIok Try.prog 97 Try.i97:=⟨by kernel_rfl,by kernel_rfl⟩
def Try.i98:TI:=⟨.ptr 100,1,8,Value.pointer none⟩
theorem Try.tok98:TIok Try.prog 98 Try.i98:=⟨by kernel_rfl,by kernel_rfl⟩
def Try.i100:TI:=⟨.struct [(0,22),(1,74),(2,74)],3,72,Value.agg #[Value.slice none 0 0,Value.slice none 0 0,Value.slice none 0 0]⟩
theorem Try.tok100:TIok Try.prog 100 Try.i100:=⟨by kernel_rfl,by kernel_rfl⟩
def Try.i101:TI:=⟨.tuple [3,3],1,0,Value.tuple #[Value.int .i64 0,Value.int .i64 0]⟩
theorem Try.tok101:TIok Try.prog 101 Try.i101:=⟨by kernel_rfl,by kernel_rfl⟩
def Try.i105:TI:=⟨.struct [(0,22),(1,3),(2,4)],3,40,Value.agg #[Value.slice none 0 0,Value.int .i64 0,Value.bool false]⟩
theorem Try.tok105:TIok Try.prog 105 Try.i105:=⟨by kernel_rfl,by kernel_rfl⟩
def Try.i107:TI:=⟨.tuple [3,3,3],1,0,Value.tuple #[Value.int .i64 0,Value.int .i64 0,Value.int .i64 0]⟩
theorem Try.tok107:TIok Try.prog 107 Try.i107:=⟨by kernel_rfl,by kernel_rfl⟩
def Try.i110:TI:=⟨.fn,1,8,Value.nilFunc⟩
theorem Try.tok110:TIok Try.prog 110 Try.i110:=⟨by kernel_rfl,by kernel_rfl⟩
def Try.i111:TI:=⟨.tuple [74,4],1,0,Value.tuple #[Value.slice none 0 0,Value.bool false]⟩
theorem Try.tok111:TIok Try.prog 111 Try.i111:=⟨by kernel_rfl,by kernel_rfl⟩
def Try.i118:TI:=⟨.int .u32,1,4,Value.int .u32 0⟩
theorem Try.tok118:TIok Try.prog 118 Try.i118:=⟨by kernel_rfl,by kernel_rfl⟩
def Try.i120:TI:=⟨.struct [(0,22),(1,3),(2,4)],3,40,Value.agg #[Value.slice none 0 0,Value.int .i64 0,Value.bool false]⟩
theorem Try.tok120:TIok Try.prog 120 Try.i120:=⟨by kernel_rfl,by kernel_rfl⟩
def Try.i121:TI:=⟨.tuple [3,4],1,0,Value.tuple #[Value.int .i64 0,Value.bool false]⟩
theorem Try.tok121:TIok Try.prog 121 Try.i121:=⟨by kernel_rfl,by kernel_rfl⟩
def Try.i123:TI:=⟨.sl 126,1,24,Value.slice none 0 0⟩
theorem Try.tok123:TIok Try.prog 123 Try.i123:=⟨by kernel_rfl,by kernel_rfl⟩
def Try.i125:TI:=⟨.struct [(0,123)],1,24,Value.agg #[Value.slice none 0 0]⟩
theorem Try.tok125:TIok Try.prog 125 Try.i125:=⟨by kernel_rfl,by kernel_rfl⟩
def Try.i126:TI:=⟨.arr 2 3,2,16,Value.agg #[Value.int .i64 0,Value.int .i64 0]⟩
theorem Try.tok126:TIok Try.prog 126 Try.i126:=⟨by kernel_rfl,by kernel_rfl⟩
def Try.i132:TI:=⟨.sl 74,1,24,Value.slice none 0 0⟩
theorem Try.tok132:TIok Try.prog 132 Try.i132:=⟨by kernel_rfl,by kernel_rfl⟩
def Try.i134:TI:=⟨.sl 136,1,24,Value.slice none 0 0⟩
theorem Try.tok134:TIok Try.prog 134 Try.i134:=⟨by kernel_rfl,by kernel_rfl⟩
def Try.i136:TI:=⟨.struct [(0,3),(1,74)],2,32,Value.agg #[Value.int .i64 0,Value.slice none 0 0]⟩
theorem Try.tok136:TIok Try.prog 136 Try.i136:=⟨by kernel_rfl,by kernel_rfl⟩
def Try.i138:TI:=⟨.fn,1,8,Value.nilFunc⟩
theorem Try.tok138:TIok Try.prog 138 Try.i138:=⟨by kernel_rfl,by kernel_rfl⟩
def Try.i146:TI:=⟨.sl 134,1,24,Value.slice none 0 0⟩
theorem Try.tok146:TIok Try.prog 146 Try.i146:=⟨by kernel_rfl,by kernel_rfl⟩
def Try.tab:Tab:=[(0,Try.i0),(3,Try.i3),(4,Try.i4),(5,Try.i5),(9,Try.i9),(22,Try.i22),(27,Try.i27),(28,Try.i28),(31,Try.i31),(45,Try.i45),(47,Try.i47),(54,Try.i54),(55,Try.i55),(57,Try.i57),(59,Try.i59),(60,Try.i60),(63,Try.i63),(67,Try.i67),(69,Try.i69),(72,Try.i72),(74,Try.i74),(76,Try.i76),(78,Try.i78),(82,Try.i82),(83,Try.i83),(86,Try.i86),(88,Try.i88),(89,Try.i89),(92,Try.i92),(97,Try.i97),(98,Try.i98),(100,Try.i100),(101,Try.i101),(105,Try.i105),(107,Try.i107),(110,Try.i110),(111,Try.i111),(118,Try.i118),(120,Try.i120),(121,Try.i121),(123,Try.i123),(125,Try.i125),(126,Try.i126),(132,Try.i132),(134,Try.i134),(136,Try.i136),(138,Try.i138),(146,Try.i146)]
theorem Try.tab_ok:TabOk Try.prog Try.tab:=by
 unfold TabOk Try.tab
 simp only[List.forall_mem_cons]
 exact⟨Try.tok0,Try.tok3,Try.tok4,Try.tok5,Try.tok9,Try.tok22,Try.tok27,Try.tok28,Try.tok31,Try.tok45,Try.tok47,Try.tok54,Try.tok55,Try.tok57,Try.tok59,Try.tok60,Try.tok63,Try.tok67,Try.tok69,Try.tok72,Try.tok74,Try.tok76,Try.tok78,Try.tok82,Try.tok83,Try.tok86,Try.tok88,Try.tok89,Try.tok92,Try.tok97,Try.tok98,Try.tok100,Try.tok101,Try.tok105,Try.tok107,Try.tok110,Try.tok111,Try.tok118,Try.tok120,Try.tok121,Try.tok123,Try.tok125,Try.tok126,Try.tok132,Try.tok134,Try.tok136,Try.tok138,Try.tok146,fun _ h=>by cases h⟩
abbrev Try.C:=CallsH Try.prog
theorem Try.mixed:Try.prog.follows .mixedOrders=true:=by kernel_rfl
theorem Try.cal3:callable Try.prog 3:=⟨Try.f3,Try.func3,by kernel_rfl,by kernel_rfl⟩
theorem Try.cal4:callable Try.prog 4:=⟨Try.f4,Try.func4,by kernel_rfl,by kernel_rfl⟩
theorem Try.cal5:callable Try.prog 5:=⟨Try.f5,Try.func5,by kernel_rfl,by kernel_rfl⟩
theorem Try.cal6:callable Try.prog 6:=⟨Try.f6,Try.func6,by kernel_rfl,by kernel_rfl⟩
theorem Try.cal7:callable Try.prog 7:=⟨Try.f7,Try.func7,by kernel_rfl,by kernel_rfl⟩
theorem Try.cal8:callable Try.prog 8:=⟨Try.f8,Try.func8,by kernel_rfl,by kernel_rfl⟩
theorem Try.cal9:callable Try.prog 9:=⟨Try.f9,Try.func9,by kernel_rfl,by kernel_rfl⟩
theorem Try.cal10:callable Try.prog 10:=⟨Try.f10,Try.func10,by kernel_rfl,by kernel_rfl⟩
theorem Try.cal11:callable Try.prog 11:=⟨Try.f11,Try.func11,by kernel_rfl,by kernel_rfl⟩
theorem Try.cal12:callable Try.prog 12:=⟨Try.f12,Try.func12,by kernel_rfl,by kernel_rfl⟩
theorem Try.cal13:callable Try.prog 13:=⟨Try.f13,Try.func13,by kernel_rfl,by kernel_rfl⟩
theorem Try.cal14:callable Try.prog 14:=⟨Try.f14,Try.func14,by kernel_rfl,by kernel_rfl⟩
theorem Try.cal15:callable Try.prog 15:=⟨Try.f15,Try.func15,by kernel_rfl,by kernel_rfl⟩
theorem Try.cal16:callable Try.prog 16:=⟨Try.f16,Try.func16,by kernel_rfl,by kernel_rfl⟩
theorem Try.cal17:callable Try.prog 17:=⟨Try.f17,Try.func17,by kernel_rfl,by kernel_rfl⟩
theorem Try.cal18:callable Try.prog 18:=⟨Try.f18,Try.func18,by kernel_rfl,by kernel_rfl⟩
theorem Try.cal19:callable Try.prog 19:=⟨Try.f19,Try.func19,by kernel_rfl,by kernel_rfl⟩
theorem Try.cal20:callable Try.prog 20:=⟨Try.f20,Try.func20,by kernel_rfl,by kernel_rfl⟩
theorem Try.cal21:callable Try.prog 21:=⟨Try.f21,Try.func21,by kernel_rfl,by kernel_rfl⟩
theorem Try.cal22:callable Try.prog 22:=⟨Try.f22,Try.func22,by kernel_rfl,by kernel_rfl⟩
theorem Try.cal23:callable Try.prog 23:=⟨Try.f23,Try.func23,by kernel_rfl,by kernel_rfl⟩
theorem Try.cal24:callable Try.prog 24:=⟨Try.f24,Try.func24,by kernel_rfl,by kernel_rfl⟩
theorem Try.cal25:callable Try.prog 25:=⟨Try.f25,Try.func25,by kernel_rfl,by kernel_rfl⟩
theorem Try.cal26:callable Try.prog 26:=⟨Try.f26,Try.func26,by kernel_rfl,by kernel_rfl⟩
theorem Try.cal27:callable Try.prog 27:=⟨Try.f27,Try.func27,by kernel_rfl,by kernel_rfl⟩
theorem Try.cal28:callable Try.prog 28:=⟨Try.f28,Try.func28,by kernel_rfl,by kernel_rfl⟩
theorem Try.cal29:callable Try.prog 29:=⟨Try.f29,Try.func29,by kernel_rfl,by kernel_rfl⟩
theorem Try.cal30:callable Try.prog 30:=⟨Try.f30,Try.func30,by kernel_rfl,by kernel_rfl⟩
theorem Try.cal31:callable Try.prog 31:=⟨Try.f31,Try.func31,by kernel_rfl,by kernel_rfl⟩
theorem Try.cal32:callable Try.prog 32:=⟨Try.f32,Try.func32,by kernel_rfl,by kernel_rfl⟩
theorem Try.cal33:callable Try.prog 33:=⟨Try.f33,Try.func33,by kernel_rfl,by kernel_rfl⟩
theorem Try.cal34:callable Try.prog 34:=⟨Try.f34,Try.func34,by kernel_rfl,by kernel_rfl⟩
theorem Try.cal35:callable Try.prog 35:=⟨Try.f35,Try.func35,by kernel_rfl,by kernel_rfl⟩
theorem Try.cal36:callable Try.prog 36:=⟨Try.f36,Try.func36,by kernel_rfl,by kernel_rfl⟩
theorem Try.cal37:callable Try.prog 37:=⟨Try.f37,Try.func37,by kernel_rfl,by kernel_rfl⟩
theorem Try.cal38:callable Try.prog 38:=⟨Try.f38,Try.func38,by kernel_rfl,by kernel_rfl⟩
theorem Try.cal39:callable Try.prog 39:=⟨Try.f39,Try.func39,by kernel_rfl,by kernel_rfl⟩
theorem Try.cal40:callable Try.prog 40:=⟨Try.f40,Try.func40,by kernel_rfl,by kernel_rfl⟩
theorem Try.cal41:callable Try.prog 41:=⟨Try.f41,Try.func41,by kernel_rfl,by kernel_rfl⟩
theorem Try.cal42:callable Try.prog 42:=⟨Try.f42,Try.func42,by kernel_rfl,by kernel_rfl⟩
theorem Try.cal43:callable Try.prog 43:=⟨Try.f43,Try.func43,by kernel_rfl,by kernel_rfl⟩
theorem Try.cal44:callable Try.prog 44:=⟨Try.f44,Try.func44,by kernel_rfl,by kernel_rfl⟩
theorem Try.cal45:callable Try.prog 45:=⟨Try.f45,Try.func45,by kernel_rfl,by kernel_rfl⟩
theorem Try.cal46:callable Try.prog 46:=⟨Try.f46,Try.func46,by kernel_rfl,by kernel_rfl⟩
theorem Try.cal47:callable Try.prog 47:=⟨Try.f47,Try.func47,by kernel_rfl,by kernel_rfl⟩
theorem Try.cal48:callable Try.prog 48:=⟨Try.f48,Try.func48,by kernel_rfl,by kernel_rfl⟩
theorem Try.cal49:callable Try.prog 49:=⟨Try.f49,Try.func49,by kernel_rfl,by kernel_rfl⟩
theorem Try.cal50:callable Try.prog 50:=⟨Try.f50,Try.func50,by kernel_rfl,by kernel_rfl⟩
theorem Try.cal51:callable Try.prog 51:=⟨Try.f51,Try.func51,by kernel_rfl,by kernel_rfl⟩
theorem Try.cal52:callable Try.prog 52:=⟨Try.f52,Try.func52,by kernel_rfl,by kernel_rfl⟩
theorem Try.cal53:callable Try.prog 53:=⟨Try.f53,Try.func53,by kernel_rfl,by kernel_rfl⟩
theorem Try.cal54:callable Try.prog 54:=⟨Try.f54,Try.func54,by kernel_rfl,by kernel_rfl⟩
theorem Try.cal55:callable Try.prog 55:=⟨Try.f55,Try.func55,by kernel_rfl,by kernel_rfl⟩
theorem Try.cal56:callable Try.prog 56:=⟨Try.f56,Try.func56,by kernel_rfl,by kernel_rfl⟩
theorem Try.cal57:callable Try.prog 57:=⟨Try.f57,Try.func57,by kernel_rfl,by kernel_rfl⟩
theorem Try.cal58:callable Try.prog 58:=⟨Try.f58,Try.func58,by kernel_rfl,by kernel_rfl⟩
theorem Try.cal59:callable Try.prog 59:=⟨Try.f59,Try.func59,by kernel_rfl,by kernel_rfl⟩
theorem Try.cal60:callable Try.prog 60:=⟨Try.f60,Try.func60,by kernel_rfl,by kernel_rfl⟩
theorem Try.cal61:callable Try.prog 61:=⟨Try.f61,Try.func61,by kernel_rfl,by kernel_rfl⟩
theorem Try.cal62:callable Try.prog 62:=⟨Try.f62,Try.func62,by kernel_rfl,by kernel_rfl⟩
theorem Try.cal63:callable Try.prog 63:=⟨Try.f63,Try.func63,by kernel_rfl,by kernel_rfl⟩
theorem Try.cal64:callable Try.prog 64:=⟨Try.f64,Try.func64,by kernel_rfl,by kernel_rfl⟩
theorem Try.cal65:callable Try.prog 65:=⟨Try.f65,Try.func65,by kernel_rfl,by kernel_rfl⟩
theorem Try.cal66:callable Try.prog 66:=⟨Try.f66,Try.func66,by kernel_rfl,by kernel_rfl⟩
theorem Try.cal67:callable Try.prog 67:=⟨Try.f67,Try.func67,by kernel_rfl,by kernel_rfl⟩
theorem Try.cal68:callable Try.prog 68:=⟨Try.f68,Try.func68,by kernel_rfl,by kernel_rfl⟩
theorem Try.cal69:callable Try.prog 69:=⟨Try.f69,Try.func69,by kernel_rfl,by kernel_rfl⟩
theorem Try.cal70:callable Try.prog 70:=⟨Try.f70,Try.func70,by kernel_rfl,by kernel_rfl⟩
theorem Try.cal71:callable Try.prog 71:=⟨Try.f71,Try.func71,by kernel_rfl,by kernel_rfl⟩
theorem Try.cal72:callable Try.prog 72:=⟨Try.f72,Try.func72,by kernel_rfl,by kernel_rfl⟩
theorem Try.cal73:callable Try.prog 73:=⟨Try.f73,Try.func73,by kernel_rfl,by kernel_rfl⟩
theorem Try.cal74:callable Try.prog 74:=⟨Try.f74,Try.func74,by kernel_rfl,by kernel_rfl⟩
theorem Try.cal75:callable Try.prog 75:=⟨Try.f75,Try.func75,by kernel_rfl,by kernel_rfl⟩
theorem Try.cal76:callable Try.prog 76:=⟨Try.f76,Try.func76,by kernel_rfl,by kernel_rfl⟩
theorem Try.cal77:callable Try.prog 77:=⟨Try.f77,Try.func77,by kernel_rfl,by kernel_rfl⟩
theorem Try.cal78:callable Try.prog 78:=⟨Try.f78,Try.func78,by kernel_rfl,by kernel_rfl⟩
theorem Try.cal79:callable Try.prog 79:=⟨Try.f79,Try.func79,by kernel_rfl,by kernel_rfl⟩
theorem Try.cal80:callable Try.prog 80:=⟨Try.f80,Try.func80,by kernel_rfl,by kernel_rfl⟩
theorem Try.cal81:callable Try.prog 81:=⟨Try.f81,Try.func81,by kernel_rfl,by kernel_rfl⟩
theorem Try.cal82:callable Try.prog 82:=⟨Try.f82,Try.func82,by kernel_rfl,by kernel_rfl⟩
theorem Try.cal83:callable Try.prog 83:=⟨Try.f83,Try.func83,by kernel_rfl,by kernel_rfl⟩
theorem Try.cal84:callable Try.prog 84:=⟨Try.f84,Try.func84,by kernel_rfl,by kernel_rfl⟩
theorem Try.cal85:callable Try.prog 85:=⟨Try.f85,Try.func85,by kernel_rfl,by kernel_rfl⟩
theorem Try.cal86:callable Try.prog 86:=⟨Try.f86,Try.func86,by kernel_rfl,by kernel_rfl⟩
theorem Try.cal87:callable Try.prog 87:=⟨Try.f87,Try.func87,by kernel_rfl,by kernel_rfl⟩
theorem Try.cal88:callable Try.prog 88:=⟨Try.f88,Try.func88,by kernel_rfl,by kernel_rfl⟩
theorem Try.cal89:callable Try.prog 89:=⟨Try.f89,Try.func89,by kernel_rfl,by kernel_rfl⟩
theorem Try.cal90:callable Try.prog 90:=⟨Try.f90,Try.func90,by kernel_rfl,by kernel_rfl⟩
theorem Try.cal91:callable Try.prog 91:=⟨Try.f91,Try.func91,by kernel_rfl,by kernel_rfl⟩
theorem Try.cal92:callable Try.prog 92:=⟨Try.f92,Try.func92,by kernel_rfl,by kernel_rfl⟩
theorem Try.cal93:callable Try.prog 93:=⟨Try.f93,Try.func93,by kernel_rfl,by kernel_rfl⟩
theorem Try.cal94:callable Try.prog 94:=⟨Try.f94,Try.func94,by kernel_rfl,by kernel_rfl⟩
theorem Try.cal95:callable Try.prog 95:=⟨Try.f95,Try.func95,by kernel_rfl,by kernel_rfl⟩
theorem Try.cal96:callable Try.prog 96:=⟨Try.f96,Try.func96,by kernel_rfl,by kernel_rfl⟩
theorem Try.cal97:callable Try.prog 97:=⟨Try.f97,Try.func97,by kernel_rfl,by kernel_rfl⟩
theorem Try.cal98:callable Try.prog 98:=⟨Try.f98,Try.func98,by kernel_rfl,by kernel_rfl⟩
theorem Try.cal99:callable Try.prog 99:=⟨Try.f99,Try.func99,by kernel_rfl,by kernel_rfl⟩
theorem Try.cal100:callable Try.prog 100:=⟨Try.f100,Try.func100,by kernel_rfl,by kernel_rfl⟩
theorem Try.cal101:callable Try.prog 101:=⟨Try.f101,Try.func101,by kernel_rfl,by kernel_rfl⟩
theorem Try.cal102:callable Try.prog 102:=⟨Try.f102,Try.func102,by kernel_rfl,by kernel_rfl⟩
end Go.Proofs
namespace Go.Proofs
open Go.Sh Go.Sh.Plan
open Go.IntKind (wrap)
open Int (toNat)
def Try.S3(ki1:Int)(li2p:OA)(li2l li2c:Nat)(ab3p:OA)(ab3l ab3c:Nat)(H:Heap)(R:Kv):Prop:=
 Try.C 6 #[] H fun r4 H5=> ∃r6,r4= .bool r6∧br (!r6)
 (R (.bool false) H5)
 (∀J7:Kl,(∀H8,(Try.C 7 #[.int .i64 ki1,.slice li2p li2l li2c,.slice ab3p ab3l ab3c] H8 fun r9 H10=> ∃f11p f11l f11c,r9= .slice f11p f11l f11c∧Try.C 8 #[.int .i64 ki1,.slice li2p li2l li2c,.slice ab3p ab3l ab3c] H10 fun r12 H13=> ∃u14p u14l u14c,r12= .slice u14p u14l u14c∧ ∀J15:Kl,(∀H16,(Try.C 10 #[.int .i64 ki1,.slice li2p li2l li2c,.slice ab3p ab3l ab3c] H16 fun r17 H18=> ∃r19p r19l r19c,r17= .slice r19p r19l r19c∧Try.C 9 #[.slice f11p f11l f11c,.slice r19p r19l r19c] H18 fun r20 H21=> ∃r22,r20= .bool r22∧br r22 (Try.C 11 #[.int .i64 ki1,.slice li2p li2l li2c,.slice ab3p ab3l ab3c] H21 fun r23 H24=> ∃r25p r25l r25c,r23= .slice r25p r25l r25c∧Try.C 9 #[.slice u14p u14l u14c,.slice r25p r25l r25c] H24 fun r26 H27=> ∃r28,r26= .bool r28∧br r28 (Try.C 8 #[.int .i64 ki1,.slice f11p f11l f11c,.slice ab3p ab3l ab3c] H27 fun r29 H30=> ∃r31p r31l r31c,r29= .slice r31p r31l r31c∧Try.C 9 #[.slice r31p r31l r31c,.slice li2p li2l li2c] H30 fun r32 H33=> ∃r34,r32= .bool r34∧R (.bool r34) H33) (R (.bool false) H27)) (R (.bool false) H21))→J15 [] H16)→br (decide (ki1<0)) (br (((f11l:Int):Int)==0) (R (.bool (((u14l:Int):Int)==0)) H13) (R (.bool false) H13)) (br (decide (ki1>4)) (br (((f11l:Int):Int)==0) (R (.bool (((u14l:Int):Int)==0)) H13) (R (.bool false) H13)) (br (((li2l:Int):Int) != (ab3l:Int)) (br (((f11l:Int):Int)==0) (R (.bool (((u14l:Int):Int)==0)) H13) (R (.bool false) H13)) (J15 [] H13))))→J7 [] H8)→br (decide (((li2l:Int):Int)>400)) (R (.bool true) H5) (br (decide (((ab3l:Int):Int)>400)) (R (.bool true) H5) (J7 [] H5)))
def Try.p3:Plan:=(tl (tg (two (join [] [0,1,2] g0) (tl (two (join [] [0,1,2,7,8] g0) (tl leaf))))))
theorem Try.s3{ki1:Int}{li2p:OA}{li2l li2c:Nat}{ab3p:OA}{ab3l ab3c:Nat}{H R}(h:Try.S3 ki1 li2p li2l li2c ab3p ab3l ab3c H R):Try.C 3 #[.int .i64 ki1,.slice li2p li2l li2c,.slice ab3p ab3l ab3c] H R:=vcs Try.tab_ok Try.mixed Try.func3 Try.cal3 Try.p3 h (by kernel_rfl)
def Try.S4(w1 h2:Int)(rg3p:OA)(rg3l rg3c:Nat)(pa4:Int)(H:Heap)(R:Kv):Prop:=
 Try.C 6 #[] H fun r5 H6=> ∃r7,r5= .bool r7∧br (!r7)
 (R (.bool false) H6)
 (br (decide (((rg3l:Int):Int)>4000)) (R (.bool true) H6) (Try.C 12 #[.int .i64 w1,.int .i64 h2,.slice rg3p rg3l rg3c,.int .i64 pa4] H6 fun r8 H9=> ∃r10p r10l r10c r11,r8= .tuple #[.slice r10p r10l r10c,.int .i64 r11]∧Try.C 13 #[.int .i64 w1,.int .i64 h2] H9 fun r12 H13=> ∃r14,r12= .bool r14∧br (!r14) (br (r11==31) (R (.bool (((r10l:Int):Int)==0)) H13) (R (.bool false) H13)) (br (((rg3l:Int):Int) != (wrap .i64 ((wrap .i64 ((4:Int)*w1))*h2))) (br (r11==25) (R (.bool (((r10l:Int):Int)==0)) H13) (R (.bool false) H13)) (Try.C 14 #[.slice r10p r10l r10c] H13 fun r15 H16=> ∃r17 r18 r19p r19l r19c r20,r15= .tuple #[.int .i64 r17,.int .i64 r18,.slice r19p r19l r19c,.int .i64 r20]∧br (r11==0) (br (r20==0) (br (r17==w1) (br (r18==h2) (Try.C 9 #[.slice r19p r19l r19c,.slice rg3p rg3l rg3c] H16 fun r21 H22=> ∃r23,r21= .bool r23∧R (.bool r23) H22) (R (.bool false) H16)) (R (.bool false) H16)) (R (.bool false) H16)) (R (.bool false) H16)))))
def Try.p4:Plan:=(tl (tg (tg (tl (tg (tg (tl (tl leaf))))))))
theorem Try.s4{w1 h2:Int}{rg3p:OA}{rg3l rg3c:Nat}{pa4:Int}{H R}(h:Try.S4 w1 h2 rg3p rg3l rg3c pa4 H R):Try.C 4 #[.int .i64 w1,.int .i64 h2,.slice rg3p rg3l rg3c,.int .i64 pa4] H R:=vcs Try.tab_ok Try.mixed Try.func4 Try.cal4 Try.p4 h (by kernel_rfl)
def Try.S5(w1 h2:Int)(rg3p:OA)(rg3l rg3c:Nat)(pa4 at_5:Int)(mo6p:OA)(mo6l mo6c:Nat)(H:Heap)(R:Kv):Prop:=
 Try.C 6 #[] H fun r7 H8=> ∃r9,r7= .bool r9∧br (!r9)
 (R (.bool false) H8)
 (∀J10:Kl,(∀H11,(Try.C 12 #[.int .i64 w1,.int .i64 h2,.slice rg3p rg3l rg3c,.int .i64 pa4] H11 fun r12 H13=> ∃r14p r14l r14c r15,r12= .tuple #[.slice r14p r14l r14c,.int .i64 r15]∧ ∀J16:Kl,(∀H17,((r14l:Int)≠0∧0≤(Int.tmod at_5 (r14l:Int))∧(Int.tmod at_5 (r14l:Int))≤(r14c:Int)∧Try.C 14 #[.slice (if r14c=0 then r14p else Option.map (fun x=>Addr.add x (0*1)) r14p) ((toNat (Int.tmod at_5 (r14l:Int)))-0) (r14c-0)] H17 fun r18 H19=> ∃r20 r21 r22p r22l r22c r23,r18= .tuple #[.int .i64 r20,.int .i64 r21,.slice r22p r22l r22c,.int .i64 r23]∧Try.C 15 #[.slice r14p r14l r14c,.slice mo6p mo6l mo6c] H19 fun r24 H25=> ∃r26p r26l r26c,r24= .slice r26p r26l r26c∧Try.C 14 #[.slice r26p r26l r26c] H25 fun r27 H28=> ∃r29 r30 r31p r31l r31c r32,r27= .tuple #[.int .i64 r29,.int .i64 r30,.slice r31p r31l r31c,.int .i64 r32]∧alc H28 (.cells #[] 5) fun b33 H34=>appQ 1 1 #[.int .u8 0] H34 (some ⟨b33,0,none⟩) 0 0 r14p r14l 5 fun c35p c35l c35c H36=>(25:Int)≠0∧ ∃a37,c35p=some a37∧0≤(wrap .i64 ((8:Int)+(Int.tmod at_5 25)))∧(wrap .i64 ((8:Int)+(Int.tmod at_5 25)))<(c35l:Int)∧ ∃v38,cell H36 (.add a37 (toNat (wrap .i64 ((8:Int)+(Int.tmod at_5 25)))*1))=some (.int .u8 v38)∧(8:Int)≠0∧0≤(Int.tmod at_5 8)∧ ∃a39,c35p=some a39∧0≤(wrap .i64 ((8:Int)+(Int.tmod at_5 25)))∧(wrap .i64 ((8:Int)+(Int.tmod at_5 25)))<(c35l:Int)∧stAt H36 (.add a39 (toNat (wrap .i64 ((8:Int)+(Int.tmod at_5 25)))*1)) [.int .u8 (xorI .u8 v38 (shlI .u8 1 (Int.tmod at_5 8)))] fun H40=>Try.C 14 #[.slice c35p c35l c35c] H40 fun r41 H42=> ∃r43 r44 r45p r45l r45c r46,r41= .tuple #[.int .i64 r43,.int .i64 r44,.slice r45p r45l r45c,.int .i64 r46]∧alc H42 (.cells #[] 5) fun b47 H48=>appQ 1 1 #[.int .u8 0] H48 (some ⟨b47,0,none⟩) 0 0 r14p r14l 5 fun d49p d49l d49c H50=>(4:Int)≠0∧ ∃a51,d49p=some a51∧0≤(wrap .i64 ((wrap .i64 ((d49l:Int)-1))-(Int.tmod at_5 4)))∧(wrap .i64 ((wrap .i64 ((d49l:Int)-1))-(Int.tmod at_5 4)))<(d49l:Int)∧ ∃v52,cell H50 (.add a51 (toNat (wrap .i64 ((wrap .i64 ((d49l:Int)-1))-(Int.tmod at_5 4)))*1))=some (.int .u8 v52)∧(8:Int)≠0∧0≤(Int.tmod at_5 8)∧ ∃a53,d49p=some a53∧0≤(wrap .i64 ((wrap .i64 ((d49l:Int)-1))-(Int.tmod at_5 4)))∧(wrap .i64 ((wrap .i64 ((d49l:Int)-1))-(Int.tmod at_5 4)))<(d49l:Int)∧stAt H50 (.add a53 (toNat (wrap .i64 ((wrap .i64 ((d49l:Int)-1))-(Int.tmod at_5 4)))*1)) [.int .u8 (xorI .u8 v52 (shlI .u8 1 (Int.tmod at_5 8)))] fun H54=>Try.C 14 #[.slice d49p d49l d49c] H54 fun r55 H56=> ∃r57 r58 r59p r59l r59c r60,r55= .tuple #[.int .i64 r57,.int .i64 r58,.slice r59p r59l r59c,.int .i64 r60]∧br (r23==50) (br (r32==50) (br (r46==50) (br (r43==0) (br (r44==0) (br (((r45l:Int):Int)==0) (R (.bool (r60==50)) H56) (R (.bool false) H56)) (R (.bool false) H56)) (R (.bool false) H56)) (R (.bool false) H56)) (R (.bool false) H56)) (R (.bool false) H56))→J16 [] H17)→br (r15 != 0) (R (.bool (r15 != 0)) H13) (br (decide (((r14l:Int):Int)<40)) (R (.bool (r15 != 0)) H13) (J16 [] H13)))→J10 [] H11)→br (decide (((rg3l:Int):Int)>600)) (R (.bool true) H8) (br (decide (at_5<0)) (R (.bool true) H8) (br (decide (((mo6l:Int):Int)<1)) (R (.bool true) H8) (br (decide (((mo6l:Int):Int)>20)) (R (.bool true) H8) (J10 [] H8)))))
def Try.p5:Plan:=(tl (tg (two (join [] [0,1,2,3,4,5] g0) (tl (two (join [] [4,5,13] g0) (tl (tl (tl (tl (tl (tl (tl (tl (tl leaf))))))))))))))
theorem Try.s5{w1 h2:Int}{rg3p:OA}{rg3l rg3c:Nat}{pa4 at_5:Int}{mo6p:OA}{mo6l mo6c:Nat}{H R}(h:Try.S5 w1 h2 rg3p rg3l rg3c pa4 at_5 mo6p mo6l mo6c H R):Try.C 5 #[.int .i64 w1,.int .i64 h2,.slice rg3p rg3l rg3c,.int .i64 pa4,.int .i64 at_5,.slice mo6p mo6l mo6c] H R:=vcs Try.tab_ok Try.mixed Try.func5 Try.cal5 Try.p5 h (by kernel_rfl)
def Try.S6(H:Heap)(R:Kv):Prop:=
 alc H (.cells #[.int .u8 1,.int .u8 2,.int .u8 3,.int .u8 4] 5) fun b1 H2=>Try.C 12 #[.int .i64 1,.int .i64 1,.slice (some ⟨b1,0,none⟩) 4 4,.int .i64 0] H2 fun r3 H4=> ∃r5p r5l r5c r6,r3= .tuple #[.slice r5p r5l r5c,.int .i64 r6]∧Try.C 14 #[.slice r5p r5l r5c] H4 fun r7 H8=> ∃r9 r10 r11p r11l r11c r12,r7= .tuple #[.int .i64 r9,.int .i64 r10,.slice r11p r11l r11c,.int .i64 r12]∧Try.C 14 #[.slice none 0 0] H8 fun r13 H14=> ∃r15 r16 r17p r17l r17c r18,r13= .tuple #[.int .i64 r15,.int .i64 r16,.slice r17p r17l r17c,.int .i64 r18]∧br (r6==0) (br (r12==0) (br (r9==1) (br (r10==1) (alc H14 (.cells #[.int .u8 1,.int .u8 2,.int .u8 3,.int .u8 4] 5) fun b19 H20=>Try.C 9 #[.slice r11p r11l r11c,.slice (some ⟨b19,0,none⟩) 4 4] H20 fun r21 H22=> ∃r23,r21= .bool r23∧br r23 (R (.bool (r18==50)) H22) (R (.bool false) H22)) (R (.bool false) H14)) (R (.bool false) H14)) (R (.bool false) H14)) (R (.bool false) H14)
def Try.p6:Plan:=(tl (tl (tl (tl (tl leaf)))))
theorem Try.s6{_u:Unit}{H R}(h:Try.S6 H R):Try.C 6 #[] H R:=vcs Try.tab_ok Try.mixed Try.func6 Try.cal6 Try.p6 h (by kernel_rfl)
def Try.S7(ki1:Int)(li2p:OA)(li2l li2c:Nat)(ab3p:OA)(ab3l ab3c:Nat)(H:Heap)(R:Kv):Prop:=
 Try.C 16 #[.int .i64 ki1,.slice li2p li2l li2c,.slice ab3p ab3l ab3c] H fun r4 H5=> ∃r6,r4= .bool r6∧br (!r6)
 (R (.slice none 0 0) H5)
 (0≤(li2l:Int)∧(li2l:Int)≤(li2l:Int)∧((1:Nat):Int)*(li2l:Int)≤281474976710656∧(li2l:Int)≤281474976710656∧alc H5 (.cells (List.toArray (reps (toNat (li2l:Int)) (Array.toList #[.int .u8 0]))) 5) fun b7 H8=> ∀X9:Kl,(∀(i10:Int) H11,(br (decide (i10<(li2l:Int))) (∃a12,li2p=some a12∧0≤i10∧i10<(li2l:Int)∧ ∃v13,cell H11 (.add a12 (toNat i10*1))=some (.int .u8 v13)∧Try.C 17 #[.int .i64 ki1,.slice li2p li2l li2c,.slice ab3p ab3l ab3c,.int .i64 i10] H11 fun r14 H15=> ∃r16,r14= .int .u8 r16∧ ∃a17,(some ⟨b7,0,none⟩)=some a17∧0≤i10∧i10<(((toNat (li2l:Int)):Nat):Int)∧stAt H15 (.add a17 (toNat i10*1)) [.int .u8 (wrap .u8 (v13-r16))] fun H18=>X9 [.int .i64 (wrap .i64 (i10+1))] H18) (R (.slice (some ⟨b7,0,none⟩) (toNat (li2l:Int)) (toNat (li2l:Int))) H11))→X9 [.int .i64 i10] H11)→X9 [.int .i64 0] H8)
def Try.p7:Plan:=(tl (tg (tl (two (tl (one (loop [(20,3)] [0,1,2,7,18,19] (tl (two (tl leaf) (two (one (tl leaf)) leaf)))))) (tl leaf)))))
theorem Try.s7{ki1:Int}{li2p:OA}{li2l li2c:Nat}{ab3p:OA}{ab3l ab3c:Nat}{H R}(h:Try.S7 ki1 li2p li2l li2c ab3p ab3l ab3c H R):Try.C 7 #[.int .i64 ki1,.slice li2p li2l li2c,.slice ab3p ab3l ab3c] H R:=vcs Try.tab_ok Try.mixed Try.func7 Try.cal7 Try.p7 h (by kernel_rfl)
def Try.S8(ki1:Int)(li2p:OA)(li2l li2c:Nat)(ab3p:OA)(ab3l ab3c:Nat)(H:Heap)(R:Kv):Prop:=
 Try.C 16 #[.int .i64 ki1,.slice li2p li2l li2c,.slice ab3p ab3l ab3c] H fun r4 H5=> ∃r6,r4= .bool r6∧br (!r6)
 (R (.slice none 0 0) H5)
 (Try.C 18 #[.slice li2p li2l li2c] H5 fun r7 H8=> ∃ou9p ou9l ou9c,r7= .slice ou9p ou9l ou9c∧ ∀X10:Kl,(∀(i11:Int) H12,(br (decide (i11<(ou9l:Int))) (∃a13,ou9p=some a13∧0≤i11∧i11<(ou9l:Int)∧ ∃v14,cell H12 (.add a13 (toNat i11*1))=some (.int .u8 v14)∧Try.C 17 #[.int .i64 ki1,.slice ou9p ou9l ou9c,.slice ab3p ab3l ab3c,.int .i64 i11] H12 fun r15 H16=> ∃r17,r15= .int .u8 r17∧(Ext H12 H16∨(∃v20,cell H16 (.add a13 (toNat i11*1))=some (.int .u8 v20)∧Value.int .u8 v20= .int .u8 v14))∧ ∃a18,ou9p=some a18∧0≤i11∧i11<(ou9l:Int)∧stAt H16 (.add a18 (toNat i11*1)) [.int .u8 (wrap .u8 (v14+r17))] fun H19=>X10 [.int .i64 (wrap .i64 (i11+1))] H19) (R (.slice ou9p ou9l ou9c) H12))→X10 [.int .i64 i11] H12)→X10 [.int .i64 0] H8)
def Try.p8:Plan:=(tl (tg (tl (two (tl (one (loop [(18,3)] [0,2,7,17] (tl (two (tl leaf) (two (one (tl leaf)) leaf)))))) (tl leaf)))))
theorem Try.s8{ki1:Int}{li2p:OA}{li2l li2c:Nat}{ab3p:OA}{ab3l ab3c:Nat}{H R}(h:Try.S8 ki1 li2p li2l li2c ab3p ab3l ab3c H R):Try.C 8 #[.int .i64 ki1,.slice li2p li2l li2c,.slice ab3p ab3l ab3c] H R:=vcs Try.tab_ok Try.mixed Try.func8 Try.cal8 Try.p8 h (by kernel_rfl)
def Try.S9(a1p:OA)(a1l a1c:Nat)(b2p:OA)(b2l b2c:Nat)(H:Heap)(R:Kv):Prop:=
 br (((a1l:Int):Int) != (b2l:Int))
 (R (.bool false) H)
 (∀X3:Kl,(∀(i4:Int) H5,(br (decide (i4<(a1l:Int))) (∃a6,a1p=some a6∧0≤i4∧i4<(a1l:Int)∧ ∃v7,cell H5 (.add a6 (toNat i4*1))=some (.int .u8 v7)∧ ∃a8,b2p=some a8∧0≤i4∧i4<(b2l:Int)∧ ∃v9,cell H5 (.add a8 (toNat i4*1))=some (.int .u8 v9)∧br (v7 != v9) (R (.bool false) H5) (X3 [.int .i64 (wrap .i64 (i4+1))] H5)) (R (.bool true) H5))→X3 [.int .i64 i4] H5)→X3 [.int .i64 0] H)
def Try.p9:Plan:=(tl (tg (two (tl (one (loop [(5,3)] [0,1] (two (tl (tl leaf)) (two (one g0) leaf))))) (tl leaf))))
theorem Try.s9{a1p:OA}{a1l a1c:Nat}{b2p:OA}{b2l b2c:Nat}{H R}(h:Try.S9 a1p a1l a1c b2p b2l b2c H R):Try.C 9 #[.slice a1p a1l a1c,.slice b2p b2l b2c] H R:=vcs Try.tab_ok Try.mixed Try.func9 Try.cal9 Try.p9 h (by kernel_rfl)
def Try.S10(ki1:Int)(li2p:OA)(li2l li2c:Nat)(ab3p:OA)(ab3l ab3c:Nat)(H:Heap)(R:Kv):Prop:=
 ∀X4:Kl,(∀(ou5p:OA) (ou5l ou5c:Nat) (i6:Int) H7,(br (decide (i6<(li2l:Int))) (∃a8,li2p=some a8∧0≤i6∧i6<(li2l:Int)∧ ∃v9,cell H7 (.add a8 (toNat i6*1))=some (.int .u8 v9)∧Try.C 19 #[.int .i64 ki1,.slice li2p li2l li2c,.slice ab3p ab3l ab3c,.int .i64 i6] H7 fun r10 H11=> ∃r12,r10= .int .i64 r12∧(Ext H7 H11∨(∃v17,cell H11 (.add a8 (toNat i6*1))=some (.int .u8 v17)∧Value.int .u8 v17= .int .u8 v9))∧alc H11 (.cells #[.int .u8 (wrap .u8 (wrap .i64 ((wrap .i64 v9)-r12)))] 5) fun b13 H14=>appQ 1 1 #[.int .u8 0] H14 ou5p ou5l ou5c (some ⟨b13,0,none⟩) 1 5 fun ou15p ou15l ou15c H16=>X4 [.slice ou15p ou15l ou15c,.int .i64 (wrap .i64 (i6+1))] H16) (R (.slice ou5p ou5l ou5c) H7))→X4 [.slice ou5p ou5l ou5c,.int .i64 i6] H7)→X4 [.slice none 0 0,.int .i64 0] H
def Try.p10:Plan:=(tl (tl (two (tl (one (loop [(7,22),(8,3)] [0,1,2] (two (tl (tl leaf)) (two (one leaf) leaf))))) (tl leaf))))
theorem Try.s10{ki1:Int}{li2p:OA}{li2l li2c:Nat}{ab3p:OA}{ab3l ab3c:Nat}{H R}(h:Try.S10 ki1 li2p li2l li2c ab3p ab3l ab3c H R):Try.C 10 #[.int .i64 ki1,.slice li2p li2l li2c,.slice ab3p ab3l ab3c] H R:=vcs Try.tab_ok Try.mixed Try.func10 Try.cal10 Try.p10 h (by kernel_rfl)
def Try.S11(ki1:Int)(li2p:OA)(li2l li2c:Nat)(ab3p:OA)(ab3l ab3c:Nat)(H:Heap)(R:Kv):Prop:=
 ∀X4:Kl,(∀(ou5p:OA) (ou5l ou5c:Nat) (i6:Int) H7,(br (decide (i6<(li2l:Int))) (∃a8,li2p=some a8∧0≤i6∧i6<(li2l:Int)∧ ∃v9,cell H7 (.add a8 (toNat i6*1))=some (.int .u8 v9)∧Try.C 19 #[.int .i64 ki1,.slice ou5p ou5l ou5c,.slice ab3p ab3l ab3c,.int .i64 i6] H7 fun r10 H11=> ∃r12,r10= .int .i64 r12∧(Ext H7 H11∨(∃v17,cell H11 (.add a8 (toNat i6*1))=some (.int .u8 v17)∧Value.int .u8 v17= .int .u8 v9))∧alc H11 (.cells #[.int .u8 (wrap .u8 (wrap .i64 ((wrap .i64 v9)+r12)))] 5) fun b13 H14=>appQ 1 1 #[.int .u8 0] H14 ou5p ou5l ou5c (some ⟨b13,0,none⟩) 1 5 fun ou15p ou15l ou15c H16=>X4 [.slice ou15p ou15l ou15c,.int .i64 (wrap .i64 (i6+1))] H16) (R (.slice ou5p ou5l ou5c) H7))→X4 [.slice ou5p ou5l ou5c,.int .i64 i6] H7)→X4 [.slice none 0 0,.int .i64 0] H
def Try.p11:Plan:=(tl (tl (two (tl (one (loop [(7,22),(8,3)] [0,1,2] (two (tl (tl leaf)) (two (one leaf) leaf))))) (tl leaf))))
theorem Try.s11{ki1:Int}{li2p:OA}{li2l li2c:Nat}{ab3p:OA}{ab3l ab3c:Nat}{H R}(h:Try.S11 ki1 li2p li2l li2c ab3p ab3l ab3c H R):Try.C 11 #[.int .i64 ki1,.slice li2p li2l li2c,.slice ab3p ab3l ab3c] H R:=vcs Try.tab_ok Try.mixed Try.func11 Try.cal11 Try.p11 h (by kernel_rfl)
def Try.S12(w1 h2:Int)(rg3p:OA)(rg3l rg3c:Nat)(pa4:Int)(H:Heap)(R:Kv):Prop:=
 Try.C 20 #[.int .i64 w1,.int .i64 h2] H fun r5 H6=> ∃r7,r5= .bool r7∧br (!r7)
 (R (.tuple #[.slice none 0 0,.int .i64 31]) H6)
 (br (((rg3l:Int):Int) != (wrap .i64 ((wrap .i64 ((4:Int)*w1))*h2))) (R (.tuple #[.slice none 0 0,.int .i64 25]) H6) (0≤(wrap .i64 ((4:Int)*w1))∧(wrap .i64 ((4:Int)*w1))≤(wrap .i64 ((4:Int)*w1))∧((1:Nat):Int)*(wrap .i64 ((4:Int)*w1))≤281474976710656∧(wrap .i64 ((4:Int)*w1))≤281474976710656∧alc H6 (.cells (List.toArray (reps (toNat (wrap .i64 ((4:Int)*w1))) (Array.toList #[.int .u8 0]))) 5) fun b8 H9=> ∀X10:Kl,(∀(li11p:OA) (li11l li11c:Nat) (ab12p:OA) (ab12l ab12c:Nat) (y13:Int) H14,(br (decide (y13<h2)) (0≤(wrap .i64 ((wrap .i64 ((4:Int)*w1))*(wrap .i64 (y13+1))))∧(wrap .i64 ((wrap .i64 ((4:Int)*w1))*(wrap .i64 (y13+1))))≤(rg3c:Int)∧0≤(wrap .i64 ((wrap .i64 ((4:Int)*w1))*y13))∧(wrap .i64 ((wrap .i64 ((4:Int)*w1))*y13))≤(wrap .i64 ((wrap .i64 ((4:Int)*w1))*(wrap .i64 (y13+1))))∧Try.C 7 #[.int .i64 0,.slice (if rg3c=(toNat (wrap .i64 ((wrap .i64 ((4:Int)*w1))*y13))) then rg3p else Option.map (fun x=>Addr.add x ((toNat (wrap .i64 ((wrap .i64 ((4:Int)*w1))*y13)))*1)) rg3p) ((toNat (wrap .i64 ((wrap .i64 ((4:Int)*w1))*(wrap .i64 (y13+1)))))-(toNat (wrap .i64 ((wrap .i64 ((4:Int)*w1))*y13)))) (rg3c-(toNat (wrap .i64 ((wrap .i64 ((4:Int)*w1))*y13)))),.slice ab12p ab12l ab12c] H14 fun r15 H16=> ∃be17p be17l be17c,r15= .slice be17p be17l be17c∧ ∀X18:Kl,(∀(ki19:Int) (be20p:OA) (be20l be20c:Nat) (k21:Int) H22,(br (decide (k21≤4)) (Try.C 7 #[.int .i64 k21,.slice (if rg3c=(toNat (wrap .i64 ((wrap .i64 ((4:Int)*w1))*y13))) then rg3p else Option.map (fun x=>Addr.add x ((toNat (wrap .i64 ((wrap .i64 ((4:Int)*w1))*y13)))*1)) rg3p) ((toNat (wrap .i64 ((wrap .i64 ((4:Int)*w1))*(wrap .i64 (y13+1)))))-(toNat (wrap .i64 ((wrap .i64 ((4:Int)*w1))*y13)))) (rg3c-(toNat (wrap .i64 ((wrap .i64 ((4:Int)*w1))*y13)))),.slice ab12p ab12l ab12c] H22 fun r23 H24=> ∃f25p f25l f25c,r23= .slice f25p f25l f25c∧Try.C 21 #[.slice f25p f25l f25c] H24 fun r26 H27=> ∃r28,r26= .int .i64 r28∧Try.C 21 #[.slice be20p be20l be20c] H27 fun r29 H30=> ∃r31,r29= .int .i64 r31∧br (decide (r28<r31)) (X18 [.int .i64 k21,.slice f25p f25l f25c,.int .i64 (wrap .i64 (k21+1))] H30) (X18 [.int .i64 ki19,.slice be20p be20l be20c,.int .i64 (wrap .i64 (k21+1))] H30)) (alc H22 (.cells #[.int .u8 (wrap .u8 ki19)] 5) fun b32 H33=>appQ 1 1 #[.int .u8 0] H33 li11p li11l li11c (some ⟨b32,0,none⟩) 1 5 fun ap34p ap34l ap34c H35=>appQ 1 1 #[.int .u8 0] H35 ap34p ap34l ap34c be20p be20l 5 fun li36p li36l li36c H37=>X10 [.slice li36p li36l li36c,.slice (if rg3c=(toNat (wrap .i64 ((wrap .i64 ((4:Int)*w1))*y13))) then rg3p else Option.map (fun x=>Addr.add x ((toNat (wrap .i64 ((wrap .i64 ((4:Int)*w1))*y13)))*1)) rg3p) ((toNat (wrap .i64 ((wrap .i64 ((4:Int)*w1))*(wrap .i64 (y13+1)))))-(toNat (wrap .i64 ((wrap .i64 ((4:Int)*w1))*y13)))) (rg3c-(toNat (wrap .i64 ((wrap .i64 ((4:Int)*w1))*y13)))),.int .i64 (wrap .i64 (y13+1))] H37))→X18 [.int .i64 ki19,.slice be20p be20l be20c,.int .i64 k21] H22)→X18 [.int .i64 0,.slice be17p be17l be17c,.int .i64 1] H16) (Try.C 22 #[.slice li11p li11l li11c,.int .i64 4] H14 fun r38 H39=> ∃z40p z40l z40c,r38= .slice z40p z40l z40c∧ ∀J41:Kl,(∀(pa42:Int) H43,(alc H43 (.cells #[.int .u8 137,.int .u8 80,.int .u8 78,.int .u8 71,.int .u8 13,.int .u8 10,.int .u8 26,.int .u8 10] 5) fun b44 H45=>Array.size H43≤b44∧frz H45 b44 fun H46=>Try.C 25 #[.int .i64 w1] H46 fun r47 H48=> ∃r49p r49l r49c,r47= .slice r49p r49l r49c∧Try.C 25 #[.int .i64 h2] H48 fun r50 H51=> ∃r52p r52l r52c,r50= .slice r52p r52l r52c∧alc H51 (.cells #[.int .u8 8,.int .u8 6,.int .u8 0,.int .u8 0,.int .u8 0] 5) fun b53 H54=>alc H54 (.cells #[.slice r49p r49l r49c,.slice r52p r52l r52c,.slice (some ⟨b53,0,none⟩) 5 5] 22) fun b55 H56=>Try.C 23 #[.slice (some ⟨b55,0,none⟩) 3 3] H56 fun r57 H58=> ∃r59p r59l r59c,r57= .slice r59p r59l r59c∧Try.C 24 #[.string (ByteArray.mk #[73,72,68,82]),.slice r59p r59l r59c] H58 fun r60 H61=> ∃r62p r62l r62c,r60= .slice r62p r62l r62c∧alc H61 (.cells #[.slice (some ⟨b44,0,none⟩) 8 8,.slice r62p r62l r62c] 22) fun b63 H64=>Try.C 23 #[.slice (some ⟨b63,0,none⟩) 2 2] H64 fun r65 H66=> ∃r67p r67l r67c,r65= .slice r67p r67l r67c∧alc H66 (.cells #[.slice none 0 0] 22) fun b68 H69=>stAt H69 ⟨b68,0,none⟩ [.slice r67p r67l r67c] fun H70=>Try.C 26 #[.slice z40p z40l z40c,.int .i64 pa42] H70 fun r71 H72=> ∃r73g r73x r73y,r71= .func (.func r73g) r73x r73y∧alc H72 (.deferred (some [])) fun D74 H75=> ∀lo76:LoopState→Option Code→Obj,IsLoop lo76→alc H75 (lo76 .ready none) fun l77 H78=>
 (∀(c86p:OA) (c86l c86c:Nat) H79,∀K80:Kv,H79[l77]?=some (lo76 .ready none)→(H79[l77]?=some (lo76 .ready none)∧sto H79 l77 (lo76 .busy none) fun H87=> ∃v88p v88l v88c,cell H87 ⟨b68,0,none⟩=some (.slice v88p v88l v88c)∧Try.C 24 #[.string (ByteArray.mk #[73,68,65,84]),.slice c86p c86l c86c] H87 fun r89 H90=> ∃r91p r91l r91c,r89= .slice r91p r91l r91c∧(Ext H87 H90∨(∃v96p v96l v96c,cell H90 ⟨b68,0,none⟩=some (.slice v96p v96l v96c)∧Value.slice v96p v96l v96c= .slice v88p v88l v88c))∧appQ 1 1 #[.int .u8 0] H90 v88p v88l v88c r91p r91l 5 fun ap92p ap92l ap92c H93=>stAt H93 ⟨b68,0,none⟩ [.slice ap92p ap92l ap92c] fun H94=>H94[l77]?=some (lo76 .busy none)∧sto H94 l77 (lo76 .ready none) fun H95=>K80 (.bool true) H95)→YieldH Try.prog l77 #[.slice c86p c86l c86c] H79 K80)→
 BodyH Try.prog r73g (List.toArray (Array.toList r73x++[.func (.yield l77) #[] #[]]++Array.toList r73y)) H78 fun r81 H82=>(∃st83:LoopState,st83≠ .busy∧H82[l77]?=some (lo76 st83 none)∧sto H82 l77 (lo76 .exhausted none) fun H84=> ∃v97p v97l v97c,cell H84 ⟨b68,0,none⟩=some (.slice v97p v97l v97c)∧Try.C 24 #[.string (ByteArray.mk #[73,69,78,68]),.slice none 0 0] H84 fun r98 H99=> ∃r100p r100l r100c,r98= .slice r100p r100l r100c∧(Ext H84 H99∨(∃v104p v104l v104c,cell H99 ⟨b68,0,none⟩=some (.slice v104p v104l v104c)∧Value.slice v104p v104l v104c= .slice v97p v97l v97c))∧appQ 1 1 #[.int .u8 0] H99 v97p v97l v97c r100p r100l 5 fun ap101p ap101l ap101c H102=>H102[D74]?=some (.deferred (some []))∧sto H102 D74 (.deferred none) fun H103=>R (.tuple #[.slice ap101p ap101l ap101c,.int .i64 0]) H103)∨
 (H82[l77]?=some (lo76 .done (some .ret))∧sto H82 l77 (lo76 .exhausted (some .ret)) fun H85=>H85[D74]?=some (.deferred (some []))∧sto H85 D74 (.deferred none) fun H105=>False))→J41 [.int .i64 pa42] H43)→br (decide (pa4<1)) (J41 [.int .i64 (z40l:Int)] H39) (J41 [.int .i64 pa4] H39)))→X10 [.slice li11p li11l li11c,.slice ab12p ab12l ab12c,.int .i64 y13] H14)→X10 [.slice none 0 0,.slice (some ⟨b8,0,none⟩) (toNat (wrap .i64 ((4:Int)*w1))) (toNat (wrap .i64 ((4:Int)*w1))),.int .i64 0] H9))
def Try.p12:Plan:=(tl (two (one (tl (two (tl leaf) g0))) (tl (tl (two (tl (one (loop [(10,22),(11,22),(38,3)] [0,1,2,3,37] (tl (two (tl leaf) (two (one (tl (tl (tl (two (tl (one (loop [(14,3),(15,22),(16,3)] [0,1,2,3,10,11,13,37,38] (two (tl (tl leaf)) (two (one (tl (tl (tl leaf)))) leaf))))) (tl leaf)))))) leaf)))))) (tl (two (join [(3,3)] [0,1,18] (tl (tl leaf))) (tl (two (tl (one (join [(100,22)] [] (one leaf)))) (tl leaf))))))))))
theorem Try.s12{w1 h2:Int}{rg3p:OA}{rg3l rg3c:Nat}{pa4:Int}{H R}(h:Try.S12 w1 h2 rg3p rg3l rg3c pa4 H R):Try.C 12 #[.int .i64 w1,.int .i64 h2,.slice rg3p rg3l rg3c,.int .i64 pa4] H R:=vcsM Try.tab_ok Try.mixed Try.func12 Try.cal12 Try.p12 h (by kernel_rfl)
def Try.S13(w1 h2:Int)(H:Heap)(R:Kv):Prop:=
 br (decide (w1≥1)) (br (decide (h2≥1)) (br (decide (w1≤32768)) (br (decide (h2≤32768)) (R (.bool (decide (((wrap .i64 (w1*h2)):Int)≤4194304))) H) (R (.bool false) H)) (R (.bool false) H)) (R (.bool false) H)) (R (.bool false) H)
def Try.p13:Plan:=(tl (tl leaf))
theorem Try.s13{w1 h2:Int}{H R}(h:Try.S13 w1 h2 H R):Try.C 13 #[.int .i64 w1,.int .i64 h2] H R:=vcs Try.tab_ok Try.mixed Try.func13 Try.cal13 Try.p13 h (by kernel_rfl)
def Try.S14(b1p:OA)(b1l b1c:Nat)(H:Heap)(R:Kv):Prop:=
 alc H (.cells #[.int .i64 0] 3) fun b2 H3=>alc H3 (.cells #[.int .i64 0] 3) fun b4 H5=>alc H5 (.cells #[.slice none 0 0] 22) fun b6 H7=>alc H7 (.cells #[.int .i64 0] 27) fun b8 H9=> ∀J10:Kl,(∀H11,(Try.C 27 #[.slice b1p b1l b1c] H11 fun r12 H13=> ∃r14p r14l r14c r15p r15l r15c r16,r12= .tuple #[.slice r14p r14l r14c,.slice r15p r15l r15c,.bool r16]∧br (!r16) (stAt H13 ⟨b2,0,none⟩ [.int .i64 0] fun H17=>stAt H17 ⟨b4,0,none⟩ [.int .i64 0] fun H18=>stAt H18 ⟨b6,0,none⟩ [.slice none 0 0] fun H19=>stAt H19 ⟨b8,0,none⟩ [.int .i64 50] fun H20=> ∃re21,cell H20 ⟨b2,0,none⟩=some (.int .i64 re21)∧ ∃re22,cell H20 ⟨b4,0,none⟩=some (.int .i64 re22)∧ ∃re23p re23l re23c,cell H20 ⟨b6,0,none⟩=some (.slice re23p re23l re23c)∧ ∃re24,cell H20 ⟨b8,0,none⟩=some (.int .i64 re24)∧R (.tuple #[.int .i64 re21,.int .i64 re22,.slice re23p re23l re23c,.int .i64 re24]) H20) (0≤(4:Int)∧(4:Int)≤(r14l:Int)∧Try.C 28 #[.slice r14p r14l r14c] H13 fun r25 H26=> ∃r27,r25= .int .i64 r27∧Try.C 28 #[.slice (if r14c=(toNat 4) then r14p else Option.map (fun x=>Addr.add x ((toNat 4)*1)) r14p) (r14l-(toNat 4)) (r14c-(toNat 4))] H26 fun r28 H29=> ∃r30,r28= .int .i64 r30∧stAt H29 ⟨b2,0,none⟩ [.int .i64 r27] fun H31=>stAt H31 ⟨b4,0,none⟩ [.int .i64 r30] fun H32=> ∃v33,cell H32 ⟨b2,0,none⟩=some (.int .i64 v33)∧ ∃v34,cell H32 ⟨b4,0,none⟩=some (.int .i64 v34)∧Try.C 20 #[.int .i64 v33,.int .i64 v34] H32 fun r35 H36=> ∃r37,r35= .bool r37∧br (!r37) (stAt H36 ⟨b2,0,none⟩ [.int .i64 0] fun H38=>stAt H38 ⟨b4,0,none⟩ [.int .i64 0] fun H39=>stAt H39 ⟨b6,0,none⟩ [.slice none 0 0] fun H40=>stAt H40 ⟨b8,0,none⟩ [.int .i64 50] fun H41=> ∃re42,cell H41 ⟨b2,0,none⟩=some (.int .i64 re42)∧ ∃re43,cell H41 ⟨b4,0,none⟩=some (.int .i64 re43)∧ ∃re44p re44l re44c,cell H41 ⟨b6,0,none⟩=some (.slice re44p re44l re44c)∧ ∃re45,cell H41 ⟨b8,0,none⟩=some (.int .i64 re45)∧R (.tuple #[.int .i64 re42,.int .i64 re43,.slice re44p re44l re44c,.int .i64 re45]) H41) (∃v46,cell H36 ⟨b4,0,none⟩=some (.int .i64 v46)∧ ∃v47,cell H36 ⟨b2,0,none⟩=some (.int .i64 v47)∧Try.C 29 #[.slice r15p r15l r15c,.int .i64 (wrap .i64 (v46*(wrap .i64 ((wrap .i64 ((4:Int)*v47))+1))))] H36 fun r48 H49=> ∃r50p r50l r50c r51,r48= .tuple #[.slice r50p r50l r50c,.int .i64 r51]∧stAt H49 ⟨b8,0,none⟩ [.int .i64 r51] fun H52=> ∀J53:Kl,(∀H54,(∃v55,cell H54 ⟨b2,0,none⟩=some (.int .i64 v55)∧0≤(wrap .i64 ((4:Int)*v55))∧(wrap .i64 ((4:Int)*v55))≤(wrap .i64 ((4:Int)*v55))∧((1:Nat):Int)*(wrap .i64 ((4:Int)*v55))≤281474976710656∧(wrap .i64 ((4:Int)*v55))≤281474976710656∧alc H54 (.cells (List.toArray (reps (toNat (wrap .i64 ((4:Int)*v55))) (Array.toList #[.int .u8 0]))) 5) fun b56 H57=>alc H57 (.cells #[.slice none 0 0] 22) fun b58 H59=>stAt H59 ⟨b58,0,none⟩ [.slice (some ⟨b56,0,none⟩) (toNat (wrap .i64 ((4:Int)*v55))) (toNat (wrap .i64 ((4:Int)*v55)))] fun H60=> ∃v61,cell H60 ⟨b2,0,none⟩=some (.int .i64 v61)∧Try.C 26 #[.slice r50p r50l r50c,.int .i64 (wrap .i64 ((wrap .i64 ((4:Int)*v61))+1))] H60 fun r62 H63=> ∃r64g r64x r64y,r62= .func (.func r64g) r64x r64y∧alc H63 (.deferred (some [])) fun D65 H66=> ∀lo67:LoopState→Option Code→Obj,IsLoop lo67→alc H66 (lo67 .ready none) fun l68 H69=>
 (∀(l77p:OA) (l77l l77c:Nat) H70,∀K71:Kv,H70[l68]?=some (lo67 .ready none)→(H70[l68]?=some (lo67 .ready none)∧sto H70 l68 (lo67 .busy none) fun H78=> ∃a79,l77p=some a79∧0≤(0:Int)∧(0:Int)<(l77l:Int)∧ ∃v80,cell H78 (.add a79 (toNat (0:Int)*1))=some (.int .u8 v80)∧br (decide (v80>4))
 (stAt H78 ⟨b2,0,none⟩ [.int .i64 0] fun H81=>stAt H81 ⟨b4,0,none⟩ [.int .i64 0] fun H82=>stAt H82 ⟨b6,0,none⟩ [.slice none 0 0] fun H83=>stAt H83 ⟨b8,0,none⟩ [.int .i64 50] fun H84=>H84[l68]?=some (lo67 .busy none)∧sto H84 l68 (lo67 .done (some .ret)) fun H85=>K71 (.bool false) H85)
 (∃a86,l77p=some a86∧0≤(0:Int)∧(0:Int)<(l77l:Int)∧ ∃v87,cell H78 (.add a86 (toNat (0:Int)*1))=some (.int .u8 v87)∧0≤(1:Int)∧(1:Int)≤(l77l:Int)∧ ∃v88p v88l v88c,cell H78 ⟨b58,0,none⟩=some (.slice v88p v88l v88c)∧Try.C 8 #[.int .i64 (wrap .i64 v87),.slice (if l77c=(toNat 1) then l77p else Option.map (fun x=>Addr.add x ((toNat 1)*1)) l77p) (l77l-(toNat 1)) (l77c-(toNat 1)),.slice v88p v88l v88c] H78 fun r89 H90=> ∃r91p r91l r91c,r89= .slice r91p r91l r91c∧stAt H90 ⟨b58,0,none⟩ [.slice r91p r91l r91c] fun H92=> ∃v93p v93l v93c,cell H92 ⟨b6,0,none⟩=some (.slice v93p v93l v93c)∧ ∃v94p v94l v94c,cell H92 ⟨b58,0,none⟩=some (.slice v94p v94l v94c)∧appQ 1 1 #[.int .u8 0] H92 v93p v93l v93c v94p v94l 5 fun ap95p ap95l ap95c H96=>stAt H96 ⟨b6,0,none⟩ [.slice ap95p ap95l ap95c] fun H97=>H97[l68]?=some (lo67 .busy none)∧sto H97 l68 (lo67 .ready none) fun H98=>K71 (.bool true) H98))→YieldH Try.prog l68 #[.slice l77p l77l l77c] H70 K71)→
 BodyH Try.prog r64g (List.toArray (Array.toList r64x++[.func (.yield l68) #[] #[]]++Array.toList r64y)) H69 fun r72 H73=>(∃st74:LoopState,st74≠ .busy∧H73[l68]?=some (lo67 st74 none)∧sto H73 l68 (lo67 .exhausted none) fun H75=> ∃v99,cell H75 ⟨b2,0,none⟩=some (.int .i64 v99)∧ ∃v100,cell H75 ⟨b4,0,none⟩=some (.int .i64 v100)∧ ∃v101p v101l v101c,cell H75 ⟨b6,0,none⟩=some (.slice v101p v101l v101c)∧stAt H75 ⟨b2,0,none⟩ [.int .i64 v99] fun H102=>(Ext H75 H102∨(∃v112p v112l v112c,cell H102 ⟨b6,0,none⟩=some (.slice v112p v112l v112c)∧Value.slice v112p v112l v112c= .slice v101p v101l v101c)∧(∃v113,cell H102 ⟨b4,0,none⟩=some (.int .i64 v113)∧Value.int .i64 v113= .int .i64 v100))∧stAt H102 ⟨b4,0,none⟩ [.int .i64 v100] fun H103=>(Ext H102 H103∨(∃v111p v111l v111c,cell H103 ⟨b6,0,none⟩=some (.slice v111p v111l v111c)∧Value.slice v111p v111l v111c= .slice v101p v101l v101c))∧stAt H103 ⟨b6,0,none⟩ [.slice v101p v101l v101c] fun H104=>stAt H104 ⟨b8,0,none⟩ [.int .i64 0] fun H105=>H105[D65]?=some (.deferred (some []))∧sto H105 D65 (.deferred none) fun H106=> ∃re107,cell H106 ⟨b2,0,none⟩=some (.int .i64 re107)∧ ∃re108,cell H106 ⟨b4,0,none⟩=some (.int .i64 re108)∧ ∃re109p re109l re109c,cell H106 ⟨b6,0,none⟩=some (.slice re109p re109l re109c)∧ ∃re110,cell H106 ⟨b8,0,none⟩=some (.int .i64 re110)∧R (.tuple #[.int .i64 re107,.int .i64 re108,.slice re109p re109l re109c,.int .i64 re110]) H106)∨
 (H73[l68]?=some (lo67 .done (some .ret))∧sto H73 l68 (lo67 .exhausted (some .ret)) fun H76=>H76[D65]?=some (.deferred (some []))∧sto H76 D65 (.deferred none) fun H114=> ∃re115,cell H114 ⟨b2,0,none⟩=some (.int .i64 re115)∧ ∃re116,cell H114 ⟨b4,0,none⟩=some (.int .i64 re116)∧ ∃re117p re117l re117c,cell H114 ⟨b6,0,none⟩=some (.slice re117p re117l re117c)∧ ∃re118,cell H114 ⟨b8,0,none⟩=some (.int .i64 re118)∧R (.tuple #[.int .i64 re115,.int .i64 re116,.slice re117p re117l re117c,.int .i64 re118]) H114))→J53 [] H54)→ ∃v119,cell H52 ⟨b8,0,none⟩=some (.int .i64 v119)∧br (v119 != 0) (stAt H52 ⟨b2,0,none⟩ [.int .i64 0] fun H120=>stAt H120 ⟨b4,0,none⟩ [.int .i64 0] fun H121=>stAt H121 ⟨b6,0,none⟩ [.slice none 0 0] fun H122=>stAt H122 ⟨b8,0,none⟩ [.int .i64 50] fun H123=> ∃re124,cell H123 ⟨b2,0,none⟩=some (.int .i64 re124)∧ ∃re125,cell H123 ⟨b4,0,none⟩=some (.int .i64 re125)∧ ∃re126p re126l re126c,cell H123 ⟨b6,0,none⟩=some (.slice re126p re126l re126c)∧ ∃re127,cell H123 ⟨b8,0,none⟩=some (.int .i64 re127)∧R (.tuple #[.int .i64 re124,.int .i64 re125,.slice re126p re126l re126c,.int .i64 re127]) H123) (∃v128,cell H52 ⟨b4,0,none⟩=some (.int .i64 v128)∧ ∃v129,cell H52 ⟨b2,0,none⟩=some (.int .i64 v129)∧br (((r50l:Int):Int) != (wrap .i64 (v128*(wrap .i64 ((wrap .i64 ((4:Int)*v129))+1))))) (stAt H52 ⟨b2,0,none⟩ [.int .i64 0] fun H130=>stAt H130 ⟨b4,0,none⟩ [.int .i64 0] fun H131=>stAt H131 ⟨b6,0,none⟩ [.slice none 0 0] fun H132=>stAt H132 ⟨b8,0,none⟩ [.int .i64 50] fun H133=> ∃re134,cell H133 ⟨b2,0,none⟩=some (.int .i64 re134)∧ ∃re135,cell H133 ⟨b4,0,none⟩=some (.int .i64 re135)∧ ∃re136p re136l re136c,cell H133 ⟨b6,0,none⟩=some (.slice re136p re136l re136c)∧ ∃re137,cell H133 ⟨b8,0,none⟩=some (.int .i64 re137)∧R (.tuple #[.int .i64 re134,.int .i64 re135,.slice re136p re136l re136c,.int .i64 re137]) H133) (J53 [] H52)))))→J10 [] H11)→
 br (decide (((b1l:Int):Int)<8)) (stAt H9 ⟨b2,0,none⟩ [.int .i64 0] fun H138=>stAt H138 ⟨b4,0,none⟩ [.int .i64 0] fun H139=>stAt H139 ⟨b6,0,none⟩ [.slice none 0 0] fun H140=>stAt H140 ⟨b8,0,none⟩ [.int .i64 50] fun H141=> ∃re142,cell H141 ⟨b2,0,none⟩=some (.int .i64 re142)∧ ∃re143,cell H141 ⟨b4,0,none⟩=some (.int .i64 re143)∧ ∃re144p re144l re144c,cell H141 ⟨b6,0,none⟩=some (.slice re144p re144l re144c)∧ ∃re145,cell H141 ⟨b8,0,none⟩=some (.int .i64 re145)∧R (.tuple #[.int .i64 re142,.int .i64 re143,.slice re144p re144l re144c,.int .i64 re145]) H141) (0≤(8:Int)∧(8:Int)≤(b1c:Int)∧ ∃bs146:List Int,bsOf H9 (if b1c=0 then b1p else Option.map (fun x=>Addr.add x (0*1)) b1p) ((toNat 8)-0) bs146∧br (!(((textOf bs146):ByteArray)==(ByteArray.mk #[137,80,78,71,13,10,26,10]))) (stAt H9 ⟨b2,0,none⟩ [.int .i64 0] fun H147=>stAt H147 ⟨b4,0,none⟩ [.int .i64 0] fun H148=>stAt H148 ⟨b6,0,none⟩ [.slice none 0 0] fun H149=>stAt H149 ⟨b8,0,none⟩ [.int .i64 50] fun H150=> ∃re151,cell H150 ⟨b2,0,none⟩=some (.int .i64 re151)∧ ∃re152,cell H150 ⟨b4,0,none⟩=some (.int .i64 re152)∧ ∃re153p re153l re153c,cell H150 ⟨b6,0,none⟩=some (.slice re153p re153l re153c)∧ ∃re154,cell H150 ⟨b8,0,none⟩=some (.int .i64 re154)∧R (.tuple #[.int .i64 re151,.int .i64 re152,.slice re153p re153l re153c,.int .i64 re154]) H150) (J10 [] H9))
def Try.p14:Plan:=(tl (two (join [] [0,2,3,4,5] g0) (tl (tg (tl (tg (tl (two (join [] [2,3,4,5,9] g0) (tl (two (tl (one (join [(68,22)] [] (one (tg (tl leaf)))))) (tl leaf)))))))))))
theorem Try.s14{b1p:OA}{b1l b1c:Nat}{H R}(h:Try.S14 b1p b1l b1c H R):Try.C 14 #[.slice b1p b1l b1c] H R:=vcsM Try.tab_ok Try.mixed Try.func14 Try.cal14 Try.p14 h (by kernel_rfl)
def Try.S15(a1p:OA)(a1l a1c:Nat)(b2p:OA)(b2l b2c:Nat)(H:Heap)(R:Kv):Prop:=
 alc H (.cells #[] 5) fun b3 H4=>appQ 1 1 #[.int .u8 0] H4 (some ⟨b3,0,none⟩) 0 0 a1p a1l 5 fun ou5p ou5l ou5c H6=>appQ 1 1 #[.int .u8 0] H6 ou5p ou5l ou5c b2p b2l 5 fun ap7p ap7l ap7c H8=>R (.slice ap7p ap7l ap7c) H8
def Try.p15:Plan:=(tl (tl (tl leaf)))
theorem Try.s15{a1p:OA}{a1l a1c:Nat}{b2p:OA}{b2l b2c:Nat}{H R}(h:Try.S15 a1p a1l a1c b2p b2l b2c H R):Try.C 15 #[.slice a1p a1l a1c,.slice b2p b2l b2c] H R:=vcs Try.tab_ok Try.mixed Try.func15 Try.cal15 Try.p15 h (by kernel_rfl)
def Try.S16(ki1:Int)(li2p:OA)(li2l li2c:Nat)(ab3p:OA)(ab3l ab3c:Nat)(H:Heap)(R:Kv):Prop:=
 br (decide (ki1≥0)) (br (decide (ki1≤4)) (R (.bool (((li2l:Int):Int)==(ab3l:Int))) H) (R (.bool false) H)) (R (.bool false) H)
def Try.p16:Plan:=(tl (tl leaf))
theorem Try.s16{ki1:Int}{li2p:OA}{li2l li2c:Nat}{ab3p:OA}{ab3l ab3c:Nat}{H R}(h:Try.S16 ki1 li2p li2l li2c ab3p ab3l ab3c H R):Try.C 16 #[.int .i64 ki1,.slice li2p li2l li2c,.slice ab3p ab3l ab3c] H R:=vcs Try.tab_ok Try.mixed Try.func16 Try.cal16 Try.p16 h (by kernel_rfl)
def Try.S17(ki1:Int)(li2p:OA)(li2l li2c:Nat)(ab3p:OA)(ab3l ab3c:Nat)(i4:Int)(H:Heap)(R:Kv):Prop:=
 ∀J5:Kl,(∀(a6 c7:Int) H8,(∃a9,ab3p=some a9∧0≤i4∧i4<(ab3l:Int)∧ ∃b10,cell H8 (.add a9 (toNat i4*1))=some (.int .u8 b10)∧br (ki1==1) (R (.int .u8 a6) H8) (br (ki1==2) (R (.int .u8 b10) H8) (br (ki1==3) ((2:Int)≠0∧R (.int .u8 (wrap .u8 (wrap .i64 (Int.tdiv (wrap .i64 ((wrap .i64 a6)+(wrap .i64 b10))) 2)))) H8) (br (ki1==4) (Try.C 30 #[.int .u8 a6,.int .u8 b10,.int .u8 c7] H8 fun r11 H12=> ∃r13,r11= .int .u8 r13∧R (.int .u8 r13) H12) (R (.int .u8 0) H8)))))→J5 [.int .u8 a6,.int .u8 c7] H8)→
 br (decide (i4≥4))
 (∃a14,li2p=some a14∧0≤(wrap .i64 (i4-4))∧(wrap .i64 (i4-4))<(li2l:Int)∧ ∃a15,cell H (.add a14 (toNat (wrap .i64 (i4-4))*1))=some (.int .u8 a15)∧ ∃a16,ab3p=some a16∧0≤(wrap .i64 (i4-4))∧(wrap .i64 (i4-4))<(ab3l:Int)∧ ∃c17,cell H (.add a16 (toNat (wrap .i64 (i4-4))*1))=some (.int .u8 c17)∧J5 [.int .u8 a15,.int .u8 c17] H)
 (J5 [.int .u8 0,.int .u8 0] H)
def Try.p17:Plan:=(tl (tl (two (join [(9,5),(10,5)] [0,2,3] (tl (tl leaf))) (tl (two (tl (one (tl (two (tl leaf) (tl (two (tl leaf) (tl (two (tl leaf) g0)))))))) (tl leaf))))))
theorem Try.s17{ki1:Int}{li2p:OA}{li2l li2c:Nat}{ab3p:OA}{ab3l ab3c:Nat}{i4:Int}{H R}(h:Try.S17 ki1 li2p li2l li2c ab3p ab3l ab3c i4 H R):Try.C 17 #[.int .i64 ki1,.slice li2p li2l li2c,.slice ab3p ab3l ab3c,.int .i64 i4] H R:=vcs Try.tab_ok Try.mixed Try.func17 Try.cal17 Try.p17 h (by kernel_rfl)
def Try.S18(s1p:OA)(s1l s1c:Nat)(H:Heap)(R:Kv):Prop:=
 br (Option.isNone s1p)
 (R (.slice none 0 0) H)
 (alc H (.cells #[] 5) fun b2 H3=>appQ 1 1 #[.int .u8 0] H3 (some ⟨b2,0,none⟩) 0 0 s1p s1l 5 fun ap4p ap4l ap4c H5=>R (.slice ap4p ap4l ap4c) H5)
def Try.p18:Plan:=(tl (tg (tl leaf)))
theorem Try.s18{s1p:OA}{s1l s1c:Nat}{H R}(h:Try.S18 s1p s1l s1c H R):Try.C 18 #[.slice s1p s1l s1c] H R:=vcs Try.tab_ok Try.mixed Try.func18 Try.cal18 Try.p18 h (by kernel_rfl)
def Try.S19(ki1:Int)(li2p:OA)(li2l li2c:Nat)(ab3p:OA)(ab3l ab3c:Nat)(i4:Int)(H:Heap)(R:Kv):Prop:=
 Try.C 31 #[.slice li2p li2l li2c,.int .i64 (wrap .i64 (i4-4))] H fun r5 H6=> ∃a7,r5= .int .i64 a7∧Try.C 31 #[.slice ab3p ab3l ab3c,.int .i64 i4] H6 fun r8 H9=> ∃b10,r8= .int .i64 b10∧Try.C 31 #[.slice ab3p ab3l ab3c,.int .i64 (wrap .i64 (i4-4))] H9 fun r11 H12=> ∃c13,r11= .int .i64 c13∧br (ki1==1)
 (R (.int .i64 a7) H12)
 (br (ki1==2) (R (.int .i64 b10) H12) (br (ki1==3) ((2:Int)≠0∧R (.int .i64 (wrap .i64 (Int.tdiv (wrap .i64 (a7+b10)) 2))) H12) (br (ki1==4) (∀J14:Kl,(∀H15,(Try.C 32 #[.int .i64 (wrap .i64 ((wrap .i64 (a7+b10))-c13)),.int .i64 b10] H15 fun r16 H17=> ∃r18,r16= .int .i64 r18∧Try.C 32 #[.int .i64 (wrap .i64 ((wrap .i64 (a7+b10))-c13)),.int .i64 c13] H17 fun r19 H20=> ∃r21,r19= .int .i64 r21∧br (decide (r18≤r21)) (R (.int .i64 b10) H20) (R (.int .i64 c13) H20))→J14 [] H15)→Try.C 32 #[.int .i64 (wrap .i64 ((wrap .i64 (a7+b10))-c13)),.int .i64 a7] H12 fun r22 H23=> ∃r24,r22= .int .i64 r24∧Try.C 32 #[.int .i64 (wrap .i64 ((wrap .i64 (a7+b10))-c13)),.int .i64 b10] H23 fun r25 H26=> ∃r27,r25= .int .i64 r27∧br (decide (r24≤r27)) (Try.C 32 #[.int .i64 (wrap .i64 ((wrap .i64 (a7+b10))-c13)),.int .i64 a7] H26 fun r28 H29=> ∃r30,r28= .int .i64 r30∧Try.C 32 #[.int .i64 (wrap .i64 ((wrap .i64 (a7+b10))-c13)),.int .i64 c13] H29 fun r31 H32=> ∃r33,r31= .int .i64 r33∧br (decide (r30≤r33)) (R (.int .i64 a7) H32) (J14 [] H32)) (J14 [] H26)) (R (.int .i64 0) H12))))
def Try.p19:Plan:=(tl (tl (tl (tl (two (tl (one (tl (two (tl leaf) (tl (two (tl leaf) (tl (two (tl leaf) (tl (two (tl (two (join [] [10,11,12] g0) (tg (tl leaf)))) leaf)))))))))) (tl leaf))))))
theorem Try.s19{ki1:Int}{li2p:OA}{li2l li2c:Nat}{ab3p:OA}{ab3l ab3c:Nat}{i4:Int}{H R}(h:Try.S19 ki1 li2p li2l li2c ab3p ab3l ab3c i4 H R):Try.C 19 #[.int .i64 ki1,.slice li2p li2l li2c,.slice ab3p ab3l ab3c,.int .i64 i4] H R:=vcs Try.tab_ok Try.mixed Try.func19 Try.cal19 Try.p19 h (by kernel_rfl)
def Try.S20(w1 h2:Int)(H:Heap)(R:Kv):Prop:=
 br (decide (w1≥1)) (br (decide (h2≥1)) (br (decide (w1≤32768)) (br (decide (h2≤32768)) (R (.bool (decide (((wrap .i64 (w1*h2)):Int)≤4194304))) H) (R (.bool false) H)) (R (.bool false) H)) (R (.bool false) H)) (R (.bool false) H)
def Try.p20:Plan:=(tl (tl leaf))
theorem Try.s20{w1 h2:Int}{H R}(h:Try.S20 w1 h2 H R):Try.C 20 #[.int .i64 w1,.int .i64 h2] H R:=vcs Try.tab_ok Try.mixed Try.func20 Try.cal20 Try.p20 h (by kernel_rfl)
def Try.S21(li1p:OA)(li1l li1c:Nat)(H:Heap)(R:Kv):Prop:=
 ∀X2:Kl,(∀(n3 t4:Int) H5,(br (decide (t4<(li1l:Int))) (∃a6,li1p=some a6∧0≤t4∧t4<(li1l:Int)∧ ∃c7,cell H5 (.add a6 (toNat t4*1))=some (.int .u8 c7)∧X2 [.int .i64 (wrap .i64 (n3+(min (wrap .i64 c7) (wrap .i64 ((256:Int)-(wrap .i64 c7)))))),.int .i64 (wrap .i64 (t4+1))] H5) (R (.int .i64 n3) H5))→X2 [.int .i64 n3,.int .i64 t4] H5)→X2 [.int .i64 0,.int .i64 0] H
def Try.p21:Plan:=(tl (tl (two (tl (one (loop [(3,3),(8,3)] [6,7] (tl (two (tl leaf) (two (one (tl leaf)) leaf)))))) (tl leaf))))
theorem Try.s21{li1p:OA}{li1l li1c:Nat}{H R}(h:Try.S21 li1p li1l li1c H R):Try.C 21 #[.slice li1p li1l li1c] H R:=vcs Try.tab_ok Try.mixed Try.func21 Try.cal21 Try.p21 h (by kernel_rfl)
def Try.S22(b1p:OA)(b1l b1c:Nat)(ef2:Int)(H:Heap)(R:Kv):Prop:=
 alc H (.cells #[.slice b1p b1l b1c] 22) fun b3 H4=>Try.C 33 #[.slice (some ⟨b3,0,none⟩) 1 1] H4 fun r5 H6=> ∃su7,r5= .int .i64 su7∧alc H6 (.cells #[.int .u8 120,.int .u8 156] 5) fun b8 H9=>Try.C 34 #[.slice b1p b1l b1c,.int .i64 ef2] H9 fun r10 H11=> ∃r12p r12l r12c,r10= .slice r12p r12l r12c∧0≤(24:Int)∧0≤(16:Int)∧0≤(8:Int)∧alc H11 (.cells #[.int .u8 (wrap .u8 (shrI .i64 su7 24)),.int .u8 (wrap .u8 (shrI .i64 su7 16)),.int .u8 (wrap .u8 (shrI .i64 su7 8)),.int .u8 (wrap .u8 su7)] 5) fun b13 H14=>alc H14 (.cells #[.slice (some ⟨b8,0,none⟩) 2 2,.slice r12p r12l r12c,.slice (some ⟨b13,0,none⟩) 4 4] 22) fun b15 H16=>Try.C 23 #[.slice (some ⟨b15,0,none⟩) 3 3] H16 fun r17 H18=> ∃r19p r19l r19c,r17= .slice r19p r19l r19c∧R (.slice r19p r19l r19c) H18
def Try.p22:Plan:=(tl (tl (tl leaf)))
theorem Try.s22{b1p:OA}{b1l b1c:Nat}{ef2:Int}{H R}(h:Try.S22 b1p b1l b1c ef2 H R):Try.C 22 #[.slice b1p b1l b1c,.int .i64 ef2] H R:=vcs Try.tab_ok Try.mixed Try.func22 Try.cal22 Try.p22 h (by kernel_rfl)
def Try.S23(sl1p:OA)(sl1l sl1c:Nat)(H:Heap)(R:Kv):Prop:=
 ∀X2:Kl,(∀(si3 t4:Int) H5,(br (decide (t4<(sl1l:Int))) (∃a6,sl1p=some a6∧0≤t4∧t4<(sl1l:Int)∧ ∃s7p s7l s7c,cell H5 (.add a6 (toNat t4*1))=some (.slice s7p s7l s7c)∧br (decide (((wrap .i64 (si3+(s7l:Int))):Int)<0)) (False) (X2 [.int .i64 (wrap .i64 (si3+(s7l:Int))),.int .i64 (wrap .i64 (t4+1))] H5)) (Try.C 35 #[.slice none 0 0,.int .i64 si3] H5 fun r8 H9=> ∃ne10p ne10l ne10c,r8= .slice ne10p ne10l ne10c∧ ∀X11:Kl,(∀(ne12p:OA) (ne12l ne12c:Nat) (t13:Int) H14,(br (decide (t13<(sl1l:Int))) (∃a15,sl1p=some a15∧0≤t13∧t13<(sl1l:Int)∧ ∃s16p s16l s16c,cell H14 (.add a15 (toNat t13*1))=some (.slice s16p s16l s16c)∧appQ 1 1 #[.int .u8 0] H14 ne12p ne12l ne12c s16p s16l 5 fun ne17p ne17l ne17c H18=>X11 [.slice ne17p ne17l ne17c,.int .i64 (wrap .i64 (t13+1))] H18) (R (.slice ne12p ne12l ne12c) H14))→X11 [.slice ne12p ne12l ne12c,.int .i64 t13] H14)→X11 [.slice ne10p ne10l ne10c,.int .i64 0] H9))→X2 [.int .i64 si3,.int .i64 t4] H5)→X2 [.int .i64 0,.int .i64 0] H
def Try.p23:Plan:=(tl (tl (two (tl (one (loop [(3,3),(11,3)] [0,9,10] (tl (two (tl leaf) (two (one (tl (tl (tl (tl leaf))))) leaf)))))) (tl (two (tl (one (loop [(6,22),(27,3)] [25,26] (tl (two (tl leaf) (two (one (tl leaf)) leaf)))))) (tl leaf))))))
theorem Try.s23{sl1p:OA}{sl1l sl1c:Nat}{H R}(h:Try.S23 sl1p sl1l sl1c H R):Try.C 23 #[.slice sl1p sl1l sl1c] H R:=vcs Try.tab_ok Try.mixed Try.func23 Try.cal23 Try.p23 h (by kernel_rfl)
def Try.S24(ki1:ByteArray)(da2p:OA)(da2l da2c:Nat)(H:Heap)(R:Kv):Prop:=
 Try.C 25 #[.int .i64 (da2l:Int)] H fun r3 H4=> ∃r5p r5l r5c,r3= .slice r5p r5l r5c∧strQ ki1 5 H4 fun by_6p by_6l by_6c H7=>strQ ki1 5 H7 fun by_8p by_8l by_8c H9=>alc H9 (.cells #[.slice by_8p by_8l by_8c,.slice da2p da2l da2c] 22) fun b10 H11=>Try.C 36 #[.slice (some ⟨b10,0,none⟩) 2 2] H11 fun r12 H13=> ∃r14,r12= .int .i64 r14∧Try.C 25 #[.int .i64 r14] H13 fun r15 H16=> ∃r17p r17l r17c,r15= .slice r17p r17l r17c∧alc H16 (.cells #[.slice r5p r5l r5c,.slice by_6p by_6l by_6c,.slice da2p da2l da2c,.slice r17p r17l r17c] 22) fun b18 H19=>Try.C 23 #[.slice (some ⟨b18,0,none⟩) 4 4] H19 fun r20 H21=> ∃r22p r22l r22c,r20= .slice r22p r22l r22c∧R (.slice r22p r22l r22c) H21
def Try.p24:Plan:=(tl (tl leaf))
theorem Try.s24{ki1:ByteArray}{da2p:OA}{da2l da2c:Nat}{H R}(h:Try.S24 ki1 da2p da2l da2c H R):Try.C 24 #[.string ki1,.slice da2p da2l da2c] H R:=vcs Try.tab_ok Try.mixed Try.func24 Try.cal24 Try.p24 h (by kernel_rfl)
def Try.S25(n1:Int)(H:Heap)(R:Kv):Prop:=
 0≤(24:Int)∧0≤(16:Int)∧0≤(8:Int)∧alc H (.cells #[.int .u8 (wrap .u8 (shrI .i64 n1 24)),.int .u8 (wrap .u8 (shrI .i64 n1 16)),.int .u8 (wrap .u8 (shrI .i64 n1 8)),.int .u8 (wrap .u8 n1)] 5) fun b2 H3=>R (.slice (some ⟨b2,0,none⟩) 4 4) H3
def Try.p25:Plan:=(tl (tl leaf))
theorem Try.s25{n1:Int}{H R}(h:Try.S25 n1 H R):Try.C 25 #[.int .i64 n1] H R:=vcs Try.tab_ok Try.mixed Try.func25 Try.cal25 Try.p25 h (by kernel_rfl)
def Try.S26(s1p:OA)(s1l s1c:Nat)(n2:Int)(H:Heap)(R:Kv):Prop:=
 alc H (.cells #[.slice s1p s1l s1c] 22) fun b3 H4=>alc H4 (.cells #[.int .i64 n2] 3) fun b5 H6=> ∃v7,cell H6 ⟨b5,0,none⟩=some (.int .i64 v7)∧br (decide (v7<1))
 (False)
 (R (.func (.func 37) #[] #[.pointer (some ⟨b3,0,none⟩),.pointer (some ⟨b5,0,none⟩)]) H6)
def Try.p26:Plan:=(tl (two (tl (tl leaf)) (tl leaf)))
theorem Try.s26{s1p:OA}{s1l s1c:Nat}{n2:Int}{H R}(h:Try.S26 s1p s1l s1c n2 H R):Try.C 26 #[.slice s1p s1l s1c,.int .i64 n2] H R:=vcs Try.tab_ok Try.mixed Try.func26 Try.cal26 Try.p26 h (by kernel_rfl)
end Go.Proofs
namespace Go.Proofs
open Go.Sh Go.Sh.Plan
open Go.IntKind (wrap)
open Int (toNat)
def Try.S27(b1p:OA)(b1l b1c:Nat)(H:Heap)(R:Kv):Prop:=
 0≤(8:Int)∧(8:Int)≤(b1l:Int)∧alc H (.cells #[.slice (if b1c=(toNat 8) then b1p else Option.map (fun x=>Addr.add x ((toNat 8)*1)) b1p) (b1l-(toNat 8)) (b1c-(toNat 8))] 59) fun b2 H3=>Try.C 38 #[.pointer (some ⟨b2,0,none⟩)] H3 fun r4 H5=> ∃r6 r7p r7l r7c,r4= .tuple #[.string r6,.slice r7p r7l r7c]∧ ∀J8:Kl,(∀(he9p:OA) (he9l he9c:Nat) (z10p:OA) (z10l z10c:Nat) H11,(Try.C 38 #[.pointer (some ⟨b2,0,none⟩)] H11 fun r12 H13=> ∃r14 r15p r15l r15c,r12= .tuple #[.string r14,.slice r15p r15l r15c]∧ ∀X16:Kl,(∀(ki17:ByteArray) (da18p:OA) (da18l da18c:Nat) H19,(Try.C 40 #[.string ki17] H19 fun r20 H21=> ∃r22,r20= .bool r22∧br r22 (Try.C 38 #[.pointer (some ⟨b2,0,none⟩)] H21 fun r23 H24=> ∃r25 r26p r26l r26c,r23= .tuple #[.string r25,.slice r26p r26l r26c]∧X16 [.string r25,.slice r26p r26l r26c] H24) (br (!((ki17:ByteArray)==(ByteArray.mk #[73,68,65,84]))) (R (.tuple #[.slice none 0 0,.slice none 0 0,.bool false]) H21) (∀X27:Kl,(∀(z28p:OA) (z28l z28c:Nat) (ki29:ByteArray) (da30p:OA) (da30l da30c:Nat) H31,(br ((ki29:ByteArray)==(ByteArray.mk #[73,68,65,84])) (appQ 1 1 #[.int .u8 0] H31 z28p z28l z28c da30p da30l 5 fun z32p z32l z32c H33=>Try.C 38 #[.pointer (some ⟨b2,0,none⟩)] H33 fun r34 H35=> ∃r36 r37p r37l r37c,r34= .tuple #[.string r36,.slice r37p r37l r37c]∧X27 [.slice z32p z32l z32c,.string r36,.slice r37p r37l r37c] H35) (∀X38:Kl,(∀(ki39:ByteArray) (da40p:OA) (da40l da40c:Nat) H41,(Try.C 40 #[.string ki39] H41 fun r42 H43=> ∃r44,r42= .bool r44∧br r44 (Try.C 38 #[.pointer (some ⟨b2,0,none⟩)] H43 fun r45 H46=> ∃r47 r48p r48l r48c,r45= .tuple #[.string r47,.slice r48p r48l r48c]∧X38 [.string r47,.slice r48p r48l r48c] H46) (br ((ki39:ByteArray)==(ByteArray.mk #[73,69,78,68])) (br (((da40l:Int):Int)==0) (∃a49,(some ⟨b2,0,none⟩)=some a49∧ ∃b50p b50l b50c,cell H43 (.add a49 0)=some (.slice b50p b50l b50c)∧R (.tuple #[.slice he9p he9l he9c,.slice z28p z28l z28c,.bool (((b50l:Int):Int)==0)]) H43) (R (.tuple #[.slice he9p he9l he9c,.slice z28p z28l z28c,.bool false]) H43)) (R (.tuple #[.slice he9p he9l he9c,.slice z28p z28l z28c,.bool false]) H43)))→X38 [.string ki39,.slice da40p da40l da40c] H41)→X38 [.string ki29,.slice da30p da30l da30c] H31))→X27 [.slice z28p z28l z28c,.string ki29,.slice da30p da30l da30c] H31)→X27 [.slice z10p z10l z10c,.string ki17,.slice da18p da18l da18c] H21)))→X16 [.string ki17,.slice da18p da18l da18c] H19)→X16 [.string r14,.slice r15p r15l r15c] H13)→J8 [.slice he9p he9l he9c,.slice z10p z10l z10c] H11)→
 br (!((r6:ByteArray)==(ByteArray.mk #[73,72,68,82]))) (R (.tuple #[.slice none 0 0,.slice none 0 0,.bool false]) H5) (br (((r7l:Int):Int) != 13) (R (.tuple #[.slice none 0 0,.slice none 0 0,.bool false]) H5) (0≤(8:Int)∧(8:Int)≤(r7l:Int)∧alc H5 (.cells #[.int .u8 8,.int .u8 6,.int .u8 0,.int .u8 0,.int .u8 0] 5) fun b51 H52=>Try.C 39 #[.slice (if r7c=(toNat 8) then r7p else Option.map (fun x=>Addr.add x ((toNat 8)*1)) r7p) (r7l-(toNat 8)) (r7c-(toNat 8)),.slice (some ⟨b51,0,none⟩) 5 5] H52 fun r53 H54=> ∃r55,r53= .bool r55∧br (!r55) (R (.tuple #[.slice none 0 0,.slice none 0 0,.bool false]) H54) (J8 [.slice r7p r7l r7c,.slice none 0 0] H54)))
def Try.p27:Plan:=(tl (tl (tl (two (join [(2,22),(3,22)] [5] g0) (tl (two (one (loop [(6,9),(7,22)] [2,3,5] (two (tl (tl leaf)) (one leaf)))) (tg (two (one (loop [(3,22),(6,9),(7,22)] [2,5] (two (tl (tl leaf)) (one (tl leaf))))) (two (one (loop [(6,9),(7,22)] [2,3,5] (two (tl (tl leaf)) (one leaf)))) (tl leaf))))))))))
theorem Try.s27{b1p:OA}{b1l b1c:Nat}{H R}(h:Try.S27 b1p b1l b1c H R):Try.C 27 #[.slice b1p b1l b1c] H R:=vcs Try.tab_ok Try.mixed Try.func27 Try.cal27 Try.p27 h (by kernel_rfl)
def Try.S28(b1p:OA)(b1l b1c:Nat)(H:Heap)(R:Kv):Prop:=
 ∃a2,b1p=some a2∧0≤(0:Int)∧(0:Int)<(b1l:Int)∧ ∃v3,cell H (.add a2 (toNat (0:Int)*1))=some (.int .u8 v3)∧0≤(24:Int)∧ ∃a4,b1p=some a4∧0≤(1:Int)∧(1:Int)<(b1l:Int)∧ ∃v5,cell H (.add a4 (toNat (1:Int)*1))=some (.int .u8 v5)∧0≤(16:Int)∧ ∃a6,b1p=some a6∧0≤(2:Int)∧(2:Int)<(b1l:Int)∧ ∃v7,cell H (.add a6 (toNat (2:Int)*1))=some (.int .u8 v7)∧0≤(8:Int)∧ ∃a8,b1p=some a8∧0≤(3:Int)∧(3:Int)<(b1l:Int)∧ ∃v9,cell H (.add a8 (toNat (3:Int)*1))=some (.int .u8 v9)∧R (.int .i64 (orI .i64 (orI .i64 (orI .i64 (shlI .i64 (wrap .i64 v3) 24) (shlI .i64 (wrap .i64 v5) 16)) (shlI .i64 (wrap .i64 v7) 8)) (wrap .i64 v9))) H
def Try.p28:Plan:=(tl (tl leaf))
theorem Try.s28{b1p:OA}{b1l b1c:Nat}{H R}(h:Try.S28 b1p b1l b1c H R):Try.C 28 #[.slice b1p b1l b1c] H R:=vcs Try.tab_ok Try.mixed Try.func28 Try.cal28 Try.p28 h (by kernel_rfl)
def Try.S29(b1p:OA)(b1l b1c:Nat)(mo2:Int)(H:Heap)(R:Kv):Prop:=
 br (decide (((b1l:Int):Int)<2))
 (R (.tuple #[.slice none 0 0,.int .i64 20]) H)
 (∀J3:Kl,(∀H4,(0≤(2:Int)∧(2:Int)≤(b1l:Int)∧Try.C 41 #[.slice (if b1c=(toNat 2) then b1p else Option.map (fun x=>Addr.add x ((toNat 2)*1)) b1p) (b1l-(toNat 2)) (b1c-(toNat 2)),.int .i64 mo2] H4 fun r5 H6=> ∃r7p r7l r7c r8 r9,r5= .tuple #[.slice r7p r7l r7c,.int .i64 r8,.int .i64 r9]∧br (r9 != 0) (R (.tuple #[.slice none 0 0,.int .i64 r9]) H6) (0≤(wrap .i64 ((2:Int)+r8))∧(wrap .i64 ((2:Int)+r8))≤(b1l:Int)∧br (decide (((((b1l-(toNat (wrap .i64 ((2:Int)+r8)))):Nat):Int):Int)<4)) (R (.tuple #[.slice none 0 0,.int .i64 20]) H6) (0≤(4:Int)∧(4:Int)≤(((b1c-(toNat (wrap .i64 ((2:Int)+r8)))):Nat):Int)∧ ∀X10:Kl,(∀(su11 t12:Int) H13,(br (decide (t12<((((toNat 4)-0):Nat):Int))) (∃a14,(if (b1c-(toNat (wrap .i64 ((2:Int)+r8))))=0 then(if b1c=(toNat (wrap .i64 ((2:Int)+r8))) then b1p else Option.map (fun x=>Addr.add x ((toNat (wrap .i64 ((2:Int)+r8)))*1)) b1p) else Option.map (fun x=>Addr.add x (0*1)) (if b1c=(toNat (wrap .i64 ((2:Int)+r8))) then b1p else Option.map (fun x=>Addr.add x ((toNat (wrap .i64 ((2:Int)+r8)))*1)) b1p))=some a14∧0≤t12∧t12<((((toNat 4)-0):Nat):Int)∧ ∃c15,cell H13 (.add a14 (toNat t12*1))=some (.int .u8 c15)∧0≤(8:Int)∧X10 [.int .i64 (orI .i64 (shlI .i64 su11 8) (wrap .i64 c15)),.int .i64 (wrap .i64 (t12+1))] H13) (alc H13 (.cells #[.slice r7p r7l r7c] 22) fun b16 H17=>Try.C 33 #[.slice (some ⟨b16,0,none⟩) 1 1] H17 fun r18 H19=> ∃r20,r18= .int .i64 r20∧br (su11 != r20) (R (.tuple #[.slice none 0 0,.int .i64 23]) H19) (br (decide (((((b1l-(toNat (wrap .i64 ((2:Int)+r8)))):Nat):Int):Int)>4)) (R (.tuple #[.slice none 0 0,.int .i64 25]) H19) (R (.tuple #[.slice r7p r7l r7c,.int .i64 0]) H19))))→X10 [.int .i64 su11,.int .i64 t12] H13)→X10 [.int .i64 0,.int .i64 0] H6)))→J3 [] H4)→ ∃a21,b1p=some a21∧0≤(0:Int)∧(0:Int)<(b1l:Int)∧ ∃v22,cell H (.add a21 (toNat (0:Int)*1))=some (.int .u8 v22)∧0≤(8:Int)∧ ∃a23,b1p=some a23∧0≤(1:Int)∧(1:Int)<(b1l:Int)∧ ∃v24,cell H (.add a23 (toNat (1:Int)*1))=some (.int .u8 v24)∧(31:Int)≠0∧br (((Int.tmod (orI .i64 (shlI .i64 (wrap .i64 v22) 8) (wrap .i64 v24)) 31):Int) != 0) (R (.tuple #[.slice none 0 0,.int .i64 25]) H) (∃a25,b1p=some a25∧0≤(0:Int)∧(0:Int)<(b1l:Int)∧ ∃v26,cell H (.add a25 (toNat (0:Int)*1))=some (.int .u8 v26)∧br (((andI .u8 v26 15):Int) != 8) (R (.tuple #[.slice none 0 0,.int .i64 25]) H) (∃a27,b1p=some a27∧0≤(0:Int)∧(0:Int)<(b1l:Int)∧ ∃v28,cell H (.add a27 (toNat (0:Int)*1))=some (.int .u8 v28)∧0≤(4:Int)∧br (decide (((shrI .u8 v28 4):Int)>7)) (R (.tuple #[.slice none 0 0,.int .i64 25]) H) (∃a29,b1p=some a29∧0≤(1:Int)∧(1:Int)<(b1l:Int)∧ ∃v30,cell H (.add a29 (toNat (1:Int)*1))=some (.int .u8 v30)∧br (((andI .u8 v30 32):Int) != 0) (R (.tuple #[.slice none 0 0,.int .i64 25]) H) (J3 [] H)))))
def Try.p29:Plan:=(tl (tg (two (join [] [0,1] (tl g0)) (tl (tg (tl (tg (tl (two (tl (one (loop [(11,3),(72,3)] [7,10,70,71] (tl (two (tl leaf) (two (one (tl leaf)) leaf)))))) (two (one (tl (two (tl leaf) g0))) (tl leaf)))))))))))
theorem Try.s29{b1p:OA}{b1l b1c:Nat}{mo2:Int}{H R}(h:Try.S29 b1p b1l b1c mo2 H R):Try.C 29 #[.slice b1p b1l b1c,.int .i64 mo2] H R:=vcs Try.tab_ok Try.mixed Try.func29 Try.cal29 Try.p29 h (by kernel_rfl)
def Try.S30(a1 b2 c3:Int)(H:Heap)(R:Kv):Prop:=
 alc H (.cells #[.int .i64 0] 3) fun b4 H5=>stAt H5 ⟨b4,0,none⟩ [.int .i64 (wrap .i64 ((wrap .i64 ((wrap .i64 a1)+(wrap .i64 b2)))-(wrap .i64 c3)))] fun H6=>Try.C 42 #[.int .u8 a1,.pointer (some ⟨b4,0,none⟩)] H6 fun r7 H8=> ∃r9,r7= .int .i64 r9∧Try.C 42 #[.int .u8 b2,.pointer (some ⟨b4,0,none⟩)] H8 fun r10 H11=> ∃r12,r10= .int .i64 r12∧br (decide (r9≤r12)) (Try.C 42 #[.int .u8 a1,.pointer (some ⟨b4,0,none⟩)] H11 fun r13 H14=> ∃r15,r13= .int .i64 r15∧Try.C 42 #[.int .u8 c3,.pointer (some ⟨b4,0,none⟩)] H14 fun r16 H17=> ∃r18,r16= .int .i64 r18∧br (decide (r15≤r18)) (R (.int .u8 a1) H17) (Try.C 42 #[.int .u8 b2,.pointer (some ⟨b4,0,none⟩)] H17 fun r19 H20=> ∃r21,r19= .int .i64 r21∧Try.C 42 #[.int .u8 c3,.pointer (some ⟨b4,0,none⟩)] H20 fun r22 H23=> ∃r24,r22= .int .i64 r24∧br (decide (r21≤r24)) (R (.int .u8 b2) H23) (R (.int .u8 c3) H23))) (Try.C 42 #[.int .u8 b2,.pointer (some ⟨b4,0,none⟩)] H11 fun r25 H26=> ∃r27,r25= .int .i64 r27∧Try.C 42 #[.int .u8 c3,.pointer (some ⟨b4,0,none⟩)] H26 fun r28 H29=> ∃r30,r28= .int .i64 r30∧br (decide (r27≤r30)) (R (.int .u8 b2) H29) (R (.int .u8 c3) H29))
def Try.p30:Plan:=(tl (tl (tl (two (one (tl (two (tl leaf) g0))) (tl leaf)))))
theorem Try.s30{a1 b2 c3:Int}{H R}(h:Try.S30 a1 b2 c3 H R):Try.C 30 #[.int .u8 a1,.int .u8 b2,.int .u8 c3] H R:=vcs Try.tab_ok Try.mixed Try.func30 Try.cal30 Try.p30 h (by kernel_rfl)
def Try.S31(b1p:OA)(b1l b1c:Nat)(i2:Int)(H:Heap)(R:Kv):Prop:=
 br (decide (i2<0))
 (R (.int .i64 0) H)
 (∃a3,b1p=some a3∧0≤i2∧i2<(b1l:Int)∧ ∃v4,cell H (.add a3 (toNat i2*1))=some (.int .u8 v4)∧R (.int .i64 (wrap .i64 v4)) H)
def Try.p31:Plan:=(tl (tg (tl leaf)))
theorem Try.s31{b1p:OA}{b1l b1c:Nat}{i2:Int}{H R}(h:Try.S31 b1p b1l b1c i2 H R):Try.C 31 #[.slice b1p b1l b1c,.int .i64 i2] H R:=vcs Try.tab_ok Try.mixed Try.func31 Try.cal31 Try.p31 h (by kernel_rfl)
def Try.S32(p1 v2:Int)(H:Heap)(R:Kv):Prop:=
 br (decide (p1>v2))
 (R (.int .i64 (wrap .i64 (p1-v2))) H)
 (R (.int .i64 (wrap .i64 (v2-p1))) H)
def Try.p32:Plan:=(tl (tg (tl leaf)))
theorem Try.s32{p1 v2:Int}{H R}(h:Try.S32 p1 v2 H R):Try.C 32 #[.int .i64 p1,.int .i64 v2] H R:=vcs Try.tab_ok Try.mixed Try.func32 Try.cal32 Try.p32 h (by kernel_rfl)
def Try.S33(pa1p:OA)(pa1l pa1c:Nat)(H:Heap)(R:Kv):Prop:=
 ∀X2:Kl,(∀(su3 t4:Int) H5,(br (decide (t4<(pa1l:Int))) (∃a6,pa1p=some a6∧0≤t4∧t4<(pa1l:Int)∧ ∃p7p p7l p7c,cell H5 (.add a6 (toNat t4*1))=some (.slice p7p p7l p7c)∧Try.C 43 #[.int .i64 su3,.slice p7p p7l p7c] H5 fun r8 H9=> ∃su10,r8= .int .i64 su10∧X2 [.int .i64 su10,.int .i64 (wrap .i64 (t4+1))] H9) (R (.int .i64 su3) H5))→X2 [.int .i64 su3,.int .i64 t4] H5)→X2 [.int .i64 1,.int .i64 0] H
def Try.p33:Plan:=(tl (tl (two (tl (one (loop [(3,3),(8,3)] [6,7] (tl (two (tl leaf) (two (one (tl leaf)) leaf)))))) (tl leaf))))
theorem Try.s33{pa1p:OA}{pa1l pa1c:Nat}{H R}(h:Try.S33 pa1p pa1l pa1c H R):Try.C 33 #[.slice pa1p pa1l pa1c] H R:=vcs Try.tab_ok Try.mixed Try.func33 Try.cal33 Try.p33 h (by kernel_rfl)
def Try.S34(b1p:OA)(b1l b1c:Nat)(ef2:Int)(H:Heap)(R:Kv):Prop:=
 Try.C 44 #[.slice b1p b1l b1c,.int .i64 ef2] H fun r3 H4=> ∃li5p li5l li5c,r3= .slice li5p li5l li5c∧Try.C 45 #[.bool false] H4 fun r6 H7=> ∃r8,r6= .pointer r8∧alc H7 (.cells #[.pointer none] 72) fun b9 H10=>#[Value.pointer r8].size=1∧stAt H10 ⟨b9,0,none⟩ (Array.toList #[.pointer r8]) fun H11=> ∃Wr12,cell H11 (.add ⟨b9,0,none⟩ 0)=some (.pointer Wr12)∧Try.C 46 #[.pointer Wr12,.int .i64 3,.int .i64 3] H11 fun r13 H14=> ∃r15,r13= .bool r15∧ ∃v16,v16.size=1∧rowIn H14 ⟨b9,0,none⟩ v16∧Try.C 49 #[] H14 fun r17 H18=> ∃r19p r19l r19c r20p r20l r20c,r17= .tuple #[.slice r19p r19l r19c,.slice r20p r20l r20c]∧(Ext H14 H18∨(∃v50,v50.size=1∧rowIn H18 ⟨b9,0,none⟩ v50∧Value.agg v50= .agg v16))∧Try.C 48 #[.slice r19p r19l r19c,.slice r20p r20l r20c] H18 fun r21 H22=> ∃r23,r21= .agg r23∧(Ext H18 H22∨(∃v49,v49.size=1∧rowIn H22 ⟨b9,0,none⟩ v49∧Value.agg v49= .agg v16))∧Try.C 47 #[.agg v16,.slice li5p li5l li5c,.agg r23] H22 fun r24 H25=>r24= .tuple #[]∧ ∃Wr26,cell H25 (.add ⟨b9,0,none⟩ 0)=some (.pointer Wr26)∧Try.C 50 #[.pointer Wr26] H25 fun r27 H28=> ∃be29p be29l be29c,r27= .slice be29p be29l be29c∧ ∀J30:Kl,(∀(be31p:OA) (be31l be31c:Nat) H32,(Try.C 52 #[.slice b1p b1l b1c] H32 fun r33 H34=> ∃x35p x35l x35c,r33= .slice x35p x35l x35c∧br (decide (((x35l:Int):Int)<(be31l:Int))) (R (.slice x35p x35l x35c) H34) (R (.slice be31p be31l be31c) H34))→J30 [.slice be31p be31l be31c] H32)→
 br (decide (((li5l:Int):Int)>20))
 (Try.C 45 #[.bool false] H28 fun r36 H37=> ∃r38,r36= .pointer r38∧alc H37 (.cells #[.pointer none] 72) fun b39 H40=>#[Value.pointer r38].size=1∧stAt H40 ⟨b39,0,none⟩ (Array.toList #[.pointer r38]) fun H41=> ∃v42,v42.size=1∧rowIn H41 ⟨b39,0,none⟩ v42∧Try.C 51 #[.agg v42,.slice li5p li5l li5c,.int .i64 1] H41 fun r43 H44=>r43= .tuple #[]∧ ∃Wr45,cell H44 (.add ⟨b39,0,none⟩ 0)=some (.pointer Wr45)∧Try.C 50 #[.pointer Wr45] H44 fun r46 H47=> ∃x48p x48l x48c,r46= .slice x48p x48l x48c∧br (decide (((x48l:Int):Int)<(be29l:Int))) (J30 [.slice x48p x48l x48c] H47) (J30 [.slice be29p be29l be29c] H47))
 (J30 [.slice be29p be29l be29c] H28)
def Try.p34:Plan:=(tl (tl (tl (tl (tl (tl (two (join [(7,22)] [0] (tl (two (tl (tl (tl (tl (tl leaf))))) leaf))) (two (tl (tl (tl leaf))) (tl leaf)))))))))
theorem Try.s34{b1p:OA}{b1l b1c:Nat}{ef2:Int}{H R}(h:Try.S34 b1p b1l b1c ef2 H R):Try.C 34 #[.slice b1p b1l b1c,.int .i64 ef2] H R:=vcs Try.tab_ok Try.mixed Try.func34 Try.cal34 Try.p34 h (by kernel_rfl)
def Try.S35(s1p:OA)(s1l s1c:Nat)(n2:Int)(H:Heap)(R:Kv):Prop:=
 ∀J3:Kl,(∀H4,(br (decide (((wrap .i64 (n2-(wrap .i64 ((s1c:Int)-(s1l:Int))))):Int)>0)) (0≤(s1c:Int)∧(s1c:Int)≤(s1c:Int)∧appZ 1 1 #[.int .u8 0] H4 (if s1c=0 then s1p else Option.map (fun x=>Addr.add x (0*1)) s1p) ((toNat (s1c:Int))-0) (s1c-0) (wrap .i64 (n2-(wrap .i64 ((s1c:Int)-(s1l:Int))))) 5 fun ap5p ap5l ap5c H6=>0≤(s1l:Int)∧(s1l:Int)≤(ap5c:Int)∧R (.slice (if ap5c=0 then ap5p else Option.map (fun x=>Addr.add x (0*1)) ap5p) ((toNat (s1l:Int))-0) (ap5c-0)) H6) (R (.slice s1p s1l s1c) H4))→J3 [] H4)→
 br (decide (n2<0))
 (False)
 (J3 [] H)
def Try.p35:Plan:=(tl (two (join [] [0,1] (tl (tl leaf))) (two (tl (tl (tl leaf))) (tl leaf))))
theorem Try.s35{s1p:OA}{s1l s1c:Nat}{n2:Int}{H R}(h:Try.S35 s1p s1l s1c n2 H R):Try.C 35 #[.slice s1p s1l s1c,.int .i64 n2] H R:=vcs Try.tab_ok Try.mixed Try.func35 Try.cal35 Try.p35 h (by kernel_rfl)
def Try.S36(pa1p:OA)(pa1l pa1c:Nat)(H:Heap)(R:Kv):Prop:=
 ∀X2:Kl,(∀(su3 t4:Int) H5,(br (decide (t4<(pa1l:Int))) (∃a6,pa1p=some a6∧0≤t4∧t4<(pa1l:Int)∧ ∃p7p p7l p7c,cell H5 (.add a6 (toNat t4*1))=some (.slice p7p p7l p7c)∧Try.C 53 #[.int .i64 su3,.slice p7p p7l p7c] H5 fun r8 H9=> ∃su10,r8= .int .i64 su10∧X2 [.int .i64 su10,.int .i64 (wrap .i64 (t4+1))] H9) (R (.int .i64 su3) H5))→X2 [.int .i64 su3,.int .i64 t4] H5)→X2 [.int .i64 0,.int .i64 0] H
def Try.p36:Plan:=(tl (tl (two (tl (one (loop [(3,3),(8,3)] [6,7] (tl (two (tl leaf) (two (one (tl leaf)) leaf)))))) (tl leaf))))
theorem Try.s36{pa1p:OA}{pa1l pa1c:Nat}{H R}(h:Try.S36 pa1p pa1l pa1c H R):Try.C 36 #[.slice pa1p pa1l pa1c] H R:=vcs Try.tab_ok Try.mixed Try.func36 Try.cal36 Try.p36 h (by kernel_rfl)
def Try.S37(yl1:Nat)(ad2 ad3:Addr)(H:Heap)(R:Kv):Prop:=
 ∀X4:Kl,(∀(i5:Int) H6,(∃v7p v7l v7c,cell H6 ad2=some (.slice v7p v7l v7c)∧br (decide (i5<(v7l:Int))) (∃v8,cell H6 ad3=some (.int .i64 v8)∧ ∃v9p v9l v9c,cell H6 ad2=some (.slice v9p v9l v9c)∧0≤i5∧i5≤(v9l:Int)∧ ∃v10p v10l v10c,cell H6 ad2=some (.slice v10p v10l v10c)∧0≤(wrap .i64 (i5+(min v8 (((v9l-(toNat i5)):Nat):Int))))∧(wrap .i64 (i5+(min v8 (((v9l-(toNat i5)):Nat):Int))))≤(v10c:Int)∧0≤(wrap .i64 (i5+(min v8 (((v9l-(toNat i5)):Nat):Int))))∧(wrap .i64 (i5+(min v8 (((v9l-(toNat i5)):Nat):Int))))≤(wrap .i64 (i5+(min v8 (((v9l-(toNat i5)):Nat):Int))))∧0≤i5∧i5≤(wrap .i64 (i5+(min v8 (((v9l-(toNat i5)):Nat):Int))))∧YieldH Try.prog yl1 #[.slice (if (toNat (wrap .i64 (i5+(min v8 (((v9l-(toNat i5)):Nat):Int)))))=(toNat i5) then v10p else Option.map (fun x=>Addr.add x ((toNat i5)*1)) v10p) ((toNat (wrap .i64 (i5+(min v8 (((v9l-(toNat i5)):Nat):Int)))))-(toNat i5)) ((toNat (wrap .i64 (i5+(min v8 (((v9l-(toNat i5)):Nat):Int)))))-(toNat i5))] H6 fun r11 H12=> ∃r13,r11= .bool r13∧br (!r13) (R (.tuple #[]) H12) (∃v14,cell H12 ad3=some (.int .i64 v14)∧X4 [.int .i64 (wrap .i64 (i5+v14))] H12)) (R (.tuple #[]) H6))→X4 [.int .i64 i5] H6)→X4 [.int .i64 0] H
def Try.p37:Plan:=(tl (one (loop [(4,3)] [0,1,2] (two (tl (tl leaf)) (two (one (tl (tl (tl leaf)))) leaf)))))
theorem Try.s37{yl1:Nat}{ad2 ad3:Addr}{H R}(h:Try.S37 yl1 ad2 ad3 H R):Try.C 37 #[.func (.yield yl1) #[] #[],.pointer (some ad2),.pointer (some ad3)] H R:=vcs Try.tab_ok Try.mixed Try.func37 Try.cal37 Try.p37 h (by kernel_rfl)
def Try.S38(r1:OA)(H:Heap)(R:Kv):Prop:=
 ∃a2,r1=some a2∧ ∃b3p b3l b3c,cell H (.add a2 0)=some (.slice b3p b3l b3c)∧br (decide (((b3l:Int):Int)<12))
 (R (.tuple #[.string (ByteArray.mk #[]),.slice none 0 0]) H)
 (∃a4,r1=some a4∧ ∃b5p b5l b5c,cell H (.add a4 0)=some (.slice b5p b5l b5c)∧Try.C 28 #[.slice b5p b5l b5c] H fun r6 H7=> ∃n8,r6= .int .i64 n8∧ ∀J9:Kl,(∀H10,(∃a11,r1=some a11∧ ∃b12p b12l b12c,cell H10 (.add a11 0)=some (.slice b12p b12l b12c)∧0≤(8:Int)∧(8:Int)≤(b12c:Int)∧0≤(4:Int)∧(4:Int)≤(8:Int)∧ ∃bs13:List Int,bsOf H10 (if b12c=(toNat 4) then b12p else Option.map (fun x=>Addr.add x ((toNat 4)*1)) b12p) ((toNat 8)-(toNat 4)) bs13∧ ∃a14,r1=some a14∧ ∃b15p b15l b15c,cell H10 (.add a14 0)=some (.slice b15p b15l b15c)∧0≤(wrap .i64 ((8:Int)+n8))∧(wrap .i64 ((8:Int)+n8))≤(b15c:Int)∧0≤(8:Int)∧(8:Int)≤(wrap .i64 ((8:Int)+n8))∧strQ (textOf bs13) 5 H10 fun by_16p by_16l by_16c H17=> ∀X18:Kl,(∀(ki19:ByteArray) (da20p:OA) (da20l da20c:Nat) (t21:Int) H22,(br (decide (t21<(by_16l:Int))) (∀J23:Kl,(∀(ki24:ByteArray) (da25p:OA) (da25l da25c:Nat) H26,(X18 [.string ki24,.slice da25p da25l da25c,.int .i64 (wrap .i64 (t21+1))] H26)→J23 [.string ki24,.slice da25p da25l da25c] H26)→ ∃a27,by_16p=some a27∧0≤t21∧t21<(by_16l:Int)∧ ∃c28,cell H22 (.add a27 (toNat t21*1))=some (.int .u8 c28)∧br (decide (c28≥97)) (br (decide (c28≤122)) (J23 [.string ki19,.slice da20p da20l da20c] H22) (br (decide (c28≥65)) (br (!(decide (c28≤90))) (R (.tuple #[.string (ByteArray.mk #[]),.slice none 0 0]) H22) (J23 [.string ki19,.slice da20p da20l da20c] H22)) (R (.tuple #[.string (ByteArray.mk #[]),.slice none 0 0]) H22))) (br (decide (c28≥65)) (br (!(decide (c28≤90))) (R (.tuple #[.string (ByteArray.mk #[]),.slice none 0 0]) H22) (J23 [.string ki19,.slice da20p da20l da20c] H22)) (R (.tuple #[.string (ByteArray.mk #[]),.slice none 0 0]) H22))) (∃a29,r1=some a29∧ ∃b30p b30l b30c,cell H22 (.add a29 0)=some (.slice b30p b30l b30c)∧0≤(wrap .i64 ((8:Int)+n8))∧(wrap .i64 ((8:Int)+n8))≤(b30l:Int)∧Try.C 28 #[.slice (if b30c=(toNat (wrap .i64 ((8:Int)+n8))) then b30p else Option.map (fun x=>Addr.add x ((toNat (wrap .i64 ((8:Int)+n8)))*1)) b30p) (b30l-(toNat (wrap .i64 ((8:Int)+n8)))) (b30c-(toNat (wrap .i64 ((8:Int)+n8))))] H22 fun r31 H32=> ∃r33,r31= .int .i64 r33∧strQ ki19 5 H32 fun by_34p by_34l by_34c H35=>alc H35 (.cells #[.slice by_34p by_34l by_34c,.slice da20p da20l da20c] 22) fun b36 H37=>Try.C 36 #[.slice (some ⟨b36,0,none⟩) 2 2] H37 fun r38 H39=> ∃r40,r38= .int .i64 r40∧br (r33 != r40) (R (.tuple #[.string (ByteArray.mk #[]),.slice none 0 0]) H39) (∃a41,r1=some a41∧ ∃b42p b42l b42c,cell H39 (.add a41 0)=some (.slice b42p b42l b42c)∧0≤(wrap .i64 ((12:Int)+n8))∧(wrap .i64 ((12:Int)+n8))≤(b42l:Int)∧ ∃a43,r1=some a43∧stAt H39 (.add a43 0) [.slice (if b42c=(toNat (wrap .i64 ((12:Int)+n8))) then b42p else Option.map (fun x=>Addr.add x ((toNat (wrap .i64 ((12:Int)+n8)))*1)) b42p) (b42l-(toNat (wrap .i64 ((12:Int)+n8)))) (b42c-(toNat (wrap .i64 ((12:Int)+n8))))] fun H44=>R (.tuple #[.string ki19,.slice da20p da20l da20c]) H44)))→X18 [.string ki19,.slice da20p da20l da20c,.int .i64 t21] H22)→X18 [.string (textOf bs13),.slice (if b15c=(toNat 8) then b15p else Option.map (fun x=>Addr.add x ((toNat 8)*1)) b15p) ((toNat (wrap .i64 ((8:Int)+n8)))-(toNat 8)) (b15c-(toNat 8)),.int .i64 0] H17)→J9 [] H10)→br (decide (n8≥2147483648)) (R (.tuple #[.string (ByteArray.mk #[]),.slice none 0 0]) H7) (∃a45,r1=some a45∧ ∃b46p b46l b46c,cell H7 (.add a45 0)=some (.slice b46p b46l b46c)∧br (decide (n8>(wrap .i64 ((b46l:Int)-12)))) (R (.tuple #[.string (ByteArray.mk #[]),.slice none 0 0]) H7) (J9 [] H7)))
def Try.p38:Plan:=(tl (tg (tl (two (join [] [0,4] g0) (tl (two (tl (one (loop [(2,9),(3,22),(46,3)] [0,4,44,45] (tl (two (tl leaf) (two (join [(2,9),(3,22)] [0,4,44,45,46] (one (tl g0))) leaf)))))) (tg (tl (tl leaf)))))))))
theorem Try.s38{r1:OA}{H R}(h:Try.S38 r1 H R):Try.C 38 #[.pointer r1] H R:=vcs Try.tab_ok Try.mixed Try.func38 Try.cal38 Try.p38 h (by kernel_rfl)
def Try.S39(a1p:OA)(a1l a1c:Nat)(b2p:OA)(b2l b2c:Nat)(H:Heap)(R:Kv):Prop:=
 ∃bs3:List Int,bsOf H a1p a1l bs3∧ ∃bs4:List Int,bsOf H b2p b2l bs4∧R (.bool (((textOf bs3):ByteArray)==(textOf bs4))) H
def Try.p39:Plan:=(tl (tl leaf))
theorem Try.s39{a1p:OA}{a1l a1c:Nat}{b2p:OA}{b2l b2c:Nat}{H R}(h:Try.S39 a1p a1l a1c b2p b2l b2c H R):Try.C 39 #[.slice a1p a1l a1c,.slice b2p b2l b2c] H R:=vcs Try.tab_ok Try.mixed Try.func39 Try.cal39 Try.p39 h (by kernel_rfl)
def Try.S40(ki1:ByteArray)(H:Heap)(R:Kv):Prop:=
 br (!((ki1:ByteArray)==(ByteArray.mk #[]))) (∃b2:UInt8,0≤(0:Int)∧ki1[toNat 0]?=some b2∧R (.bool (decide ((((UInt8.toNat b2:Nat):Int):Int)≥97))) H) (R (.bool false) H)
def Try.p40:Plan:=(tl (tl leaf))
theorem Try.s40{ki1:ByteArray}{H R}(h:Try.S40 ki1 H R):Try.C 40 #[.string ki1] H R:=vcs Try.tab_ok Try.mixed Try.func40 Try.cal40 Try.p40 h (by kernel_rfl)
def Try.S41(b1p:OA)(b1l b1c:Nat)(mo2:Int)(H:Heap)(R:Kv):Prop:=
 Try.C 54 #[.slice b1p b1l b1c,.bool false] H fun r3 H4=> ∃r5,r3= .pointer r5∧alc H4 (.cells #[.pointer r5,.slice none 0 0,.int .i64 (max mo2 0),.int .i64 0] 86) fun b6 H7=> ∀J8:Kl,(∀H9,(∃a10,(some ⟨b6,0,none⟩)=some a10∧ ∃e11,cell H9 (.add a10 3)=some (.int .i64 e11)∧br (e11 != 0) (∃a12,(some ⟨b6,0,none⟩)=some a12∧ ∃e13,cell H9 (.add a12 3)=some (.int .i64 e13)∧R (.tuple #[.slice none 0 0,.int .i64 0,.int .i64 e13]) H9) (∃a14,(some ⟨b6,0,none⟩)=some a14∧ ∃ou15p ou15l ou15c,cell H9 (.add a14 1)=some (.slice ou15p ou15l ou15c)∧ ∃a16,(some ⟨b6,0,none⟩)=some a16∧ ∃r17,cell H9 (.add a16 0)=some (.pointer r17)∧Try.C 61 #[.pointer r17] H9 fun r18 H19=> ∃r20,r18= .int .i64 r20∧(Ext H9 H19∨(∃ou21p ou21l ou21c,cell H19 (.add a14 1)=some (.slice ou21p ou21l ou21c)∧Value.slice ou21p ou21l ou21c= .slice ou15p ou15l ou15c))∧(8:Int)≠0∧R (.tuple #[.slice ou15p ou15l ou15c,.int .i64 (wrap .i64 (Int.tdiv (wrap .i64 (r20+7)) 8)),.int .i64 0]) H19))→J8 [] H9)→
 ∀X22:Kl,(∀(la23:Bool) H24,(∀J25:Kl,(∀H26,(Try.C 55 #[.pointer (some ⟨b6,0,none⟩),.int .i64 1] H26 fun r27 H28=> ∃r29,r27= .int .i64 r29∧Try.C 55 #[.pointer (some ⟨b6,0,none⟩),.int .i64 2] H28 fun r30 H31=> ∃ki32,r30= .int .i64 ki32∧ ∃a33,(some ⟨b6,0,none⟩)=some a33∧ ∃e34,cell H31 (.add a33 3)=some (.int .i64 e34)∧br (e34 != 0) (X22 [.bool (r29==1)] H31) (br (ki32==0) (Try.C 56 #[.pointer (some ⟨b6,0,none⟩)] H31 fun r35 H36=>r35= .tuple #[]∧X22 [.bool (r29==1)] H36) (br (ki32==1) (Try.C 49 #[] H31 fun r37 H38=> ∃r39p r39l r39c r40p r40l r40c,r37= .tuple #[.slice r39p r39l r39c,.slice r40p r40l r40c]∧Try.C 57 #[.slice r39p r39l r39c] H38 fun r41 H42=> ∃r43 r44,r41= .tuple #[.pointer r43,.bool r44]∧Try.C 57 #[.slice r40p r40l r40c] H42 fun r45 H46=> ∃r47 r48,r45= .tuple #[.pointer r47,.bool r48]∧Try.C 58 #[.pointer (some ⟨b6,0,none⟩),.pointer r43,.pointer r47] H46 fun r49 H50=>r49= .tuple #[]∧X22 [.bool (r29==1)] H50) (br (ki32==2) (Try.C 59 #[.pointer (some ⟨b6,0,none⟩)] H31 fun r51 H52=> ∃r53 r54,r51= .tuple #[.pointer r53,.pointer r54]∧Try.C 58 #[.pointer (some ⟨b6,0,none⟩),.pointer r53,.pointer r54] H52 fun r55 H56=>r55= .tuple #[]∧X22 [.bool (r29==1)] H56) (Try.C 60 #[.pointer (some ⟨b6,0,none⟩),.int .i64 25] H31 fun r57 H58=>r57= .tuple #[]∧X22 [.bool (r29==1)] H58)))))→J25 [] H26)→br (!la23) (∃a59,(some ⟨b6,0,none⟩)=some a59∧ ∃e60,cell H24 (.add a59 3)=some (.int .i64 e60)∧br (e60==0) (J25 [] H24) (J8 [] H24)) (J8 [] H24))→X22 [.bool la23] H24)→X22 [.bool false] H7
def Try.p41:Plan:=(tl (tl (two (join [] [7] (tl (one (loop [(8,4)] [7] (two (join [] [7] (tl (tl leaf))) (one (tl (tl (one (tl (tl (tl (tl (tl (two (tl (tl (tl leaf))) g0))))))))))))))) (tg (tl leaf)))))
theorem Try.s41{b1p:OA}{b1l b1c:Nat}{mo2:Int}{H R}(h:Try.S41 b1p b1l b1c mo2 H R):Try.C 41 #[.slice b1p b1l b1c,.int .i64 mo2] H R:=vcs Try.tab_ok Try.mixed Try.func41 Try.cal41 Try.p41 h (by kernel_rfl)
def Try.S42(v1:Int)(ad2:Addr)(H:Heap)(R:Kv):Prop:=
 ∃v3,cell H ad2=some (.int .i64 v3)∧ ∃v4,cell H ad2=some (.int .i64 v4)∧R (.int .i64 (max (wrap .i64 (v3-(wrap .i64 v1))) (wrap .i64 ((wrap .i64 v1)-v4)))) H
def Try.p42:Plan:=(tl (tl leaf))
theorem Try.s42{v1:Int}{ad2:Addr}{H R}(h:Try.S42 v1 ad2 H R):Try.C 42 #[.int .u8 v1,.pointer (some ad2)] H R:=vcs Try.tab_ok Try.mixed Try.func42 Try.cal42 Try.p42 h (by kernel_rfl)
def Try.S43(su1:Int)(b2p:OA)(b2l b2c:Nat)(H:Heap)(R:Kv):Prop:=
 0≤(16:Int)∧ ∀X3:Kl,(∀(lo4 hi5 t6:Int) H7,(br (decide (t6<(b2l:Int))) (∃a8,b2p=some a8∧0≤t6∧t6<(b2l:Int)∧ ∃x9,cell H7 (.add a8 (toNat t6*1))=some (.int .u8 x9)∧(65521:Int)≠0∧(65521:Int)≠0∧X3 [.int .i64 (Int.tmod (wrap .i64 (lo4+(wrap .i64 x9))) 65521),.int .i64 (Int.tmod (wrap .i64 (hi5+(Int.tmod (wrap .i64 (lo4+(wrap .i64 x9))) 65521))) 65521),.int .i64 (wrap .i64 (t6+1))] H7) (0≤(16:Int)∧R (.int .i64 (orI .i64 (shlI .i64 hi5 16) lo4)) H7))→X3 [.int .i64 lo4,.int .i64 hi5,.int .i64 t6] H7)→X3 [.int .i64 (andI .i64 su1 65535),.int .i64 (shrI .i64 su1 16),.int .i64 0] H
def Try.p43:Plan:=(tl (tl (two (tl (one (loop [(5,3),(6,3),(15,3)] [13,14] (tl (two (tl leaf) (two (one (tl (tl leaf))) leaf)))))) (tl leaf))))
theorem Try.s43{su1:Int}{b2p:OA}{b2l b2c:Nat}{H R}(h:Try.S43 su1 b2p b2l b2c H R):Try.C 43 #[.int .i64 su1,.slice b2p b2l b2c] H R:=vcs Try.tab_ok Try.mixed Try.func43 Try.cal43 Try.p43 h (by kernel_rfl)
def Try.S44(b1p:OA)(b1l b1c:Nat)(ef2:Int)(H:Heap)(R:Kv):Prop:=
 br (decide (ef2≤0))
 (∀X3:Kl,(∀(ou4p:OA) (ou4l ou4c:Nat) (t5:Int) H6,(br (decide (t5<(b1l:Int))) (∃a7,b1p=some a7∧0≤t5∧t5<(b1l:Int)∧ ∃c8,cell H6 (.add a7 (toNat t5*1))=some (.int .u8 c8)∧#[Value.int .i64 0,Value.int .i64 0,Value.int .u8 c8].size=3∧0+3≤3∧alc H6 (.cells (List.toArray (setL [.int .i64 0,.int .i64 0,.int .u8 0] 0 (Array.toList #[.int .i64 0,.int .i64 0,.int .u8 c8]))) 97) fun b9 H10=>appQ 3 24 #[.int .i64 0,.int .i64 0,.int .u8 0] H10 ou4p ou4l ou4c (some ⟨b9,0,none⟩) 1 97 fun ou11p ou11l ou11c H12=>X3 [.slice ou11p ou11l ou11c,.int .i64 (wrap .i64 (t5+1))] H12) (R (.slice ou4p ou4l ou4c) H6))→X3 [.slice ou4p ou4l ou4c,.int .i64 t5] H6)→X3 [.slice none 0 0,.int .i64 0] H)
 (∀J13:Kl,(∀(f14:OA) H15,(∀X16:Kl,(∀(ou17p:OA) (ou17l ou17c:Nat) (at_18:Int) H19,(br (decide (at_18<(b1l:Int))) (Try.C 62 #[.pointer f14,.int .i64 at_18,.int .i64 (min ef2 64)] H19 fun r20 H21=> ∃r22 r23,r20= .tuple #[.int .i64 r22,.int .i64 r23]∧br (r22==0) (∃a24,b1p=some a24∧0≤at_18∧at_18<(b1l:Int)∧ ∃v25,cell H21 (.add a24 (toNat at_18*1))=some (.int .u8 v25)∧#[Value.int .i64 0,Value.int .i64 0,Value.int .u8 v25].size=3∧0+3≤3∧alc H21 (.cells (List.toArray (setL [.int .i64 0,.int .i64 0,.int .u8 0] 0 (Array.toList #[.int .i64 0,.int .i64 0,.int .u8 v25]))) 97) fun b26 H27=>appQ 3 24 #[.int .i64 0,.int .i64 0,.int .u8 0] H27 ou17p ou17l ou17c (some ⟨b26,0,none⟩) 1 97 fun ou28p ou28l ou28c H29=>Try.C 63 #[.pointer f14,.int .i64 at_18] H29 fun r30 H31=>r30= .tuple #[]∧X16 [.slice ou28p ou28l ou28c,.int .i64 (wrap .i64 (at_18+1))] H31) (#[Value.int .i64 r22,Value.int .i64 r23,Value.int .u8 0].size=3∧0+3≤3∧alc H21 (.cells (List.toArray (setL [.int .i64 0,.int .i64 0,.int .u8 0] 0 (Array.toList #[.int .i64 r22,.int .i64 r23,.int .u8 0]))) 97) fun b32 H33=>appQ 3 24 #[.int .i64 0,.int .i64 0,.int .u8 0] H33 ou17p ou17l ou17c (some ⟨b32,0,none⟩) 1 97 fun ou34p ou34l ou34c H35=> ∀X36:Kl,(∀(at_37 t38:Int) H39,(br (decide (t38<r22)) (Try.C 63 #[.pointer f14,.int .i64 at_37] H39 fun r40 H41=>r40= .tuple #[]∧X36 [.int .i64 (wrap .i64 (at_37+1)),.int .i64 (wrap .i64 (t38+1))] H41) (X16 [.slice ou34p ou34l ou34c,.int .i64 at_37] H39))→X36 [.int .i64 at_37,.int .i64 t38] H39)→X36 [.int .i64 at_18,.int .i64 0] H35)) (R (.slice ou17p ou17l ou17c) H19))→X16 [.slice ou17p ou17l ou17c,.int .i64 at_18] H19)→X16 [.slice none 0 0,.int .i64 0] H15)→J13 [.pointer f14] H15)→(0≤(4096:Int)∧(4096:Int)≤(4096:Int)∧((8:Nat):Int)*(4096:Int)≤281474976710656∧(4096:Int)≤281474976710656∧alc H (.cells (List.toArray (reps (toNat 4096) (Array.toList #[.int .i64 0]))) 3) fun b42 H43=>(Ext H H43∨(Value.int .i64 (b1l:Int)= .int .i64 (b1l:Int)))∧0≤(b1l:Int)∧(b1l:Int)≤(b1l:Int)∧((8:Nat):Int)*(b1l:Int)≤281474976710656∧(b1l:Int)≤281474976710656∧alc H43 (.cells (List.toArray (reps (toNat (b1l:Int)) (Array.toList #[.int .i64 0]))) 3) fun b44 H45=>alc H45 (.cells #[.slice b1p b1l b1c,.slice (some ⟨b42,0,none⟩) (toNat 4096) (toNat 4096),.slice (some ⟨b44,0,none⟩) (toNat (b1l:Int)) (toNat (b1l:Int))] 100) fun b46 H47=>J13 [.pointer (some ⟨b46,0,none⟩)] H47)∧(0≤(b1l:Int)∧(b1l:Int)≤(b1l:Int)∧((8:Nat):Int)*(b1l:Int)≤281474976710656∧(b1l:Int)≤281474976710656∧alc H (.cells (List.toArray (reps (toNat (b1l:Int)) (Array.toList #[.int .i64 0]))) 3) fun b48 H49=>0≤(4096:Int)∧(4096:Int)≤(4096:Int)∧((8:Nat):Int)*(4096:Int)≤281474976710656∧(4096:Int)≤281474976710656∧alc H49 (.cells (List.toArray (reps (toNat 4096) (Array.toList #[.int .i64 0]))) 3) fun b50 H51=>alc H51 (.cells #[.slice b1p b1l b1c,.slice (some ⟨b50,0,none⟩) (toNat 4096) (toNat 4096),.slice (some ⟨b48,0,none⟩) (toNat (b1l:Int)) (toNat (b1l:Int))] 100) fun b52 H53=>J13 [.pointer (some ⟨b52,0,none⟩)] H53))
def Try.p44:Plan:=(tl (tl (two (tl (two (two (tl (one (loop [(5,67),(16,3)] [14,15] (tl (two (tl leaf) (two (one (tl leaf)) leaf)))))) (tl leaf)) leaf)) (tl (two (join [(8,98)] [0,1,5] leaf) (two (tl (one (loop [(5,67),(9,3)] [0,1,8] (two (tl (tl leaf)) (one (tl (two (tl (two (tl (tl (tl leaf))) leaf)) (tl (tl (one (loop [(9,3),(69,3)] [0,1,5,8,68] (tl (two (tl leaf) (two (one (tl leaf)) leaf)))))))))))))) (tl leaf)))))))
theorem Try.s44{b1p:OA}{b1l b1c:Nat}{ef2:Int}{H R}(h:Try.S44 b1p b1l b1c ef2 H R):Try.C 44 #[.slice b1p b1l b1c,.int .i64 ef2] H R:=vcs Try.tab_ok Try.mixed Try.func44 Try.cal44 Try.p44 h (by kernel_rfl)
def Try.S45(hi1:Bool)(H:Heap)(R:Kv):Prop:=
 alc H (.cells #[.slice none 0 0,.int .i64 0,.bool hi1] 105) fun b2 H3=>R (.pointer (some ⟨b2,0,none⟩)) H3
def Try.p45:Plan:=(tl (tl leaf))
theorem Try.s45{hi1:Bool}{H R}(h:Try.S45 hi1 H R):Try.C 45 #[.bool hi1] H R:=vcs Try.tab_ok Try.mixed Try.func45 Try.cal45 Try.p45 h (by kernel_rfl)
def Try.S46(w1:OA)(v2 n3:Int)(H:Heap)(R:Kv):Prop:=
 ∀J4:Kl,(∀H5,(∀X6:Kl,(∀(k7:Int) H8,(br (decide (k7<n3)) (∀J9:Kl,(∀(k10:Int) H11,(0≤k10∧Try.C 64 #[.pointer w1,.int .i64 (shrI .i64 v2 k10)] H11 fun r12 H13=>r12= .tuple #[]∧X6 [.int .i64 (wrap .i64 (k7+1))] H13)→J9 [.int .i64 k10] H11)→ ∃a14,w1=some a14∧ ∃hi15,cell H8 (.add a14 2)=some (.bool hi15)∧br hi15 (J9 [.int .i64 (wrap .i64 ((wrap .i64 (n3-1))-k7))] H8) (J9 [.int .i64 k7] H8)) (R (.bool true) H8))→X6 [.int .i64 k7] H8)→X6 [.int .i64 0] H5)→J4 [] H5)→
 br (decide (n3<0)) (R (.bool false) H) (br (decide (n3>24)) (R (.bool false) H) (br (decide (v2<0)) (R (.bool false) H) (0≤n3∧br (decide (v2≥(shlI .i64 1 n3))) (R (.bool false) H) (J4 [] H))))
def Try.p46:Plan:=(tl (two (join [] [0,1,2] g0) (two (tl (one (loop [(25,3)] [0,1,2,24] (tl (two (tl leaf) (two (one (tl (two (join [(7,3)] [0,1,2,24,25] (tl (tl leaf))) leaf))) leaf)))))) (tl leaf))))
theorem Try.s46{w1:OA}{v2 n3:Int}{H R}(h:Try.S46 w1 v2 n3 H R):Try.C 46 #[.pointer w1,.int .i64 v2,.int .i64 n3] H R:=vcs Try.tab_ok Try.mixed Try.func46 Try.cal46 Try.p46 h (by kernel_rfl)
def Try.S47(d1:AV)(li2p:OA)(li2l li2c:Nat)(c3:AV)(H:Heap)(R:Kv):Prop:=
 alc H (.cells d1 72) fun b4 H5=>alc H5 (.cells c3 76) fun b6 H7=> ∀X8:Kl,(∀(t9:Int) H10,(br (decide (t9<(li2l:Int))) (∃a11,li2p=some a11∧0≤t9∧t9<(li2l:Int)∧ ∃v12,v12.size=3∧rowIn H10 (.add a11 (toNat t9*3)) v12∧alc H10 (.cells #[.int .i64 0,.int .i64 0,.int .u8 0] 97) fun b13 H14=>v12.size=3∧stAt H14 ⟨b13,0,none⟩ v12.toList fun H15=> ∃Le16,cell H15 (.add ⟨b13,0,none⟩ 0)=some (.int .i64 Le16)∧br (Le16==0) (∃v17,v17.size=1∧rowIn H15 ⟨b4,0,none⟩ v17∧ ∃l18p l18l l18c,cell H15 (.add ⟨b6,0,none⟩ 2)=some (.slice l18p l18l l18c)∧ ∃Li19,cell H15 (.add ⟨b13,0,none⟩ 2)=some (.int .u8 Li19)∧ ∃a20,l18p=some a20∧0≤Li19∧Li19<(l18l:Int)∧ ∃v21,cell H15 (.add a20 (toNat Li19*1))=some (.int .i64 v21)∧ ∃li22p li22l li22c,cell H15 (.add ⟨b6,0,none⟩ 0)=some (.slice li22p li22l li22c)∧ ∃Li23,cell H15 (.add ⟨b13,0,none⟩ 2)=some (.int .u8 Li23)∧ ∃a24,li22p=some a24∧0≤Li23∧Li23<(li22l:Int)∧ ∃v25,cell H15 (.add a24 (toNat Li23*1))=some (.int .i64 v25)∧Try.C 65 #[.agg v17,.int .i64 v21,.int .i64 v25] H15 fun r26 H27=>r26= .tuple #[]∧X8 [.int .i64 (wrap .i64 (t9+1))] H27) (∃Le28,cell H15 (.add ⟨b13,0,none⟩ 0)=some (.int .i64 Le28)∧Try.C 66 #[.int .i64 Le28] H15 fun r29 H30=> ∃r31 r32 r33,r29= .tuple #[.int .i64 r31,.int .i64 r32,.int .i64 r33]∧ ∃v34,v34.size=1∧rowIn H30 ⟨b4,0,none⟩ v34∧ ∃l35p l35l l35c,cell H30 (.add ⟨b6,0,none⟩ 2)=some (.slice l35p l35l l35c)∧ ∃a36,l35p=some a36∧0≤r31∧r31<(l35l:Int)∧ ∃v37,cell H30 (.add a36 (toNat r31*1))=some (.int .i64 v37)∧ ∃li38p li38l li38c,cell H30 (.add ⟨b6,0,none⟩ 0)=some (.slice li38p li38l li38c)∧ ∃a39,li38p=some a39∧0≤r31∧r31<(li38l:Int)∧ ∃v40,cell H30 (.add a39 (toNat r31*1))=some (.int .i64 v40)∧Try.C 65 #[.agg v34,.int .i64 v37,.int .i64 v40] H30 fun r41 H42=>r41= .tuple #[]∧ ∃Wr43,cell H42 (.add ⟨b4,0,none⟩ 0)=some (.pointer Wr43)∧Try.C 46 #[.pointer Wr43,.int .i64 r32,.int .i64 r33] H42 fun r44 H45=> ∃r46,r44= .bool r46∧ ∃Di47,cell H45 (.add ⟨b13,0,none⟩ 1)=some (.int .i64 Di47)∧Try.C 67 #[.int .i64 Di47,.int .i64 0,.int .i64 29,.func (.func 68) #[] #[]] H45 fun r48 H49=> ∃r50 r51 r52,r48= .tuple #[.int .i64 r50,.int .i64 r51,.int .i64 r52]∧ ∃v53,v53.size=1∧rowIn H49 ⟨b4,0,none⟩ v53∧ ∃d54p d54l d54c,cell H49 (.add ⟨b6,0,none⟩ 3)=some (.slice d54p d54l d54c)∧ ∃a55,d54p=some a55∧0≤r50∧r50<(d54l:Int)∧ ∃v56,cell H49 (.add a55 (toNat r50*1))=some (.int .i64 v56)∧ ∃di57p di57l di57c,cell H49 (.add ⟨b6,0,none⟩ 1)=some (.slice di57p di57l di57c)∧ ∃a58,di57p=some a58∧0≤r50∧r50<(di57l:Int)∧ ∃v59,cell H49 (.add a58 (toNat r50*1))=some (.int .i64 v59)∧Try.C 65 #[.agg v53,.int .i64 v56,.int .i64 v59] H49 fun r60 H61=>r60= .tuple #[]∧ ∃Wr62,cell H61 (.add ⟨b4,0,none⟩ 0)=some (.pointer Wr62)∧Try.C 46 #[.pointer Wr62,.int .i64 r51,.int .i64 r52] H61 fun r63 H64=> ∃r65,r63= .bool r65∧X8 [.int .i64 (wrap .i64 (t9+1))] H64)) (∃v66,v66.size=1∧rowIn H10 ⟨b4,0,none⟩ v66∧ ∃l67p l67l l67c,cell H10 (.add ⟨b6,0,none⟩ 2)=some (.slice l67p l67l l67c)∧ ∃a68,l67p=some a68∧0≤(256:Int)∧(256:Int)<(l67l:Int)∧ ∃v69,cell H10 (.add a68 (toNat (256:Int)*1))=some (.int .i64 v69)∧ ∃li70p li70l li70c,cell H10 (.add ⟨b6,0,none⟩ 0)=some (.slice li70p li70l li70c)∧ ∃a71,li70p=some a71∧0≤(256:Int)∧(256:Int)<(li70l:Int)∧ ∃v72,cell H10 (.add a71 (toNat (256:Int)*1))=some (.int .i64 v72)∧Try.C 65 #[.agg v66,.int .i64 v69,.int .i64 v72] H10 fun r73 H74=>r73= .tuple #[]∧R (.tuple #[]) H74))→X8 [.int .i64 t9] H10)→X8 [.int .i64 0] H7
def Try.p47:Plan:=(tl (two (tl (one (loop [(13,3)] [3,5,11,12] (tl (two (tl leaf) (two (one (tl (tg (tl (tl (tl (tl (tl leaf)))))))) leaf)))))) leaf))
theorem Try.s47{d1:AV}{li2p:OA}{li2l li2c:Nat}{c3:AV}{H R}(h:Try.S47 d1 li2p li2l li2c c3 H R):Try.C 47 #[.agg d1,.slice li2p li2l li2c,.agg c3] H R:=vcs Try.tab_ok Try.mixed Try.func47 Try.cal47 Try.p47 h (by kernel_rfl)
def Try.S48(li1p:OA)(li1l li1c:Nat)(di2p:OA)(di2l di2c:Nat)(H:Heap)(R:Kv):Prop:=
 alc H (.cells #[.slice none 0 0,.slice none 0 0,.slice none 0 0,.slice none 0 0] 76) fun b3 H4=>Try.C 69 #[.slice li1p li1l li1c] H4 fun r5 H6=> ∃r7p r7l r7c r8,r5= .tuple #[.slice r7p r7l r7c,.bool r8]∧Try.C 69 #[.slice di2p di2l di2c] H6 fun r9 H10=> ∃r11p r11l r11c r12,r9= .tuple #[.slice r11p r11l r11c,.bool r12]∧#[Value.slice li1p li1l li1c,Value.slice di2p di2l di2c,Value.slice r7p r7l r7c,Value.slice r11p r11l r11c].size=4∧stAt H10 ⟨b3,0,none⟩ (Array.toList #[.slice li1p li1l li1c,.slice di2p di2l di2c,.slice r7p r7l r7c,.slice r11p r11l r11c]) fun H13=> ∃re14,re14.size=4∧rowIn H13 ⟨b3,0,none⟩ re14∧R (.agg re14) H13
def Try.p48:Plan:=(tl (tl (tl (tl leaf))))
theorem Try.s48{li1p:OA}{li1l li1c:Nat}{di2p:OA}{di2l di2c:Nat}{H R}(h:Try.S48 li1p li1l li1c di2p di2l di2c H R):Try.C 48 #[.slice li1p li1l li1c,.slice di2p di2l di2c] H R:=vcs Try.tab_ok Try.mixed Try.func48 Try.cal48 Try.p48 h (by kernel_rfl)
def Try.S49(H:Heap)(R:Kv):Prop:=
 ∀X1:Kl,(∀(li2p:OA) (li2l li2c:Nat) (s3:Int) H4,(br (decide (s3<288)) (∀J5:Kl,(∀(n6:Int) H7,(alc H7 (.cells #[.int .i64 n6] 3) fun b8 H9=>appQ 1 8 #[.int .i64 0] H9 li2p li2l li2c (some ⟨b8,0,none⟩) 1 3 fun li10p li10l li10c H11=>X1 [.slice li10p li10l li10c,.int .i64 (wrap .i64 (s3+1))] H11)→J5 [.int .i64 n6] H7)→br (decide (s3≥144)) (br (decide (s3<256)) (J5 [.int .i64 9] H4) (br (decide (s3≥256)) (br (decide (s3<280)) (J5 [.int .i64 7] H4) (J5 [.int .i64 8] H4)) (J5 [.int .i64 8] H4))) (br (decide (s3≥256)) (br (decide (s3<280)) (J5 [.int .i64 7] H4) (J5 [.int .i64 8] H4)) (J5 [.int .i64 8] H4))) (∀X12:Kl,(∀(di13p:OA) (di13l di13c:Nat) (t14:Int) H15,(br (decide (t14<32)) (alc H15 (.cells #[.int .i64 5] 3) fun b16 H17=>appQ 1 8 #[.int .i64 0] H17 di13p di13l di13c (some ⟨b16,0,none⟩) 1 3 fun di18p di18l di18c H19=>X12 [.slice di18p di18l di18c,.int .i64 (wrap .i64 (t14+1))] H19) (R (.tuple #[.slice li2p li2l li2c,.slice di13p di13l di13c]) H15))→X12 [.slice di13p di13l di13c,.int .i64 t14] H15)→X12 [.slice none 0 0,.int .i64 0] H4))→X1 [.slice li2p li2l li2c,.int .i64 s3] H4)→X1 [.slice none 0 0,.int .i64 0] H
def Try.p49:Plan:=(tl (two (tl (one (loop [(0,74),(4,3)] [1] (tl (two (tl leaf) (two (one (tl (tl (two (join [(3,3)] [0,1,4] (tl (tl (tl (tl leaf))))) leaf)))) leaf)))))) (two (tl (one (loop [(1,74),(24,3)] [0] (tl (two (tl leaf) (two (one leaf) leaf)))))) (tl leaf))))
theorem Try.s49{_u:Unit}{H R}(h:Try.S49 H R):Try.C 49 #[] H R:=vcs Try.tab_ok Try.mixed Try.func49 Try.cal49 Try.p49 h (by kernel_rfl)
def Try.S50(w1:OA)(H:Heap)(R:Kv):Prop:=
 ∃a2,w1=some a2∧ ∃b3p b3l b3c,cell H (.add a2 0)=some (.slice b3p b3l b3c)∧Try.C 18 #[.slice b3p b3l b3c] H fun r4 H5=> ∃r6p r6l r6c,r4= .slice r6p r6l r6c∧R (.slice r6p r6l r6c) H5
def Try.p50:Plan:=(tl (tl leaf))
theorem Try.s50{w1:OA}{H R}(h:Try.S50 w1 H R):Try.C 50 #[.pointer w1] H R:=vcs Try.tab_ok Try.mixed Try.func50 Try.cal50 Try.p50 h (by kernel_rfl)
def Try.S51(d1:AV)(li2p:OA)(li2l li2c:Nat)(la3:Int)(H:Heap)(R:Kv):Prop:=
 alc H (.cells d1 72) fun b4 H5=>Try.C 70 #[.slice li2p li2l li2c] H5 fun r6 H7=> ∃r8p r8l r8c r9p r9l r9c,r6= .tuple #[.slice r8p r8l r8c,.slice r9p r9l r9c]∧Try.C 71 #[.slice r8p r8l r8c] H7 fun r10 H11=> ∃r12p r12l r12c,r10= .slice r12p r12l r12c∧Try.C 71 #[.slice r9p r9l r9c] H11 fun r13 H14=> ∃r15p r15l r15c,r13= .slice r15p r15l r15c∧Try.C 48 #[.slice r12p r12l r12c,.slice r15p r15l r15c] H14 fun r16 H17=> ∃r18,r16= .agg r18∧alc H17 (.cells #[.slice none 0 0,.slice none 0 0,.slice none 0 0,.slice none 0 0] 76) fun b19 H20=>r18.size=4∧stAt H20 ⟨b19,0,none⟩ r18.toList fun H21=> ∃li22p li22l li22c,cell H21 (.add ⟨b19,0,none⟩ 0)=some (.slice li22p li22l li22c)∧ ∃di23p di23l di23c,cell H21 (.add ⟨b19,0,none⟩ 1)=some (.slice di23p di23l di23c)∧alc H21 (.cells #[.slice li22p li22l li22c,.slice di23p di23l di23c] 74) fun b24 H25=>Try.C 72 #[.slice (some ⟨b24,0,none⟩) 2 2] H25 fun r26 H27=> ∃al28p al28l al28c,r26= .slice al28p al28l al28c∧0≤(19:Int)∧(19:Int)≤(19:Int)∧((8:Nat):Int)*(19:Int)≤281474976710656∧(19:Int)≤281474976710656∧alc H27 (.cells (List.toArray (reps (toNat 19) (Array.toList #[.int .i64 0]))) 3) fun b29 H30=> ∀X31:Kl,(∀(t32:Int) H33,(br (decide (t32<(al28l:Int))) (∃a34,al28p=some a34∧0≤t32∧t32<(al28l:Int)∧ ∃n35,cell H33 (.add a34 (toNat t32*1))=some (.int .i64 n35)∧ ∃a36,(some ⟨b29,0,none⟩)=some a36∧0≤n35∧n35<(((toNat 19):Nat):Int)∧ ∃v37,cell H33 (.add a36 (toNat n35*1))=some (.int .i64 v37)∧ ∃a38,(some ⟨b29,0,none⟩)=some a38∧0≤n35∧n35<(((toNat 19):Nat):Int)∧stAt H33 (.add a38 (toNat n35*1)) [.int .i64 (wrap .i64 (v37+1))] fun H39=>X31 [.int .i64 (wrap .i64 (t32+1))] H39) (Try.C 74 #[.slice (some ⟨b29,0,none⟩) (toNat 19) (toNat 19)] H33 fun r40 H41=> ∃r42p r42l r42c,r40= .slice r42p r42l r42c∧Try.C 73 #[.slice r42p r42l r42c,.int .i64 7] H41 fun r43 H44=> ∃r45p r45l r45c r46,r43= .tuple #[.slice r45p r45l r45c,.bool r46]∧Try.C 69 #[.slice r45p r45l r45c] H44 fun r47 H48=> ∃r49p r49l r49c r50,r47= .tuple #[.slice r49p r49l r49c,.bool r50]∧ ∃Wr51,cell H48 (.add ⟨b4,0,none⟩ 0)=some (.pointer Wr51)∧Try.C 46 #[.pointer Wr51,.int .i64 la3,.int .i64 1] H48 fun r52 H53=> ∃r54,r52= .bool r54∧ ∃Wr55,cell H53 (.add ⟨b4,0,none⟩ 0)=some (.pointer Wr55)∧Try.C 46 #[.pointer Wr55,.int .i64 2,.int .i64 2] H53 fun r56 H57=> ∃r58,r56= .bool r58∧ ∃Wr59,cell H57 (.add ⟨b4,0,none⟩ 0)=some (.pointer Wr59)∧ ∃li60p li60l li60c,cell H57 (.add ⟨b19,0,none⟩ 0)=some (.slice li60p li60l li60c)∧Try.C 46 #[.pointer Wr59,.int .i64 (wrap .i64 ((li60l:Int)-257)),.int .i64 5] H57 fun r61 H62=> ∃r63,r61= .bool r63∧ ∃Wr64,cell H62 (.add ⟨b4,0,none⟩ 0)=some (.pointer Wr64)∧ ∃di65p di65l di65c,cell H62 (.add ⟨b19,0,none⟩ 1)=some (.slice di65p di65l di65c)∧Try.C 46 #[.pointer Wr64,.int .i64 (wrap .i64 ((di65l:Int)-1)),.int .i64 5] H62 fun r66 H67=> ∃r68,r66= .bool r68∧ ∃Wr69,cell H67 (.add ⟨b4,0,none⟩ 0)=some (.pointer Wr69)∧Try.C 46 #[.pointer Wr69,.int .i64 15,.int .i64 4] H67 fun r70 H71=> ∃r72,r70= .bool r72∧Try.C 75 #[] H71 fun r73 H74=> ∃r75p r75l r75c,r73= .slice r75p r75l r75c∧ ∀X76:Kl,(∀(t77:Int) H78,(br (decide (t77<(r75l:Int))) (∃a79,r75p=some a79∧0≤t77∧t77<(r75l:Int)∧ ∃s80,cell H78 (.add a79 (toNat t77*1))=some (.int .i64 s80)∧ ∃Wr81,cell H78 (.add ⟨b4,0,none⟩ 0)=some (.pointer Wr81)∧ ∃a82,r45p=some a82∧0≤s80∧s80<(r45l:Int)∧ ∃v83,cell H78 (.add a82 (toNat s80*1))=some (.int .i64 v83)∧Try.C 46 #[.pointer Wr81,.int .i64 v83,.int .i64 3] H78 fun r84 H85=> ∃r86,r84= .bool r86∧X76 [.int .i64 (wrap .i64 (t77+1))] H85) (∀X87:Kl,(∀(t88:Int) H89,(br (decide (t88<(al28l:Int))) (∃a90,al28p=some a90∧0≤t88∧t88<(al28l:Int)∧ ∃n91,cell H89 (.add a90 (toNat t88*1))=some (.int .i64 n91)∧ ∃v92,v92.size=1∧rowIn H89 ⟨b4,0,none⟩ v92∧ ∃a93,r49p=some a93∧0≤n91∧n91<(r49l:Int)∧ ∃v94,cell H89 (.add a93 (toNat n91*1))=some (.int .i64 v94)∧ ∃a95,r45p=some a95∧0≤n91∧n91<(r45l:Int)∧ ∃v96,cell H89 (.add a95 (toNat n91*1))=some (.int .i64 v96)∧Try.C 65 #[.agg v92,.int .i64 v94,.int .i64 v96] H89 fun r97 H98=>r97= .tuple #[]∧X87 [.int .i64 (wrap .i64 (t88+1))] H98) (∃v99,v99.size=1∧rowIn H89 ⟨b4,0,none⟩ v99∧ ∃v100,v100.size=4∧rowIn H89 ⟨b19,0,none⟩ v100∧Try.C 47 #[.agg v99,.slice li2p li2l li2c,.agg v100] H89 fun r101 H102=>r101= .tuple #[]∧R (.tuple #[]) H102))→X87 [.int .i64 t88] H89)→X87 [.int .i64 0] H78))→X76 [.int .i64 t77] H78)→X76 [.int .i64 0] H74))→X31 [.int .i64 t32] H33)→X31 [.int .i64 0] H30
def Try.p51:Plan:=(tl (tl (tl (tl (tl (two (tl (one (loop [(40,3)] [1,2,3,8,9,10,38,39] (tl (two (tl leaf) (two (one (tl leaf)) leaf)))))) (tl (tl (tl (tl (tl (tl (tl (two (tl (one (loop [(88,3)] [1,3,8,9,13,15,86,87] (tl (two (tl leaf) (two (one (tl leaf)) leaf)))))) (two (tl (one (loop [(102,3)] [1,3,8,13,15,100,101] (tl (two (tl leaf) (two (one (tl leaf)) leaf)))))) leaf)))))))))))))))
theorem Try.s51{d1:AV}{li2p:OA}{li2l li2c:Nat}{la3:Int}{H R}(h:Try.S51 d1 li2p li2l li2c la3 H R):Try.C 51 #[.agg d1,.slice li2p li2l li2c,.int .i64 la3] H R:=vcs Try.tab_ok Try.mixed Try.func51 Try.cal51 Try.p51 h (by kernel_rfl)
end Go.Proofs
namespace Go.Proofs
open Go.Sh Go.Sh.Plan
open Go.IntKind (wrap)
open Int (toNat)
def Try.S52(b1p:OA)(b1l b1c:Nat)(H:Heap)(R:Kv):Prop:=
 Try.C 45 #[.bool false] H fun r2 H3=> ∃r4,r2= .pointer r4∧alc H3 (.cells #[.pointer none] 72) fun b5 H6=>#[Value.pointer r4].size=1∧stAt H6 ⟨b5,0,none⟩ (Array.toList #[.pointer r4]) fun H7=> ∀X8:Kl,(∀(b9p:OA) (b9l b9c:Nat) (la10:Bool) H11,(br (!la10) (∀J12:Kl,(∀H13,(∃Wr14,cell H13 (.add ⟨b5,0,none⟩ 0)=some (.pointer Wr14)∧Try.C 76 #[.pointer Wr14,.int .i64 0] H13 fun r15 H16=>r15= .tuple #[]∧ ∃Wr17,cell H16 (.add ⟨b5,0,none⟩ 0)=some (.pointer Wr17)∧Try.C 46 #[.pointer Wr17,.int .i64 (min (b9l:Int) 65535),.int .i64 16] H16 fun r18 H19=> ∃r20,r18= .bool r20∧ ∃Wr21,cell H19 (.add ⟨b5,0,none⟩ 0)=some (.pointer Wr21)∧Try.C 46 #[.pointer Wr21,.int .i64 (xorI .i64 (min (b9l:Int) 65535) 65535),.int .i64 16] H19 fun r22 H23=> ∃r24,r22= .bool r24∧0≤(min (b9l:Int) 65535)∧(min (b9l:Int) 65535)≤(b9c:Int)∧ ∀X25:Kl,(∀(t26:Int) H27,(br (decide (t26<((((toNat (min (b9l:Int) 65535))-0):Nat):Int))) (∃a28,(if b9c=0 then b9p else Option.map (fun x=>Addr.add x (0*1)) b9p)=some a28∧0≤t26∧t26<((((toNat (min (b9l:Int) 65535))-0):Nat):Int)∧ ∃c29,cell H27 (.add a28 (toNat t26*1))=some (.int .u8 c29)∧ ∃Wr30,cell H27 (.add ⟨b5,0,none⟩ 0)=some (.pointer Wr30)∧Try.C 46 #[.pointer Wr30,.int .i64 (wrap .i64 c29),.int .i64 8] H27 fun r31 H32=> ∃r33,r31= .bool r33∧X25 [.int .i64 (wrap .i64 (t26+1))] H32) (0≤(min (b9l:Int) 65535)∧(min (b9l:Int) 65535)≤(b9l:Int)∧X8 [.slice (if b9c=(toNat (min (b9l:Int) 65535)) then b9p else Option.map (fun x=>Addr.add x ((toNat (min (b9l:Int) 65535))*1)) b9p) (b9l-(toNat (min (b9l:Int) 65535))) (b9c-(toNat (min (b9l:Int) 65535))),.bool (((min (b9l:Int) 65535):Int)==(b9l:Int))] H27))→X25 [.int .i64 t26] H27)→X25 [.int .i64 0] H23)→J12 [] H13)→br (((min (b9l:Int) 65535):Int)==(b9l:Int)) (∃Wr34,cell H11 (.add ⟨b5,0,none⟩ 0)=some (.pointer Wr34)∧Try.C 46 #[.pointer Wr34,.int .i64 1,.int .i64 3] H11 fun r35 H36=> ∃r37,r35= .bool r37∧J12 [] H36) (∃Wr38,cell H11 (.add ⟨b5,0,none⟩ 0)=some (.pointer Wr38)∧Try.C 46 #[.pointer Wr38,.int .i64 0,.int .i64 3] H11 fun r39 H40=> ∃r41,r39= .bool r41∧J12 [] H40)) (∃Wr42,cell H11 (.add ⟨b5,0,none⟩ 0)=some (.pointer Wr42)∧Try.C 50 #[.pointer Wr42] H11 fun r43 H44=> ∃r45p r45l r45c,r43= .slice r45p r45l r45c∧R (.slice r45p r45l r45c) H44))→X8 [.slice b9p b9l b9c,.bool la10] H11)→X8 [.slice b1p b1l b1c,.bool false] H7
def Try.p52:Plan:=(tl (tl (two (tl (one (loop [(0,22),(4,4)] [3] (two (tl (tl leaf)) (one (tl (tl (two (join [] [0,3,4,5] (tl (tl leaf))) (tl (tl (tl (two (tl (one (loop [(42,3)] [0,3,4,5,40,41] (tl (two (tl leaf) (two (one (tl leaf)) leaf)))))) leaf)))))))))))) (tl leaf))))
theorem Try.s52{b1p:OA}{b1l b1c:Nat}{H R}(h:Try.S52 b1p b1l b1c H R):Try.C 52 #[.slice b1p b1l b1c] H R:=vcs Try.tab_ok Try.mixed Try.func52 Try.cal52 Try.p52 h (by kernel_rfl)
def Try.S53(su1:Int)(b2p:OA)(b2l b2c:Nat)(H:Heap)(R:Kv):Prop:=
 ∀X3:Kl,(∀(c4 t5:Int) H6,(br (decide (t5<(b2l:Int))) (∃a7,b2p=some a7∧0≤t5∧t5<(b2l:Int)∧ ∃x8,cell H6 (.add a7 (toNat t5*1))=some (.int .u8 x8)∧ ∀X9:Kl,(∀(c10 t11:Int) H12,(br (decide (t11<8)) (0≤(1:Int)∧X9 [.int .u32 (xorI .u32 (shrI .u32 c10 1) (andI .u32 3988292384 (wrap .u32 (0-(andI .u32 c10 1))))),.int .i64 (wrap .i64 (t11+1))] H12) (X3 [.int .u32 c10,.int .i64 (wrap .i64 (t5+1))] H12))→X9 [.int .u32 c10,.int .i64 t11] H12)→X9 [.int .u32 (xorI .u32 c4 (wrap .u32 x8)),.int .i64 0] H6) (R (.int .i64 (wrap .i64 (xorI .u32 c4 4294967295))) H6))→X3 [.int .u32 c4,.int .i64 t5] H6)→X3 [.int .u32 (xorI .u32 (wrap .u32 su1) 4294967295),.int .i64 0] H
def Try.p53:Plan:=(tl (tl (two (tl (one (loop [(5,118),(13,3)] [11,12] (tl (two (tl leaf) (two (one (tl (tl (tl (one (loop [(5,118),(21,3)] [11,12,13] (tl (two (tl leaf) (two (one leaf) leaf))))))))) leaf)))))) (tl leaf))))
theorem Try.s53{su1:Int}{b2p:OA}{b2l b2c:Nat}{H R}(h:Try.S53 su1 b2p b2l b2c H R):Try.C 53 #[.int .i64 su1,.slice b2p b2l b2c] H R:=vcs Try.tab_ok Try.mixed Try.func53 Try.cal53 Try.p53 h (by kernel_rfl)
def Try.S54(b1p:OA)(b1l b1c:Nat)(hi2:Bool)(H:Heap)(R:Kv):Prop:=
 Try.C 18 #[.slice b1p b1l b1c] H fun r3 H4=> ∃r5p r5l r5c,r3= .slice r5p r5l r5c∧alc H4 (.cells #[.slice r5p r5l r5c,.int .i64 0,.bool hi2] 120) fun b6 H7=>R (.pointer (some ⟨b6,0,none⟩)) H7
def Try.p54:Plan:=(tl (tl leaf))
theorem Try.s54{b1p:OA}{b1l b1c:Nat}{hi2:Bool}{H R}(h:Try.S54 b1p b1l b1c hi2 H R):Try.C 54 #[.slice b1p b1l b1c,.bool hi2] H R:=vcs Try.tab_ok Try.mixed Try.func54 Try.cal54 Try.p54 h (by kernel_rfl)
def Try.S55(f1:OA)(n2:Int)(H:Heap)(R:Kv):Prop:=
 ∃a3,f1=some a3∧ ∃r4,cell H (.add a3 0)=some (.pointer r4)∧Try.C 77 #[.pointer r4,.int .i64 n2] H fun r5 H6=> ∃r7 r8,r5= .tuple #[.int .i64 r7,.bool r8]∧br (!r8)
 (Try.C 60 #[.pointer f1,.int .i64 20] H6 fun r9 H10=>r9= .tuple #[]∧R (.int .i64 r7) H10)
 (R (.int .i64 r7) H6)
def Try.p55:Plan:=(tl (tl (two (tl (tl leaf)) (tl leaf))))
theorem Try.s55{f1:OA}{n2:Int}{H R}(h:Try.S55 f1 n2 H R):Try.C 55 #[.pointer f1,.int .i64 n2] H R:=vcs Try.tab_ok Try.mixed Try.func55 Try.cal55 Try.p55 h (by kernel_rfl)
def Try.S56(f1:OA)(H:Heap)(R:Kv):Prop:=
 ∃a2,f1=some a2∧ ∃r3,cell H (.add a2 0)=some (.pointer r3)∧Try.C 78 #[.pointer r3] H fun r4 H5=>r4= .tuple #[]∧Try.C 55 #[.pointer f1,.int .i64 16] H5 fun r6 H7=> ∃n8,r6= .int .i64 n8∧Try.C 55 #[.pointer f1,.int .i64 16] H7 fun r9 H10=> ∃m11,r9= .int .i64 m11∧ ∀J12:Kl,(∀H13,(∀X14:Kl,(∀(k15:Int) H16,(∀J17:Kl,(∀H18,(∃a19,f1=some a19∧ ∃ou20p ou20l ou20c,cell H18 (.add a19 1)=some (.slice ou20p ou20l ou20c)∧Try.C 55 #[.pointer f1,.int .i64 8] H18 fun r21 H22=> ∃r23,r21= .int .i64 r23∧(Ext H18 H22∨(∃ou31p ou31l ou31c,cell H22 (.add a19 1)=some (.slice ou31p ou31l ou31c)∧Value.slice ou31p ou31l ou31c= .slice ou20p ou20l ou20c))∧alc H22 (.cells #[.int .u8 (wrap .u8 r23)] 5) fun b24 H25=>(Ext H22 H25∨(∃ou30p ou30l ou30c,cell H25 (.add a19 1)=some (.slice ou30p ou30l ou30c)∧Value.slice ou30p ou30l ou30c= .slice ou20p ou20l ou20c))∧appQ 1 1 #[.int .u8 0] H25 ou20p ou20l ou20c (some ⟨b24,0,none⟩) 1 5 fun ap26p ap26l ap26c H27=> ∃a28,f1=some a28∧stAt H27 (.add a28 1) [.slice ap26p ap26l ap26c] fun H29=>X14 [.int .i64 (wrap .i64 (k15+1))] H29)→J17 [] H18)→br (decide (k15<n8)) (∃a32,f1=some a32∧ ∃e33,cell H16 (.add a32 3)=some (.int .i64 e33)∧br (e33==0) (J17 [] H16) (R (.tuple #[]) H16)) (R (.tuple #[]) H16))→X14 [.int .i64 k15] H16)→X14 [.int .i64 0] H13)→J12 [] H13)→
 ∃a34,f1=some a34∧ ∃e35,cell H10 (.add a34 3)=some (.int .i64 e35)∧br (e35 != 0)
 (R (.tuple #[]) H10)
 (br (((xorI .i64 n8 m11):Int) != 65535) (Try.C 60 #[.pointer f1,.int .i64 25] H10 fun r36 H37=>r36= .tuple #[]∧J12 [] H37) (∃a38,f1=some a38∧ ∃mo39,cell H10 (.add a38 2)=some (.int .i64 mo39)∧ ∃a40,f1=some a40∧ ∃ou41p ou41l ou41c,cell H10 (.add a40 1)=some (.slice ou41p ou41l ou41c)∧br (decide (n8>(wrap .i64 (mo39-(ou41l:Int))))) (Try.C 60 #[.pointer f1,.int .i64 24] H10 fun r42 H43=>r42= .tuple #[]∧J12 [] H43) (J12 [] H10)))
def Try.p56:Plan:=(tl (tl (two (join [] [0,2] (one (tl (tl (tl (tl (tl (tl leaf)))))))) (tl (one (loop [(4,3)] [0,2] (two (join [] [0,2,4] (tl (tl leaf))) (two (one leaf) leaf))))))))
theorem Try.s56{f1:OA}{H R}(h:Try.S56 f1 H R):Try.C 56 #[.pointer f1] H R:=vcs Try.tab_ok Try.mixed Try.func56 Try.cal56 Try.p56 h (by kernel_rfl)
def Try.S57(le1p:OA)(le1l le1c:Nat)(H:Heap)(R:Kv):Prop:=
 Try.C 69 #[.slice le1p le1l le1c] H fun r2 H3=> ∃r4p r4l r4c r5,r2= .tuple #[.slice r4p r4l r4c,.bool r5]∧br (!r5)
 (R (.tuple #[.pointer none,.bool false]) H3)
 (0≤(1:Int)∧(1:Int)≤(1:Int)∧((16:Nat):Int)*(1:Int)≤281474976710656∧(1:Int)≤281474976710656∧alc H3 (.cells (List.toArray (reps (toNat 1) (Array.toList #[.int .i64 0,.int .i64 0]))) 126) fun b6 H7=>alc H7 (.cells #[.slice (some ⟨b6,0,none⟩) (toNat 1) (toNat 1)] 125) fun b8 H9=> ∀X10:Kl,(∀(s11:Int) H12,(br (decide (s11<(le1l:Int))) (∃a13,le1p=some a13∧0≤s11∧s11<(le1l:Int)∧ ∃n14,cell H12 (.add a13 (toNat s11*1))=some (.int .i64 n14)∧ ∀X15:Kl,(∀(at_16 k17:Int) H18,(br (decide (k17≥0)) (∃a19,r4p=some a19∧0≤s11∧s11<(r4l:Int)∧ ∃v20,cell H18 (.add a19 (toNat s11*1))=some (.int .i64 v20)∧0≤k17∧br (k17==0) (∃a21,(some ⟨b8,0,none⟩)=some a21∧ ∃no22p no22l no22c,cell H18 (.add a21 0)=some (.slice no22p no22l no22c)∧ ∃a23,no22p=some a23∧0≤at_16∧at_16<(no22l:Int)∧0≤(andI .i64 (shrI .i64 v20 k17) 1)∧(andI .i64 (shrI .i64 v20 k17) 1)<((2:Nat):Int)∧stAt H18 (.add (.add a23 (toNat at_16*2)) (toNat (andI .i64 (shrI .i64 v20 k17) 1)*1)) [.int .i64 (wrap .i64 ((-1:Int)-s11))] fun H24=>X10 [.int .i64 (wrap .i64 (s11+1))] H24) (∀J25:Kl,(∀H26,(∃a27,(some ⟨b8,0,none⟩)=some a27∧ ∃no28p no28l no28c,cell H26 (.add a27 0)=some (.slice no28p no28l no28c)∧ ∃a29,no28p=some a29∧0≤at_16∧at_16<(no28l:Int)∧0≤(andI .i64 (shrI .i64 v20 k17) 1)∧(andI .i64 (shrI .i64 v20 k17) 1)<((2:Nat):Int)∧ ∃at_30,cell H26 (.add (.add a29 (toNat at_16*2)) (toNat (andI .i64 (shrI .i64 v20 k17) 1)*1))=some (.int .i64 at_30)∧X15 [.int .i64 at_30,.int .i64 (wrap .i64 (k17-1))] H26)→J25 [] H26)→ ∃a31,(some ⟨b8,0,none⟩)=some a31∧ ∃no32p no32l no32c,cell H18 (.add a31 0)=some (.slice no32p no32l no32c)∧ ∃a33,no32p=some a33∧0≤at_16∧at_16<(no32l:Int)∧0≤(andI .i64 (shrI .i64 v20 k17) 1)∧(andI .i64 (shrI .i64 v20 k17) 1)<((2:Nat):Int)∧ ∃v34,cell H18 (.add (.add a33 (toNat at_16*2)) (toNat (andI .i64 (shrI .i64 v20 k17) 1)*1))=some (.int .i64 v34)∧br (v34==0) (∃a35,(some ⟨b8,0,none⟩)=some a35∧ ∃no36p no36l no36c,cell H18 (.add a35 0)=some (.slice no36p no36l no36c)∧#[Value.int .i64 0,Value.int .i64 0].size=2∧0+2≤2∧alc H18 (.cells (List.toArray (setL [.int .i64 0,.int .i64 0] 0 (Array.toList #[.int .i64 0,.int .i64 0]))) 126) fun b37 H38=>appQ 2 16 #[.int .i64 0,.int .i64 0] H38 no36p no36l no36c (some ⟨b37,0,none⟩) 1 126 fun ap39p ap39l ap39c H40=> ∃a41,(some ⟨b8,0,none⟩)=some a41∧stAt H40 (.add a41 0) [.slice ap39p ap39l ap39c] fun H42=> ∃a43,(some ⟨b8,0,none⟩)=some a43∧ ∃no44p no44l no44c,cell H42 (.add a43 0)=some (.slice no44p no44l no44c)∧ ∃a45,(some ⟨b8,0,none⟩)=some a45∧ ∃no46p no46l no46c,cell H42 (.add a45 0)=some (.slice no46p no46l no46c)∧ ∃a47,no44p=some a47∧0≤at_16∧at_16<(no44l:Int)∧0≤(andI .i64 (shrI .i64 v20 k17) 1)∧(andI .i64 (shrI .i64 v20 k17) 1)<((2:Nat):Int)∧stAt H42 (.add (.add a47 (toNat at_16*2)) (toNat (andI .i64 (shrI .i64 v20 k17) 1)*1)) [.int .i64 (wrap .i64 ((no46l:Int)-1))] fun H48=>J25 [] H48) (J25 [] H18))) (X10 [.int .i64 (wrap .i64 (s11+1))] H18))→X15 [.int .i64 at_16,.int .i64 k17] H18)→X15 [.int .i64 0,.int .i64 (wrap .i64 (n14-1))] H12) (R (.tuple #[.pointer (some ⟨b8,0,none⟩),.bool true]) H12))→X10 [.int .i64 s11] H12)→X10 [.int .i64 0] H9)
def Try.p57:Plan:=(tl (tl (tg (tl (two (tl (one (loop [(24,3)] [4,6,22,23] (tl (two (tl leaf) (two (one (tl (tl (tl (one (loop [(9,3),(10,3)] [4,6,7,22,23,24] (two (tl (tl leaf)) (two (one (tl (tg (two (join [] [4,6,7,9,10,11,22,23,24] g0) leaf)))) leaf)))))))) leaf)))))) (tl leaf))))))
theorem Try.s57{le1p:OA}{le1l le1c:Nat}{H R}(h:Try.S57 le1p le1l le1c H R):Try.C 57 #[.slice le1p le1l le1c] H R:=vcs Try.tab_ok Try.mixed Try.func57 Try.cal57 Try.p57 h (by kernel_rfl)
def Try.S58(f1 li2 di3:OA)(H:Heap)(R:Kv):Prop:=
 ∀X4:Kl,(∀H5,(∃a6,f1=some a6∧ ∃e7,cell H5 (.add a6 3)=some (.int .i64 e7)∧br (e7 != 0) (R (.tuple #[]) H5) (Try.C 79 #[.pointer f1,.pointer li2] H5 fun r8 H9=> ∃s10,r8= .int .i64 s10∧ ∃a11,f1=some a11∧ ∃e12,cell H9 (.add a11 3)=some (.int .i64 e12)∧br (e12 != 0) (R (.tuple #[]) H9) (br (s10==256) (R (.tuple #[]) H9) (br (decide (s10>256)) (Try.C 80 #[.pointer f1,.int .i64 s10,.pointer di3] H9 fun r13 H14=>r13= .tuple #[]∧X4 [] H14) (∃a15,f1=some a15∧ ∃ou16p ou16l ou16c,cell H9 (.add a15 1)=some (.slice ou16p ou16l ou16c)∧ ∃a17,f1=some a17∧ ∃mo18,cell H9 (.add a17 2)=some (.int .i64 mo18)∧br (decide (((ou16l:Int):Int)≥mo18)) (Try.C 60 #[.pointer f1,.int .i64 24] H9 fun r19 H20=>r19= .tuple #[]∧X4 [] H20) (∃a21,f1=some a21∧ ∃ou22p ou22l ou22c,cell H9 (.add a21 1)=some (.slice ou22p ou22l ou22c)∧alc H9 (.cells #[.int .u8 (wrap .u8 s10)] 5) fun b23 H24=>appQ 1 1 #[.int .u8 0] H24 ou22p ou22l ou22c (some ⟨b23,0,none⟩) 1 5 fun ap25p ap25l ap25c H26=> ∃a27,f1=some a27∧stAt H26 (.add a27 1) [.slice ap25p ap25l ap25c] fun H28=>X4 [] H28))))))→X4 [] H5)→X4 [] H
def Try.p58:Plan:=(scope [] [0,1,2] leaf (two (tl (tl leaf)) (tl (two (one (tl (tl (tl (tl (tl (tl leaf))))))) leaf))))
theorem Try.s58{f1 li2 di3:OA}{H R}(h:Try.S58 f1 li2 di3 H R):Try.C 58 #[.pointer f1,.pointer li2,.pointer di3] H R:=vcs Try.tab_ok Try.mixed Try.func58 Try.cal58 Try.p58 h (by kernel_rfl)
def Try.S59(f1:OA)(H:Heap)(R:Kv):Prop:=
 Try.C 55 #[.pointer f1,.int .i64 5] H fun r2 H3=> ∃hl4,r2= .int .i64 hl4∧Try.C 55 #[.pointer f1,.int .i64 5] H3 fun r5 H6=> ∃hd7,r5= .int .i64 hd7∧Try.C 55 #[.pointer f1,.int .i64 4] H6 fun r8 H9=> ∃hc10,r8= .int .i64 hc10∧ ∀J11:Kl,(∀H12,(0≤(19:Int)∧(19:Int)≤(19:Int)∧((8:Nat):Int)*(19:Int)≤281474976710656∧(19:Int)≤281474976710656∧alc H12 (.cells (List.toArray (reps (toNat 19) (Array.toList #[.int .i64 0]))) 3) fun b13 H14=>Try.C 75 #[] H14 fun r15 H16=> ∃r17p r17l r17c,r15= .slice r17p r17l r17c∧0≤(wrap .i64 (hc10+4))∧(wrap .i64 (hc10+4))≤(r17c:Int)∧ ∀X18:Kl,(∀(t19:Int) H20,(br (decide (t19<((((toNat (wrap .i64 (hc10+4)))-0):Nat):Int))) (∃a21,(if r17c=0 then r17p else Option.map (fun x=>Addr.add x (0*1)) r17p)=some a21∧0≤t19∧t19<((((toNat (wrap .i64 (hc10+4)))-0):Nat):Int)∧ ∃s22,cell H20 (.add a21 (toNat t19*1))=some (.int .i64 s22)∧Try.C 55 #[.pointer f1,.int .i64 3] H20 fun r23 H24=> ∃r25,r23= .int .i64 r25∧ ∃a26,(some ⟨b13,0,none⟩)=some a26∧0≤s22∧s22<(((toNat 19):Nat):Int)∧stAt H24 (.add a26 (toNat s22*1)) [.int .i64 r25] fun H27=>X18 [.int .i64 (wrap .i64 (t19+1))] H27) (∃a28,f1=some a28∧ ∃e29,cell H20 (.add a28 3)=some (.int .i64 e29)∧br (e29 != 0) (R (.tuple #[.pointer none,.pointer none]) H20) (Try.C 81 #[.pointer f1,.slice (some ⟨b13,0,none⟩) (toNat 19) (toNat 19),.bool false,.bool false] H20 fun r30 H31=> ∃d32,r30= .pointer d32∧ ∀J33:Kl,(∀(li34p:OA) (li34l li34c:Nat) H35,(∃a36,f1=some a36∧ ∃e37,cell H35 (.add a36 3)=some (.int .i64 e37)∧br (e37 != 0) (R (.tuple #[.pointer none,.pointer none]) H35) (0≤(wrap .i64 (hl4+257))∧(wrap .i64 (hl4+257))≤(li34c:Int)∧0≤(wrap .i64 (hl4+257))∧(wrap .i64 (hl4+257))≤(li34l:Int)∧Try.C 81 #[.pointer f1,.slice (if li34c=0 then li34p else Option.map (fun x=>Addr.add x (0*1)) li34p) ((toNat (wrap .i64 (hl4+257)))-0) (li34c-0),.bool true,.bool false] H35 fun r38 H39=> ∃li40,r38= .pointer li40∧Try.C 81 #[.pointer f1,.slice (if li34c=(toNat (wrap .i64 (hl4+257))) then li34p else Option.map (fun x=>Addr.add x ((toNat (wrap .i64 (hl4+257)))*1)) li34p) (li34l-(toNat (wrap .i64 (hl4+257)))) (li34c-(toNat (wrap .i64 (hl4+257)))),.bool true,.bool true] H39 fun r41 H42=> ∃di43,r41= .pointer di43∧R (.tuple #[.pointer li40,.pointer di43]) H42))→J33 [.slice li34p li34l li34c] H35)→ ∀X44:Kl,(∀(li45p:OA) (li45l li45c:Nat) H46,(∀J47:Kl,(∀H48,(Try.C 79 #[.pointer f1,.pointer d32] H48 fun r49 H50=> ∃s51,r49= .int .i64 s51∧ ∀J52:Kl,(∀(v53 n54:Int) H55,(∀J56:Kl,(∀H57,(∀X58:Kl,(∀(li59p:OA) (li59l li59c:Nat) (t60:Int) H61,(br (decide (t60<n54)) (alc H61 (.cells #[.int .i64 v53] 3) fun b62 H63=>appQ 1 8 #[.int .i64 0] H63 li59p li59l li59c (some ⟨b62,0,none⟩) 1 3 fun li64p li64l li64c H65=>X58 [.slice li64p li64l li64c,.int .i64 (wrap .i64 (t60+1))] H65) (X44 [.slice li59p li59l li59c] H61))→X58 [.slice li59p li59l li59c,.int .i64 t60] H61)→X58 [.slice li45p li45l li45c,.int .i64 0] H57)→J56 [] H57)→br (decide (n54>(wrap .i64 ((wrap .i64 ((wrap .i64 ((wrap .i64 (hl4+257))+hd7))+1))-(li45l:Int))))) (Try.C 60 #[.pointer f1,.int .i64 21] H55 fun r66 H67=>r66= .tuple #[]∧J56 [] H67) (J56 [] H55))→J52 [.int .i64 v53,.int .i64 n54] H55)→br (s51==16) (Try.C 55 #[.pointer f1,.int .i64 2] H50 fun r68 H69=> ∃r70,r68= .int .i64 r70∧br (((li45l:Int):Int)==0) (Try.C 60 #[.pointer f1,.int .i64 21] H69 fun r71 H72=>r71= .tuple #[]∧R (.tuple #[.pointer none,.pointer none]) H72) (∃a73,li45p=some a73∧0≤(wrap .i64 ((li45l:Int)-1))∧(wrap .i64 ((li45l:Int)-1))<(li45l:Int)∧ ∃v74,cell H69 (.add a73 (toNat (wrap .i64 ((li45l:Int)-1))*1))=some (.int .i64 v74)∧J52 [.int .i64 v74,.int .i64 (wrap .i64 ((3:Int)+r70))] H69)) (br (s51==17) (Try.C 55 #[.pointer f1,.int .i64 3] H50 fun r75 H76=> ∃r77,r75= .int .i64 r77∧J52 [.int .i64 0,.int .i64 (wrap .i64 ((3:Int)+r77))] H76) (br (s51==18) (Try.C 55 #[.pointer f1,.int .i64 7] H50 fun r78 H79=> ∃r80,r78= .int .i64 r80∧J52 [.int .i64 0,.int .i64 (wrap .i64 ((11:Int)+r80))] H79) (J52 [.int .i64 s51,.int .i64 1] H50))))→J47 [] H48)→br (decide (((li45l:Int):Int)<(wrap .i64 ((wrap .i64 ((wrap .i64 (hl4+257))+hd7))+1)))) (∃a81,f1=some a81∧ ∃e82,cell H46 (.add a81 3)=some (.int .i64 e82)∧br (e82==0) (J47 [] H46) (J33 [.slice li45p li45l li45c] H46)) (J33 [.slice li45p li45l li45c] H46))→X44 [.slice li45p li45l li45c] H46)→X44 [.slice none 0 0] H31)))→X18 [.int .i64 t19] H20)→X18 [.int .i64 0] H16)→J11 [] H12)→
 ∃a83,f1=some a83∧ ∃e84,cell H9 (.add a83 3)=some (.int .i64 e84)∧br (e84==0) (br (decide (hl4>29)) (Try.C 60 #[.pointer f1,.int .i64 25] H9 fun r85 H86=>r85= .tuple #[]∧J11 [] H86) (br (decide (hd7>29)) (Try.C 60 #[.pointer f1,.int .i64 25] H9 fun r87 H88=>r87= .tuple #[]∧J11 [] H88) (J11 [] H9))) (J11 [] H9)
def Try.p59:Plan:=(tl (tl (two (join [] [0,4,5,6] (tl (tl leaf))) (tl (two (tl (one (loop [(43,3)] [0,4,5,7,41,42] (tl (two (tl leaf) (two (one (tl leaf)) leaf)))))) (tg (tl (tl (two (join [(11,74)] [0,4] (tl (one (loop [(11,74)] [0,4,10,12] (two (join [] [0,4,10,11,12] (tl (tl leaf))) (one (tl (tl (two (join [(14,3),(15,3)] [0,4,10,11,12] (tl (one (tl (two (tl (two (tl (two (tl (tl leaf)) leaf)) leaf)) (tl (tl (tl (tl leaf))))))))) (two (join [] [0,4,10,11,12,14,15] (tl (tl leaf))) (tl (one (loop [(11,74),(117,3)] [0,4,10,12,14,116] (tl (two (tl leaf) (two (one leaf) leaf)))))))))))))))) (tg (tl leaf)))))))))))
theorem Try.s59{f1:OA}{H R}(h:Try.S59 f1 H R):Try.C 59 #[.pointer f1] H R:=vcs Try.tab_ok Try.mixed Try.func59 Try.cal59 Try.p59 h (by kernel_rfl)
def Try.S60(f1:OA)(e2:Int)(H:Heap)(R:Kv):Prop:=
 ∃a3,f1=some a3∧ ∃e4,cell H (.add a3 3)=some (.int .i64 e4)∧br (e4==0)
 (∃a5,f1=some a5∧stAt H (.add a5 3) [.int .i64 e2] fun H6=>R (.tuple #[]) H6)
 (R (.tuple #[]) H)
def Try.p60:Plan:=(tl (tl leaf))
theorem Try.s60{f1:OA}{e2:Int}{H R}(h:Try.S60 f1 e2 H R):Try.C 60 #[.pointer f1,.int .i64 e2] H R:=vcs Try.tab_ok Try.mixed Try.func60 Try.cal60 Try.p60 h (by kernel_rfl)
def Try.S61(r1:OA)(H:Heap)(R:Kv):Prop:=
 ∃a2,r1=some a2∧ ∃at_3,cell H (.add a2 1)=some (.int .i64 at_3)∧R (.int .i64 at_3) H
def Try.p61:Plan:=(tl (tl leaf))
theorem Try.s61{r1:OA}{H R}(h:Try.S61 r1 H R):Try.C 61 #[.pointer r1] H R:=vcs Try.tab_ok Try.mixed Try.func61 Try.cal61 Try.p61 h (by kernel_rfl)
def Try.S62(f1:OA)(at_2 ef3:Int)(H:Heap)(R:Kv):Prop:=
 ∃a4,f1=some a4∧ ∃b5p b5l b5c,cell H (.add a4 0)=some (.slice b5p b5l b5c)∧br (decide (((wrap .i64 (at_2+3)):Int)>(b5l:Int)))
 (R (.tuple #[.int .i64 0,.int .i64 0]) H)
 (∀J6:Kl,(∀(le7 di8:Int) H9,(R (.tuple #[.int .i64 le7,.int .i64 di8]) H9)→J6 [.int .i64 le7,.int .i64 di8] H9)→ ∃a10,f1=some a10∧ ∃fi11p fi11l fi11c,cell H (.add a10 1)=some (.slice fi11p fi11l fi11c)∧ ∃a12,f1=some a12∧ ∃b13p b13l b13c,cell H (.add a12 0)=some (.slice b13p b13l b13c)∧0≤at_2∧at_2≤(b13l:Int)∧Try.C 82 #[.slice (if b13c=(toNat at_2) then b13p else Option.map (fun x=>Addr.add x ((toNat at_2)*1)) b13p) (b13l-(toNat at_2)) (b13c-(toNat at_2))] H fun r14 H15=> ∃r16,r14= .int .i64 r16∧(Ext H H15∨(∃fi56p fi56l fi56c,cell H15 (.add a10 1)=some (.slice fi56p fi56l fi56c)∧Value.slice fi56p fi56l fi56c= .slice fi11p fi11l fi11c))∧ ∃a17,fi11p=some a17∧0≤r16∧r16<(fi11l:Int)∧ ∃p18,cell H15 (.add a17 (toNat r16*1))=some (.int .i64 p18)∧ ∀X19:Kl,(∀(le20 di21 tr22 p23:Int) H24,(∀J25:Kl,(∀H26,(∀J27:Kl,(∀(le28 di29 tr30:Int) H31,(∃a32,f1=some a32∧ ∃ah33p ah33l ah33c,cell H31 (.add a32 2)=some (.slice ah33p ah33l ah33c)∧ ∃a34,ah33p=some a34∧0≤(wrap .i64 (p23-1))∧(wrap .i64 (p23-1))<(ah33l:Int)∧ ∃p35,cell H31 (.add a34 (toNat (wrap .i64 (p23-1))*1))=some (.int .i64 p35)∧X19 [.int .i64 le28,.int .i64 di29,.int .i64 tr30,.int .i64 p35] H31)→J27 [.int .i64 le28,.int .i64 di29,.int .i64 tr30] H31)→ ∀J36:Kl,(∀(n37:Int) H38,(∀J39:Kl,(∀(le40 di41:Int) H42,(br (le40==258) (J6 [.int .i64 le40,.int .i64 di41] H42) (br (decide (le40>0)) (br (decide (((wrap .i64 (tr22+1)):Int)≥(wrap .i64 ((8:Int)*ef3)))) (J6 [.int .i64 le40,.int .i64 di41] H42) (J27 [.int .i64 le40,.int .i64 di41,.int .i64 (wrap .i64 (tr22+1))] H42)) (J27 [.int .i64 le40,.int .i64 di41,.int .i64 (wrap .i64 (tr22+1))] H42)))→J39 [.int .i64 le40,.int .i64 di41] H42)→br (decide (n37≥3)) (br (decide (n37>le20)) (J39 [.int .i64 n37,.int .i64 (wrap .i64 (at_2-(wrap .i64 (p23-1))))] H38) (J39 [.int .i64 le20,.int .i64 di21] H38)) (J39 [.int .i64 le20,.int .i64 di21] H38))→J36 [.int .i64 n37] H38)→ ∀X43:Kl,(∀(n44:Int) H45,(br (decide (n44<258)) (∃a46,f1=some a46∧ ∃b47p b47l b47c,cell H45 (.add a46 0)=some (.slice b47p b47l b47c)∧br (decide (((wrap .i64 (at_2+n44)):Int)<(b47l:Int))) (∃a48,f1=some a48∧ ∃b49p b49l b49c,cell H45 (.add a48 0)=some (.slice b49p b49l b49c)∧ ∃a50,b49p=some a50∧0≤(wrap .i64 ((wrap .i64 (p23-1))+n44))∧(wrap .i64 ((wrap .i64 (p23-1))+n44))<(b49l:Int)∧ ∃v51,cell H45 (.add a50 (toNat (wrap .i64 ((wrap .i64 (p23-1))+n44))*1))=some (.int .u8 v51)∧ ∃a52,f1=some a52∧ ∃b53p b53l b53c,cell H45 (.add a52 0)=some (.slice b53p b53l b53c)∧ ∃a54,b53p=some a54∧0≤(wrap .i64 (at_2+n44))∧(wrap .i64 (at_2+n44))<(b53l:Int)∧ ∃v55,cell H45 (.add a54 (toNat (wrap .i64 (at_2+n44))*1))=some (.int .u8 v55)∧br (v51==v55) (X43 [.int .i64 (wrap .i64 (n44+1))] H45) (J36 [.int .i64 n44] H45)) (J36 [.int .i64 n44] H45)) (J36 [.int .i64 n44] H45))→X43 [.int .i64 n44] H45)→X43 [.int .i64 0] H26)→J25 [] H26)→br (decide (p23>0)) (br (decide (((wrap .i64 (at_2-(wrap .i64 (p23-1)))):Int)≤32768)) (J25 [] H24) (J6 [.int .i64 le20,.int .i64 di21] H24)) (J6 [.int .i64 le20,.int .i64 di21] H24))→X19 [.int .i64 le20,.int .i64 di21,.int .i64 tr22,.int .i64 p23] H24)→X19 [.int .i64 0,.int .i64 0,.int .i64 0,.int .i64 p18] H15)
def Try.p62:Plan:=(tl (tg (tl (two (join [(6,3),(7,3)] [] (tl (one (loop [(6,3),(7,3),(8,3),(9,3)] [0,1,2] (two (join [] [0,1,2,6,7,8,9] (tl (tl leaf))) (two (join [(6,3),(7,3),(8,3)] [0,1,2,9] (one (tl (two (join [(10,3)] [0,1,2,6,7,8,9] (one (loop [(10,3)] [0,1,2,6,7,8,9] (two (tl (tl leaf)) (one leaf))))) (two (join [(6,3),(7,3)] [0,1,2,8,9] (tl (tl leaf))) (tl (tl (tl leaf)))))))) leaf)))))) (tl leaf)))))
theorem Try.s62{f1:OA}{at_2 ef3:Int}{H R}(h:Try.S62 f1 at_2 ef3 H R):Try.C 62 #[.pointer f1,.int .i64 at_2,.int .i64 ef3] H R:=vcs Try.tab_ok Try.mixed Try.func62 Try.cal62 Try.p62 h (by kernel_rfl)
def Try.S63(f1:OA)(at_2:Int)(H:Heap)(R:Kv):Prop:=
 ∃a3,f1=some a3∧ ∃b4p b4l b4c,cell H (.add a3 0)=some (.slice b4p b4l b4c)∧br (decide (((wrap .i64 (at_2+3)):Int)≤(b4l:Int)))
 (∃a5,f1=some a5∧ ∃b6p b6l b6c,cell H (.add a5 0)=some (.slice b6p b6l b6c)∧0≤at_2∧at_2≤(b6l:Int)∧Try.C 82 #[.slice (if b6c=(toNat at_2) then b6p else Option.map (fun x=>Addr.add x ((toNat at_2)*1)) b6p) (b6l-(toNat at_2)) (b6c-(toNat at_2))] H fun r7 H8=> ∃h9,r7= .int .i64 h9∧ ∃a10,f1=some a10∧ ∃ah11p ah11l ah11c,cell H8 (.add a10 2)=some (.slice ah11p ah11l ah11c)∧ ∃a12,f1=some a12∧ ∃fi13p fi13l fi13c,cell H8 (.add a12 1)=some (.slice fi13p fi13l fi13c)∧ ∃a14,f1=some a14∧ ∃fi15p fi15l fi15c,cell H8 (.add a14 1)=some (.slice fi15p fi15l fi15c)∧ ∃a16,fi15p=some a16∧0≤h9∧h9<(fi15l:Int)∧ ∃v17,cell H8 (.add a16 (toNat h9*1))=some (.int .i64 v17)∧ ∃a18,ah11p=some a18∧0≤at_2∧at_2<(ah11l:Int)∧stAt H8 (.add a18 (toNat at_2*1)) [.int .i64 v17] fun H19=> ∃a20,fi13p=some a20∧0≤h9∧h9<(fi13l:Int)∧stAt H19 (.add a20 (toNat h9*1)) [.int .i64 (wrap .i64 (at_2+1))] fun H21=>R (.tuple #[]) H21)
 (R (.tuple #[]) H)
def Try.p63:Plan:=g0
theorem Try.s63{f1:OA}{at_2:Int}{H R}(h:Try.S63 f1 at_2 H R):Try.C 63 #[.pointer f1,.int .i64 at_2] H R:=vcs Try.tab_ok Try.mixed Try.func63 Try.cal63 Try.p63 h (by kernel_rfl)
def Try.S64(w1:OA)(v2:Int)(H:Heap)(R:Kv):Prop:=
 ∀J3:Kl,(∀H4,(∃a5,w1=some a5∧ ∃b6p b6l b6c,cell H4 (.add a5 0)=some (.slice b6p b6l b6c)∧ ∃a7,w1=some a7∧ ∃n8,cell H4 (.add a7 1)=some (.int .i64 n8)∧(8:Int)≠0∧ ∃a9,b6p=some a9∧0≤(wrap .i64 (Int.tdiv n8 8))∧(wrap .i64 (Int.tdiv n8 8))<(b6l:Int)∧ ∃v10,cell H4 (.add a9 (toNat (wrap .i64 (Int.tdiv n8 8))*1))=some (.int .u8 v10)∧ ∃a11,w1=some a11∧ ∃n12,cell H4 (.add a11 1)=some (.int .i64 n12)∧ ∃a13,w1=some a13∧ ∃hi14,cell H4 (.add a13 2)=some (.bool hi14)∧Try.C 83 #[.int .i64 n12,.bool hi14] H4 fun r15 H16=> ∃r17,r15= .int .i64 r17∧(Ext H4 H16∨(∃v24,cell H16 (.add a9 (toNat (wrap .i64 (Int.tdiv n8 8))*1))=some (.int .u8 v24)∧Value.int .u8 v24= .int .u8 v10)∧(∃n25,cell H16 (.add a7 1)=some (.int .i64 n25)∧Value.int .i64 n25= .int .i64 n8)∧(∃b26p b26l b26c,cell H16 (.add a5 0)=some (.slice b26p b26l b26c)∧Value.slice b26p b26l b26c= .slice b6p b6l b6c))∧0≤r17∧ ∃a18,b6p=some a18∧0≤(wrap .i64 (Int.tdiv n8 8))∧(wrap .i64 (Int.tdiv n8 8))<(b6l:Int)∧stAt H16 (.add a18 (toNat (wrap .i64 (Int.tdiv n8 8))*1)) [.int .u8 (orI .u8 v10 (shlI .u8 (wrap .u8 (andI .i64 v2 1)) r17))] fun H19=> ∃a20,w1=some a20∧ ∃n21,cell H19 (.add a20 1)=some (.int .i64 n21)∧ ∃a22,w1=some a22∧stAt H19 (.add a22 1) [.int .i64 (wrap .i64 (n21+1))] fun H23=>R (.tuple #[]) H23)→J3 [] H4)→
 ∃a27,w1=some a27∧ ∃n28,cell H (.add a27 1)=some (.int .i64 n28)∧(8:Int)≠0∧br (((Int.tmod n28 8):Int)==0)
 (∃a29,w1=some a29∧ ∃b30p b30l b30c,cell H (.add a29 0)=some (.slice b30p b30l b30c)∧alc H (.cells #[.int .u8 0] 5) fun b31 H32=>appQ 1 1 #[.int .u8 0] H32 b30p b30l b30c (some ⟨b31,0,none⟩) 1 5 fun ap33p ap33l ap33c H34=> ∃a35,w1=some a35∧stAt H34 (.add a35 0) [.slice ap33p ap33l ap33c] fun H36=>J3 [] H36)
 (J3 [] H)
def Try.p64:Plan:=(two (join [] [0,1] (tl (tl leaf))) (tl leaf))
theorem Try.s64{w1:OA}{v2:Int}{H R}(h:Try.S64 w1 v2 H R):Try.C 64 #[.pointer w1,.int .i64 v2] H R:=vcs Try.tab_ok Try.mixed Try.func64 Try.cal64 Try.p64 h (by kernel_rfl)
def Try.S65(d1:AV)(co2 n3:Int)(H:Heap)(R:Kv):Prop:=
 alc H (.cells d1 72) fun b4 H5=> ∀X6:Kl,(∀(k7:Int) H8,(br (decide (k7≥0)) (∃Wr9,cell H8 (.add ⟨b4,0,none⟩ 0)=some (.pointer Wr9)∧0≤k7∧Try.C 46 #[.pointer Wr9,.int .i64 (andI .i64 (shrI .i64 co2 k7) 1),.int .i64 1] H8 fun r10 H11=> ∃r12,r10= .bool r12∧X6 [.int .i64 (wrap .i64 (k7-1))] H11) (R (.tuple #[]) H8))→X6 [.int .i64 k7] H8)→X6 [.int .i64 (wrap .i64 (n3-1))] H5
def Try.p65:Plan:=(tl (tl (one (loop [(6,3)] [1,3] (two (tl (tl leaf)) (two (one leaf) leaf))))))
theorem Try.s65{d1:AV}{co2 n3:Int}{H R}(h:Try.S65 d1 co2 n3 H R):Try.C 65 #[.agg d1,.int .i64 co2,.int .i64 n3] H R:=vcs Try.tab_ok Try.mixed Try.func65 Try.cal65 Try.p65 h (by kernel_rfl)
def Try.S66(n1:Int)(H:Heap)(R:Kv):Prop:=
 br (n1==258)
 (R (.tuple #[.int .i64 285,.int .i64 0,.int .i64 0]) H)
 (Try.C 67 #[.int .i64 n1,.int .i64 257,.int .i64 284,.func (.func 84) #[] #[]] H fun r2 H3=> ∃r4 r5 r6,r2= .tuple #[.int .i64 r4,.int .i64 r5,.int .i64 r6]∧R (.tuple #[.int .i64 r4,.int .i64 r5,.int .i64 r6]) H3)
def Try.p66:Plan:=(tl (tg (tl leaf)))
theorem Try.s66{n1:Int}{H R}(h:Try.S66 n1 H R):Try.C 66 #[.int .i64 n1] H R:=vcs Try.tab_ok Try.mixed Try.func66 Try.cal66 Try.p66 h (by kernel_rfl)
def Try.S67(v1 from_2 to3:Int)(ba4g:Nat)(ba4x ba4y:AV)(H:Heap)(R:Kv):Prop:=
 ∀X5:Kl,(∀(s6:Int) H7,(Try.C ba4g (List.toArray (Array.toList ba4x++[Value.int .i64 s6]++Array.toList ba4y)) H7 fun r8 H9=> ∃r10 r11,r8= .tuple #[.int .i64 r10,.int .i64 r11]∧br (decide (r10≤v1)) (br (decide (s6≥from_2)) (R (.tuple #[.int .i64 s6,.int .i64 (wrap .i64 (v1-r10)),.int .i64 r11]) H9) (X5 [.int .i64 (wrap .i64 (s6-1))] H9)) (X5 [.int .i64 (wrap .i64 (s6-1))] H9))→X5 [.int .i64 s6] H7)→X5 [.int .i64 to3] H
def Try.p67:Plan:=(tl (tl (one (loop [(11,3)] [0,1,3] (one (tl (tg leaf)))))))
theorem Try.s67{v1 from_2 to3:Int}{ba4g:Nat}{ba4x ba4y:AV}{H R}(h:Try.S67 v1 from_2 to3 ba4g ba4x ba4y H R):Try.C 67 #[.int .i64 v1,.int .i64 from_2,.int .i64 to3,.func (.func ba4g) ba4x ba4y] H R:=vcs Try.tab_ok Try.mixed Try.func67 Try.cal67 Try.p67 h (by kernel_rfl)
def Try.S68(s1:Int)(H:Heap)(R:Kv):Prop:=
 br (decide (s1<4))
 (R (.tuple #[.int .i64 (wrap .i64 ((1:Int)+s1)),.int .i64 0]) H)
 ((2:Int)≠0∧(2:Int)≠0∧0≤(wrap .i64 ((wrap .i64 (Int.tdiv s1 2))-1))∧R (.tuple #[.int .i64 (wrap .i64 ((1:Int)+(shlI .i64 (wrap .i64 ((2:Int)+(Int.tmod s1 2))) (wrap .i64 ((wrap .i64 (Int.tdiv s1 2))-1))))),.int .i64 (wrap .i64 ((wrap .i64 (Int.tdiv s1 2))-1))]) H)
def Try.p68:Plan:=(tl (tg (tl (tl leaf))))
theorem Try.s68{s1:Int}{H R}(h:Try.S68 s1 H R):Try.C 68 #[.int .i64 s1] H R:=vcs Try.tab_ok Try.mixed Try.func68 Try.cal68 Try.p68 h (by kernel_rfl)
def Try.S69(le1p:OA)(le1l le1c:Nat)(H:Heap)(R:Kv):Prop:=
 Try.C 85 #[.slice le1p le1l le1c] H fun r2 H3=> ∃r4 r5,r2= .tuple #[.int .i64 r4,.bool r5]∧ ∀J6:Kl,(∀H7,(0≤(le1l:Int)∧(le1l:Int)≤(le1l:Int)∧((8:Nat):Int)*(le1l:Int)≤281474976710656∧(le1l:Int)≤281474976710656∧alc H7 (.cells (List.toArray (reps (toNat (le1l:Int)) (Array.toList #[.int .i64 0]))) 3) fun b8 H9=> ∀X10:Kl,(∀(ne11 n12:Int) H13,(br (decide (n12≤16)) (0≤(1:Int)∧ ∀X14:Kl,(∀(ne15 s16:Int) H17,(br (decide (s16<(le1l:Int))) (∃a18,le1p=some a18∧0≤s16∧s16<(le1l:Int)∧ ∃l19,cell H17 (.add a18 (toNat s16*1))=some (.int .i64 l19)∧br (l19==n12) (∃a20,(some ⟨b8,0,none⟩)=some a20∧0≤s16∧s16<(((toNat (le1l:Int)):Nat):Int)∧stAt H17 (.add a20 (toNat s16*1)) [.int .i64 ne15] fun H21=>X14 [.int .i64 (wrap .i64 (ne15+1)),.int .i64 (wrap .i64 (s16+1))] H21) (X14 [.int .i64 ne15,.int .i64 (wrap .i64 (s16+1))] H17)) (X10 [.int .i64 ne15,.int .i64 (wrap .i64 (n12+1))] H17))→X14 [.int .i64 ne15,.int .i64 s16] H17)→X14 [.int .i64 (shlI .i64 ne11 1),.int .i64 0] H13) (R (.tuple #[.slice (some ⟨b8,0,none⟩) (toNat (le1l:Int)) (toNat (le1l:Int)),.bool true]) H13))→X10 [.int .i64 ne11,.int .i64 n12] H13)→X10 [.int .i64 0,.int .i64 1] H9)→J6 [] H7)→
 br (!r5) (R (.tuple #[.slice none 0 0,.bool false]) H3) (br (decide (r4>65536)) (R (.tuple #[.slice none 0 0,.bool false]) H3) (J6 [] H3))
def Try.p69:Plan:=(tl (tl (two (join [] [0] g0) (tl (tl (two (tl (one (loop [(7,3),(8,3)] [0,6] (two (tl (tl leaf)) (two (one (tl (tl (one (loop [(7,3),(33,3)] [0,6,8,31,32] (tl (two (tl leaf) (two (one (tl g0)) leaf)))))))) leaf))))) (tl leaf)))))))
theorem Try.s69{le1p:OA}{le1l le1c:Nat}{H R}(h:Try.S69 le1p le1l le1c H R):Try.C 69 #[.slice le1p le1l le1c] H R:=vcs Try.tab_ok Try.mixed Try.func69 Try.cal69 Try.p69 h (by kernel_rfl)
def Try.S70(li1p:OA)(li1l li1c:Nat)(H:Heap)(R:Kv):Prop:=
 ∀J2:Kl,(∀(li3p:OA) (li3l li3c:Nat) (di4p:OA) (di4l di4c:Nat) H5,(∃a6,li3p=some a6∧0≤(256:Int)∧(256:Int)<(li3l:Int)∧stAt H5 (.add a6 (toNat (256:Int)*1)) [.int .i64 1] fun H7=> ∀X8:Kl,(∀(t9:Int) H10,(br (decide (t9<(li1l:Int))) (∃a11,li1p=some a11∧0≤t9∧t9<(li1l:Int)∧ ∃v12,v12.size=3∧rowIn H10 (.add a11 (toNat t9*3)) v12∧alc H10 (.cells #[.int .i64 0,.int .i64 0,.int .u8 0] 97) fun b13 H14=>v12.size=3∧stAt H14 ⟨b13,0,none⟩ v12.toList fun H15=> ∃Le16,cell H15 (.add ⟨b13,0,none⟩ 0)=some (.int .i64 Le16)∧br (Le16==0) (∃Li17,cell H15 (.add ⟨b13,0,none⟩ 2)=some (.int .u8 Li17)∧ ∃a18,li3p=some a18∧0≤Li17∧Li17<(li3l:Int)∧ ∃v19,cell H15 (.add a18 (toNat Li17*1))=some (.int .i64 v19)∧ ∃a20,li3p=some a20∧0≤Li17∧Li17<(li3l:Int)∧stAt H15 (.add a20 (toNat Li17*1)) [.int .i64 (wrap .i64 (v19+1))] fun H21=>X8 [.int .i64 (wrap .i64 (t9+1))] H21) (∃Le22,cell H15 (.add ⟨b13,0,none⟩ 0)=some (.int .i64 Le22)∧Try.C 66 #[.int .i64 Le22] H15 fun r23 H24=> ∃r25 r26 r27,r23= .tuple #[.int .i64 r25,.int .i64 r26,.int .i64 r27]∧ ∃a28,li3p=some a28∧0≤r25∧r25<(li3l:Int)∧ ∃v29,cell H24 (.add a28 (toNat r25*1))=some (.int .i64 v29)∧ ∃a30,li3p=some a30∧0≤r25∧r25<(li3l:Int)∧stAt H24 (.add a30 (toNat r25*1)) [.int .i64 (wrap .i64 (v29+1))] fun H31=> ∃Di32,cell H31 (.add ⟨b13,0,none⟩ 1)=some (.int .i64 Di32)∧Try.C 67 #[.int .i64 Di32,.int .i64 0,.int .i64 29,.func (.func 68) #[] #[]] H31 fun r33 H34=> ∃r35 r36 r37,r33= .tuple #[.int .i64 r35,.int .i64 r36,.int .i64 r37]∧ ∃a38,di4p=some a38∧0≤r35∧r35<(di4l:Int)∧ ∃v39,cell H34 (.add a38 (toNat r35*1))=some (.int .i64 v39)∧ ∃a40,di4p=some a40∧0≤r35∧r35<(di4l:Int)∧stAt H34 (.add a40 (toNat r35*1)) [.int .i64 (wrap .i64 (v39+1))] fun H41=>X8 [.int .i64 (wrap .i64 (t9+1))] H41)) (R (.tuple #[.slice li3p li3l li3c,.slice di4p di4l di4c]) H10))→X8 [.int .i64 t9] H10)→X8 [.int .i64 0] H7)→J2 [.slice li3p li3l li3c,.slice di4p di4l di4c] H5)→
 (0≤(286:Int)∧(286:Int)≤(286:Int)∧((8:Nat):Int)*(286:Int)≤281474976710656∧(286:Int)≤281474976710656∧alc H (.cells (List.toArray (reps (toNat 286) (Array.toList #[.int .i64 0]))) 3) fun b42 H43=>0≤(30:Int)∧(30:Int)≤(30:Int)∧((8:Nat):Int)*(30:Int)≤281474976710656∧(30:Int)≤281474976710656∧alc H43 (.cells (List.toArray (reps (toNat 30) (Array.toList #[.int .i64 0]))) 3) fun b44 H45=>J2 [.slice (some ⟨b42,0,none⟩) (toNat 286) (toNat 286),.slice (some ⟨b44,0,none⟩) (toNat 30) (toNat 30)] H45)∧(0≤(30:Int)∧(30:Int)≤(30:Int)∧((8:Nat):Int)*(30:Int)≤281474976710656∧(30:Int)≤281474976710656∧alc H (.cells (List.toArray (reps (toNat 30) (Array.toList #[.int .i64 0]))) 3) fun b46 H47=>0≤(286:Int)∧(286:Int)≤(286:Int)∧((8:Nat):Int)*(286:Int)≤281474976710656∧(286:Int)≤281474976710656∧alc H47 (.cells (List.toArray (reps (toNat 286) (Array.toList #[.int .i64 0]))) 3) fun b48 H49=>J2 [.slice (some ⟨b48,0,none⟩) (toNat 286) (toNat 286),.slice (some ⟨b46,0,none⟩) (toNat 30) (toNat 30)] H49)
def Try.p70:Plan:=(tl (two (join [(2,74),(3,74)] [0] leaf) (tl (two (tl (one (loop [(15,3)] [2,3,13,14] (tl (two (tl leaf) (two (one (tl (tg (tl (tl (tl leaf)))))) leaf)))))) (tl leaf)))))
theorem Try.s70{li1p:OA}{li1l li1c:Nat}{H R}(h:Try.S70 li1p li1l li1c H R):Try.C 70 #[.slice li1p li1l li1c] H R:=vcs Try.tab_ok Try.mixed Try.func70 Try.cal70 Try.p70 h (by kernel_rfl)
def Try.S71(co1p:OA)(co1l co1c:Nat)(H:Heap)(R:Kv):Prop:=
 Try.C 86 #[.slice co1p co1l co1c] H fun r2 H3=> ∃co4p co4l co4c,r2= .slice co4p co4l co4c∧ ∀X5:Kl,(∀(n6 t7:Int) H8,(br (decide (t7<(co4l:Int))) (∃a9,co4p=some a9∧0≤t7∧t7<(co4l:Int)∧ ∃c10,cell H8 (.add a9 (toNat t7*1))=some (.int .i64 c10)∧br (decide (c10>0)) (X5 [.int .i64 (wrap .i64 (n6+1)),.int .i64 (wrap .i64 (t7+1))] H8) (X5 [.int .i64 n6,.int .i64 (wrap .i64 (t7+1))] H8)) (∀X11:Kl,(∀(n12 s13:Int) H14,(br (decide (n12<2)) (∃a15,co4p=some a15∧0≤s13∧s13<(co4l:Int)∧ ∃v16,cell H14 (.add a15 (toNat s13*1))=some (.int .i64 v16)∧br (v16==0) (∃a17,co4p=some a17∧0≤s13∧s13<(co4l:Int)∧stAt H14 (.add a17 (toNat s13*1)) [.int .i64 1] fun H18=>X11 [.int .i64 (wrap .i64 (n12+1)),.int .i64 (wrap .i64 (s13+1))] H18) (X11 [.int .i64 n12,.int .i64 (wrap .i64 (s13+1))] H14)) (Try.C 73 #[.slice co4p co4l co4c,.int .i64 15] H14 fun r19 H20=> ∃r21p r21l r21c r22,r19= .tuple #[.slice r21p r21l r21c,.bool r22]∧R (.slice r21p r21l r21c) H20))→X11 [.int .i64 n12,.int .i64 s13] H14)→X11 [.int .i64 n6,.int .i64 0] H8))→X5 [.int .i64 n6,.int .i64 t7] H8)→X5 [.int .i64 0,.int .i64 0] H3
def Try.p71:Plan:=(tl (tl (tl (two (tl (one (loop [(3,3),(13,3)] [0,11,12] (tl (two (tl leaf) (two (one (tl (tl (tl leaf)))) leaf)))))) (two (tl (one (loop [(3,3),(6,3)] [0] (two (tl (tl leaf)) (two (one g0) leaf))))) (tl (tl leaf)))))))
theorem Try.s71{co1p:OA}{co1l co1c:Nat}{H R}(h:Try.S71 co1p co1l co1c H R):Try.C 71 #[.slice co1p co1l co1c] H R:=vcs Try.tab_ok Try.mixed Try.func71 Try.cal71 Try.p71 h (by kernel_rfl)
def Try.S72(sl1p:OA)(sl1l sl1c:Nat)(H:Heap)(R:Kv):Prop:=
 ∀X2:Kl,(∀(si3 t4:Int) H5,(br (decide (t4<(sl1l:Int))) (∃a6,sl1p=some a6∧0≤t4∧t4<(sl1l:Int)∧ ∃s7p s7l s7c,cell H5 (.add a6 (toNat t4*1))=some (.slice s7p s7l s7c)∧br (decide (((wrap .i64 (si3+(s7l:Int))):Int)<0)) (False) (X2 [.int .i64 (wrap .i64 (si3+(s7l:Int))),.int .i64 (wrap .i64 (t4+1))] H5)) (Try.C 87 #[.slice none 0 0,.int .i64 si3] H5 fun r8 H9=> ∃ne10p ne10l ne10c,r8= .slice ne10p ne10l ne10c∧ ∀X11:Kl,(∀(ne12p:OA) (ne12l ne12c:Nat) (t13:Int) H14,(br (decide (t13<(sl1l:Int))) (∃a15,sl1p=some a15∧0≤t13∧t13<(sl1l:Int)∧ ∃s16p s16l s16c,cell H14 (.add a15 (toNat t13*1))=some (.slice s16p s16l s16c)∧appQ 1 8 #[.int .i64 0] H14 ne12p ne12l ne12c s16p s16l 3 fun ne17p ne17l ne17c H18=>X11 [.slice ne17p ne17l ne17c,.int .i64 (wrap .i64 (t13+1))] H18) (R (.slice ne12p ne12l ne12c) H14))→X11 [.slice ne12p ne12l ne12c,.int .i64 t13] H14)→X11 [.slice ne10p ne10l ne10c,.int .i64 0] H9))→X2 [.int .i64 si3,.int .i64 t4] H5)→X2 [.int .i64 0,.int .i64 0] H
def Try.p72:Plan:=(tl (tl (two (tl (one (loop [(3,3),(11,3)] [0,9,10] (tl (two (tl leaf) (two (one (tl (tl (tl (tl leaf))))) leaf)))))) (tl (two (tl (one (loop [(6,74),(27,3)] [25,26] (tl (two (tl leaf) (two (one (tl leaf)) leaf)))))) (tl leaf))))))
theorem Try.s72{sl1p:OA}{sl1l sl1c:Nat}{H R}(h:Try.S72 sl1p sl1l sl1c H R):Try.C 72 #[.slice sl1p sl1l sl1c] H R:=vcs Try.tab_ok Try.mixed Try.func72 Try.cal72 Try.p72 h (by kernel_rfl)
def Try.S73(co1p:OA)(co1l co1c:Nat)(mo2:Int)(H:Heap)(R:Kv):Prop:=
 ∀J3:Kl,(∀H4,(∀X5:Kl,(∀(le6p:OA) (le6l le6c:Nat) (s7:Int) H8,(br (decide (s7<(co1l:Int))) (∃a9,co1p=some a9∧0≤s7∧s7<(co1l:Int)∧ ∃n10,cell H8 (.add a9 (toNat s7*1))=some (.int .i64 n10)∧ ∀J11:Kl,(∀H12,(br (decide (n10>0)) (alc H12 (.cells #[.int .i64 s7] 3) fun b13 H14=>#[Value.int .i64 n10,Value.slice (some ⟨b13,0,none⟩) 1 1].size=2∧0+2≤2∧alc H14 (.cells (List.toArray (setL [.int .i64 0,.slice none 0 0] 0 (Array.toList #[.int .i64 n10,.slice (some ⟨b13,0,none⟩) 1 1]))) 136) fun b15 H16=>appQ 2 32 #[.int .i64 0,.slice none 0 0] H16 le6p le6l le6c (some ⟨b15,0,none⟩) 1 136 fun le17p le17l le17c H18=>X5 [.slice le17p le17l le17c,.int .i64 (wrap .i64 (s7+1))] H18) (X5 [.slice le6p le6l le6c,.int .i64 (wrap .i64 (s7+1))] H12))→J11 [] H12)→br (decide (n10<0)) (R (.tuple #[.slice none 0 0,.bool false]) H8) (br (decide (n10>1099511627776)) (R (.tuple #[.slice none 0 0,.bool false]) H8) (J11 [] H8))) (0≤(co1l:Int)∧(co1l:Int)≤(co1l:Int)∧((8:Nat):Int)*(co1l:Int)≤281474976710656∧(co1l:Int)≤281474976710656∧alc H8 (.cells (List.toArray (reps (toNat (co1l:Int)) (Array.toList #[.int .i64 0]))) 3) fun b19 H20=>0≤mo2∧br (decide (((le6l:Int):Int)>(shlI .i64 1 mo2))) (R (.tuple #[.slice none 0 0,.bool false]) H20) (br (((le6l:Int):Int)==1) (∃a21,le6p=some a21∧0≤(0:Int)∧(0:Int)<(le6l:Int)∧ ∃sy22p sy22l sy22c,cell H20 (.add (.add a21 (toNat (0:Int)*2)) 1)=some (.slice sy22p sy22l sy22c)∧ ∃a23,sy22p=some a23∧0≤(0:Int)∧(0:Int)<(sy22l:Int)∧ ∃v24,cell H20 (.add a23 (toNat (0:Int)*1))=some (.int .i64 v24)∧ ∃a25,(some ⟨b19,0,none⟩)=some a25∧0≤v24∧v24<(((toNat (co1l:Int)):Nat):Int)∧stAt H20 (.add a25 (toNat v24*1)) [.int .i64 1] fun H26=>R (.tuple #[.slice (some ⟨b19,0,none⟩) (toNat (co1l:Int)) (toNat (co1l:Int)),.bool true]) H26) (Try.C 88 #[.slice le6p le6l le6c,.func (.func 89) #[] #[]] H20 fun r27 H28=>r27= .tuple #[]∧ ∀X29:Kl,(∀(ro30p:OA) (ro30l ro30c:Nat) (t31:Int) H32,(br (decide (t31<mo2)) (Try.C 91 #[.slice ro30p ro30l ro30c] H32 fun r33 H34=> ∃r35p r35l r35c,r33= .slice r35p r35l r35c∧Try.C 90 #[.slice le6p le6l le6c,.slice r35p r35l r35c] H34 fun r36 H37=> ∃ro38p ro38l ro38c,r36= .slice ro38p ro38l ro38c∧X29 [.slice ro38p ro38l ro38c,.int .i64 (wrap .i64 (t31+1))] H37) (0≤(max 0 (wrap .i64 ((wrap .i64 ((2:Int)*(le6l:Int)))-2)))∧(max 0 (wrap .i64 ((wrap .i64 ((2:Int)*(le6l:Int)))-2)))≤(ro30c:Int)∧ ∀X39:Kl,(∀(t40:Int) H41,(br (decide (t40<((((toNat (max 0 (wrap .i64 ((wrap .i64 ((2:Int)*(le6l:Int)))-2))))-0):Nat):Int))) (∃a42,(if ro30c=0 then ro30p else Option.map (fun x=>Addr.add x (0*2)) ro30p)=some a42∧0≤t40∧t40<((((toNat (max 0 (wrap .i64 ((wrap .i64 ((2:Int)*(le6l:Int)))-2))))-0):Nat):Int)∧ ∃v43,v43.size=2∧rowIn H41 (.add a42 (toNat t40*2)) v43∧alc H41 (.cells #[.int .i64 0,.slice none 0 0] 136) fun b44 H45=>v43.size=2∧stAt H45 ⟨b44,0,none⟩ v43.toList fun H46=> ∃sy47p sy47l sy47c,cell H46 (.add ⟨b44,0,none⟩ 1)=some (.slice sy47p sy47l sy47c)∧ ∀X48:Kl,(∀(t49:Int) H50,(br (decide (t49<(sy47l:Int))) (∃a51,sy47p=some a51∧0≤t49∧t49<(sy47l:Int)∧ ∃s52,cell H50 (.add a51 (toNat t49*1))=some (.int .i64 s52)∧ ∃a53,(some ⟨b19,0,none⟩)=some a53∧0≤s52∧s52<(((toNat (co1l:Int)):Nat):Int)∧ ∃v54,cell H50 (.add a53 (toNat s52*1))=some (.int .i64 v54)∧ ∃a55,(some ⟨b19,0,none⟩)=some a55∧0≤s52∧s52<(((toNat (co1l:Int)):Nat):Int)∧stAt H50 (.add a55 (toNat s52*1)) [.int .i64 (wrap .i64 (v54+1))] fun H56=>X48 [.int .i64 (wrap .i64 (t49+1))] H56) (X39 [.int .i64 (wrap .i64 (t40+1))] H50))→X48 [.int .i64 t49] H50)→X48 [.int .i64 0] H46) (R (.tuple #[.slice (some ⟨b19,0,none⟩) (toNat (co1l:Int)) (toNat (co1l:Int)),.bool true]) H41))→X39 [.int .i64 t40] H41)→X39 [.int .i64 0] H32))→X29 [.slice ro30p ro30l ro30c,.int .i64 t31] H32)→X29 [.slice none 0 0,.int .i64 0] H28))))→X5 [.slice le6p le6l le6c,.int .i64 s7] H8)→X5 [.slice none 0 0,.int .i64 0] H4)→J3 [] H4)→
 br (decide (mo2<1)) (R (.tuple #[.slice none 0 0,.bool false]) H) (br (decide (mo2>16)) (R (.tuple #[.slice none 0 0,.bool false]) H) (br (decide (((co1l:Int):Int)>300)) (R (.tuple #[.slice none 0 0,.bool false]) H) (J3 [] H)))
def Try.p73:Plan:=(tl (two (join [] [0,1] g0) (tl (two (tl (one (loop [(6,134),(29,3)] [0,1,27,28] (tl (two (tl leaf) (two (one (tl (two (join [] [0,1,6,7,8,27,28,29] g0) (tl (tl leaf))))) leaf)))))) (tl (two (tl (one (tl (two (tl leaf) (tl (two (tl (tl leaf)) leaf)))))) (tl (tl (two (tl (one (loop [(11,134),(75,3)] [6,9,74] (tl (two (tl leaf) (two (one leaf) leaf)))))) (two (tl (one (loop [(90,3)] [9,88,89] (tl (two (tl leaf) (two (one (tl (tl (one (loop [(97,3)] [9,88,89,90,95,96] (tl (two (tl leaf) (two (one (tl leaf)) leaf)))))))) leaf)))))) (tl leaf)))))))))))
theorem Try.s73{co1p:OA}{co1l co1c:Nat}{mo2:Int}{H R}(h:Try.S73 co1p co1l co1c mo2 H R):Try.C 73 #[.slice co1p co1l co1c,.int .i64 mo2] H R:=vcs Try.tab_ok Try.mixed Try.func73 Try.cal73 Try.p73 h (by kernel_rfl)
def Try.S74(co1p:OA)(co1l co1c:Nat)(H:Heap)(R:Kv):Prop:=
 ∀X2:Kl,(∀(n3 t4:Int) H5,(br (decide (t4<(co1l:Int))) (∃a6,co1p=some a6∧0≤t4∧t4<(co1l:Int)∧ ∃c7,cell H5 (.add a6 (toNat t4*1))=some (.int .i64 c7)∧X2 [.int .i64 (wrap .i64 (n3+(min c7 1))),.int .i64 (wrap .i64 (t4+1))] H5) (∀X8:Kl,(∀(n9 s10:Int) H11,(br (decide (n9<2)) (∃a12,co1p=some a12∧0≤s10∧s10<(co1l:Int)∧ ∃v13,cell H11 (.add a12 (toNat s10*1))=some (.int .i64 v13)∧br (v13==0) (∃a14,co1p=some a14∧0≤s10∧s10<(co1l:Int)∧ ∃v15,cell H11 (.add a14 (toNat s10*1))=some (.int .i64 v15)∧ ∃a16,co1p=some a16∧0≤s10∧s10<(co1l:Int)∧stAt H11 (.add a16 (toNat s10*1)) [.int .i64 (wrap .i64 (v15+1))] fun H17=>X8 [.int .i64 (wrap .i64 (n9+1)),.int .i64 (wrap .i64 (s10+1))] H17) (X8 [.int .i64 n9,.int .i64 (wrap .i64 (s10+1))] H11)) (R (.slice co1p co1l co1c) H11))→X8 [.int .i64 n9,.int .i64 s10] H11)→X8 [.int .i64 n3,.int .i64 0] H5))→X2 [.int .i64 n3,.int .i64 t4] H5)→X2 [.int .i64 0,.int .i64 0] H
def Try.p74:Plan:=(tl (tl (two (tl (one (loop [(3,3),(9,3)] [0,7,8] (tl (two (tl leaf) (two (one (tl leaf)) leaf)))))) (two (tl (one (loop [(3,3),(6,3)] [0] (two (tl (tl leaf)) (two (one g0) leaf))))) (tl leaf)))))
theorem Try.s74{co1p:OA}{co1l co1c:Nat}{H R}(h:Try.S74 co1p co1l co1c H R):Try.C 74 #[.slice co1p co1l co1c] H R:=vcs Try.tab_ok Try.mixed Try.func74 Try.cal74 Try.p74 h (by kernel_rfl)
def Try.S75(H:Heap)(R:Kv):Prop:=
 alc H (.cells #[.int .i64 16,.int .i64 17,.int .i64 18,.int .i64 0,.int .i64 8,.int .i64 7,.int .i64 9,.int .i64 6,.int .i64 10,.int .i64 5,.int .i64 11,.int .i64 4,.int .i64 12,.int .i64 3,.int .i64 13,.int .i64 2,.int .i64 14,.int .i64 1,.int .i64 15] 3) fun b1 H2=>R (.slice (some ⟨b1,0,none⟩) 19 19) H2
def Try.p75:Plan:=(tl (tl leaf))
theorem Try.s75{_u:Unit}{H R}(h:Try.S75 H R):Try.C 75 #[] H R:=vcs Try.tab_ok Try.mixed Try.func75 Try.cal75 Try.p75 h (by kernel_rfl)
def Try.S76(w1:OA)(v2:Int)(H:Heap)(R:Kv):Prop:=
 ∀X3:Kl,(∀H4,(∃a5,w1=some a5∧ ∃n6,cell H4 (.add a5 1)=some (.int .i64 n6)∧(8:Int)≠0∧br (((Int.tmod n6 8):Int) != 0) (Try.C 64 #[.pointer w1,.int .i64 v2] H4 fun r7 H8=>r7= .tuple #[]∧X3 [] H8) (R (.tuple #[]) H4))→X3 [] H4)→X3 [] H
def Try.p76:Plan:=(one (loop [] [0,1] (two (tl (tl leaf)) (one leaf))))
theorem Try.s76{w1:OA}{v2:Int}{H R}(h:Try.S76 w1 v2 H R):Try.C 76 #[.pointer w1,.int .i64 v2] H R:=vcs Try.tab_ok Try.mixed Try.func76 Try.cal76 Try.p76 h (by kernel_rfl)
end Go.Proofs
