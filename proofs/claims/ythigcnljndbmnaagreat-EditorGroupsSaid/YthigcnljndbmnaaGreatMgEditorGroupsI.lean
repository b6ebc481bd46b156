/-
  OWN WORK. Several texts in one: RnI, RnJ, TtL, TtM, RnK, TsBackP, RnL, RnGroups, RnM, LvA, LvB, TsRight, LvC, LvD.
-/
import Derived.Test.YthigcnljndbmnaaGreatMgEditorGroupsH
import Derived.Test.YthigcnljndbmnaaGreatMgEditorGroupsG
import Derived.Test.YthigcnljndbmnaaGreatMgEditorGroupsF

set_option linter.unusedVariables false
set_option linter.unusedSimpArgs false
set_option maxRecDepth 10000
namespace Go.Proofs
open Go.Sh
variable {H0 H:Heap} {σ:List Rs} {R:Value→Heap→Prop}
def picL(p:Pn)(ls:List Lay):List Int:=plL p fun i=>lsPx p.W (p.X i) (p.Y i) ls 0
end Go.Proofs
namespace Go.Proofs
open Go.Sh
variable {H0 H:Heap} {σ:List Rs} {R:Value→Heap→Prop}
def regP(D:DocL)(x y w h:Int):Pn:=⟨D.w,D.h,0,.nil,x,y,w,h⟩
structure RegOk(D:DocL)(x y w h:Int):Prop where
 hx:0≤x
 hy:0≤y
 hw:0≤w∧w≤D.w-x
 hh:0≤h∧h≤D.h-y
end Go.Proofs
namespace Go.Proofs
open Go.Sh
variable {H0 H:Heap} {σ:List Rs} {R:Value→Heap→Prop}
end Go.Proofs
namespace Go.Proofs
open Go.Sh
variable {H0 H:Heap} {σ:List Rs} {R:Value→Heap→Prop}
end Go.Proofs
namespace Go.Proofs
open Go.Sh
variable {H0 H:Heap} {σ:List Rs} {R:Value→Heap→Prop}
end Go.Proofs
namespace Go.Proofs
open Go.Sh
end Go.Proofs
namespace Go.Proofs
open Go.Sh
end Go.Proofs
namespace Go.Proofs
open Go.Sh
variable {H0 H:Heap} {σ:List Rs} {R:Value→Heap→Prop}
end Go.Proofs
namespace Go.Proofs
open Go.Sh
variable {H0 H:Heap} {σ:List Rs} {R:Value→Heap→Prop}
end Go.Proofs
namespace Go.Proofs
open Go.Sh
def hidU:List FrL→Bool
 |[]=>false
 |fr::u=>fr.f.hidden||hidU u
def unseenL(D:List Lay)(id:Int):Bool:=match flK [] [] id D with
 |some (u,_)=>hidU u
 |none=>false
def tgtL(D:DocL)(e:Ed):Int:=if e.kind=1 then D.next-1 else e.id
end Go.Proofs
namespace Go.Proofs
open Go.Sh
abbrev Ky:=Int×Int
def addK(ks:List Ky)(k:Ky):List Ky:=if k∈ks then ks else ks++[k]
def keyP(p:Pn)(i:Nat):Ky:=(p.X i/16,p.Y i/16)
def readK(p:Pn)(ks:List Ky):Nat→List Ky
 |0=>ks
 |i+1=>addK (readK p ks i) (keyP p i)
def KeyOk(D:DocL)(k:Ky):Prop:=(0≤k.1∧k.1*16<D.w)∧0≤k.2∧k.2*16<D.h
theorem addK_mem{ks:List Ky}{k x:Ky}:x∈addK ks k↔x∈ks∨x=k:=by
 unfold addK
 split
 ·exact⟨.inl,fun h=>h.elim id fun e=>e▸(by assumption)⟩
 ·simp
theorem addK_nodup{ks:List Ky}{k:Ky}(h:ks.Nodup):(addK ks k).Nodup:=by
 unfold addK
 split
 ·exact h
 ·rename_i hn
  rw[List.nodup_append]
  exact⟨h,by simp,fun a ha b hb hab=>hn (by rw[List.mem_singleton] at hb;subst hb;exact hab▸ha)⟩
theorem readK_nodup{p:Pn}{ks:List Ky}(h:ks.Nodup): ∀i,(readK p ks i).Nodup
 |0=>h
 |i+1=>addK_nodup (readK_nodup h i)
theorem readK_mem{p:Pn}{ks:List Ky}: ∀{i:Nat} {x:Ky},x∈readK p ks i↔x∈ks∨ ∃j,j<i∧x=keyP p j
 |0,x=>⟨.inl,fun h=>h.elim id fun⟨j,hj,_⟩=>absurd hj (Nat.not_lt_zero j)⟩
 |i+1,x=>by
  rw[readK,addK_mem,readK_mem]
  constructor
  ·rintro((h|⟨j,hj,h⟩)|h)
   ·exact .inl h
   ·exact .inr ⟨j,by omega,h⟩
   ·exact .inr ⟨i,by omega,h⟩
  ·rintro(h|⟨j,hj,h⟩)
   ·exact .inl (.inl h)
   ·by_cases hji:j=i
    ·subst hji;exact .inr h
    ·exact .inl (.inr ⟨j,by omega,h⟩)
theorem read_ok{D:DocL}{x y w h:Int}(hp:PnOk (regP D x y w h)){ks:List Ky}(hk: ∀k∈ks,KeyOk D k): ∀{i:Nat},i≤(regP D x y w h).n→ ∀k∈readK (regP D x y w h) ks i,KeyOk D k:=fun{i} hi k hm=>by
 rcases readK_mem.1 hm with h1|⟨j,hj,rfl⟩
 ·exact hk k h1
 ·obtain⟨_,a2,a3,_,_⟩:=hp.at (i:=j) (by omega)
  have a2:0≤(regP D x y w h).X j∧(regP D x y w h).X j<D.w:=a2
  have a3:0≤(regP D x y w h).Y j∧(regP D x y w h).Y j<D.h:=a3
  unfold KeyOk keyP
  simp only
  omega
def tileP(D:DocL)(k:Ky):Pn:=regP D (k.1*16) (k.2*16) (min 16 (D.w-k.1*16)) (min 16 (D.h-k.2*16))
def tileL(D:DocL)(k:Ky):List Int:=picL (tileP D k) D.ks
end Go.Proofs
namespace Go.Proofs
open Go.Sh
variable {H0 H:Heap} {σ:List Rs} {R:Value→Heap→Prop}
def _root_.Go.Sh.Rs.obj(r:Nat)(o:Obj):Rs where
 at_ H fp:=fp=[r]∧H[r]?=some o
 loc h hk:=⟨h.1,hk _ (by rw[h.1];exact List.mem_singleton.2 rfl) _ h.2⟩
 has h b hb:=by rw[h.1,List.mem_singleton] at hb;subst hb;exact lt_of_get h.2
end Go.Proofs
namespace Go.Proofs
open Go.Sh
variable {H0 H:Heap} {σ:List Rs} {R:Value→Heap→Prop}
abbrev Ent:=Ky×Sl3×Nat
def keyV(k:Ky):Value:= .agg #[.int .i64 k.1,.int .i64 k.2]
def entV(x:Ent):MapEntry:={key:=keyV x.1,val:=x.2.1.v,born:=x.2.2}
def mapO(L:List Ent)(c:Nat):Obj:= .map (L.map entV).toArray c
structure LvS where
 D:DocL
 ks:List Ky
 n:Int
structure LvM where
 K:Sl3
 m:Nat
 c:Nat
 L:List Ent
structure LvOk(s:LvS):Prop where
 inv:Inv s.D
 nodup:s.ks.Nodup
 keys: ∀k∈s.ks,KeyOk s.D k
 len:(s.ks.length:Int)≤s.n
def lvA(D:DocL)(K:Sl3)(m:Nat)(n:Int):Array Value:=#[.int .i64 D.w,.int .i64 D.h,.int .i64 D.next,K.v,.map (some m),.int .i64 n]
def tlRs(D:DocL)(L:List Ent):Rs:= .pers fun H=> ∀x∈L,x.2.1.l=(tileP D x.1).n∧IS H x.2.1.p x.2.1.l (ints (tileL D x.1))
def lvList(b:Nat)(s:LvS)(M:LvM):List Rs:=[.cell b (lvA s.D M.K M.m s.n) 101,.obj M.m (mapO M.L M.c),docRs (docA s.D.w s.D.h s.D.next M.K) s.D,tlRs s.D M.L]
def lvRs(b:Nat)(s:LvS):Rs:= .ex fun(M:LvM)=> .pu (M.L.map Prod.fst=s.ks) (starAll (lvList b s M))
end Go.Proofs
namespace Go.Proofs
open Go.Sh
variable {H0 H:Heap} {σ:List Rs} {R:Value→Heap→Prop}
def LvS.tile(s:LvS)(k:Ky):LvS:=if k∈s.ks then s else⟨s.D,s.ks++[k],s.n+1⟩
def LvS.rd(s:LvS)(p:Pn)(i:Nat):LvS:=⟨s.D,readK p s.ks i,s.n+((readK p s.ks i).length-s.ks.length:Int)⟩
theorem LvOk.rd{s:LvS}(ok:LvOk s){x y w h:Int}(hp:PnOk (regP s.D x y w h)){i:Nat}(hi:i≤(regP s.D x y w h).n):LvOk (s.rd (regP s.D x y w h) i):=
 ⟨ok.inv,readK_nodup ok.nodup i,read_ok hp ok.keys hi,by have:=ok.len;show((readK _ _ _).length:Int)≤s.n+(((readK _ _ _).length:Int)-_);omega⟩
end Go.Proofs
