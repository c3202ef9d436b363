/- Lemmas: SxTy, SxOut, SxFn, SxFnR, SxLoop, SxWrap, SxDen, SxCut, Hd, SxSpec, SxAuto, Lb, SxRange, D0, D2, SxFrz, E1, F0, F1, F2, F3, H0, Hp, L1, L2, L3, L4, L5, L6. -/
import Derived.ProofKit
import Derived.Carry
import Derived.OpenShut
import Derived.Deep.DeepHandedRow
import Derived.JoinedOf
import Derived.Test.YthhcofcdkdknoaaGreatDoorRows
import Derived.LaidMore
import Derived.Stop.Joined
import Derived.Lib.Bytealg
import Derived.Maps.RangeRun
import Derived.Test.YthhcofcdkdknoaaGreatDoorProg
import Derived.Lib.Walk
import Derived.WalkKit
import Derived.Laws.Externs
import Derived.Test.YthhcofcdkdknoaaGreatDoorPB
open Array (getD_eq_getD_getElem? length_toList toList_inj)
open Bool (and_eq_true cond_eq_ite not_eq_true')
open ByteArray (empty)
open Int (toNat_natCast)
open List (all_cons all_eq_true append_assoc append_nil cons_append getElem?_append_left getElem?_append_right getElem?_eq_getElem getElem?_eq_none getElem?_eq_some_iff getElem?_map getElem?_set getElem?_take getElem_mem length_append length_cons length_drop length_map length_nil length_take map_append map_cons map_nil mem_append mem_append_right mem_cons mem_cons_of_mem mem_cons_self mem_map mem_range mem_singleton nil_append nodup_append range' replicate sum_cons take_of_length_le)
open Nat (add_assoc add_mul add_zero beq_eq le_of_ble_eq_true le_refl le_trans lt_or_ge zero_le)
open Option (bind_eq_some_iff getD_some isSome_iff_exists map_eq_some_iff map_some)
open World (cell?)
namespace Go.Sx
open Go
inductive RK where
 |aw (k:IntKind)
 |strs
 |bY
 |az (cs:List CK)
abbrev RK.E:RK->Type
 |.aw _=>Int
 |.strs=>ByteArray
 |.bY=>Bool
 |.az cs=>CL cs
abbrev RK.V(r:RK):Type:=List r.E
def RK.ve:(r:RK)->r.V->a8
 |.aw k,x=>.aw k x
 |.strs,x=>.strs x
 |.bY,x=>.bY x
 |.az cs,x=>.az cs x
def aft(k:IntKind):a8->Option (List Int)
 |.aw k' zs=>bif cp k' k then some zs else none
 |.fo _ 0 _=>some []
 |_=>none
def afu:a8->Option (List ByteArray)
 |.strs x=>some x
 |.fo _ 0 _=>some []
 |_=>none
def aa9:a8->Option (List Bool)
 |.bY x=>some x
 |.fo _ 0 _=>some []
 |_=>none
def ak1(cs:List CK):a8->Option (List (CL cs))
 |.az j8 x=>(CL.eq j8 cs).map λh=>abZ h x
 |.fo _ 0 _=>some []
 |_=>none
def RK.rd:(r:RK)->a8->Option r.V
 |.aw k,c=>aft k c
 |.strs,c=>afu c
 |.bY,c=>aa9 c
 |.az cs,c=>ak1 cs c
def CK.flat:CK->Bool
 |.int _|.bool|.ag|.arr _ _=>true
 |_=>false
def RK.flat:RK->Bool
 |.az cs=>cs.all CK.flat
 |_=>true
inductive B where
 |int (k:IntKind)
 |bool
 |ag
 |row (r:RK) (e:TypeId)
 |arr (k:IntKind) (n:Nat)
 |fn
 |mA (r:RK) (e:TypeId)
abbrev B.V:B->Type
 |.int _=>Int
 |.bool=>Bool
 |.ag=>ByteArray
 |.row r _=>r.V
 |.arr _ _=>List Int
 |.fn=>FuncId
 |.mA r _=>r.V
def B.av:(b:B)->b.V->AV
 |.int k,n=>.s (.int k n)
 |.bool,x=>.s (.bool x)
 |.ag,x=>.s (.ag x)
 |.row r _,x=>.s (.ro (r.ve x))
 |.arr k n,x=>.aw k n x
 |.fn,f=>.s (.qW f)
 |.mA r _,x=>.s (.ro (r.ve x))
def wN(k:IntKind):List AV->Option (List Int)
 |[]=>some []
 |.s (.int k' n)::aS=>bif cp k' k then(wN k aS).map (n:: ·)else none
 |_=>none
def ak2(k:IntKind):AV->Option Int
 |.s (.int k' n)=>bif cp k' k then some n else none
 |_=>none
def afv:AV->Option Bool
 |.s (.bool x)=>some x
 |_=>none
def ak3:AV->Option ByteArray
 |.s (.ag x)=>some x
 |_=>none
def zz(r:RK):AV->Option r.V
 |.emp=>some []
 |.s (.ro c)=>r.rd c
 |_=>none
def acM(k:IntKind)(n:Nat):AV->Option (List Int)
 |.aw k' n' ws=>bif cp k' k&&n'.beq n then some ws else none
 |.agg aD=>bif aD.length.beq n then wN k aD else none
 |_=>none
def asP:AV->Option FuncId
 |.s (.qW f)=>some f
 |_=>none
def B.rd:(b:B)->AV->Option b.V
 |.int k,a=>ak2 k a
 |.bool,a=>afv a
 |.ag,a=>ak3 a
 |.row r _,a=>zz r a
 |.arr k n,a=>acM k n a
 |.fn,a=>asP a
 |.mA r _,a=>zz r a
def B.ok:(b:B)->b.V->Prop
 |.row _ _,x=>x.length<=maxLen
 |.mA _ _,x=>x.length<=maxLen
 |.arr _ n,x=>List.length (α:=Int) x=n
 |_,_=>True
inductive Ty where
 |b (x:B)
 |st (bs:List B)
abbrev BL:List B->Type
 |[]=>Unit
 |b::bs=>b.V×BL bs
abbrev Ty.V:Ty->Type
 |.b x=>x.V
 |.st bs=>BL bs
abbrev AL:List Ty->Type
 |[]=>Unit
 |t::ts=>t.V×AL ts
def BL.av:(bs:List B)->BL bs->List AV
 |[],_=>[]
 |b::bs,(x,y)=>b.av x::BL.av bs y
def BL.rd:(bs:List B)->List AV->Option (BL bs)
 |[],[]=>some ()
 |b::bs,a::aS=>match b.rd a,BL.rd bs aS with
  |some x,some y=>some (x,y)
  |_,_=>none
 |_,_=>none
def BL.ok:(bs:List B)->BL bs->Prop
 |[],_=>True
 |b::bs,(x,y)=>b.ok x/\BL.ok bs y
def Ty.av:(t:Ty)->t.V->AV
 |.b x,v=>x.av v
 |.st bs,v=>.agg (BL.av bs v)
def asQ(bs:List B):AV->Option (BL bs)
 |.agg aD=>BL.rd bs aD
 |_=>none
def Ty.rd:(t:Ty)->AV->Option t.V
 |.b x,a=>x.rd a
 |.st bs,a=>asQ bs a
def Ty.ok:(t:Ty)->t.V->Prop
 |.b x,v=>x.ok v
 |.st bs,v=>BL.ok bs v
def AL.av:(ts:List Ty)->AL ts->List AV
 |[],_=>[]
 |t::ts,(x,y)=>t.av x::AL.av ts y
def AL.rd:(ts:List Ty)->List AV->Option (AL ts)
 |[],[]=>some ()
 |t::ts,a::aS=>match t.rd a,AL.rd ts aS with
  |some x,some y=>some (x,y)
  |_,_=>none
 |_,_=>none
def AL.ok:(ts:List Ty)->AL ts->Prop
 |[],_=>True
 |t::ts,(x,y)=>t.ok x/\AL.ok ts y
section
variable{g:Nat->Option Nat}{ρ aQ:Nat->Value}{H H':aV}{G O O':Nat->Prop}{w w':World}{P:Program}{S:fO}{Z:bB}{X:Ctx}{s:St}{a:Act}{K:List au->AV->Prop}{C:cn->Prop}
theorem na{c c':a8}{v:Value}(hn:c'.n=c.n)(hs:c'.size=c.size)(hc:∀i j,i<c.n->j<c.size->c'.cell i j=c.cell i j)(h:bg O w (.ro c) v):bg O w (.ro c') v:=by
 cases h with
 |ro _ a cap us b o h1 h2 h3 h4 h5=>
  rw[<-hn];refine .ro c' a cap us b o (by omega) h2 (λh=>h3 (by omega)) (λi j hi hj=> ?_) (λi j hi hj=> ?_);rw[hs];exact h4 i j (by omega) (by omega);rw[hc i j (by omega) (by omega)];exact h5 i j (by omega) (by omega)
theorem RK.oE{r:RK}{c:a8}{x:r.V}(h:r.rd c=some x){v:Value}(hd:bg O w (.ro c) v):bg O w (.ro (r.ve x)) v:=by
 cases r
 case aw k=>
  change aft k c=some x at h;unfold aft at h;split at h;rw[cond_eq_ite]at h;split at h;rename_i hk;obtain rfl:=bC hk;simp only[Option.some.injEq]at h;subst h;exact hd;cases h;cases h;exact gb (by rfl) (by rfl) hd;cases h
 case az cs=>
  change ak1 cs c=some x at h;unfold ak1 at h;split at h;have⟨⟨e⟩,_,h2⟩:=map_eq_some_iff.1 h;subst e;rw[y7]at h2;subst h2;exact hd;cases h;exact gb (by rfl) (by rfl) hd;cases h
 case strs=>change afu c=some x at h;unfold afu at h;split at h<;>cases h;exact hd;exact gb (by rfl) (by rfl) hd
 case bY=>change aa9 c=some x at h;unfold aa9 at h;split at h<;>cases h;exact hd;exact gb (by rfl) (by rfl) hd
theorem agX{r:RK}{v:Value}(h:∃a,v=.slice a 0 0):bg O w (.ro (r.ve [])) v:=by
 obtain⟨a,rfl⟩:=h;have hn:(r.ve []).n=0:=by cases r<;>rfl
 have:=bg.ro (O:=O) (w:=w) (r.ve []) a 0 (λ_ _=>undef) 0 0 (by omega) (zero_le _) (λh=>by omega) (λi j hi hj=>by omega) (λi j hi hj=>by omega);rwa[hn]at this
theorem zA{k:IntKind}:∀{aS:List AV} {zs:List Int} {cs:List Value},wN k aS=some zs->aE ρ H O w aS cs->zs.length=aS.length/\cs=zs.map (Value.int k)
 |[],zs,cs,h,hd=>by simp only[wN,Option.some.injEq]at h;subst h;exact⟨rfl,aH.1 hd⟩
 |a::aS,zs,cs,h,hd=>by
  unfold wN at h;split at h;rename_i heq;cases heq;rename_i k' n dU heq;simp only[List.cons.injEq]at heq;obtain⟨rfl,rfl⟩:=heq;rw[cond_eq_ite]at h;split at h;rename_i hk;obtain rfl:=bC hk;simp only[map_eq_some_iff]at h;obtain⟨zs',h1,rfl⟩:=h;obtain⟨c1,c2,rfl,h2,h3⟩:=ao.1 hd;obtain⟨h4,rfl⟩:=zA h1 h3;unfold aU at h2;obtain⟨u,rfl,h5⟩:=h2;cases h5;exact⟨by simp[h4],rfl⟩;cases h;cases h
theorem acN{k:IntKind}{a:AV}{n:Int}(h:ak2 k a=some n):a=.s (.int k n):=by
 unfold ak2 at h;split at h;rw[cond_eq_ite]at h;split at h;rename_i hk;obtain rfl:=bC hk;cases h;rfl;cases h;cases h
theorem zB{a:AV}{x:Bool}(h:afv a=some x):a=.s (.bool x):=by
 unfold afv at h;split at h<;>cases h;rfl
theorem acO{a:AV}{x:ByteArray}(h:ak3 a=some x):a=.s (.ag x):=by
 unfold ak3 at h;split at h<;>cases h;rfl
theorem agY{a:AV}{x:FuncId}(h:asP a=some x):a=.s (.qW x):=by
 unfold asP at h;split at h<;>cases h;rfl
theorem agZ{r:RK}{a:AV}{x:r.V}{v:Value}(h:zz r a=some x)(hd:ak ρ H O w a v):ak aQ H' O w (.s (.ro (r.ve x))) v:=by
 unfold zz at h;split at h;cases h;unfold ak at hd;exact aJ (agX hd);exact aJ (RK.oE h (aC (by simp) hd));cases h
theorem ag0{r:RK}{a:AV}{x:r.V}{cs:List Value}(h:zz r a=some x)(hd:aU ρ H O w a cs):aU aQ H' O w (.s (.ro (r.ve x))) cs:=by
 unfold zz at h;split at h;cases h;unfold aU at *;obtain⟨u,rfl,h1⟩:=hd;exact⟨u,rfl,agX h1⟩;unfold aU at *;obtain⟨u,rfl,h1⟩:=hd;exact⟨u,rfl,RK.oE h h1⟩;cases h
theorem B.rdV{b:B}{a:AV}{x:b.V}{v:Value}(h:b.rd a=some x)(hd:ak ρ H O w a v):ak aQ H' O w (b.av x) v:=by
 cases b with
 |int k=>rw[acN h]at hd;exact aJ (aC (by simp) hd)
 |bool=>rw[zB h]at hd;exact aJ (aC (by simp) hd)
 |ag=>rw[acO h]at hd;exact aJ (aC (by simp) hd)
 |fn=>rw[agY h]at hd;exact aJ (aC (by simp) hd)
 |row r e=>exact agZ h hd
 |mA r e=>exact agZ h hd
 |arr k n=>
  change acM k n a=some x at h;unfold acM at h;split at h;rw[cond_eq_ite]at h;split at h;rename_i hk;simp only[and_eq_true]at hk;obtain rfl:=bC hk.1;obtain rfl:=Nat.eq_of_beq_eq_true hk.2;cases h;unfold ak at *;exact hd;cases h;rw[cond_eq_ite]at h;split at h;rename_i aD hk;unfold ak at hd;obtain⟨cs,rfl,h2⟩:=hd;obtain⟨h3,rfl⟩:=zA h h2;show ak aQ H' O w (.aw k n x) _;unfold ak;exact⟨by rw[h3];exact Nat.eq_of_beq_eq_true hk,rfl⟩;cases h;cases h
theorem B.rdC{b:B}{a:AV}{x:b.V}{cs:List Value}(h:b.rd a=some x)(hd:aU ρ H O w a cs):aU aQ H' O w (b.av x) cs:=by
 cases b with
 |int k=>rw[acN h]at hd;unfold aU at hd;show aU _ _ _ _ (.s (.int k x)) _;unfold aU;exact hd
 |bool=>rw[zB h]at hd;unfold aU at hd;show aU _ _ _ _ (.s (.bool x)) _;unfold aU;exact hd
 |ag=>rw[acO h]at hd;unfold aU at hd;show aU _ _ _ _ (.s (.ag x)) _;unfold aU;exact hd
 |fn=>rw[agY h]at hd;unfold aU at hd;show aU _ _ _ _ (.s (.qW x)) _;unfold aU;exact hd
 |row r e=>exact ag0 h hd
 |mA r e=>exact ag0 h hd
 |arr k n=>
  change acM k n a=some x at h;unfold acM at h;split at h;rw[cond_eq_ite]at h;split at h;rename_i hk;simp only[and_eq_true]at hk;obtain rfl:=bC hk.1;obtain rfl:=Nat.eq_of_beq_eq_true hk.2;cases h;show aU _ _ _ _ (.aw _ _ _) _;unfold aU at *;exact hd;cases h;unfold aU at hd;exact hd.elim;cases h
theorem BL.oE:∀{bs:List B} {aD:List AV} {x:BL bs} {cs:List Value},BL.rd bs aD=some x->aE ρ H O w aD cs->aE aQ H' O w (BL.av bs x) cs
 |[],[],x,cs,h,hd=>by rw[aH.1 hd];exact aH.2 rfl
 |[],a::aS,x,cs,h,hd=>by simp[BL.rd]at h
 |b::bs,[],x,cs,h,hd=>by simp[BL.rd]at h
 |b::bs,a::aS,x,cs,h,hd=>by
  unfold BL.rd at h;split at h;rename_i y z h1 h2;cases h;obtain⟨c1,c2,rfl,h3,h4⟩:=ao.1 hd;exact ao.2 ⟨c1,c2,rfl,B.rdC h1 h3,BL.oE h2 h4⟩;cases h
theorem Ty.oE{t:Ty}{a:AV}{x:t.V}{v:Value}(h:t.rd a=some x)(hd:ak ρ H O w a v):ak aQ H' O w (t.av x) v:=by
 cases t with
 |b y=>exact B.rdV h hd
 |st bs=>
  change asQ bs a=some x at h;unfold asQ at h;split at h;show ak _ _ _ _ (.agg _) _;unfold ak at *;have⟨cs,h1,h2⟩:=hd;exact⟨cs,h1,BL.oE h h2⟩;cases h
theorem AL.oE:∀{ts:List Ty} {aS:List AV} {x:AL ts} {vs:List Value},AL.rd ts aS=some x->bV ρ H O w aS vs->bV aQ H' O w (AL.av ts x) vs
 |[],[],x,vs,h,hd=>by rw[bo.1 hd];exact bo.2 rfl
 |[],a::aS,x,vs,h,hd=>by simp[AL.rd]at h
 |t::ts,[],x,vs,h,hd=>by simp[AL.rd]at h
 |t::ts,a::aS,x,vs,h,hd=>by
  unfold AL.rd at h;split at h;rename_i y z h1 h2;cases h;obtain⟨v,rest,rfl,h3,h4⟩:=aI.1 hd;exact aI.2 ⟨v,rest,rfl,Ty.oE h1 h3,AL.oE h2 h4⟩;cases h
theorem vg{r:RK}{x:r.V}{v:Value}(h:bg O w (.ro (r.ve x)) v):List.length x<=maxLen:=by
 generalize hc:r.ve x=c at h;cases h with
 |ro _ a cap us bb o h1 h2 _ _ _=>
  have:(r.ve x).n=x.length:=by cases r<;>rfl
  rw[<-hc]at h1;omega
theorem B.okV{b:B}{x:b.V}{v:Value}(hd:ak ρ H O w (b.av x) v):b.ok x:=by
 cases b with
 |row r e=>exact vg (aC (by simp) hd)
 |mA r e=>exact vg (aC (by simp) hd)
 |arr k n=>change ak ρ H O w (.aw k n x) v at hd;unfold ak at hd;exact hd.1
 |_=>trivial
theorem B.okC{b:B}{x:b.V}{cs:List Value}(hd:aU ρ H O w (b.av x) cs):b.ok x:=by
 cases b with
 |row r e=>
  change aU ρ H O w (.s (.ro (r.ve x))) cs at hd;unfold aU at hd;have⟨u,_,h⟩:=hd;exact vg h
 |mA r e=>
  change aU ρ H O w (.s (.ro (r.ve x))) cs at hd;unfold aU at hd;have⟨u,_,h⟩:=hd;exact vg h
 |arr k n=>change aU ρ H O w (.aw k n x) cs at hd;unfold aU at hd;exact hd.1
 |_=>trivial
theorem BL.zC:∀{bs:List B} {x:BL bs} {cs:List Value},aE ρ H O w (BL.av bs x) cs->BL.ok bs x
 |[],x,cs,h=>trivial
 |b::bs,(x,y),cs,h=>by
  obtain⟨c1,c2,rfl,h3,h4⟩:=ao.1 h;exact⟨B.okC h3,BL.zC h4⟩
theorem Ty.okV{t:Ty}{x:t.V}{v:Value}(hd:ak ρ H O w (t.av x) v):t.ok x:=by
 cases t with
 |b y=>exact B.okV hd
 |st bs=>
  change ak ρ H O w (.agg (BL.av bs x)) v at hd;unfold ak at hd;have⟨cs,_,h⟩:=hd;exact BL.zC h
theorem AL.okL:∀{ts:List Ty} {x:AL ts} {vs:List Value},bV ρ H O w (AL.av ts x) vs->AL.ok ts x
 |[],x,vs,h=>trivial
 |t::ts,(x,y),vs,h=>by
  obtain⟨v,rest,rfl,h3,h4⟩:=aI.1 h;exact⟨Ty.okV h3,AL.okL h4⟩
end
def nb(ces:List (Bool×a8×TypeId))(L:List au)(a:AV):AV×List au×List (Bool×a8×TypeId):=
 match a with
 |.emp=>match ces with
  |(ro,c,e)::r=>bif c.n.beq 0 then(bif ro then(.s (.ro c),L,r)else(.aq L.length,L++[.aq c e],r))else(.emp,L,r)
  |[]=>(.emp,L,[])
 |.aq id=>match ces with
  |(true,_,_)::r=>(match L[id]? with
   |some (.aq c _)=>(.s (.ro c),L.set id .aB,r)
   |_=>(.aq id,L,r))
  |_=>(.aq id,L,ces.tail)
 |.s (.ro c)=>(.s (.ro c),L,ces.tail)
 |.part id lo n=>(match L[id]? with
  |some (.aq c e)=>(.aq L.length,L.set id .aB++[.aq (dY c lo (lo+n)) e],ces.tail)
  |_=>(.part id lo n,L,ces.tail))
 |a=>(a,L,ces)
def tu(f:List (Bool×a8×TypeId)->List au->AV->AV×List au×List (Bool×a8×TypeId)):List (Bool×a8×TypeId)->List au->List AV->List AV×List au×List (Bool×a8×TypeId)
 |ces,L,[]=>([],L,ces)
 |ces,L,a::aS=>let p:=f ces L a;let q:=tu f p.2.2 p.2.1 aS;(p.1::q.1,q.2.1,q.2.2)
def rI(ces:List (Bool×a8×TypeId))(L:List au)(a:AV):AV×List au×List (Bool×a8×TypeId):=
 match a with
 |.agg aD=>let q:=tu nb ces L aD;(.agg q.1,q.2.1,q.2.2)
 |a=>nb ces L a
def afw(ces:List (Bool×a8×TypeId))(L:List au)(a:AV):AV×List au:=
 match a with
 |.bD vs=>let q:=tu rI ces L vs;(.bD q.1,q.2.1)
 |a=>let q:=rI ces L a;(q.1,q.2.1)
def aoH(ces:List (Bool×a8×TypeId))(L:List au)(r:AV):Option (List au×AV):=
 let p:=afw ces L r;let σ:=reach p.2 4000 (agV 20 p.1) []
 bif tp σ then
  match rC σ p.2,rn (idx σ) 20 p.1 with
  |some L',some r'=>some (L',r')
  |_,_=>none
 else none
section
variable{g:Nat->Option Nat}{ρ aQ:Nat->Value}{H H':aV}{G O O':Nat->Prop}{w w':World}{P:Program}{S:fO}{Z:bB}{X:Ctx}{s:St}{a:Act}{K:List au->AV->Prop}{C:cn->Prop}{L:List au}
abbrev lk(L:List au):aV:=λi=>L[i]?
abbrev zD(ρ:Nat->Value)(L:List au)(G:Nat->Prop)(w:World)(aQ:Nat->Value)(L':List au):Prop:=Step ρ (lk L) (bd ρ (lk L) G) w aQ (lk L') (bd aQ (lk L') G) w
theorem ext1(hs:Sat ρ (lk L) G w){c:a8}(hc:c.n=0)(e:TypeId)(r:Option Addr):∃aQ,Sat aQ (lk (L++[.aq c e])) G w/\zD ρ L G w aQ (L++[.aq c e])/\∀O,aO aQ (lk (L++[.aq c e])) O w (.aq L.length) (.slice r 0 0):=by
 have mR:fp (.slice r 0 0)=none:=by cases r<;>simp[fp]
 let aQ:Nat->Value:=λj=>if j=L.length then .slice r 0 0 else ρ j
 have st:zD ρ L G w aQ (L++[.aq c e]):=Step.alloc mR
 have old:∀{id:Nat} {o:au},(L++[.aq c e])[id]? =some o->(id=L.length/\o=.aq c e)\/(id≠L.length/\L[id]? =some o):=by
  intro id o ho;have h2:=(getElem?_eq_some_iff.1 ho).1;simp only[length_append,length_cons,length_nil]at h2;by_cases dN:id=L.length;subst dN;simp at ho;exact .inl ⟨rfl,ho.symm⟩;refine .inr ⟨dN, ?_⟩;rwa[getElem?_append_left (by omega)]at ho
 have ew:∀b,Own aQ (lk (L++[.aq c e])) b->Own ρ (lk L) b:=by
  rintro b ⟨id,o,ho,ha,hb⟩;rcases old ho with⟨h1,h2⟩|⟨h1,h2⟩;simp only[aQ,h1,if_true]at hb;rw[mR]at hb;cases hb;simp only[aQ,h1,if_false]at hb;exact⟨id,o,h2,ha,hb⟩
 refine⟨aQ,⟨λid o ho=> ?_,λi j oi oj b hi hj ai aj bi bj=> ?_,λb hb=>hs.apart b (ew b hb),hs.low⟩,st,λO=> ?_⟩;rcases old ho with⟨h1,h2⟩|⟨h1,h2⟩;subst h2;simp only[aQ,h1,if_true];exact⟨r,0,by rw[hc],by omega,zero_le _,.inl rfl⟩;simp only[aQ,h1,if_false];exact(hs.obj id o h2).step st (λ_ _ _=>rfl);rcases old hi with⟨h1,h2⟩|⟨h1,h2⟩;simp only[aQ,h1,if_true]at bi;rw[mR]at bi;cases bi;rcases old hj with⟨h3,h4⟩|⟨h3,h4⟩;simp only[aQ,h3,if_true]at bj;rw[mR]at bj;cases bj;simp only[aQ,h1,if_false]at bi;simp only[aQ,h3,if_false]at bj;exact hs.inj i j oi oj b h2 h4 ai aj bi bj;unfold aO;exact⟨rfl,.aq c e,by simp[lk],λc' e' _=>(if_pos rfl).symm⟩
theorem ak4{c:a8}(hc:c.n=0)(r:Option Addr):bg O w (.ro c) (.slice r 0 0):=by
 have:=bg.ro (O:=O) (w:=w) c r 0 (λ_ _=>undef) 0 0 (by omega) (zero_le _) (λh=>by omega) (λi j hi hj=>by omega) (λi j hi hj=>by omega);rwa[hc]at this
theorem aoI(hs:Sat ρ (lk L) G w){id:Nat}{c:a8}{e:TypeId}(dN:L[id]? =some (.aq c e)):
 Sat ρ (lk (L.set id .aB)) G w/\zD ρ L G w ρ (L.set id .aB)/\bg (bd ρ (lk (L.set id .aB)) G) w (.ro c) (ρ id):=by
 have bA:id<L.length:=(getElem?_eq_some_iff.1 dN).1
 have old:∀{k:Nat} {o:au},(L.set id .aB)[k]? =some o->(k=id/\o=.aB)\/(k≠id/\L[k]? =some o):=by
  intro k o ho;rw[getElem?_set]at ho;split at ho;rename_i hk
  first
   |exact .inl ⟨hk.symm,by simpa using ho.symm⟩
   |(rw[if_pos bA]at ho;exact .inl ⟨hk.symm,by simpa using ho.symm⟩)
  rename_i hk;exact .inr ⟨Ne.symm hk,ho⟩
 have ew:∀b,Own ρ (lk (L.set id .aB)) b->Own ρ (lk L) b/\fp (ρ id)≠some b:=by
  rintro b ⟨k,o,ho,ha,hb⟩;rcases old ho with⟨_,rfl⟩|⟨h1,h2⟩;cases ha;refine⟨⟨k,o,h2,ha,hb⟩,λhb2=>h1 (hs.inj k id o _ b h2 dN ha rfl hb hb2)⟩
 have st:zD ρ L G w ρ (L.set id .aB):=by
  refine⟨λ_ _ _=>rfl,λk o ho=> ?_,λb hb=>.inl ?_,λ_ _ _=>rfl,le_refl _⟩;by_cases hk:k=id;subst hk;exact⟨.aB,by show(L.set k .aB)[k]? =_;rw[List.getElem?_set_self bA],λc' e' hc=>by cases hc⟩;exact⟨o,by show(L.set id .aB)[k]? =_;rw[List.getElem?_set_ne (Ne.symm hk)];exact ho,λc' e' hc=>⟨c',e',hc,rfl,rfl⟩⟩;rcases hb with hb|hb;exact .inl (ew b hb).1;exact .inr hb
 refine⟨⟨λk o ho=> ?_,λi j oi oj b hi hj ai aj bi bj=> ?_,λb hb=>hs.apart b (ew b hb).1,hs.low⟩,st, ?_⟩;rcases old ho with⟨_,rfl⟩|⟨h1,h2⟩;trivial;exact(hs.obj k o h2).step st (λ_ _ _=>rfl);rcases old hi with⟨_,rfl⟩|⟨h1,h2⟩;cases ai;rcases old hj with⟨_,rfl⟩|⟨h3,h4⟩;cases aj;exact hs.inj i j oi oj b h2 h4 ai aj bi bj;have⟨r,cap,h0,h1,h2,h3⟩:=hs.obj id _ dN;rcases h3 with h3|⟨b,f,cells,fr,us,rfl,h5,h6,h7,h8⟩;rw[h0];have hc:c.n=0:=by omega
 exact .ro c r cap (λ_ _=>undef) 0 0 h1 h2 (λh=>by omega) (λi j hi hj=>by omega) (λi j hi hj=>by omega);by_cases yu:cap=0;rw[h0];exact .ro c _ cap (λ_ _=>undef) 0 0 h1 h2 (λh=>by omega) (λi j hi hj=>by omega) (λi j hi hj=>by omega);have mR:fp (ρ id)=some b:=by rw[h0];simp[fp,yu]
 have zE:¬bd ρ (lk (L.set id .aB)) G b:=by
  rintro(hb|hb);exact(ew b hb).2 mR;exact hs.apart b ⟨id,_,dN,rfl,mR⟩ hb
 rw[h0];refine .ro c _ cap us b f h1 h2 (λ_=>⟨rfl,zE,(Array.getElem?_eq_some_iff.1 h5).1⟩) (λi j hi hj=> ?_) (λi j hi hj=>(h8 i j hi hj).2.less (λb hb=> ?_));have:=(h8 i j hi hj).1;simp only[cell?,h5];simpa using this;rcases hb with hb|hb;exact .inl (ew b hb).1;exact .inr hb
theorem ag1(hs:Sat ρ (lk L) G w){id lo n:Nat}{c:a8}{e:TypeId}{v:Value}(dN:L[id]? =some (.aq c e))(hv:ak ρ (lk L) (bd ρ (lk L) G) w (.part id lo n) v):
 ∃aQ,Sat aQ (lk (L.set id .aB++[.aq (dY c lo (lo+n)) e])) G w/\zD ρ L G w aQ (L.set id .aB++[.aq (dY c lo (lo+n)) e])/\∀O,aO aQ (lk (L.set id .aB++[.aq (dY c lo (lo+n)) e])) O w (.aq L.length) v:=by
 obtain⟨g0,a,cap,a',g1,g2,g3,rfl,g4,g5⟩:=jF hs dN hv;have bA:id<L.length:=(getElem?_eq_some_iff.1 dN).1;generalize hx:au.aq (dY c lo (lo+n)) e=x;have hxa:x.alive=true:=by rw[<-hx];rfl
 have old:∀{k:Nat} {o:au},(L.set id .aB++[x])[k]? =some o->(k=L.length/\o=x)\/(k=id/\o=.aB)\/(k≠id/\k≠L.length/\L[k]? =some o):=by
  intro k o ho;have h2:=(getElem?_eq_some_iff.1 ho).1;simp only[length_append,List.length_set,length_cons,length_nil]at h2;by_cases hk:k=L.length;subst hk;rw[getElem?_append_right (by simp)]at ho;simp at ho;exact .inl ⟨rfl,ho.symm⟩;rw[getElem?_append_left (by simp;omega),getElem?_set]at ho;split at ho;rename_i ri
  first
   |exact .inr (.inl ⟨ri.symm,by simpa using ho.symm⟩)
   |(rw[if_pos bA]at ho;exact .inr (.inl ⟨ri.symm,by simpa using ho.symm⟩))
  rename_i ri;exact .inr (.inr ⟨Ne.symm ri,hk,ho⟩)
 have new:∀{k:Nat} {o:au},L[k]? =some o->k≠id->(L.set id .aB++[x])[k]? =some o:=by
  intro k o ho hk;have h1:=(getElem?_eq_some_iff.1 ho).1;rw[getElem?_append_left (by simpa using h1),List.getElem?_set_ne (Ne.symm hk)];exact ho
 have ak5:(L.set id .aB++[x])[id]? =some .aB:=by
  rw[getElem?_append_left (by simpa using bA),List.getElem?_set_self bA]
 have avl:(L.set id .aB++[x])[L.length]? =some x:=by
  rw[getElem?_append_right (by simp)];simp
 have rj:∀b,fp (.slice a' n (cap - lo))=some b->fp (ρ id)=some b:=by
  intro b hb;cases a' with
  |none=>simp[fp]at hb
  |some y=>
   simp only[fp]at hb;split at hb;cases hb;rename_i cX;obtain⟨b',o,rfl⟩:=g5 (by omega);have:=g4 (by omega);simp only[map_some,bp,Option.some.injEq]at this hb;subst this;rw[g1];simp only[fp];rw[if_neg (by omega)];exact congrArg some hb
 let aQ:Nat->Value:=λj=>if j=L.length then .slice a' n (cap - lo)else ρ j
 have ew:∀b,Own aQ (lk (L.set id .aB++[x])) b->Own ρ (lk L) b:=by
  rintro b ⟨k,o,ho,ha,hb⟩;rcases old ho with⟨h1,h2⟩|⟨h1,h2⟩|⟨h1,h2,h3⟩;simp only[aQ,h1,if_true]at hb;exact⟨id,_,dN,rfl,rj b hb⟩;subst h2;cases ha;simp only[aQ,h2,if_false]at hb;exact⟨k,o,h3,ha,hb⟩
 have st:zD ρ L G w aQ (L.set id .aB++[x]):=by
  refine⟨λk o ho=> ?_,λk o ho=> ?_,λb hb=>.inl ?_,λ_ _ _=>rfl,le_refl _⟩;have h1:k<L.length:=(getElem?_eq_some_iff.1 ho).1;simp only[aQ];rw[if_neg (by omega)];by_cases hk:k=id;subst hk;exact⟨.aB,ak5,λc' e' hc=>by cases hc⟩;exact⟨o,new ho hk,λc' e' hc=>⟨c',e',hc,rfl,rfl⟩⟩;rcases hb with hb|hb;exact .inl (ew b hb);exact .inr hb
 refine⟨aQ,⟨λk o ho=> ?_,λi j oi oj b hi hj ai aj bi bj=> ?_,λb hb=>hs.apart b (ew b hb),hs.low⟩,st,λO=> ?_⟩;rcases old ho with⟨h1,h2⟩|⟨h1,h2⟩|⟨h1,h2,h3⟩;rw[h2];have qR:=st;simp only[aQ,h1,if_true];rw[<-hx]at qR ⊢;have hn:(dY c lo (lo+n)).n=n:=by rw[pa c (by omega) g0];omega
 have cq:=ko c lo (lo+n);refine⟨a',cap - lo,by rw[hn],by rw[hn];omega,by omega, ?_⟩;have⟨a2,re,k1,k2,k3,k4⟩:=hs.obj id _ dN;rw[g1]at k1;cases k1;by_cases hc:cap=lo;exact .inl (by omega);rcases k4 with k4|⟨b,o,cells,fr,us,rfl,h5,h6,h7,h8⟩;omega;refine .inr ⟨b,o+lo*c.size,cells,fr,λi j=>us (lo+i) j,by rw[g4 hc];simp[bp],h5,h6, ?_,λi j hi hj=> ?_⟩;rw[cq];have:lo*c.size+(cap - lo)*c.size=cap*c.size:=by rw[<-add_mul];congr 1;omega
 omega;rw[hn]at hi;rw[cq]at hj ⊢;have⟨h9,uP⟩:=h8 (lo+i) j (by omega) hj;refine⟨?_,by rw[kp c j (by omega)];exact uP.step qR.gy qR.heap qR.size⟩;rw[show o+lo*c.size+i*c.size+j=o+(lo+i)*c.size+j from by rw[add_mul];omega];exact h9;subst h2;trivial;simp only[aQ,h2,if_false];exact(hs.obj k o h3).step st (λ_ _ _=>rfl)
 have cls:∀{k:Nat} {o:au},(L.set id .aB++[x])[k]? =some o->o.alive=true->fp (aQ k)=some b->(k=L.length/\fp (ρ id)=some b)\/(k≠id/\k≠L.length/\L[k]? =some o/\fp (ρ k)=some b):=by
  intro k o ho ha hb;rcases old ho with⟨h1,h2⟩|⟨h1,h2⟩|⟨h1,h2,h3⟩;simp only[aQ,h1,if_true]at hb;exact .inl ⟨h1,rj b hb⟩;subst h2;cases ha;simp only[aQ,h2,if_false]at hb;exact .inr ⟨h1,h2,h3,hb⟩
 rcases cls hi ai bi with⟨h1,h2⟩|⟨h1,h2,h3,h4⟩<;>rcases cls hj aj bj with⟨k1,k2⟩|⟨k1,k2,k3,k4⟩;rw[h1,k1];exact absurd (hs.inj j id oj _ b k3 dN aj rfl k4 h2) k1;exact absurd (hs.inj i id oi _ b h3 dN ai rfl h4 k2) h1;exact hs.inj i j oi oj b h3 k3 ai aj h4 k4;unfold aO;refine⟨rfl,x,avl,λc' e' _=> ?_⟩;simp only[aQ,if_true]
theorem ag2{ces:List (Bool×a8×TypeId)}{a:AV}(hs:Sat ρ (lk L) G w):
 (∀v,ak ρ (lk L) (bd ρ (lk L) G) w a v→∃aQ,Sat aQ (lk (nb ces L a).2.1) G w∧zD ρ L G w aQ (nb ces L a).2.1∧ak aQ (lk (nb ces L a).2.1) (bd aQ (lk (nb ces L a).2.1) G) w (nb ces L a).1 v)∧
 (∀cs,aU ρ (lk L) (bd ρ (lk L) G) w a cs→∃aQ,Sat aQ (lk (nb ces L a).2.1) G w∧zD ρ L G w aQ (nb ces L a).2.1∧aU aQ (lk (nb ces L a).2.1) (bd aQ (lk (nb ces L a).2.1) G) w (nb ces L a).1 cs):=by
 have same:∀a,(∀v,ak ρ (lk L) (bd ρ (lk L) G) w a v→∃aQ,Sat aQ (lk L) G w∧zD ρ L G w aQ L∧ak aQ (lk L) (bd aQ (lk L) G) w a v)∧(∀cs,aU ρ (lk L) (bd ρ (lk L) G) w a cs→∃aQ,Sat aQ (lk L) G w∧zD ρ L G w aQ L∧aU aQ (lk L) (bd aQ (lk L) G) w a cs):=
  fun a=>⟨fun v h=>⟨ρ,hs,Step.refl _ _ _ _,h⟩,fun cs h=>⟨ρ,hs,Step.refl _ _ _ _,h⟩⟩
 unfold nb;split;split;rename_i ro c e r;cases hc:c.n.beq 0;exact same _;have hc:=Nat.eq_of_beq_eq_true hc;cases ro;refine⟨fun v h=> ?_,fun cs h=> ?_⟩;unfold ak at h;obtain⟨x,rfl⟩:=h;obtain⟨aQ,h1,h2,h3⟩:=ext1 hs hc e x;exact⟨aQ,h1,h2,by simp only[cond_true,cond_false];unfold ak;exact h3 _⟩;unfold aU at h;obtain⟨u,rfl,x,rfl⟩:=h;obtain⟨aQ,h1,h2,h3⟩:=ext1 hs hc e x;exact⟨aQ,h1,h2,by simp only[cond_true,cond_false];unfold aU;exact⟨_,rfl,h3 _⟩⟩;refine⟨fun v h=> ?_,fun cs h=> ?_⟩;unfold ak at h;obtain⟨x,rfl⟩:=h;exact⟨ρ,hs,Step.refl _ _ _ _,aJ (ak4 hc x)⟩;unfold aU at h;obtain⟨u,rfl,x,rfl⟩:=h;exact⟨ρ,hs,Step.refl _ _ _ _,by simp only[cond_true];unfold aU;exact⟨_,rfl,ak4 hc x⟩⟩;exact same _;rename_i id;split;split;rename_i c e dN;obtain⟨f1,f2,f3⟩:=aoI hs dN
 have ad:∀v,aO ρ (lk L) (bd ρ (lk L) G) w (.aq id) v→v=ρ id:=by
  intro v hv;unfold aO at hv;obtain⟨_,o,ho,h4⟩:=hv;rw[show lk L id=some (.aq c e)from dN]at ho;cases ho;exact h4 c e rfl
 refine⟨fun v h=>⟨ρ,f1,f2, ?_⟩,fun cs h=>⟨ρ,f1,f2, ?_⟩⟩;unfold ak at h;rw[ad v h];exact aJ f3;unfold aU at h;obtain⟨u,rfl,h5⟩:=h;unfold aU;exact⟨u,rfl,by rw[ad u h5];exact f3⟩;exact same _;exact same _;exact same _;rename_i id lo n;split;rename_i c e dN;refine⟨fun v h=> ?_,fun cs h=> ?_⟩;obtain⟨aQ,h1,h2,h3⟩:=ag1 hs dN h;exact⟨aQ,h1,h2,by unfold ak;exact h3 _⟩;unfold aU at h;obtain⟨u,rfl,h5⟩:=h;obtain⟨aQ,h1,h2,h3⟩:=ag1 hs dN (by unfold ak;exact h5);exact⟨aQ,h1,h2,by unfold aU;exact⟨u,rfl,h3 _⟩⟩;exact same _;exact same _
theorem wO:∀(aS:List AV) {ces:List (Bool×a8×TypeId)} {L:List au} {ρ:Nat->Value} {cs:List Value},Sat ρ (lk L) G w->aE ρ (lk L) (bd ρ (lk L) G) w aS cs->
 ∃aQ,Sat aQ (lk (tu nb ces L aS).2.1) G w/\zD ρ L G w aQ (tu nb ces L aS).2.1/\aE aQ (lk (tu nb ces L aS).2.1) (bd aQ (lk (tu nb ces L aS).2.1) G) w (tu nb ces L aS).1 cs
 |[],ces,L,ρ,cs,hs,hd=>⟨ρ,hs,Step.refl _ _ _ _,hd⟩
 |a::aS,ces,L,ρ,cs,hs,hd=>by
  obtain⟨c1,c2,rfl,h1,h2⟩:=ao.1 hd;have⟨jL,h3,h4,h5⟩:=(ag2 (ces:=ces) hs).2 c1 h1;have⟨gD,h6,h7,h8⟩:=wO aS (ces:=(nb ces L a).2.2) h3 (aE.step h4 aS c2 h2);exact⟨gD,h6,h4.trans h7,ao.2 ⟨c1,c2,rfl,aU.step h7 _ _ h5,h8⟩⟩
theorem ag3{ces:List (Bool×a8×TypeId)}{a:AV}{v:Value}(hs:Sat ρ (lk L) G w)(hd:ak ρ (lk L) (bd ρ (lk L) G) w a v):
 ∃aQ,Sat aQ (lk (rI ces L a).2.1) G w/\zD ρ L G w aQ (rI ces L a).2.1/\ak aQ (lk (rI ces L a).2.1) (bd aQ (lk (rI ces L a).2.1) G) w (rI ces L a).1 v:=by
 unfold rI;split;rename_i aD;unfold ak at hd;have⟨cs,h1,h2⟩:=hd;have⟨aQ,h3,h4,h5⟩:=wO aD (ces:=ces) hs h2;exact⟨aQ,h3,h4,by unfold ak;exact⟨cs,h1,h5⟩⟩;exact(ag2 hs).1 v hd
theorem wP:∀(aS:List AV) {ces:List (Bool×a8×TypeId)} {L:List au} {ρ:Nat->Value} {vs:List Value},Sat ρ (lk L) G w->bV ρ (lk L) (bd ρ (lk L) G) w aS vs->
 ∃aQ,Sat aQ (lk (tu rI ces L aS).2.1) G w/\zD ρ L G w aQ (tu rI ces L aS).2.1/\bV aQ (lk (tu rI ces L aS).2.1) (bd aQ (lk (tu rI ces L aS).2.1) G) w (tu rI ces L aS).1 vs
 |[],ces,L,ρ,cs,hs,hd=>⟨ρ,hs,Step.refl _ _ _ _,hd⟩
 |a::aS,ces,L,ρ,cs,hs,hd=>by
  obtain⟨v,rest,rfl,h1,h2⟩:=aI.1 hd;have⟨jL,h3,h4,h5⟩:=ag3 (ces:=ces) hs h1;have⟨gD,h6,h7,h8⟩:=wP aS (ces:=(rI ces L a).2.2) h3 (bV.step h4 aS rest h2);exact⟨gD,h6,h4.trans h7,aI.2 ⟨v,rest,rfl,ak.step h7 _ _ h5,h8⟩⟩
theorem aoJ{ces:List (Bool×a8×TypeId)}{a:AV}{v:Value}(hs:Sat ρ (lk L) G w)(hd:ak ρ (lk L) (bd ρ (lk L) G) w a v):
 ∃aQ,Sat aQ (lk (afw ces L a).2) G w/\zD ρ L G w aQ (afw ces L a).2/\ak aQ (lk (afw ces L a).2) (bd aQ (lk (afw ces L a).2) G) w (afw ces L a).1 v:=by
 unfold afw;split;rename_i vs;unfold ak at hd;have⟨us,h1,h2⟩:=hd;have⟨aQ,h3,h4,h5⟩:=wP vs (ces:=ces) hs h2;exact⟨aQ,h3,h4,by unfold ak;exact⟨us,h1,h5⟩⟩;exact ag3 hs hd
theorem ajd{ces:List (Bool×a8×TypeId)}{r r':AV}{v:Value}{L':List au}(h:Good ρ H G w (lk L) r v w')(h0:∀id,H id=none)(hc:aoH ces L r=some (L',r')):Good ρ H G w (lk L') r' v w':=by
 unfold aoH at hc;simp only[cond_eq_ite]at hc;split at hc;rename_i hn;split at hc;rename_i L1 r1 hL hr;simp only[Option.some.injEq,Prod.mk.injEq]at hc;obtain⟨rfl,rfl⟩:=hc;have⟨jL,h1,h2,h3,h4⟩:=h;have⟨gD,h5,h6,h7⟩:=aoJ (ces:=ces) h1 h2;exact Good.view (m:=0) ⟨gD,h5,h7,h3.trans h6,h4⟩ (lQ hn) hL (λi hi=>by omega) (λid _=>h0 id) hr;cases hc;cases hc
end
def B.out(base:Nat):(b:B)->b.V->AV×List au
 |.row r e,x=>(.aq base,[.aq (r.ve x) e])
 |.int k,x=>(.s (.int k x),[])
 |.bool,x=>(.s (.bool x),[])
 |.ag,x=>(.s (.ag x),[])
 |.arr k n,x=>(.aw k n x,[])
 |.fn,f=>(.s (.qW f),[])
 |.mA r _,x=>(.s (.ro (r.ve x)),[])
def BL.out(base:Nat):(bs:List B)->BL bs->List AV×List au
 |[],_=>([],[])
 |b::bs,(x,y)=>let p:=b.out base x;let q:=BL.out (base+p.2.length) bs y;(p.1::q.1,p.2++q.2)
def Ty.out(base:Nat):(t:Ty)->t.V->AV×List au
 |.b x,v=>x.out base v
 |.st bs,v=>let q:=BL.out base bs v;(.agg q.1,q.2)
def AL.out(base:Nat):(ts:List Ty)->AL ts->List AV×List au
 |[],_=>([],[])
 |t::ts,(x,y)=>let p:=t.out base x;let q:=AL.out (base+p.2.length) ts y;(p.1::q.1,p.2++q.2)
def AL.res(rs:List Ty)(y:AL rs):List au×AV:=let q:=AL.out 0 rs y;(q.2,oneOf q.1)
def B.flat:B->Bool
 |.row r _=>r.flat
 |.mA _ _=>false
 |_=>true
def Ty.flat:Ty->Bool
 |.b x=>x.flat
 |.st bs=>bs.all B.flat
def B.pV:B->Bool
 |.row r _=>r.flat
 |_=>true
def Ty.pV:Ty->Bool
 |.b x=>x.pV
 |.st bs=>bs.all B.pV
def B.ces:B->List (Bool×a8×TypeId)
 |.row r e=>[(false,r.ve [],e)]
 |.mA r e=>[(true,r.ve [],e)]
 |_=>[]
def Ty.ces:Ty->List (Bool×a8×TypeId)
 |.b x=>x.ces
 |.st bs=>bs.flatMap B.ces
def dO(P:Program)(Z:bB)(f:FuncId)(ts rs:List Ty)(pre:AL ts->List Prop)(F:AL ts->AL rs):Prop:=
 ∀(x:AL ts),AL.ok ts x->bT (pre x)->∀(G:Nat->Prop) (w:World) (vs:List Value),(∀b,G b->b<w.heap.size)->Z.ok w->bV (λ_=>undef) (λ_=>none) (bd (λ_=>undef) (λ_=>none) G) w (AL.av ts x) vs->
  Calls P f vs.toArray w λe w'=>∃v,e=.returned v/\Good (λ_=>undef) (λ_=>none) G w (lk (AL.res rs (F x)).1) (AL.res rs (F x)).2 v w'
def Ends(rs:List Ty)(y:AL rs)(L:List au)(r:AV):Prop:=aoH (rs.flatMap Ty.ces) L r=some (AL.res rs y)
def ai8(a:AV)(k:AV->RM b8):RM b8:=
 match a with
 |.aq id=>.aA id λ
  |some (.aq c _)=>k (.s (.ro c))
  |_=>.fail "frz"
 |a=>k a
def asR:List AV->(List AV->RM b8)->RM b8
 |[],k=>k []
 |a::aS,k=>ai8 a λa'=>asR aS λdU=>k (a'::dU)
def asS(a:AV)(k:AV->RM b8):RM b8:=
 match a with
 |.agg aD=>asR aD λs=>k (.agg s)
 |a=>ai8 a k
def asT:List AV->(List AV->RM b8)->RM b8
 |[],k=>k []
 |a::aS,k=>asS a λa'=>asT aS λdU=>k (a'::dU)
def cU(ts rs:List Ty)(pre:AL ts->List Prop)(F:AL ts->AL rs):Nat->List AV->RM b8:=λ_ args=>
 asT args λargs=>match allM (rn (λ_=>none) 20) args with
  |some args=>(match AL.rd ts args with
   |some x=>bif rs.all Ty.flat then .ret ⟨pre x,[],(AL.res rs (F x)).1,λbase=>oneOf (AL.out base rs (F x)).1⟩else .fail "sum: not flat"
   |none=>.fail "sum: arguments")
  |none=>.fail "sum: names"
section
variable{g:Nat->Option Nat}{ρ aQ:Nat->Value}{H H':aV}{G O O':Nat->Prop}{w w':World}{P:Program}{S:fO}{Z:bB}{X:Ctx}{s:St}{a:Act}{K:List au->AV->Prop}{C:cn->Prop}{L:List au}
theorem AL.zF:∀{ts:List Ty} (x:AL ts),(AL.av ts x).length=ts.length
 |[],_=>rfl
 |_::_,(_,y)=>congrArg (· +1) (AL.zF y)
theorem aM{f:FuncId}{fn:Func}{ts rs:List Ty}{pre:AL ts->List Prop}{F:AL ts->AL rs}(hf:P.funcs[f]? =some fn)(hb:fn.body.isSome=true)(hn:ts.length.ble fn.ntmps=true)
 (h:∀x,AL.ok ts x->bT (pre x)->∀X:Ctx,(∀id,X.H id=none)->eO Z X->Safe P f X (Ends rs (F x)) (start fn (AL.av ts x) [])):dO P Z f ts rs pre F:=by
 intro x kv mz G w vs hG hz hd;have⟨c,hb⟩:=isSome_iff_exists.1 hb;have hn:=le_of_ble_eq_true hn;have avm:(AL.av ts x).length=ts.length:=AL.zF x
 have oF:∀{aS:List AV} {vs:List Value},bV (λ_=>undef) (λ_=>none) (bd (λ_=>undef) (λ_=>none) G) w aS vs->vs.length=aS.length:=by
  intro aS
  induction aS with
  |nil=>intro vs h;rw[bo.1 h];rfl
  |cons a aS ih=>intro vs h;obtain⟨v,rest,rfl,_,h2⟩:=aI.1 h;simp[ih h2]
 refine(ju (R:=ku ⟨λ_=>undef,λ_=>none,G,w,[]⟩ (Ends rs (F x))) hf hb ?_).mono ?_;have:=(h x kv mz ⟨λ_=>undef,λ_=>none,G,w,[]⟩ (λ_=>rfl) ⟨hz,λb _ ⟨id,o,ho,_⟩=>by cases ho⟩).goes rfl rfl (ρ:=λ_=>undef) (a:={ah:=vs.toArray++Array.replicate (fn.ntmps - vs.toArray.size) undef,defers:=[]}) (w:=w);simp only[start,hb,getD_some]at this;refine this ⟨⟨λid o ho=>by simp[St.aA]at ho,λi j oi oj b hi=>by simp[St.aA]at hi,λb uN=> ?_,hG⟩, ?_,λt=> ?_,rfl, ?_, ?_,λx hx=>by cases hx⟩;have⟨id,o,ho,_⟩:=uN;simp[St.aA]at ho;have:=oF hd;simp[this]
 have e1:∀t,ak (λ_=>undef) (St.aA ⟨AL.av ts x++replicate (fn.ntmps - (AL.av ts x).length) (.bD []),[]⟩) (bd (λ_=>undef) (St.aA ⟨AL.av ts x++replicate (fn.ntmps - (AL.av ts x).length) (.bD []),[]⟩) G) w ((AL.av ts x).getD t (.bD [])) (vs.getD t undef):=by
  have e0:(St.aA ⟨AL.av ts x++replicate (fn.ntmps - (AL.av ts x).length) (.bD []),[]⟩)=λ_=>none:=by funext i;simp[St.aA]
  rw[e0];generalize AL.av ts x=aS at hd;clear avm e0 this
  induction aS generalizing vs with
  |nil=>intro t;rw[bo.1 hd];simp only[List.getD,List.getElem?_nil,Option.getD_none];exact cZ
  |cons a aS ih=>
   intro t;obtain⟨v,rest,rfl,h1,h2⟩:=aI.1 hd;cases t with
   |zero=>simpa using h1
   |succ t=>simpa using ih rest h2 t
 have h1:=e1 t;have hl:=oF hd;simp only[List.getD_eq_getElem?_getD,List.getElem?_append,List.getElem?_replicate,getD_eq_getD_getElem?,Array.getElem?_append,List.getElem?_toArray,Array.getElem?_replicate,List.size_toArray]at h1 ⊢;rw[hl];split;rename_i ht;have hv:vs[t]? =some vs[t]:=getElem?_eq_getElem (by omega);have ha:(AL.av ts x)[t]? =some (AL.av ts x)[t]:=getElem?_eq_getElem ht;rw[hv,ha]at h1 ⊢;exact h1;split;exact cZ;simp only[Option.getD_none];unfold ak;trivial;have e0:(St.aA ⟨AL.av ts x++replicate (fn.ntmps - (AL.av ts x).length) (.bD []),[]⟩)=λ_=>none:=by funext i;simp[St.aA]
 rw[e0];exact Step.refl _ _ _ _;exact⟨rfl,rfl,rfl,λ_ _ _=>rfl⟩;rintro e w' ⟨v,he,L,r,hk,hg⟩;refine⟨v,he, ?_⟩;exact ajd hg (λ_=>rfl) hk
theorem RM.ag4{aS:AV}{k:AV->RM b8}{q:b8}(h:(ai8 aS k).eval H=some q)(hs:Sat ρ H G w):∃a',(k a').eval H=some q/\(∀v,ak ρ H (bd ρ H G) w aS v->ak ρ H (λ_=>False) w a' v)/\(∀cs,aU ρ H (bd ρ H G) w aS cs->aU ρ H (λ_=>False) w a' cs):=by
 have less:Emb (λi=>some i) ρ H (bd ρ H G) ρ H (λ_=>False):=⟨λi j h=>by cases h;exact⟨rfl,λo ho=>⟨o,ho,λc e hc=>hc⟩⟩,λb hb=>hb.elim⟩;have avn:∀(a:AV) (v:Value),ak ρ H (bd ρ H G) w a v->ak ρ H (λ_=>False) w a v:=λa v hd=>ak.step ⟨λ_ _ _=>rfl,λ_ o h=>⟨o,h,λc' e' e=>⟨c',e',e,rfl,rfl⟩⟩,λb hb=>hb.elim,λ_ _ _=>rfl,le_refl _⟩ a v hd;have avo:∀(a:AV) (v:List Value),aU ρ H (bd ρ H G) w a v->aU ρ H (λ_=>False) w a v:=λa v hd=>aU.step ⟨λ_ _ _=>rfl,λ_ o h=>⟨o,h,λc' e' e=>⟨c',e',e,rfl,rfl⟩⟩,λb hb=>hb.elim,λ_ _ _=>rfl,le_refl _⟩ a v hd;unfold ai8 at h;split at h;rename_i id;simp only[RM.eval]at h;split at h;rename_i c e hc;have e9:=hs.obj id _ hc;have⟨r,cap,h0,h1,h2,h3⟩:=e9
 have ad:∀v,aO ρ H (bd ρ H G) w (.aq id) v->bg (λ_=>False) w (.ro c) v:=by
  intro v hv;unfold aO at hv;have⟨_,o,ho,h4⟩:=hv;rw[hc]at ho;cases ho;rw[h4 c e rfl,h0];rcases h3 with h3|⟨b,f,cells,fr,us,rfl,h5,h6,h7,h8⟩;exact .ro c r cap (λ_ _=>undef) 0 0 h1 h2 (λh=>by omega) (λi j hi hj=>by omega) (λi j hi hj=>by omega);refine .ro c _ cap us b f h1 h2 (λ_=>⟨rfl,λh=>h.elim,(Array.getElem?_eq_some_iff.1 h5).1⟩) (λi j hi hj=> ?_) (λi j hi hj=>(h8 i j hi hj).2.less (λb hb=>hb.elim));have:=(h8 i j hi hj).1;simp only[cell?,h5];simpa using this
 exact⟨_,h,λv hv=>aJ (ad v (by unfold ak at hv;exact hv)),λcs hv=>by unfold aU at *;obtain⟨u,rfl,h9⟩:=hv;exact⟨u,rfl,ad u h9⟩⟩;simp[RM.eval]at h;exact⟨_,h,avn _,avo _⟩
theorem RM.ag5:∀{aS:List AV} {k:List AV->RM b8} {q:b8},(asR aS k).eval H=some q->Sat ρ H G w->∃dU,(k dU).eval H=some q/\∀cs,aE ρ H (bd ρ H G) w aS cs->aE ρ H (λ_=>False) w dU cs
 |[],k,q,h,hs=>⟨[],h,λcs hd=>by rw[aH.1 hd];exact aH.2 rfl⟩
 |a::aS,k,q,h,hs=>by
  have⟨a',h1,h2,h3⟩:=RM.ag4 h hs;have⟨dU,h4,h5⟩:=RM.ag5 h1 hs;refine⟨a'::dU,h4,λcs hd=> ?_⟩;obtain⟨c1,c2,rfl,h6,h7⟩:=ao.1 hd;exact ao.2 ⟨c1,c2,rfl,h3 c1 h6,h5 c2 h7⟩
theorem RM.aoK{aS:AV}{k:AV->RM b8}{q:b8}(h:(asS aS k).eval H=some q)(hs:Sat ρ H G w):∃a',(k a').eval H=some q/\(∀v,ak ρ H (bd ρ H G) w aS v->ak ρ H (λ_=>False) w a' v):=by
 unfold asS at h;split at h;have⟨dU,h1,h2⟩:=RM.ag5 h hs;refine⟨_,h1,λv hd=> ?_⟩;unfold ak at *;have⟨cs,h3,h4⟩:=hd;exact⟨cs,h3,h2 cs h4⟩;have⟨a',h1,h2,_⟩:=RM.ag4 h hs;exact⟨a',h1,h2⟩
theorem RM.ag6:∀{aS:List AV} {k:List AV->RM b8} {q:b8},(asT aS k).eval H=some q->Sat ρ H G w->∃dU,(k dU).eval H=some q/\∀cs,bV ρ H (bd ρ H G) w aS cs->bV ρ H (λ_=>False) w dU cs
 |[],k,q,h,hs=>⟨[],h,λcs hd=>by rw[bo.1 hd];exact bo.2 rfl⟩
 |a::aS,k,q,h,hs=>by
  have⟨a',h1,h2⟩:=RM.aoK h hs;have⟨dU,h4,h5⟩:=RM.ag6 h1 hs;refine⟨a'::dU,h4,λcs hd=> ?_⟩;obtain⟨v,rest,rfl,h6,h7⟩:=aI.1 hd;exact aI.2 ⟨v,rest,rfl,h2 v h6,h5 rest h7⟩
theorem uA:∀{cs:List CK} (_:cs.all CK.flat=true) {x:CL cs} {j:Nat} {u:Value},j<CL.wide cs->bg O w (CL.cell cs x j) u->bg O' w (CL.cell cs x j) u
 |[],_,x,j,u,hj,h=>by simp[CL.wide]at hj
 |c::cs,hf,x,j,u,hj,h=>by
  simp only[all_cons,and_eq_true]at hf;simp only[CL.cell]at h ⊢;rcases lt_or_ge j c.wide with h5|h5
  ·rw[nt h5,cond_true]at h ⊢;cases c<;>simp only[CK.flat,Bool.false_eq_true]at hf
   case int k=>exact(by simp only[CK.cell]at h ⊢;cases h;constructor)
   case bool=>exact(by simp only[CK.cell]at h ⊢;cases h;constructor)
   case ag=>exact(by simp only[CK.cell]at h ⊢;cases h;constructor)
   case arr k n=>exact(by simp only[CK.cell]at h ⊢;cases h;constructor)
   all_goals exact hf.1.elim
  ·rw[rb h5,cond_false]at h ⊢;exact uA hf.2 (by simp only[CL.wide]at hj;omega) h
theorem RK.acP{r:RK}(hr:r.flat=true){x:r.V}{i j:Nat}{u:Value}(hj:j<(r.ve x).size)(h:bg O w ((r.ve x).cell i j) u):bg O' w ((r.ve x).cell i j) u:=by
 cases r
 case az cs=>exact uA hr hj h
 all_goals (simp only[RK.ve,a8.cell]at h ⊢;cases h;constructor)
def Plain(o:au):Prop:=∃(r:RK) (x:r.V) (e:TypeId),r.flat=true/\o=.aq (r.ve x) e
theorem B.fC{b:B}(hb:b.pV=true){x:b.V}{base:Nat}:∀o∈(b.out base x).2,Plain o:=by
 cases b with
 |row r e=>intro o ho;simp only[B.out,mem_singleton]at ho;exact⟨r,x,e,hb,ho⟩
 |_=>intro o ho;simp[B.out]at ho
theorem BL.fC:∀{bs:List B},bs.all B.pV=true->∀{x:BL bs} {base:Nat},∀o∈(BL.out base bs x).2,Plain o
 |[],_,x,base,o,ho=>by simp[BL.out]at ho
 |b::bs,hb,(x,y),base,o,ho=>by
  simp only[all_cons,and_eq_true]at hb;simp only[BL.out,mem_append]at ho;rcases ho with ho|ho;exact B.fC hb.1 o ho;exact BL.fC hb.2 o ho
theorem Ty.fC{t:Ty}(ht:t.pV=true){x:t.V}{base:Nat}:∀o∈(t.out base x).2,Plain o:=by
 cases t with
 |b y=>exact B.fC ht
 |st bs=>exact BL.fC ht
theorem AL.fC:∀{ts:List Ty},ts.all Ty.pV=true->∀{x:AL ts} {base:Nat},∀o∈(AL.out base ts x).2,Plain o
 |[],_,x,base,o,ho=>by simp[AL.out]at ho
 |b::bs,hb,(x,y),base,o,ho=>by
  simp only[all_cons,and_eq_true]at hb;simp only[AL.out,mem_append]at ho;rcases ho with ho|ho;exact Ty.fC hb.1 o ho;exact AL.fC hb.2 o ho
structure rJ (base n:Nat) (ρ:Nat->Value) (H:aV) (aQ:Nat->Value) (H':aV):Prop where
 vH:∀i,i<n->aQ (base+i)=ρ i
 heap:∀i,i<n->H' (base+i)=H i
theorem zG{base n k:Nat}(sh:rJ base n ρ H aQ H')(hk:k<n){v:Value}(h:aO ρ H O w (.aq k) v):aO aQ H' O' w (.aq (base+k)) v:=by
 unfold aO at *;have⟨h0,o,ho,h1⟩:=h;exact⟨h0,o,by rw[sh.heap k hk];exact ho,λc e hc=>by rw[sh.vH k hk];exact h1 c e hc⟩
theorem B.asU{base n k:Nat}(sh:rJ base n ρ H aQ H'){b:B}(hO:b.flat=true\/∀i,O' i->O i){x:b.V}(hk:k+(b.out k x).2.length<=n){v:Value}(h:ak ρ H O w (b.out k x).1 v):ak aQ H' O' w (b.out (base+k) x).1 v:=by
 cases b with
 |row r e=>
  simp only[B.out,length_cons,length_nil]at hk h ⊢;unfold ak at *;exact zG sh (by omega) h
 |int k=>exact aJ (by have:=aC (by simp) h;cases this;constructor)
 |bool=>exact aJ (by have:=aC (by simp) h;cases this;constructor)
 |ag=>exact aJ (by have:=aC (by simp) h;cases this;constructor)
 |fn=>exact aJ (by have:=aC (by simp) h;cases this;constructor)
 |mA r e=>
  rcases hO with hO|hO;cases hO;exact aJ ((aC (by simp) h).less hO)
 |arr k n=>simp only[B.out]at h ⊢;unfold ak at *;exact h
theorem B.asV{base n k:Nat}(sh:rJ base n ρ H aQ H'){b:B}(hO:b.flat=true\/∀i,O' i->O i){x:b.V}(hk:k+(b.out k x).2.length<=n){v:List Value}(h:aU ρ H O w (b.out k x).1 v):aU aQ H' O' w (b.out (base+k) x).1 v:=by
 cases b with
 |row r e=>
  simp only[B.out,length_cons,length_nil]at hk h ⊢;unfold aU at *;obtain⟨u,rfl,h1⟩:=h;exact⟨u,rfl,zG sh (by omega) h1⟩
 |int k=>simp only[B.out]at h ⊢;unfold aU at *;obtain⟨u,rfl,h1⟩:=h;exact⟨u,rfl,by cases h1;constructor⟩
 |bool=>simp only[B.out]at h ⊢;unfold aU at *;obtain⟨u,rfl,h1⟩:=h;exact⟨u,rfl,by cases h1;constructor⟩
 |ag=>simp only[B.out]at h ⊢;unfold aU at *;obtain⟨u,rfl,h1⟩:=h;exact⟨u,rfl,by cases h1;constructor⟩
 |fn=>simp only[B.out]at h ⊢;unfold aU at *;obtain⟨u,rfl,h1⟩:=h;exact⟨u,rfl,by cases h1;constructor⟩
 |mA r e=>
  simp only[B.out]at h ⊢;unfold aU at *;obtain⟨u,rfl,h1⟩:=h;rcases hO with hO|hO;cases hO;exact⟨u,rfl,h1.less hO⟩
 |arr k n=>simp only[B.out]at h ⊢;unfold aU at *;exact h
theorem B.lR{b:B}{x:b.V}(k k':Nat):(b.out k x).2=(b.out k' x).2:=by cases b<;>rfl
theorem BL.lR:∀{bs:List B} {x:BL bs} (k k':Nat),(BL.out k bs x).2=(BL.out k' bs x).2
 |[],_,_,_=>rfl
 |b::bs,(x,y),k,k'=>by
  simp only[BL.out];rw[B.lR k k',BL.lR (k+_) (k'+(b.out k' x).2.length)]
theorem Ty.lR{t:Ty}{x:t.V}(k k':Nat):(t.out k x).2=(t.out k' x).2:=by
 cases t with
 |b y=>exact B.lR k k'
 |st bs=>exact BL.lR k k'
theorem BL.shift{base n:Nat}(sh:rJ base n ρ H aQ H'):∀{bs:List B} (_:bs.all B.flat=true\/∀i,O' i->O i) {k:Nat} {x:BL bs} {cs:List Value},k+(BL.out k bs x).2.length<=n->aE ρ H O w (BL.out k bs x).1 cs->aE aQ H' O' w (BL.out (base+k) bs x).1 cs
 |[],_,k,x,cs,hk,h=>by rw[aH.1 h];exact aH.2 rfl
 |b::bs,hO,k,(x,y),cs,hk,h=>by
  simp only[BL.out,length_append]at hk h ⊢;obtain⟨c1,c2,rfl,h1,h2⟩:=ao.1 h;have hO1:b.flat=true\/∀i,O' i->O i:=hO.imp (λh=>by simp only[all_cons,and_eq_true]at h;exact h.1) (λh=>h);have hO2:bs.all B.flat=true\/∀i,O' i->O i:=hO.imp (λh=>by simp only[all_cons,and_eq_true]at h;exact h.2) (λh=>h);refine ao.2 ⟨c1,c2,rfl,B.asV sh hO1 (by omega) h1, ?_⟩;rw[B.lR (base+k) k,add_assoc];exact BL.shift sh hO2 (by omega) h2
theorem Ty.shift{base n k:Nat}(sh:rJ base n ρ H aQ H'){t:Ty}(hO:t.flat=true\/∀i,O' i->O i){x:t.V}(hk:k+(t.out k x).2.length<=n){v:Value}(h:ak ρ H O w (t.out k x).1 v):ak aQ H' O' w (t.out (base+k) x).1 v:=by
 cases t with
 |b y=>exact B.asU sh hO hk h
 |st bs=>
  simp only[Ty.out]at hk h ⊢;unfold ak at *;have⟨cs,h1,h2⟩:=h;exact⟨cs,h1,BL.shift sh hO hk h2⟩
theorem AL.shift{base n:Nat}(sh:rJ base n ρ H aQ H'):∀{ts:List Ty} (_:ts.all Ty.flat=true\/∀i,O' i->O i) {k:Nat} {x:AL ts} {vs:List Value},k+(AL.out k ts x).2.length<=n->bV ρ H O w (AL.out k ts x).1 vs->bV aQ H' O' w (AL.out (base+k) ts x).1 vs
 |[],_,k,x,vs,hk,h=>by rw[bo.1 h];exact bo.2 rfl
 |b::bs,hO,k,(x,y),cs,hk,h=>by
  simp only[AL.out,length_append]at hk h ⊢;obtain⟨c1,c2,rfl,h1,h2⟩:=aI.1 h;have hO1:b.flat=true\/∀i,O' i->O i:=hO.imp (λh=>by simp only[all_cons,and_eq_true]at h;exact h.1) (λh=>h);have hO2:bs.all Ty.flat=true\/∀i,O' i->O i:=hO.imp (λh=>by simp only[all_cons,and_eq_true]at h;exact h.2) (λh=>h);refine aI.2 ⟨c1,c2,rfl,Ty.shift sh hO1 (by omega) h1, ?_⟩;rw[Ty.lR (base+k) k,add_assoc];exact AL.shift sh hO2 (by omega) h2
theorem AL.aba:∀{ts:List Ty} {x:AL ts} (k:Nat),(AL.out k ts x).1.length=ts.length
 |[],_,_=>rfl
 |b::bs,(x,y),k=>by simp[AL.out,AL.aba]
theorem zH{base:Nat}{rs:List Ty}(hO:rs.all Ty.flat=true\/∀i,O' i->O i){y:AL rs}(sh:rJ base (AL.res rs y).1.length ρ H aQ H'){v:Value}(h:ak ρ H O w (AL.res rs y).2 v):ak aQ H' O' w (oneOf (AL.out base rs y).1) v:=by
 unfold AL.res at h sh;simp only[]at h sh;have hl:∀vs,bV ρ H O w (AL.out 0 rs y).1 vs->bV aQ H' O' w (AL.out (base+0) rs y).1 vs:=λvs=>AL.shift (k:=0) (x:=y) (O:=O) (O':=O') (w:=w) sh hO (by omega);have l0:=AL.aba (x:=y) 0;have l1:=AL.aba (x:=y) base;generalize (AL.out 0 rs y).1=aS at *;rw[add_zero]at hl;generalize (AL.out base rs y).1=bs at *;unfold oneOf at h ⊢;split at h;rename_i a;cases bs with
 |nil=>simp at l0 l1;omega
 |cons b bs=>
  cases bs with
  |nil=>
   have:=hl [v] (aI.2 ⟨v,[],rfl,h,bo.2 rfl⟩);have⟨v',rest,e,h1,_⟩:=aI.1 this;cases e;exact h1
  |cons c cs=>simp at l0 l1;omega
 rename_i cX;split;rename_i b;cases aS with
 |nil=>simp at l0 l1;omega
 |cons a aS=>
  cases aS with
  |nil=>exact(cX a rfl).elim
  |cons c cs=>simp at l0 l1;omega
 unfold ak at *;have⟨us,h1,h2⟩:=h;exact⟨us,h1,hl us h2⟩
def qA(P:Program)(Z:bB)(f:FuncId)(s:Nat->List AV->RM b8):Prop:=
 ∀(base:Nat) (args:List AV) (H:aV) (q:b8),(s base args).eval H=some q->bT q.ab->∀(ρ:Nat->Value) (G:Nat->Prop) (w:World) (vs:List Value),
  (∀i,i<q.new.length->H (base+i)=none)->ZAt Z ρ H w->Sat ρ H G w->bV ρ H (bd ρ H G) w args vs->
  Calls P f vs.toArray w λen w'=>∃v,en=.returned v/\Good ρ H G w (di H q.up base q.new) (q.r base) v w'
theorem dO.sum{f:FuncId}{ts rs:List Ty}{pre:AL ts->List Prop}{F:AL ts->AL rs}(h:dO P Z f ts rs pre F):qA P Z f (cU ts rs pre F):=by
 intro base args H q hq hn ρ G w vs dK hz hs hd;unfold cU at hq;have⟨avp,hq,h1⟩:=RM.ag6 hq hs;split at hq;rename_i avq h2;split at hq;rename_i x h3;rw[cond_eq_ite]at hq;split at hq;rename_i acQ;simp only[RM.eval,Option.some.injEq]at hq;subst hq
 have asW:∀b,¬bd (λ_=>undef) (λ_=>none) (λ_=>False) b:=by
  rintro b (⟨id,o,ho,_⟩|hb);cases ho;exact hb
 have E:Emb (λ_=>none) ρ H (λ_=>False) (λ_=>undef) (λ_=>none) (bd (λ_=>undef) (λ_=>none) (λ_=>False)):=⟨λi j lI=>(by cases lI),λb hb=>(asW b hb).elim⟩;have hd2:=vd E h2 (h1 vs hd);have hd3:bV (λ_=>undef) (λ_=>none) (bd (λ_=>undef) (λ_=>none) (λ_=>False)) w (AL.av ts x) vs:=AL.oE h3 hd2;refine(h x (AL.okL hd3) hn (λ_=>False) w vs (λb hb=>hb.elim) hz.1 hd3).mono ?_;rintro e w' ⟨v,he,jL,g1,g2,g3,g4⟩;refine⟨v,he, ?_⟩;simp only[]
 have asX:rs.all Ty.pV=true:=by
  rw[all_eq_true]at acQ ⊢;intro t ht;have:=acQ t ht;cases t with
  |b y=>cases y<;>first|rfl|exact this|cases this
  |st bs=>
   change bs.all B.flat=true at this;show bs.all B.pV=true;rw[all_eq_true]at this ⊢;intro b hb;have:=this b hb;cases b<;>first|rfl|exact this|cases this
 have hpl:=AL.fC asX (x:=F x) (base:=0);have ak6:(AL.res rs (F x)).1=(AL.out 0 rs (F x)).2:=rfl;rw[<-ak6]at hpl;generalize hL:(AL.res rs (F x)).1=L at *
 have qz:∀b,Own jL (lk L) b->w.heap.size<=b:=λb hb=>by
  rcases g3.gy b (.inl hb)with h5|h5;exact(asW b h5).elim;exact h5
 let gD:Nat->Value:=λid=>if base<=id/\id<base+L.length then jL (id - base)else ρ id
 let H2:=di H [] base L;have hH2:∀id,H2 id=if base<=id/\id<base+L.length then L[id - base]? else H id:=λid=>rfl
 have sh:rJ base L.length jL (lk L) gD H2:=⟨λi hi=>by simp only[gD];rw[if_pos (by omega)];congr 1;omega,λi hi=>by rw[hH2,if_pos (by omega)];simp[lk]⟩
 have hold:∀{id:Nat} {o:au},H id=some o->¬(base<=id/\id<base+L.length):=λ{id o} ho hc=>by
  have:=dK (id - base) (by simp only[];omega);rw[show base+(id - base)=id from by omega,ho]at this;cases this
 have zI:∀b,Own gD H2 b->Own jL (lk L) b\/Own ρ H b:=by
  rintro b ⟨id,o,ho,ha,hb⟩;rw[hH2]at ho;simp only[gD]at hb;split at ho;rename_i hc;rw[if_pos hc]at hb;exact .inl ⟨id - base,o,ho,ha,hb⟩;rename_i hc;rw[if_neg hc]at hb;exact .inr ⟨id,o,ho,ha,hb⟩
 have heap:∀b,b<w.heap.size->w'.heap[b]? =w.heap[b]? :=λb hb=>g4.heap b hb (λho=>asW b (.inl ho));have acR:w.heap.size<=w'.heap.size:=g3.size
 have st:Step ρ H (bd ρ H G) w gD H2 (bd gD H2 G) w':=by
  refine⟨λid o ho=> ?_,λid o ho=> ?_,λb hb=> ?_,λb hb _=>heap b hb,acR⟩;simp only[gD];rw[if_neg (hold ho)];exact⟨o,by rw[hH2,if_neg (hold ho)];exact ho,λc' e' hc=>⟨c',e',hc,rfl,rfl⟩⟩;rcases hb with hb|hb;rcases zI b hb with h5|h5;exact .inr (qz b h5);exact .inl (.inl h5);exact .inl (.inr hb)
 refine⟨gD,⟨λid o ho=> ?_,λi j oi oj b hi hj ai aj bi bj=> ?_,λb hb hG=> ?_,λb hb=>Nat.lt_of_lt_of_le (hs.low b hb) acR⟩,zH (.inl acQ) (O:=bd jL (lk L) (λ_=>False)) (hL▸sh) (by rw[hL];exact g2),st,⟨g4.os,g4.tape,g4.output,λb hb _=>heap b hb⟩⟩;change H2 id=some o at ho;rw[hH2]at ho;simp only[gD];split at ho;rename_i hc;rw[if_pos hc];have e9:=g1.obj (id - base) o ho;obtain⟨r,y,e',hr,rfl⟩:=hpl o (List.mem_of_getElem? ho);have⟨a0,cap,k0,k1,k2,k3⟩:=e9;refine⟨a0,cap,k0,k1,k2,k3.imp (λh=>h) ?_⟩;rintro⟨b,f0,cells,fr,us,k4,k5,k6,k7,k8⟩;exact⟨b,f0,cells,fr,us,k4,k5,k6,k7,λi j hi hj=>⟨(k8 i j hi hj).1,RK.acP hr hj (k8 i j hi hj).2⟩⟩;rename_i hc;rw[if_neg hc];have e9:=hs.obj id o ho;refine e9.step st (λb ha hb=>heap b ?_);exact iy hs ⟨id,o,ho,ha,hb⟩;change H2 i=some oi at hi;change H2 j=some oj at hj;rw[hH2]at hi hj;simp only[gD]at bi bj;split at hi;rename_i ci;rw[if_pos ci]at bi;have o1:Own jL (lk L) b:=⟨_,oi,hi,ai,bi⟩;split at hj;rename_i cj;rw[if_pos cj]at bj;have:=g1.inj (i - base) (j - base) oi oj b hi hj ai aj bi bj;omega;rename_i cj;rw[if_neg cj]at bj;have:=iy hs ⟨j,oj,hj,aj,bj⟩;have:=qz b o1;omega;rename_i ci;rw[if_neg ci]at bi;have h6:=iy hs ⟨i,oi,hi,ai,bi⟩;split at hj;rename_i cj;rw[if_pos cj]at bj;have:=qz b ⟨_,oj,hj,aj,bj⟩;omega;rename_i cj;rw[if_neg cj]at bj;exact hs.inj i j oi oj b hi hj ai aj bi bj;rcases zI b hb with h5|h5;have:=qz b h5;have:=hs.low b hG;omega;exact hs.apart b h5 hG;simp[RM.eval]at hq;simp[RM.eval]at hq;simp[RM.eval]at hq
abbrev aR:=List (FuncId×(Nat->List AV->RM b8))
def aR.get:aR->FuncId->Option (Nat->List AV->RM b8)
 |[],_=>none
 |(g,s)::t,f=>bif g.beq f then some s else aR.get t f
def aR.sum(t:aR):fO:=λbase f args=>match t.get f with
 |some s=>s base args
 |none=>.fail "no summary"
def aR.Ok(P:Program)(Z:bB)(t:aR):Prop:=∀x∈t,qA P Z x.1 x.2
theorem aR.get_mem:∀{t:aR} {f:FuncId} {s:Nat->List AV->RM b8},t.get f=some s->(f,s)∈t
 |[],f,s,h=>by simp[aR.get]at h
 |(g,s')::t,f,s,h=>by
  simp only[aR.get,cond_eq_ite]at h;split at h;rename_i hg;obtain rfl:=Nat.eq_of_beq_eq_true hg;cases h;simp;exact mem_cons_of_mem _ (aR.get_mem h)
theorem aR.sOk{t:aR}(h:t.Ok P Z):SOk P t.sum Z:=by
 intro base f args H q _ hq hn ρ G w vs hf hz hs hd;unfold aR.sum at hq;split at hq;rename_i s hg;exact h _ (aR.get_mem hg) base args H q hq hn ρ G w vs hf hz hs hd;simp[RM.eval]at hq
theorem aR.Ok.nil:aR.Ok P Z []:=λx hx=>by simp at hx
theorem aR.Ok.cons{f:FuncId}{s:Nat->List AV->RM b8}{t:aR}(h:qA P Z f s)(ht:aR.Ok P Z t):aR.Ok P Z ((f,s)::t):=by
 intro x hx;rcases mem_cons.1 hx with rfl|hx;exact h;exact ht x hx
end
def ag7(a:AV)(ids:List Nat)(k:AV->List Nat->RM b8):RM b8:=
 match a with
 |.aq id=>.aA id λ
  |some (.aq c _)=>k (.s (.ro c)) (id::ids)
  |_=>.fail "frz"
 |a=>k a ids
def ak7:List AV->List Nat->(List AV->List Nat->RM b8)->RM b8
 |[],ids,k=>k [] ids
 |a::aS,ids,k=>ag7 a ids λa' ids=>ak7 aS ids λdU ids=>k (a'::dU) ids
def ak8(a:AV)(ids:List Nat)(k:AV->List Nat->RM b8):RM b8:=
 match a with
 |.agg aD=>ak7 aD ids λs ids=>k (.agg s) ids
 |a=>ag7 a ids k
def ak9:List AV->List Nat->(List AV->List Nat->RM b8)->RM b8
 |[],ids,k=>k [] ids
 |a::aS,ids,k=>ak8 a ids λa' ids=>ak9 aS ids λdU ids=>k (a'::dU) ids
def wQ(ts rs:List Ty)(pre:AL ts->List Prop)(F:AL ts->AL rs):Nat->List AV->RM b8:=λ_ args=>
 ak9 args [] λargs ids=>match allM (rn (λ_=>none) 20) args with
  |some args=>(match AL.rd ts args with
   |some x=>bif rs.all Ty.pV then .ret ⟨pre x,ids.map λi=>(i,.aB),(AL.res rs (F x)).1,λbase=>oneOf (AL.out base rs (F x)).1⟩else .fail "sum: not flat"
   |none=>.fail "sum: arguments")
  |none=>.fail "sum: names"
section
variable{ρ aQ:Nat->Value}{H H':aV}{G O O':Nat->Prop}{w w':World}{P:Program}{Z:bB}
structure acS (ρ:Nat->Value) (H:aV) (G:Nat->Prop) (ids nC:List Nat):Prop where
 sub:∀i∈ids,i∈nC
 aq:∀i∈nC,i∈ids\/∃c e,H i=some (.aq c e)
abbrev lf(ρ:Nat->Value)(H:aV)(G:Nat->Prop)(ids:List Nat)(O:Nat->Prop):Prop:=(∀b,O b->bd ρ H G b)/\∀i∈ids,∀b,fp (ρ i)=some b->¬O b
theorem acS.trans{a b c:List Nat}(h:acS ρ H G a b)(k:acS ρ H G b c):acS ρ H G a c:=
 ⟨λi hi=>k.sub i (h.sub i hi),λi hi=>(k.aq i hi).elim (λh1=>h.aq i h1) .inr⟩
theorem acT{a:AV}{ids:List Nat}{k:AV->List Nat->RM b8}{q:b8}(h:(ag7 a ids k).eval H=some q)(hs:Sat ρ H G w):
 ∃a' nC,(k a' nC).eval H=some q/\acS ρ H G ids nC/\∀O,lf ρ H G nC O->(∀v,ak ρ H (bd ρ H G) w a v->ak ρ H O w a' v)/\(∀cs,aU ρ H (bd ρ H G) w a cs->aU ρ H O w a' cs):=by
 have zD:∀O,lf ρ H G ids O->Step ρ H (bd ρ H G) w ρ H O w:=λO hO=>⟨λ_ _ _=>rfl,λ_ o h=>⟨o,h,λc' e' e=>⟨c',e',e,rfl,rfl⟩⟩,λb hb=>.inl (hO.1 b hb),λ_ _ _=>rfl,le_refl _⟩;unfold ag7 at h;split at h;rename_i id;simp only[RM.eval]at h;split at h;rename_i c e hc;have⟨r,cap,h0,h1,h2,h3⟩:=hs.obj id _ hc;refine⟨_,_,h,⟨λi hi=>by simp[hi],λi hi=> ?_⟩,λO hO=> ?_⟩;rcases mem_cons.1 hi with rfl|hi;exact .inr ⟨c,e,hc⟩;exact .inl hi
 have ad:∀v,aO ρ H (bd ρ H G) w (.aq id) v->bg O w (.ro c) v:=by
  intro v hv;unfold aO at hv;have⟨_,o,ho,h4⟩:=hv;rw[hc]at ho;cases ho;rw[h4 c e rfl];have zE:=hO.2 id (by simp);rw[h0]at zE ⊢;rcases h3 with h3|⟨b,f,cells,fr,us,rfl,h5,h6,h7,h8⟩;exact .ro c r cap (λ_ _=>undef) 0 0 h1 h2 (λh=>by omega) (λi j hi hj=>by omega) (λi j hi hj=>by omega);by_cases yu:cap=0;exact .ro c _ cap (λ_ _=>undef) 0 0 h1 h2 (λh=>by omega) (λi j hi hj=>by omega) (λi j hi hj=>by omega);refine .ro c _ cap us b f h1 h2 (λ_=>⟨rfl,zE b (by simp[fp,yu]),(Array.getElem?_eq_some_iff.1 h5).1⟩) (λi j hi hj=> ?_) (λi j hi hj=>(h8 i j hi hj).2.less hO.1);have:=(h8 i j hi hj).1;simp only[cell?,h5];simpa using this
 exact⟨λv hv=>aJ (ad v (by unfold ak at hv;exact hv)),λcs hv=>by unfold aU at *;obtain⟨u,rfl,h9⟩:=hv;exact⟨u,rfl,ad u h9⟩⟩;simp[RM.eval]at h;exact⟨_,_,h,⟨λi hi=>hi,λi hi=>.inl hi⟩,λO hO=>⟨λv hv=>ak.step (zD O hO) _ v hv,λcs hv=>aU.step (zD O hO) _ cs hv⟩⟩
theorem lf.sub{a b:List Nat}(h:∀i∈a,i∈b)(k:lf ρ H G b O):lf ρ H G a O:=⟨k.1,λi hi=>k.2 i (h i hi)⟩
theorem acU:∀{aS:List AV} {ids:List Nat} {k:List AV->List Nat->RM b8} {q:b8},(ak7 aS ids k).eval H=some q->Sat ρ H G w->
 ∃dU nC,(k dU nC).eval H=some q/\acS ρ H G ids nC/\∀O,lf ρ H G nC O->∀cs,aE ρ H (bd ρ H G) w aS cs->aE ρ H O w dU cs
 |[],ids,k,q,h,hs=>⟨[],ids,h,⟨λ_ h=>h,λ_ h=>.inl h⟩,λO _ cs hd=>by rw[aH.1 hd];exact aH.2 rfl⟩
 |a::aS,ids,k,q,h,hs=>by
  have⟨a',i1,h1,f1,h2⟩:=acT h hs;have⟨dU,i2,h3,f2,h4⟩:=acU h1 hs;refine⟨a'::dU,i2,h3,f1.trans f2,λO hO cs hd=> ?_⟩;obtain⟨c1,c2,rfl,h6,h7⟩:=ao.1 hd;exact ao.2 ⟨c1,c2,rfl,(h2 O (lf.sub f2.sub hO)).2 c1 h6,h4 O hO c2 h7⟩
theorem ala{a:AV}{ids:List Nat}{k:AV->List Nat->RM b8}{q:b8}(h:(ak8 a ids k).eval H=some q)(hs:Sat ρ H G w):
 ∃a' nC,(k a' nC).eval H=some q/\acS ρ H G ids nC/\∀O,lf ρ H G nC O->∀v,ak ρ H (bd ρ H G) w a v->ak ρ H O w a' v:=by
 unfold ak8 at h;split at h;have⟨dU,i1,h1,f1,h2⟩:=acU h hs;refine⟨_,i1,h1,f1,λO hO v hd=> ?_⟩;unfold ak at *;have⟨cs,h3,h4⟩:=hd;exact⟨cs,h3,h2 O hO cs h4⟩;have⟨a',i1,h1,f1,h2⟩:=acT h hs;exact⟨a',i1,h1,f1,λO hO=>(h2 O hO).1⟩
theorem acV:∀{aS:List AV} {ids:List Nat} {k:List AV->List Nat->RM b8} {q:b8},(ak9 aS ids k).eval H=some q->Sat ρ H G w->
 ∃dU nC,(k dU nC).eval H=some q/\acS ρ H G ids nC/\∀O,lf ρ H G nC O->∀cs,bV ρ H (bd ρ H G) w aS cs->bV ρ H O w dU cs
 |[],ids,k,q,h,hs=>⟨[],ids,h,⟨λ_ h=>h,λ_ h=>.inl h⟩,λO _ cs hd=>by rw[bo.1 hd];exact bo.2 rfl⟩
 |a::aS,ids,k,q,h,hs=>by
  have⟨a',i1,h1,f1,h2⟩:=ala h hs;have⟨dU,i2,h3,f2,h4⟩:=acV h1 hs;refine⟨a'::dU,i2,h3,f1.trans f2,λO hO cs hd=> ?_⟩;obtain⟨c1,c2,rfl,h6,h7⟩:=aI.1 hd;exact aI.2 ⟨c1,c2,rfl,h2 O (lf.sub f2.sub hO) c1 h6,h4 O hO c2 h7⟩
theorem uB:∀(ids:List Nat) (j:Nat),cK (ids.map λi=>(i,.aB)) j=if j∈ids then some .aB else none
 |[],j=>rfl
 |i::ids,j=>by
  simp only[map_cons,cK,uB ids j];by_cases h:j∈ids;simp[h];by_cases h2:j=i;subst h2;simp[h];simp[h,h2]
theorem dO.wQ{f:FuncId}{ts rs:List Ty}{pre:AL ts->List Prop}{F:AL ts->AL rs}(h:dO P Z f ts rs pre F):qA P Z f (wQ ts rs pre F):=by
 intro base args H q hq hn ρ G w vs dK hz hs hd;unfold Sx.wQ at hq;have⟨avp,ids,hq,hf,h1⟩:=acV hq hs;split at hq;rename_i avq h2;split at hq;rename_i x h3;rw[cond_eq_ite]at hq;split at hq;rename_i acQ;simp only[RM.eval,Option.some.injEq]at hq;subst hq;have sV:∀i∈ids,∃c e,H i=some (.aq c e):=λi hi=>(hf.aq i hi).elim (λh=>by simp at h) (λh=>h);let Gc:Nat->Prop:=λb=>bd ρ H G b/\∀i∈ids,fp (ρ i)≠some b
 have asY:∀b,bd (λ_=>undef) (λ_=>none) Gc b->Gc b:=by
  rintro b (⟨id,o,ho,_⟩|hb);cases ho;exact hb
 have zE:lf ρ H G ids (bd (λ_=>undef) (λ_=>none) Gc):=⟨λb hb=>(asY b hb).1,λi hi b hb hO=>(asY b hO).2 i hi hb⟩;have E:Emb (λ_=>none) ρ H (bd (λ_=>undef) (λ_=>none) Gc) (λ_=>undef) (λ_=>none) (bd (λ_=>undef) (λ_=>none) Gc):=⟨λi j lI=>(by cases lI),λb hb=>hb⟩;have hd2:=vd E h2 (h1 _ zE vs hd);have hd3:bV (λ_=>undef) (λ_=>none) (bd (λ_=>undef) (λ_=>none) Gc) w (AL.av ts x) vs:=AL.oE h3 hd2;refine(h x (AL.okL hd3) hn Gc w vs (λb hb=>aaD hs hb.1) hz.1 hd3).mono ?_;rintro e w' ⟨v,he,jL,g1,g2,g3,g4⟩;refine⟨v,he, ?_⟩;simp only[];have hpl:=AL.fC acQ (x:=F x) (base:=0);have ak6:(AL.res rs (F x)).1=(AL.out 0 rs (F x)).2:=rfl;rw[<-ak6]at hpl;generalize hL:(AL.res rs (F x)).1=L at *
 have qz:∀b,Own jL (lk L) b->w.heap.size<=b:=λb hb=>by
  rcases g3.gy b (.inl hb)with h5|h5;exact(g1.apart b hb (asY b h5)).elim;exact h5
 let gD:Nat->Value:=λid=>if base<=id/\id<base+L.length then jL (id - base)else ρ id
 let H2:=di H (ids.map λi=>(i,.aB)) base L
 have hold:∀{id:Nat} {o:au},H id=some o->¬(base<=id/\id<base+L.length):=λ{id o} ho hc=>by
  have:=dK (id - base) (by simp only[];omega);rw[show base+(id - base)=id from by omega,ho]at this;cases this
 have hH2:∀id,H2 id=if id∈ids then some .aB else if base<=id/\id<base+L.length then L[id - base]? else H id:=λid=>by
  simp only[H2,di,uB];split;rename_i hx;split at hx;rename_i hi;cases hx;rw[if_pos hi];cases hx;rename_i hx;split at hx;cases hx;rename_i hi;rw[if_neg hi]
 have ass:∀id,id∈ids->¬(base<=id/\id<base+L.length):=λid hi=>by
  have⟨c,e,hce⟩:=sV id hi;exact hold hce
 have sh:rJ base L.length jL (lk L) gD H2:=⟨λi hi=>by simp only[gD];rw[if_pos (by omega)];congr 1;omega,λi hi=>by
  rw[hH2,if_neg (λhm=>ass _ hm ⟨by omega,by omega⟩),if_pos (by omega)];simp[lk]⟩
 have wR:∀{id:Nat} {o:au},H2 id=some o->o.alive=true->(base<=id/\id<base+L.length/\L[id - base]? =some o/\gD id=jL (id - base))\/(id ∉ ids/\H id=some o/\gD id=ρ id):=by
  intro id o ho ha;rw[hH2]at ho;split at ho;cases ho;cases ha;rename_i hi;split at ho;rename_i hc;exact .inl ⟨hc.1,hc.2,ho,by simp only[gD];rw[if_pos hc]⟩;rename_i hc;exact .inr ⟨hi,ho,by simp only[gD];rw[if_neg hc]⟩
 have axU:∀{id:Nat} {o:au} {b:Nat},id ∉ ids->H id=some o->o.alive=true->fp (ρ id)=some b->∀i∈ids,fp (ρ i)≠some b:=by
  intro id o b dN ho ha hb i hi hb2;have⟨c,e,hce⟩:=sV i hi;have:=hs.inj id i o _ b ho hce ha rfl hb hb2;exact dN (this▸hi)
 have zI:∀b,Own gD H2 b->Own jL (lk L) b\/(Own ρ H b/\∀i∈ids,fp (ρ i)≠some b):=by
  rintro b ⟨id,o,ho,ha,hb⟩;rcases wR ho ha with⟨_,_,h5,h6⟩|⟨h5,h6,h7⟩;rw[h6]at hb;exact .inl ⟨id - base,o,h5,ha,hb⟩;rw[h7]at hb;exact .inr ⟨⟨id,o,h6,ha,hb⟩,axU h5 h6 ha hb⟩
 have avr:∀b,bd gD H2 G b->bd jL (lk L) Gc b:=by
  rintro b (hb|hb);rcases zI b hb with h5|h5;exact .inl h5;exact .inr ⟨.inl h5.1,h5.2⟩;refine .inr ⟨.inr hb,λi hi mR=> ?_⟩;have⟨c,e,hce⟩:=sV i hi;exact hs.apart b ⟨i,_,hce,rfl,mR⟩ hb
 have heap:∀b,b<w.heap.size->w'.heap[b]? =w.heap[b]? :=λb hb=>g4.heap b hb (λ⟨id,o,ho,_⟩=>by cases ho);have acR:w.heap.size<=w'.heap.size:=g3.size
 have st:Step ρ H (bd ρ H G) w gD H2 (bd gD H2 G) w':=by
  refine⟨λid o ho=> ?_,λid o ho=> ?_,λb hb=> ?_,λb hb _=>heap b hb,acR⟩;simp only[gD];rw[if_neg (hold ho)];by_cases hi:id∈ids;exact⟨.aB,by rw[hH2,if_pos hi],λc' e' hc=>by cases hc⟩;exact⟨o,by rw[hH2,if_neg hi,if_neg (hold ho)];exact ho,λc' e' hc=>⟨c',e',hc,rfl,rfl⟩⟩;rcases hb with hb|hb;rcases zI b hb with h5|h5;exact .inr (qz b h5);exact .inl (.inl h5.1);exact .inl (.inr hb)
 refine⟨gD,⟨λid o ho=> ?_,λi j oi oj b hi hj ai aj bi bj=> ?_,λb hb hG=> ?_,λb hb=>Nat.lt_of_lt_of_le (hs.low b hb) acR⟩,zH (.inr avr) (O:=bd jL (lk L) Gc) (hL▸sh) (by rw[hL];exact g2),st,⟨g4.os,g4.tape,g4.output,λb hb _=>heap b hb⟩⟩;cases vV:o.alive;cases o with
 |aB=>trivial
 |ay _ _=>cases vV
 |aq _ _=>cases vV
 |map _ _=>cases vV
 |jA _ _ _=>cases vV
 |iter _ _ _ _ _=>cases vV
 rcases wR ho vV with⟨_,_,h5,h6⟩|⟨h5,h6,h7⟩;rw[h6];have e9:=g1.obj (id - base) o h5;obtain⟨r,y,e',hr,rfl⟩:=hpl o (List.mem_of_getElem? h5);have⟨a0,cap,k0,k1,k2,k3⟩:=e9;refine⟨a0,cap,k0,k1,k2,k3.imp (λh=>h) ?_⟩;rintro⟨b,f0,cells,fr,us,k4,k5,k6,k7,k8⟩;exact⟨b,f0,cells,fr,us,k4,k5,k6,k7,λi j hi hj=>⟨(k8 i j hi hj).1,RK.acP hr hj (k8 i j hi hj).2⟩⟩;rw[h7];exact(hs.obj id o h6).step st (λb ha hb=>heap b (iy hs ⟨id,o,h6,ha,hb⟩));rcases wR hi ai with⟨i1,i2,i3,i4⟩|⟨i1,i2,i3⟩;rw[i4]at bi;rcases wR hj aj with⟨j1,j2,j3,j4⟩|⟨j1,j2,j3⟩;rw[j4]at bj;have:=g1.inj (i - base) (j - base) oi oj b i3 j3 ai aj bi bj;omega;rw[j3]at bj;have:=iy hs ⟨j,oj,j2,aj,bj⟩;have:=qz b ⟨_,oi,i3,ai,bi⟩;omega;rw[i3]at bi;rcases wR hj aj with⟨j1,j2,j3,j4⟩|⟨j1,j2,j3⟩;rw[j4]at bj;have:=iy hs ⟨i,oi,i2,ai,bi⟩;have:=qz b ⟨_,oj,j3,aj,bj⟩;omega;rw[j3]at bj;exact hs.inj i j oi oj b i2 j2 ai aj bi bj;rcases zI b hb with h5|h5;have:=qz b h5;have:=hs.low b hG;omega;exact hs.apart b h5.1 hG;simp[RM.eval]at hq;simp[RM.eval]at hq;simp[RM.eval]at hq
end
def slF:Nat->Nat->List (Nat×AV)->List AV
 |0,_,_=>[]
 |n+1,i,[]=>.s .bk::slF n (i+1) []
 |n+1,i,(j,a)::l=>bif j.beq i then a::slF n (i+1) l else .s .bk::slF n (i+1) ((j,a)::l)
def sl(n:Nat)(l:List (Nat×AV)):List AV:=slF n 0 l
def gi:Code->Option Nat
 |.region id _ _=>some id
 |.seq a b=>match gi a with
  |some i=>some i
  |none=>gi b
 |.cond _ a b=>match gi a with
  |some i=>some i
  |none=>gi b
 |.block _ c|.loop c|.scope c=>gi c
 |_=>none
def nc(ad:Nat):Code->List Item->Option (List Item)
 |.seq a b,k=>match nc ad a (.code b::k)with
  |some r=>some r
  |none=>nc ad b k
 |.cond _ a b,k=>match nc ad a k with
  |some r=>some r
  |none=>nc ad b k
 |.block id c,k=>nc ad c (.inBlock id::k)
 |.scope c,k=>nc ad c (.inScope c::k)
 |.loop c,k=>match gi c with
  |some i=>bif i.beq ad then some (.code c::.inLoop c::k)else nc ad c (.inLoop c::k)
  |none=>nc ad c (.inLoop c::k)
 |_,_=>none
def hd(fn:Func)(ad:Nat):List Item:=(nc ad (fn.body.getD .skip) []).getD []
def jM(ad:Nat):Code->List Item->Option (List Item)
 |.region id ops d,k=>bif id.beq ad then some (.code (.region id ops d)::k)else none
 |.seq a b,k=>match jM ad a (.code b::k)with
  |some r=>some r
  |none=>jM ad b k
 |.cond _ a b,k=>match jM ad a k with
  |some r=>some r
  |none=>jM ad b k
 |.block id c,k=>jM ad c (.inBlock id::k)
 |.scope c,k=>jM ad c (.inScope c::k)
 |.loop c,k=>jM ad c (.inLoop c::k)
 |_,_=>none
def hr(fn:Func)(ad:Nat):List Item:=(jM ad (fn.body.getD .skip) []).getD []
def keyOf(c:cn):Nat:=match c.todo with
 |.code x::_=>agF c.stk ((gi x).getD 0)
 |.inRegion ops todo::_=>akL c.stk c.stk.rid (ops.size - todo.length)
 |_=>0
def aje:List (Nat×Norm)->Nat->Option Norm
 |[],_=>none
 |(i,n)::l,k=>bif i.beq k then some n else aje l k
def avs:List Item->Bool
 |.inRegion _ _::_=>true
 |_=>false
def Tree.norm(ns:List (Nat×Norm)):Tree->Tree
 |.ab p t=>.ab p (t.norm ns)
 |.ite b t e=>.ite b (t.norm ns) (e.norm ns)
 |.both p q t e=>.both p q (t.norm ns) (e.norm ns)
 |.ret H v=>.ret H v
 |.stuck w=>.stuck w
 |.at c=>bif avs c.todo&&(aje ns (keyOf c)).isNone then .at c else match aje ns (keyOf c)with
  |some N=>(match N.run c with
   |some c'=>.at c'
   |none=>.stuck "norm")
  |none=>.stuck "no norm"
def alb:List (Nat×Norm)->Nat->Bool
 |[],_=>false
 |(i,_)::l,k=>i.beq k||alb l k
def arj:List FuncId->FuncId->Bool
 |[],_=>false
 |f::l,g=>f.beq g||arj l g
def run(P:Program)(S:fO)(fn:Func)(ns:List (Nat×Norm))(c:cn)(inl:List FuncId:=[]):Tree:=(exec P S fn (alb ns) (arj inl) 1000 true c).norm ns
def uR(fn:Func)(ad i:Nat):List Item:=
 match hr fn ad with
 |.code (.region _ ops _)::k=>.inRegion ops (range' i (ops.size - i))::k
 |_=>[]
def abb(fn:Func)(f:Option FuncId)(ad i:Nat)(ch:Bool)(aY:Nat):tl:=⟨f,fn.ntmps,ch,aY,none,uR fn ad i,(ad,i)⟩
def lS(ad:Nat):Code->List Item->Option (Lp×List Item)
 |.rangeFunc _ ps asg body,k=>match iD body with
  |some i=>bif i.beq ad then some (⟨ps.toList,asg,body⟩,k)else none
  |none=>bif ad.beq 0 then some (⟨ps.toList,asg,body⟩,k)else none
 |.seq a b,k=>match lS ad a (.code b::k)with
  |some r=>some r
  |none=>lS ad b k
 |.cond _ a b,k=>match lS ad a k with
  |some r=>some r
  |none=>lS ad b k
 |.block id c,k=>lS ad c (.inBlock id::k)
 |.scope c,k=>lS ad c (.inScope c::k)
 |.loop c,k=>lS ad c (.inLoop c::k)
 |_,_=>none
def ag8(fn:Func)(f:Option FuncId)(ad:Nat)(aY:Nat):tl:=
 match lS ad (fn.body.getD .skip) []with
 |some p=>⟨f,fn.ntmps,false,aY,some (p.1,.ready),p.2,(ad,0)⟩
 |none=>⟨f,fn.ntmps,false,aY,none,[],(ad,0)⟩
section
variable{P:Program}{S:fO}{Z:bB}{X:Ctx}{K:List au->AV->Prop}{C C':cn->Prop}
theorem acW:∀{l:List (Nat×Norm)} {k:Nat} {N:Norm},aje l k=some N->∃i,(i,N)∈l
 |[],k,N,h=>by simp[aje]at h
 |(i,n)::l,k,N,h=>by
  simp only[aje,cond_eq_ite]at h;split at h;cases h;exact⟨i,by simp⟩;have⟨j,hj⟩:=acW h;exact⟨j,by simp[hj]⟩
theorem ji{ns:List (Nat×Norm)}{f:FuncId}(h0:∀x∈ns,∀id,x.2.m<=id->X.H id=none):∀(t:Tree),(t.norm ns).ba K (Safe P f X K)->t.ba K (Safe P f X K)
 |.ab p t,h=>⟨h.1,ji h0 t h.2⟩
 |.ite b t e,h=>⟨λhb=>ji h0 t (h.1 hb),λhb=>ji h0 e (h.2 hb)⟩
 |.both _ _ t e,h=>⟨λhp=>ji h0 t (h.1 hp),λhq=>ji h0 e (h.2 hq)⟩
 |.ret H v,h=>h
 |.stuck w,h=>h
 |.at c,h=>by
  unfold Tree.norm at h;rw[cond_eq_ite]at h;split at h;exact h;split at h;rename_i N hN;split at h;rename_i c' hc;have⟨i,hi⟩:=acW hN;exact Norm.safe (h0 _ hi) hc h;exact h.elim;exact h.elim
theorem bq{rs:List Ty}{y:AL rs}(y':AL rs){L:List au}{r:AV}(h:y=y')(hc:aoH (rs.flatMap Ty.ces) L r=some (AL.res rs y')):Ends rs y L r:=by
 subst h;exact hc
theorem db{f:FuncId}{fn:Func}{ns:List (Nat×Norm)}{c:cn}{t:Tree}(hS:SOk P S Z)(nB:eO Z X)(hm:P.follows .mixedOrders=true)(hf:P.funcs[f]? =some fn)(h0:∀x∈ns,∀id,x.2.m<=id->X.H id=none)
 {inl:List FuncId} (ht:run P S fn ns c inl=t) (h:t.ba K (Safe P f X K)):Safe P f X K c:=by
 subst ht;exact gq hS nB hm hf 1000 true c (ji h0 _ h)
theorem pq{f:FuncId}{ι:Type}(c:ι->cn)(I:ι->Prop)(m:ι->Nat)(h:∀x,I x->(∀y,I y->m y<m x->Safe P f X K (c y))->Safe P f X K (c x)):∀x,I x->Safe P f X K (c x):=by
 intro x
 induction hn:m x using Nat.strongRecOn generalizing x with
 |ind n ih=>
  intro hx;subst hn;exact h x hx (λy hy bA=>ih (m y) bA y rfl hy)
end
end Go.Sx
namespace Go.Sx
open Go Go.RowKit Go.ChangeShapes Go.WideShapes Go.ChangeAt
section
variable{H:Type}{enc:TypeId×Value->H}{P:Program}{W W':World}{Z:bB}{base:Nat}{ρ:Nat->Value}{Hh:aV}{O:Nat->Prop}
structure ajf (W W':World):Prop where
 os:W'.os=W.os
 output:W'.output=W.output
 heap:∀b,b<W.heap.size->W'.heap[b]? =W.heap[b]?
theorem ajf.at(h:ajf W W'){p:MemPlace}(hp:p.block<W.heap.size):W.sameAt W' p:=by
 have e:=h.heap p.block hp;cases p with
 |cell b o=>exact(mU (o:=o) e)
 |map b=>exact e
theorem abc{ts:List TypeId}(hl:laidOutB P=true)(hp:ts.all (λt=>P.readableRec t&&decide (t<P.types.size))=true){sp':Nat->Bool}(hs:ajf W W'):∀{vs:List Value} {ds:List (DataW H)} {ps:List MemPlace},
 DataW.TrodAll enc P W 0 (λ_=>true) true ts vs ds ps->(∀p∈ps,p.block<W.heap.size)->(∀p∈ps,sp' p.block=true)->DataW.TrodAll enc P W' 0 sp' true ts vs ds ps:=by
 induction ts with
 |nil=>intro vs ds ps h _ _;cases vs<;>cases ds<;>simp[DataW.TrodAll]at h ⊢;exact h
 |cons t ts ih=>
  intro vs ds ps h bA hsp;simp only[all_cons,and_eq_true,decide_eq_true_eq]at hp;obtain⟨v,vs',d,ds',p,q,rfl,rfl,rfl,h1,h2⟩:=trodAll_cons h;refine⟨p,q, ?_,ih hp.2 h2 (λx hx=>bA x (by simp[hx])) (λx hx=>hsp x (by simp[hx])),rfl⟩;exact WideElems.Trod_stays hl hp.1.1 hp.1.2 h1 (λx hx=>hs.at (bA x (by simp[hx]))) (λx hx=>hsp x (by simp[hx]))
theorem ajg(hs:ajf W W')(may:MemPlace->Prop):W.keptBut W' may:=by
 refine⟨hs.os,hs.output,λi hi=> ?_⟩;rw[hs.heap i hi,Array.getElem?_eq_getElem hi];cases h:W.heap[i]with
 |cells c t fr=>exact⟨rfl,rfl,rfl,λ_ _=>rfl⟩
 |map es clock=>exact .inr ⟨rfl,rfl⟩
 |_=>rfl
theorem ajh{fn:Func}{s:ChangeSpec}{apart fresh handsOn:Bool}{args:Array Value}{ds gs:List (DataW H)}{before:List MemPlace}{tb:TypeId}
 (hl:laidOutB P=true) (hp:fn.params.toList.all (λt=>P.readableRec t&&decide (t<P.types.size))=true)
 (hr:fn.resultTypes= #[tb]) (hb:P.underlying tb=some .bool) (hv:s.vars=[])
 (hs:s.fn H ds={results:=[.lit (.bool true)],args:=ds})
 (hW:DataW.Whole enc P fn.params.toList s.vars apart W args.toList ds gs before) (ag9:ajf W W'):
 s.post enc P fn apart fresh handsOn false W args (.bool true) W':=by
 have hW':=hW;obtain⟨p,q,h1,h2,rfl,_,_⟩:=hW;rw[hv]at h2;obtain⟨rfl,rfl⟩:=trodVars_none h2;have bA:∀x∈p,x.block<W.heap.size:=λx hx=>hW'.lt x (by simp[hx]);refine⟨ds,[],p++[],[],p,[],hW', ?_, ?_, ?_,ajg ag9 _,λh=>by cases h⟩;rw[append_nil,hs,hr];exact trodAll_mk1 (shut_bool hb true);rw[append_nil,hs];exact abc hl hp ag9 h1 bA (λx hx=>by simpa using bA x hx);rw[hv,append_nil,hs];rfl
end
def acX(P:Program)(rec:TypeId->Option (List CK)):List Field->Nat->Option (List CK)
 |[],_=>some []
 |f::fs,off=>match rec f.type with
  |some cs=>bif f.offset.beq off&&(P.cellsOf f.type).beq (CL.wide cs)then(acX P rec fs (off+CL.wide cs)).map (cs++ ·)else none
  |none=>none
def uS(P:Program):Nat->TypeId->Option (List CK)
 |0,_=>none
 |d+1,t=>
  match P.underlying t with
  |some (.int k)=>some [.int k]
  |some .bool=>some [.bool]
  |some .string=>some [.ag]
  |some (.slice e)=>(match P.underlying e with
   |some (.int k)=>bif (P.cellsOf e).beq 1 then some [.aw k]else none
   |some .string=>bif (P.cellsOf e).beq 1 then some [.strs]else none
   |some .bool=>bif (P.cellsOf e).beq 1 then some [.bY]else none
   |_=>(uS P d e).bind λcs=>bif (P.cellsOf e).beq (CL.wide cs)&&(1:Nat).ble (CL.wide cs)then some [.rows cs]else none)
  |some (.struct fs)=>(acX P (uS P d) fs.toList 0).bind λcs=>bif (P.cellsOf t).beq (CL.wide cs)then some cs else none
  |some (.array n e)=>(match P.underlying e with
   |some (.int k)=>bif (P.cellsOf e).beq 1&&(P.cellsOf t).beq n then some [.arr k n]else none
   |_=>none)
  |_=>none
mutual
def CK.wf:(c:CK)->c.V->Prop
 |.int k,n=>(Lit.int k n).wf=true
 |.bool,_=>True
 |.ag,s=>ByteArray.size s<=maxLen
 |.aw k,zs=>List.length (show List Int from zs)<=maxLen/\∀n∈(show List Int from zs),(Lit.int k n).wf=true
 |.strs,ss=>List.length (show List ByteArray from ss)<=maxLen/\∀s∈(show List ByteArray from ss),s.size<=maxLen
 |.bY,bs=>List.length (show List Bool from bs)<=maxLen
 |.rows cs,xs=>List.length (show List (CL cs)from xs)<=maxLen/\∀x∈(show List (CL cs)from xs),CL.wf cs x
 |.arr k n,ws=>List.length (α:=Int) ws=n/\∀m∈(show List Int from ws),(Lit.int k m).wf=true
def CL.wf:(cs:List CK)->CL cs->Prop
 |[],_=>True
 |c::cs,x=>c.wf x.1/\CL.wf cs x.2
end
def CL.app:(aS:List CK)->{bs:List CK}->CL aS->CL bs->CL (aS++bs)
 |[],_,_,y=>y
 |_::aS,_,x,y=>(x.1,CL.app aS x.2 y)
theorem CL.acY:∀(aS bs:List CK),CL.wide (aS++bs)=CL.wide aS+CL.wide bs
 |[],bs=>by simp[CL.wide]
 |a::aS,bs=>by simp only[cons_append,CL.wide,CL.acY aS bs];omega
theorem abd{i n:Nat}(h:i<n):i.blt n=true:=by simpa[Nat.blt,Nat.lt_iff_add_one_le]using h
theorem afx{i n:Nat}(h:n<=i):i.blt n=false:=by
 cases hb:i.blt n;rfl;have:i<n:=by simpa[Nat.blt,Nat.lt_iff_add_one_le]using hb
 omega
theorem CL.zJ:∀(aS:List CK) {bs:List CK} (x:CL aS) (y:CL bs) {j:Nat},j<CL.wide aS->CL.cell (aS++bs) (CL.app aS x y) j=CL.cell aS x j
 |[],_,_,_,j,h=>by simp[CL.wide]at h
 |a::aS,bs,x,y,j,h=>by
  simp only[cons_append,CL.cell,CL.app];rcases lt_or_ge j a.wide with h1|h1;rw[abd h1];rfl;rw[afx h1];simp only[cond_false];exact CL.zJ aS x.2 y (by simp only[CL.wide]at h;omega)
theorem CL.zK:∀(aS:List CK) {bs:List CK} (x:CL aS) (y:CL bs) {j:Nat},CL.wide aS<=j->CL.cell (aS++bs) (CL.app aS x y) j=CL.cell bs y (j - CL.wide aS)
 |[],_,_,_,j,h=>by simp[CL.wide,CL.app]
 |a::aS,bs,x,y,j,h=>by
  simp only[CL.wide]at h;simp only[cons_append,CL.cell,CL.app];rw[afx (by omega)];simp only[cond_false,CL.wide];rw[CL.zK aS x.2 y (by omega)];congr 1;omega
theorem CL.alc:∀(aS:List CK) {bs:List CK} (x:CL aS) (y:CL bs),CL.wf aS x->CL.wf bs y->CL.wf (aS++bs) (CL.app aS x y)
 |[],_,_,_,_,h=>h
 |a::aS,bs,x,y,h1,h2=>by
  simp only[CL.wf]at h1;simp only[cons_append,CL.wf,CL.app];exact⟨h1.1,CL.alc aS x.2 y h1.2 h2⟩
theorem asZ{α β:Type}(f:α->β)(xs:List α)(d:β)(da:α){i:Nat}(hi:i<xs.length):(xs.map f).getD i d=f (xs.getD i da):=by simp[List.getD,hi]
theorem abe{α:Type}{p:Nat->α->Prop}:∀(n:Nat),(∀i,i<n->∃y,p i y)->∃xs:List α,xs.length=n/\∀i (h:i<xs.length),p i xs[i]
 |0,_=>⟨[],rfl,λi h=>by simp at h⟩
 |n+1,h=>by
  have⟨xs,h1,h2⟩:=abe n (λi hi=>h i (by omega));have⟨y,hy⟩:=h n (by omega);refine⟨xs++[y],by simp[h1],λi hi=> ?_⟩;by_cases bA:i<xs.length;rw[List.getElem_append_left bA];exact h2 i bA;have:i=n:=by simp at hi;omega
  subst this;rw[List.getElem_append_right (by omega)];simpa[h1]using hy
section
variable{H:Type}{enc:TypeId×Value->H}{P:Program}{W:World}{base:Nat}{ρ:Nat->Value}{Hh:aV}
abbrev FD(W:World)(cs:List CK)(y:CL cs)(get:Nat->Option Value):Prop:=∀j,j<CL.wide cs->∃u,get j=some u/\bg (λ_=>False) W (CL.cell cs y j) u
theorem aha{d n:Nat}{cells:List Value}(ih:∀{t:TypeId} {cs:List CK} {fuel:Nat} {cells:List Value} {x:DataW H×List MemPlace},uS P d t=some cs->DataW.trod enc P W 0 (λ_=>true) true fuel t cells=some x->
 cells.length=CL.wide cs/\∃y:CL cs,CL.wf cs y/\FD W cs y λj=>cells[j]?):
 ∀(fs:List Field) {off:Nat} {cs:List CK},acX P (uS P d) fs off=some cs->(∀f∈fs,∃x,DataW.trod enc P W 0 (λ_=>true) true n f.type ((cells.drop f.offset).take (P.cellsOf f.type))=some x)->
  ∃y:CL cs,CL.wf cs y/\FD W cs y λj=>cells[off+j]?
 |[],off,cs,h,_=>by
  simp only[acX,Option.some.injEq]at h;subst h;exact⟨(),trivial,λj hj=>by simp[CL.wide]at hj⟩
 |f::fs,off,cs,h,hx=>by
  simp only[acX]at h;split at h;rename_i c1 hc1;rw[cond_eq_ite]at h;split at h;rename_i hb;simp only[and_eq_true,beq_eq]at hb;have⟨ho,hw⟩:=hb;obtain⟨c2,hc2,rfl⟩:=map_eq_some_iff.1 h;have⟨x,hf⟩:=hx f (by simp);have⟨h1,y1,h2,h3⟩:=ih hc1 hf;have⟨y2,h4,h5⟩:=aha ih fs hc2 (λg hg=>hx g (by simp[hg]));refine⟨CL.app c1 y1 y2,CL.alc c1 y1 y2 h2 h4,λj hj=> ?_⟩;rw[CL.acY]at hj;rcases lt_or_ge j (CL.wide c1)with h6|h6;have⟨u,h7,h8⟩:=h3 j h6;refine⟨u, ?_,by rw[CL.zJ c1 y1 y2 h6];exact h8⟩;dsimp only at h7 ⊢;rw[getElem?_take,if_pos (by omega),List.getElem?_drop,ho]at h7;exact h7;have⟨u,h7,h8⟩:=h5 (j - CL.wide c1) (by omega);refine⟨u, ?_,by rw[CL.zK c1 y1 y2 h6];exact h8⟩;dsimp only at h7 ⊢;rw[show off+j=off+CL.wide c1+(j - CL.wide c1)from by omega];exact h7;cases h;cases h
theorem rK{t e:TypeId}{cs:List CK}{fuel:Nat}{cells:List Value}{x:DataW H×List MemPlace}(ht:P.underlying t=some (.slice e))(hw:P.cellsOf e=CL.wide cs)(h1:1<=CL.wide cs)
 (ih:∀{fuel:Nat} {cells:List Value} {x:DataW H×List MemPlace},DataW.trod enc P W 0 (λ_=>true) true fuel e cells=some x->cells.length=CL.wide cs/\∃y:CL cs,CL.wf cs y/\FD W cs y λj=>cells[j]?)
 (h:DataW.trod enc P W 0 (λ_=>true) true fuel t cells=some x):
 ∃(v:Value) (xs:List (CL cs)),cells=[v]/\xs.length<=maxLen/\(∀y∈xs,CL.wf cs y)/\bg (λ_=>False) W (.ro (.az cs xs)) v:=by
 rcases DataW.trod_slice ht h with⟨rfl,_⟩|⟨a,len,cap,elems,rest,n,_,rfl,_,_,hl,hm,bK,hel,_,_⟩;exact⟨_,[],rfl,zero_le _,by simp,.ro (.az cs []) none 0 (λ_ _=>undef) 0 0 (le_refl _) (zero_le _) (λh=>by simp[a8.n]at h) (λi j hi hj=>by simp[a8.n]at hi) (λi j hi hj=>by simp[a8.n]at hi)⟩
 have each:∀i,i<len->∃y:CL cs,CL.wf cs y/\FD W cs y λj=>W.cell? ((a.add (i*CL.wide cs)).add j):=by
  intro i hi;have h2:=hel i hi;rw[getElem?_eq_getElem (by omega),hw]at h2;have⟨cl,h3,h4⟩:=bind_eq_some_iff.1 h2;have⟨_,h5,h6⟩:=World.cells?_some h3;have⟨_,y,h7,h8⟩:=ih h4;refine⟨y,h7,λj hj=> ?_⟩;have⟨u,h9,uP⟩:=h8 j hj;exact⟨u,by dsimp only;rw[h6 j (by omega)];exact h9,uP⟩
 have⟨xs,hx1,hx2⟩:=abe len each;refine⟨_,xs,rfl,by omega,λy hy=> ?_, ?_⟩;obtain⟨i,hi,rfl⟩:=List.getElem_of_mem hy;exact(hx2 i hi).1;have hn:(a8.az cs xs).n=len:=hx1;rcases Nat.eq_zero_or_pos len with h0|h0;have ad:=bg.ro (O:=λ_=>False) (w:=W) (.az cs xs) (some a) cap (λ_ _=>undef) 0 0 (by omega) hm (λh=>by omega) (λi j hi hj=>by omega) (λi j hi hj=>by omega);rw[hn]at ad;exact ad
 have ark:a.spot=none:=by
  have⟨u,h9,_⟩:=(hx2 0 (by omega)).2 0 (by omega);simpa[Addr.add]using World.cell?_spot h9
 have⟨b,off,spot⟩:=a;simp only at ark;subst ark
 have hc:∀i j,i<len->j<CL.wide cs->∃u,W.cell? ⟨b,off+i*CL.wide cs+j,none⟩=some u/\bg (λ_=>False) W (CL.cell cs (xs.getD i (CL.d cs)) j) u:=by
  intro i j hi hj;have⟨u,h9,uP⟩:=(hx2 i (by omega)).2 j hj;dsimp only at h9;rw[bp,bp]at h9;exact⟨u,h9,by simpa[List.getD,hx1,hi]using uP⟩
 have ad:=bg.ro (O:=λ_=>False) (w:=W) (.az cs xs) (some ⟨b,off,none⟩) cap (λi j=>(W.cell? ⟨b,off+i*CL.wide cs+j,none⟩).getD undef) b off (by omega) hm (λ_=>⟨rfl,λh=>h, ?_⟩) (λi j hi hj=> ?_) (λi j hi hj=> ?_);rw[hn]at ad;exact ad;have⟨u,h9,_⟩:=hc 0 0 h0 (by omega);rcases lt_or_ge b W.heap.size with h2|h2;exact h2;simp[cell?,Array.getElem?_eq_none h2]at h9;have⟨u,h9,_⟩:=hc i j (by omega) hj;show W.cell? ⟨b,off+i*CL.wide cs+j,none⟩=_;rw[h9];rfl;have⟨u,h9,uP⟩:=hc i j (by omega) hj;rw[h9];exact uP
theorem vj:∀(d:Nat) {t:TypeId} {cs:List CK} {fuel:Nat} {cells:List Value} {x:DataW H×List MemPlace},uS P d t=some cs->DataW.trod enc P W 0 (λ_=>true) true fuel t cells=some x->
 cells.length=CL.wide cs/\∃y:CL cs,CL.wf cs y/\FD W cs y λj=>cells[j]?
 |0,t,cs,fuel,cells,x,h,_=>by simp[uS]at h
 |d+1,t,cs,fuel,cells,x,h,hd=>by
  simp only[uS]at h
  have one:∀{c:CK} {v:Value} (y:c.V),c.wide=1->CK.wf c y->bg (λ_=>False) W (c.cell y 0) v->([v]:List Value).length=CL.wide [c]/\∃y:CL [c],CL.wf [c] y/\FD W [c] y λj=>([v]:List Value)[j]? :=by
   intro c v y hw hy hv;refine⟨by simp[CL.wide,hw],(y,()),⟨hy,trivial⟩,λj hj=> ?_⟩;simp only[CL.wide,hw]at hj;obtain rfl:j=0:=by omega
   refine⟨v,rfl, ?_⟩;simp only[CL.cell,hw];exact hv
  split at h;rename_i k ht;simp only[Option.some.injEq]at h;subst h;obtain⟨n,rfl,_,hw⟩:=DataW.trod_int ht hd;exact one (c:=.int k) n rfl hw (.int k n);rename_i ht;simp only[Option.some.injEq]at h;subst h;obtain⟨b,rfl,_⟩:=DataW.trod_bool ht hd;exact one (c:=.bool) b rfl trivial (.bool b);rename_i ht;simp only[Option.some.injEq]at h;subst h;obtain⟨s,rfl,_,hs⟩:=DataW.trod_string ht hd;exact one (c:=.ag) s rfl hs (.ag s);rename_i e ht;split at h;rename_i k he;rw[cond_eq_ite]at h;split at h;rename_i hw;have hw:P.cellsOf e=1:=by simpa using hw
  simp only[Option.some.injEq]at h;subst h
  obtain⟨v,xs,rfl,h0,h1,h2⟩:=rK (cs:=[.int k]) ht hw (le_refl _) (λ{fuel cells x} hx=>by
   obtain⟨n,rfl,_,hwf⟩:=DataW.trod_int he hx;exact one (c:=.int k) n rfl hwf (.int k n)) hd
  refine one (c:=.aw k) (xs.map λy:CL [.int k]=>(show Int from y.1)) rfl ⟨by rw[length_map];exact h0,λn hn=> ?_⟩ (na (c:=.az [.int k] xs) ?_ rfl ?_ h2);obtain⟨y,hy,rfl⟩:=mem_map.1 hn;exact(h1 y hy).1;exact length_map _;intro i j hi hj;have hj:j<1:=hj;obtain rfl:j=0:=by omega
  have hi:i<xs.length:=hi;exact congrArg (SV.int k) (asZ (λy:CL [.int k]=>(show Int from y.1)) xs 0 (CL.d [.int k]) hi);cases h;rename_i he;rw[cond_eq_ite]at h;split at h;rename_i hw;have hw:P.cellsOf e=1:=by simpa using hw
  simp only[Option.some.injEq]at h;subst h
  obtain⟨v,xs,rfl,h0,h1,h2⟩:=rK (cs:=[.ag]) ht hw (le_refl _) (λ{fuel cells x} hx=>by
   obtain⟨n,rfl,_,hwf⟩:=DataW.trod_string he hx;exact one (c:=.ag) n rfl hwf (.ag n)) hd
  refine one (c:=.strs) (xs.map λy:CL [.ag]=>(show ByteArray from y.1)) rfl ⟨by rw[length_map];exact h0,λn hn=> ?_⟩ (na (c:=.az [.ag] xs) ?_ rfl ?_ h2);obtain⟨y,hy,rfl⟩:=mem_map.1 hn;exact(h1 y hy).1;exact length_map _;intro i j hi hj;have hj:j<1:=hj;obtain rfl:j=0:=by omega
  have hi:i<xs.length:=hi;exact congrArg (SV.ag) (asZ (λy:CL [.ag]=>(show ByteArray from y.1)) xs empty (CL.d [.ag]) hi);cases h;rename_i he;rw[cond_eq_ite]at h;split at h;rename_i hw;have hw:P.cellsOf e=1:=by simpa using hw
  simp only[Option.some.injEq]at h;subst h
  obtain⟨v,xs,rfl,h0,h1,h2⟩:=rK (cs:=[.bool]) ht hw (le_refl _) (λ{fuel cells x} hx=>by
   obtain⟨n,rfl,_⟩:=DataW.trod_bool he hx;exact one (c:=.bool) n rfl trivial (.bool n)) hd
  refine one (c:=.bY) (xs.map λy:CL [.bool]=>(show Bool from y.1)) rfl (by show List.length (List.map _ xs)<=maxLen;rw[length_map];exact h0) (na (c:=.az [.bool] xs) ?_ rfl ?_ h2);exact length_map _;intro i j hi hj;have hj:j<1:=hj;obtain rfl:j=0:=by omega
  have hi:i<xs.length:=hi;exact congrArg (SV.bool) (asZ (λy:CL [.bool]=>(show Bool from y.1)) xs false (CL.d [.bool]) hi);cases h;have⟨j8,h1,h2⟩:=bind_eq_some_iff.1 h;rw[cond_eq_ite]at h2;split at h2;rename_i hb;simp only[and_eq_true,beq_eq]at hb;have⟨hw,hw1⟩:=hb;have hw1:=le_of_ble_eq_true hw1;simp only[Option.some.injEq]at h2;subst h2;obtain⟨v,xs,rfl,h0,h3,h4⟩:=rK (cs:=j8) ht hw hw1 (λhx=>vj d h1 hx) hd;exact one (c:=.rows j8) xs rfl ⟨h0,h3⟩ h4;cases h2;rename_i fs ht;have⟨j8,h1,h2⟩:=bind_eq_some_iff.1 h;rw[cond_eq_ite]at h2;split at h2;rename_i hw;have hw:P.cellsOf t=CL.wide j8:=by simpa using hw
  simp only[Option.some.injEq]at h2;subst h2;have⟨xs,n,_,_,h3,h4,h5⟩:=DataW.trod_struct ht hd
  have⟨y,h6,h7⟩:=aha (enc:=enc) (n:=n) (cells:=cells) (λh1 h2=>vj d h1 h2) fs.toList h1 (λf hf=>by
   obtain⟨i,hi,rfl⟩:=List.getElem_of_mem hf;have fG:i<fs.size:=by simpa using hi
   have:=h5 i fs[i] (Array.getElem?_eq_getElem fG);rw[getElem?_eq_getElem (by omega)]at this;exact⟨_,by simpa using this⟩)
  refine⟨by omega,y,h6,λj hj=> ?_⟩;have:=h7 j hj;simpa using this;cases h2;rename_i n e ht;split at h;rename_i k he;rw[cond_eq_ite]at h;split at h;rename_i hb;simp only[and_eq_true,beq_eq]at hb;have⟨hw,hwt⟩:=hb;simp only[Option.some.injEq]at h;subst h;have⟨xs,m,_,_,h1,h2,h3⟩:=DataW.trod_array ht hd
  have each:∀i,i<n->∃z:Int,(Lit.int k z).wf=true/\cells[i]? =some (.int k z):=by
   intro i hi;have h4:=h3 i hi;rw[getElem?_eq_getElem (by omega),hw]at h4;have⟨z,h5,_,h6⟩:=DataW.trod_int he h4;refine⟨z,h6, ?_⟩;have h7:((cells.drop (i*1)).take 1)[0]? =some (.int k z):=by rw[h5];rfl
   rw[getElem?_take,if_pos (by omega),List.getElem?_drop]at h7;simpa using h7
  have⟨zs,hz1,hz2⟩:=abe n each;refine⟨by simp[CL.wide,CK.wide];omega,(zs,()),⟨⟨hz1,λz hz=> ?_⟩,trivial⟩,λj hj=> ?_⟩;obtain⟨i,hi,rfl⟩:=List.getElem_of_mem (show z∈zs from hz);exact(hz2 i hi).1;simp only[CL.wide,CK.wide,add_zero]at hj;refine⟨.int k zs[j],(hz2 j (by omega)).2, ?_⟩;simp only[CL.cell,CK.wide];rw[abd hj];show bg _ _ (.int k (zs.getD j 0)) _;rw[show zs.getD j 0=zs[j]from by simp[List.getD,hz1,hj]];exact .int k _;cases h;cases h;cases h
def RK.ck:RK->CK
 |.aw k=>.aw k
 |.strs=>.strs
 |.bY=>.bY
 |.az cs=>.rows cs
def B.ck:B->CK
 |.int k=>.int k
 |.bool=>.bool
 |.ag=>.ag
 |.row r _=>r.ck
 |.mA r _=>r.ck
 |.arr k n=>.arr k n
 |.fn=>.bool
def B.aoL:B->Bool
 |.fn=>false
 |_=>true
def RK.of:(r:RK)->r.ck.V->r.V
 |.aw _,y=>y
 |.strs,y=>y
 |.bY,y=>y
 |.az _,y=>y
def B.of:(b:B)->b.ck.V->b.V
 |.int _,y=>y
 |.bool,y=>y
 |.ag,y=>y
 |.row r _,y=>r.of y
 |.mA r _,y=>r.of y
 |.arr _ _,y=>y
 |.fn,_=>(0:Nat)
def RK.wf:(r:RK)->r.V->Prop
 |.aw k,x=>∀n∈x,(Lit.int k n).wf=true
 |.strs,x=>∀s∈x,ByteArray.size s<=maxLen
 |.bY,_=>True
 |.az cs,x=>∀y∈x,CL.wf cs y
def B.wf:(b:B)->b.V->Prop
 |.int k,n=>(Lit.int k n).wf=true
 |.ag,s=>ByteArray.size s<=maxLen
 |.row r _,x=>r.wf x
 |.mA r _,x=>r.wf x
 |.arr k n,ws=>List.length (α:=Int) ws=n/\∀m∈(show List Int from ws),(Lit.int k m).wf=true
 |_,_=>True
def BL.wf:(bs:List B)->BL bs->Prop
 |[],_=>True
 |b::bs,(x,y)=>b.wf x/\BL.wf bs y
def Ty.wf:(t:Ty)->t.V->Prop
 |.b q,x=>q.wf x
 |.st bs,x=>BL.wf bs x
def AL.wf:(ts:List Ty)->AL ts->Prop
 |[],_=>True
 |t::ts,(x,y)=>t.wf x/\AL.wf ts y
def BL.of:(bs:List B)->CL (bs.map B.ck)->BL bs
 |[],_=>()
 |b::bs,y=>(b.of y.1,BL.of bs y.2)
theorem B.arl{b:B}{y:b.ck.V}(h:CK.wf b.ck y):b.wf (b.of y):=by
 cases b with
 |int k=>exact h
 |bool=>trivial
 |ag=>exact h
 |row r e=>cases r<;>first|exact h.2|trivial
 |mA r e=>cases r<;>first|exact h.2|trivial
 |arr k n=>exact h
 |fn=>trivial
theorem B.wT{b:B}(hb:b.aoL=true){y:b.ck.V}(hy:CK.wf b.ck y){cells:List Value}(hl:cells.length=b.ck.wide)(h:∀j,j<b.ck.wide->∃u,cells[j]? =some u/\bg (λ_=>False) W (b.ck.cell y j) u):
 aU ρ Hh (λ_=>False) W (b.av (b.of y)) cells:=by
 have one:b.ck.wide=1->∃u,cells=[u]/\bg (λ_=>False) W (b.ck.cell y 0) u:=by
  intro h1;have⟨u,h2,h3⟩:=h 0 (by omega);rw[h1]at hl
  match cells,hl with
  |[v],_=>simp only[List.getElem?_cons_zero,Option.some.injEq]at h2;subst h2;exact⟨v,rfl,h3⟩
 cases b with
 |int k=>obtain⟨u,rfl,h2⟩:=one rfl;show aU _ _ _ _ (.s (.int k y)) _;unfold aU;exact⟨u,rfl,h2⟩
 |bool=>obtain⟨u,rfl,h2⟩:=one rfl;show aU _ _ _ _ (.s (.bool y)) _;unfold aU;exact⟨u,rfl,h2⟩
 |ag=>obtain⟨u,rfl,h2⟩:=one rfl;show aU _ _ _ _ (.s (.ag y)) _;unfold aU;exact⟨u,rfl,h2⟩
 |row r e=>
  obtain⟨u,rfl,h2⟩:=one (by cases r<;>rfl);show aU _ _ _ _ (.s (.ro (r.ve (r.of y)))) _;unfold aU;exact⟨u,rfl,by cases r<;>exact h2⟩
 |mA r e=>
  obtain⟨u,rfl,h2⟩:=one (by cases r<;>rfl);show aU _ _ _ _ (.s (.ro (r.ve (r.of y)))) _;unfold aU;exact⟨u,rfl,by cases r<;>exact h2⟩
 |arr k n=>
  show aU _ _ _ _ (.aw k n y) _;unfold aU
  have ad:∀ys:List Int,ys.length=n->(∀j,j<n->∃u,cells[j]? =some u/\bg (λ_=>False) W (.int k (ys.getD j 0)) u)->cells.length=n->cells=ys.map (Value.int k):=by
   intro ys h1 h2 h3;refine List.ext_getElem (by rw[h3,length_map,h1]) λj h4 h5=> ?_;have⟨u,h6,h7⟩:=h2 j (by omega);cases h7;rw[getElem?_eq_getElem h4,Option.some.injEq]at h6;rw[h6,List.getElem_map];congr 1;simp[List.getD,show j<ys.length by omega]
  exact⟨hy.1,ad y hy.1 h hl⟩
 |fn=>cases hb
theorem BL.wT:∀{bs:List B},bs.all B.aoL=true->∀{y:CL (bs.map B.ck)},CL.wf (bs.map B.ck) y->∀{cells:List Value},cells.length=CL.wide (bs.map B.ck)->(FD W (bs.map B.ck) y λj=>cells[j]?)->
 BL.wf bs (BL.of bs y)/\aE ρ Hh (λ_=>False) W (BL.av bs (BL.of bs y)) cells
 |[],_,y,_,cells,hl,_=>⟨trivial,aH.2 (List.eq_nil_of_length_eq_zero hl)⟩
 |b::bs,hb,y,hy,cells,hl,h=>by
  simp only[all_cons,and_eq_true]at hb;simp only[map_cons,CL.wide]at hl;have hy:CK.wf b.ck y.1/\CL.wf (bs.map B.ck) y.2:=hy;have h:∀j,j<b.ck.wide+CL.wide (bs.map B.ck)->∃u,cells[j]? =some u/\bg (λ_=>False) W (bif j.blt b.ck.wide then b.ck.cell y.1 j else CL.cell (bs.map B.ck) y.2 (j - b.ck.wide)) u:=h
  have⟨h1,h2⟩:=BL.wT hb.2 (y:=y.2) hy.2 (cells:=cells.drop b.ck.wide) (by rw[length_drop];omega) (λj hj=>by
   have⟨u,h3,h4⟩:=h (b.ck.wide+j) (by omega);rw[afx (by omega),cond_false,Nat.add_sub_cancel_left]at h4;exact⟨u,by dsimp only;rw[List.getElem?_drop];exact h3,h4⟩)
  refine⟨⟨B.arl hy.1,h1⟩,ao.2 ⟨cells.take b.ck.wide,cells.drop b.ck.wide,(List.take_append_drop _ _).symm,B.wT hb.1 hy.1 (by rw[length_take];omega) (λj hj=> ?_),h2⟩⟩;have⟨u,h3,h4⟩:=h j (by omega);rw[abd hj,cond_true]at h4;exact⟨u,by rw[getElem?_take,if_pos hj];exact h3,h4⟩
def Ty.lay(P:Program)(t:TypeId):Ty->Bool
 |.b q=>q.aoL&&(uS P 12 t).any (λcs=>(CL.eq cs [q.ck]).isSome)&&(match P.underlying t,q with
  |some (.array _ _),.arr _ _=>true
  |some (.struct _),_=>false
  |some (.array _ _),_=>false
  |_,.arr _ _=>false
  |_,_=>true)
 |.st bs=>bs.all B.aoL&&(uS P 12 t).any (λcs=>(CL.eq cs (bs.map B.ck)).isSome)&&(match P.underlying t with
  |some (.struct _)=>true
  |_=>false)
theorem ald{d:Nat}{t:TypeId}{j8:List CK}(h:(uS P d t).any (λcs=>(CL.eq cs j8).isSome)=true):uS P d t=some j8:=by
 cases hl:uS P d t with
 |none=>simp[hl]at h
 |some cs=>
  rw[hl,Option.any_some]at h;have⟨e,_⟩:=isSome_iff_exists.1 h;rw[e.down]
theorem ale{t:TypeId}{ty:Ty}{v:Value}{d:DataW H}{ps:List MemPlace}(hl:ty.lay P t=true)(kX:Value.okWide P W .any base t v)(hd:DataW.Trod enc P W 0 (λ_=>true) true t v d ps):
 ∃x:ty.V,ty.wf x/\ak ρ Hh (λ_=>False) W (ty.av x) v:=by
 have⟨fuel,hd⟩:=hd;cases ty with
 |st bs=>
  simp only[Ty.lay,and_eq_true]at hl;have⟨⟨h1,h2⟩,h3⟩:=hl;split at h3;rename_i fs ht;simp only[Value.okWide,ht]at kX;obtain⟨cs,rfl,_,_⟩:=kX;have⟨h4,y,h5,h6⟩:=vj 12 (ald h2) hd;have⟨h7,h8⟩:=BL.wT (ρ:=ρ) (Hh:=Hh) h1 h5 h4 h6;refine⟨BL.of bs y,h7, ?_⟩;show ak _ _ _ _ (.agg _) _;unfold ak;exact⟨cs.toList,by simp,h8⟩;cases h3
 |b q=>
  simp only[Ty.lay,and_eq_true]at hl;have⟨⟨h1,h2⟩,h3⟩:=hl;have⟨h4,y,h5,h6⟩:=vj 12 (ald h2) hd;have h4:v.cells.toList.length=q.ck.wide:=by simpa[CL.wide]using h4
  have h5:CK.wf q.ck y.1:=h5.1
  have ad:=B.wT (ρ:=ρ) (Hh:=Hh) h1 h5 h4 (λj hj=>by
   have⟨u,h7,h8⟩:=h6 j (by simp only[CL.wide];omega);simp only[CL.cell]at h8;rw[abd hj,cond_true]at h8;exact⟨u,h7,h8⟩)
  refine⟨q.of y.1,B.arl h5, ?_⟩;show ak _ _ _ _ (q.av _) _
  have single:(∀cs,v≠.agg cs)->(∀k n ws,q.av (q.of y.1)≠.aw k n ws)->ak ρ Hh (λ_=>False) W (q.av (q.of y.1)) v:=by
   intro hna hni;have hc:v.cells.toList=[v]:=by cases v<;>first|rfl|exact absurd rfl (hna _)
   rw[hc]at ad;have⟨u,hu,_,lH⟩:=fZ ad (gW hni) hni;cases hu;exact lH
  by_cases avt:∃k n,q=.arr k n;obtain⟨k,n,rfl⟩:=avt
  obtain⟨n',e',ht⟩:∃n' e',P.underlying t=some (.array n' e'):=by
   cases hu:P.underlying t with
   |none=>simp[hu]at h3
   |some td=>cases td<;>simp[hu]at h3 ⊢
  simp only[Value.okWide,ht]at kX;obtain⟨cs,rfl,_,_⟩:=kX;have ad:aU ρ Hh (λ_=>False) W (.aw k n y.1) cs.toList:=ad;unfold aU at ad;show ak _ _ _ _ (.aw k n y.1) _;unfold ak;exact⟨ad.1,by rw[<-ad.2]⟩
  have kc:(∀fs,P.underlying t≠some (.struct fs))/\∀n e,P.underlying t≠some (.array n e):=by
   cases hu:P.underlying t with
   |none=>simp
   |some td=>cases td<;>cases q<;>simp_all
  refine single (λcs hv=> ?_) (λk n ws he=> ?_);subst hv;unfold Value.okWide at kX;split at kX;rename_i fs ht;exact kc.1 fs ht;rename_i n e ht;exact kc.2 n e ht;simp only[Cell.okWide,Cell.ok]at kX;split at kX<;>simp_all;cases q<;>simp[B.av]at he;exact avt ⟨_,_,rfl⟩
theorem wU{Z:bB}{f:FuncId}{ts:List Ty}{pre:AL ts->List Prop}(h:dO P Z f ts [.b .bool] pre (λ_=>(true,())))(hz:Z.ok W){x:AL ts}{vs:List Value}(hp:bT (pre x))
 (hd:bV (λ_=>undef) (λ_=>none) (λ_=>False) W (AL.av ts x) vs):Calls P f vs.toArray W λe W'=>e=.returned (.bool true)/\ajf W W':=by
 have e0:bd (λ_=>undef) (λ_=>none) (λ_=>False)=λ_=>False:=by
  funext b;refine propext ⟨λh=> ?_,False.elim⟩;rcases h with⟨id,o,ho,_⟩|h;cases ho;exact h
 refine(h x (AL.okL hd) hp (λ_=>False) W vs (λ_ h=>h.elim) hz (by rw[e0];exact hd)).mono ?_;rintro e W' ⟨v,rfl,aQ,_,h2,_,h4⟩;have h5:ak aQ (lk []) (bd aQ (lk []) λ_=>False) W' (.s (.bool true)) v:=h2;have h6:=aC (by simp) h5;cases h6;exact⟨rfl,h4.os,h4.output,λb hb=>h4.heap b hb (λ⟨id,o,ho,_⟩=>by cases ho)⟩
end
end Go.Sx
namespace Go.Sx
open Go
theorem alf(P:Program)(r:List (List Char))(h:behindMainWord (wordsSigns P.initOrder.toList)=[(Char.ofNat 99),(Char.ofNat 117),(Char.ofNat 116)]::r):P.make=some .cut:=by
 unfold Program.make;rw[h];kernel_rfl
theorem aji(P:Program)(r:List (List Char))(h:behindMainWord (wordsSigns P.initOrder.toList)=[(Char.ofNat 99),(Char.ofNat 117),(Char.ofNat 116)]::r)(hs:stripLifts liftWords ([(Char.ofNat 99),(Char.ofNat 117),(Char.ofNat 116)]::r)=([],[(Char.ofNat 99),(Char.ofNat 117),(Char.ofNat 116)]::r)):P.liftsFinal=false:=by
 unfold Program.liftsFinal Program.headLifts;rw[h];dsimp only;rw[hs];kernel_rfl
theorem ajj(P:Program)(r:List (List Char))(h:behindMainWord (wordsSigns P.initOrder.toList)=[(Char.ofNat 99),(Char.ofNat 117),(Char.ofNat 116)]::r)(hs:stripLifts liftWords ([(Char.ofNat 99),(Char.ofNat 117),(Char.ofNat 116)]::r)=([],[(Char.ofNat 99),(Char.ofNat 117),(Char.ofNat 116)]::r))
 (h1:P.laysLater=false) (h2:P.bearsReflect=false) (h3:P.doorFits []=true):P.mayEnter=true:=by
 unfold Program.mayEnter;rw[h];dsimp only;rw[hs,h1,h2];dsimp only;rw[h3];kernel_rfl
def wV(P:Program)(f:FuncId)(fn:Func)(s:ChangeSpec)(c:OpenClaim):{b:Bool // P.mayEnter=true→P.liftsFinal=false→P.make=some .cut→joinedFacts P f fn s c=b}:=by
 refine⟨?b,fun h1 h2 h3=> ?h⟩
 case h=>
  unfold joinedFacts;rw[h1,h2,h3]
theorem afy{P:Program}{f:FuncId}{fn:Func}{s:ChangeSpec}{c:OpenClaim}(r:List (List Char))(h:behindMainWord (wordsSigns P.initOrder.toList)=[(Char.ofNat 99),(Char.ofNat 117),(Char.ofNat 116)]::r)(hs:stripLifts liftWords ([(Char.ofNat 99),(Char.ofNat 117),(Char.ofNat 116)]::r)=([],[(Char.ofNat 99),(Char.ofNat 117),(Char.ofNat 116)]::r))
 (h1:P.laysLater=false) (h2:P.bearsReflect=false) (h3:P.doorFits []=true) (hr:(wV P f fn s c).1=true):joinedFacts P f fn s c=true:=
 ((wV P f fn s c).2 (ajj P r h hs h1 h2 h3) (aji P r h hs) (alf P r h)).trans hr
end Go.Sx
namespace Go.Proofs.YthhcofcdkdknoaaGreatDoor.Hd
set_option maxRecDepth 100000 in
def ioL : List Char := [104, 97, 114, 110, 101, 115, 115, 32, 100, 54, 48, 99, 102, 99, 99, 97, 99, 56, 98, 57, 101, 98, 97, 100, 56, 50, 101, 50, 56, 101, 53, 99, 53, 57, 100, 49, 56, 57, 54, 51, 56, 48, 54, 98, 101, 50, 57, 53, 48, 56, 54, 52, 50, 56, 99, 102, 55, 100, 99, 49, 55, 97, 100, 53, 57, 55, 102, 97, 48, 55, 49, 53, 32, 99, 117, 116, 32, 97, 116, 32, 99, 97, 108, 108, 98, 111, 97, 114, 100, 47, 99, 97, 108, 108, 98, 111, 97, 114, 100, 108, 97, 119, 48, 55, 46, 84, 114, 101, 101, 80, 108, 97, 121, 115, 32, 99, 97, 108, 108, 98, 111, 97, 114, 100, 47, 99, 97, 108, 108, 98, 111, 97, 114, 100, 108, 97, 119, 48, 56, 46, 83, 116, 111, 114, 101, 78, 97, 109, 101, 115, 32, 99, 97, 108, 108, 98, 111, 97, 114, 100, 47, 99, 97, 108, 108, 98, 111, 97, 114, 100, 108, 97, 119, 48, 56, 46, 83, 116, 111, 114, 101, 77, 111, 100, 101, 108, 32, 99, 97, 108, 108, 98, 111, 97, 114, 100, 47, 99, 97, 108, 108, 98, 111, 97, 114, 100, 108, 97, 119, 48, 56, 46, 83, 116, 111, 114, 101, 80, 97, 103, 101, 115, 32, 99, 97, 108, 108, 98, 111, 97, 114, 100, 47, 99, 97, 108, 108, 98, 111, 97, 114, 100, 108, 97, 119, 48, 56, 46, 83, 116, 111, 114, 101, 80, 108, 97, 121, 115, 32, 99, 97, 108, 108, 98, 111, 97, 114, 100, 47, 99, 97, 108, 108, 98, 111, 97, 114, 100, 108, 97, 119, 48, 56, 46, 83, 116, 111, 114, 101, 67, 114, 97, 115, 104].map Char.ofNat
set_option maxRecDepth 100000 in
theorem ioE:Tryz.prog.initOrder=String.ofList ioL:=by kernel_rfl
theorem ioT:Tryz.prog.initOrder.toList=ioL:=by rw[ioE];exact String.toList_ofList
def ahb:List (List Char):=(wordsSigns ioL).drop 3
theorem hb:behindMainWord (wordsSigns Tryz.prog.initOrder.toList)=[Char.ofNat 99,Char.ofNat 117,Char.ofNat 116]::ahb:=by rw[ioT];kernel_rfl
theorem a1:Tryz.prog.laysLater=false:=by kernel_rfl
theorem a2:Tryz.prog.bearsReflect=false:=by kernel_rfl
theorem a3:stripLifts liftWords ([Char.ofNat 99,Char.ofNat 117,Char.ofNat 116]::ahb)=([],[Char.ofNat 99,Char.ofNat 117,Char.ofNat 116]::ahb):=by kernel_rfl
theorem a5:Tryz.prog.doorFits []=true:=by kernel_rfl
theorem ay:ownKnob Tryz.prog.godebug=none:=by kernel_rfl
theorem laidOut:laidOutB Tryz.prog=true:=by kernel_rfl
end Go.Proofs.YthhcofcdkdknoaaGreatDoor.Hd
namespace Go.Sx
open Go
structure Spec (X:Type)where
 args:X->List AV
 heap:X->List au
 pre:X->List Prop
 eG:X->List au
 out:X->AV
def gE(P:Program)(Z:bB)(f:FuncId){X:Type}(S:Spec X):Prop:=
 ∀x,bT (S.pre x)->∀(ρ:Nat->Value) (G:Nat->Prop) (w:World) (vs:List Value),ZAt Z ρ (lk (S.heap x)) w->Sat ρ (lk (S.heap x)) G w->
  bV ρ (lk (S.heap x)) (bd ρ (lk (S.heap x)) G) w (S.args x) vs->
  Calls P f vs.toArray w λe w'=>∃v,e=.returned v/\Good ρ (lk (S.heap x)) G w (lk (S.eG x)) (S.out x) v w'
def eH{X:Type}(S:Spec X)(x:X)(L:List au)(r:AV):Prop:=
 ∃N:Norm,(S.heap x).length<=N.m/\N.run ⟨[r],L,[],{}⟩=some ⟨[S.out x],S.eG x,[],{}⟩
def RM.bind{α β:Type}:RM α->(α->RM β)->RM β
 |.ret a,k=>k a
 |.aA id f,k=>.aA id λo=>(f o).bind k
 |.fail w,_=>.fail w
def rL:List Nat->(List au->RM b8)->RM b8
 |[],k=>k []
 |i::is,k=>.aA i λo=>match o with
  |some o=>rL is λos=>k (o::os)
  |none=>.fail "no object"
def back(σ:List Nat)(base n:Nat)(j:Nat):Option Nat:=bif j.blt σ.length then σ[j]? else bif j.blt n then some (base+(j - σ.length))else none
def cC{X:Type}(S:Spec X)(M:List AV->RM (X×List Nat)):Nat->List AV->RM b8:=λbase args=>
 (M args).bind λ(x,σ)=>bif tp σ then rL σ λos=>
   (match allM (wI (back σ base (S.eG x).length)) (S.eG x),rn (back σ base (S.eG x).length) 20 (S.out x)with
    |some L',some r=>bif σ.length.ble L'.length then
     .ret ⟨(allM (rn (idx σ) 20) args=some (S.args x))::(allM (wI (idx σ)) os=some (S.heap x))::S.pre x,σ.zip L',L'.drop σ.length,λ_=>r⟩else .fail "sum: objects are gone"
    |_,_=>.fail "sum: names")
  else .fail "sum: one object twice"
section
variable{ρ aQ:Nat->Value}{H H':aV}{G O O':Nat->Prop}{w w':World}{P:Program}{Z:bB}{X:Type}{S:Spec X}
theorem RM.pr{α β:Type}:∀{m:RM α} {k:α->RM β} {q:β},(m.bind k).eval H=some q->∃a,m.eval H=some a/\(k a).eval H=some q
 |.ret a,k,q,h=>⟨a,rfl,h⟩
 |.aA id f,k,q,h=>by
  simp only[RM.bind,RM.eval]at h ⊢;exact RM.pr h
 |.fail w,k,q,h=>by simp[RM.bind,RM.eval]at h
theorem nf:∀{is:List Nat} {k:List au->RM b8} {q:b8},(rL is k).eval H=some q->∃os:List au,(k os).eval H=some q/\os.length=is.length/\∀(j id:Nat),is[j]? =some id->H id=os[j]? /\os[j]?.isSome=true
 |[],k,q,h=>⟨[],h,rfl,λj id hj=>by simp at hj⟩
 |i::is,k,q,h=>by
  simp only[rL,RM.eval]at h;split at h;rename_i o ho;have⟨os,h1,h2,h3⟩:=nf h;refine⟨o::os,h1,by simp[h2],λj id hj=> ?_⟩;cases j with
  |zero=>simp only[List.getElem?_cons_zero,Option.some.injEq]at hj;subst hj;exact⟨by simpa using ho,rfl⟩
  |succ j=>simpa using h3 j id (by simpa using hj)
  simp[RM.eval]at h
theorem aK{f:FuncId}{fn:Func}(hf:P.funcs[f]? =some fn)(hb:fn.body.isSome=true)(hn:∀x,(S.args x).length<=fn.ntmps)
 (h:∀x,bT (S.pre x)->∀X:Ctx,X.H=lk (S.heap x)->eO Z X->Safe P f X (eH S x) (start fn (S.args x) (S.heap x))):gE P Z f S:=by
 intro x mz ρ G w vs hz hs hd;have⟨c,hb⟩:=isSome_iff_exists.1 hb
 have oF:vs.length=(S.args x).length:=by
  have:∀{aS:List AV} {vs:List Value},bV ρ (lk (S.heap x)) (bd ρ (lk (S.heap x)) G) w aS vs->vs.length=aS.length:=by
   intro aS
   induction aS with
   |nil=>intro vs h;rw[bo.1 h];rfl
   |cons a aS ih=>intro vs h;obtain⟨v,rest,rfl,_,h2⟩:=aI.1 h;simp[ih h2]
  exact this hd
 refine(ju (R:=ku ⟨ρ,lk (S.heap x),G,w,[]⟩ (eH S x)) hf hb ?_).mono ?_;have:=(h x mz ⟨ρ,lk (S.heap x),G,w,[]⟩ rfl hz).goes rfl rfl (ρ:=ρ) (a:={ah:=vs.toArray++Array.replicate (fn.ntmps - vs.toArray.size) undef,defers:=[]}) (w:=w);simp only[start,hb,getD_some]at this;refine this ⟨hs, ?_,λt=> ?_,rfl,Step.refl _ _ _ _,⟨rfl,rfl,rfl,λ_ _ _=>rfl⟩,λx hx=>by cases hx⟩;simp[oF]
 have e1:∀(aS:List AV) (vs:List Value),bV ρ (lk (S.heap x)) (bd ρ (lk (S.heap x)) G) w aS vs->∀t,ak ρ (lk (S.heap x)) (bd ρ (lk (S.heap x)) G) w (aS.getD t (.bD [])) (vs.getD t undef):=by
  intro aS
  induction aS with
  |nil=>intro vs h t;rw[bo.1 h];simp only[List.getD,List.getElem?_nil,Option.getD_none];exact cZ
  |cons a aS ih=>
   intro vs h t;obtain⟨v,rest,rfl,h1,h2⟩:=aI.1 h;cases t with
   |zero=>simpa using h1
   |succ t=>simpa using ih rest h2 t
 have h1:=e1 _ _ hd t;simp only[List.getD_eq_getElem?_getD,List.getElem?_append,List.getElem?_replicate,getD_eq_getD_getElem?,Array.getElem?_append,List.getElem?_toArray,Array.getElem?_replicate,List.size_toArray]at h1 ⊢;rw[oF];split;rename_i ht;have hv:vs[t]? =some vs[t]:=getElem?_eq_getElem (by omega);have ha:(S.args x)[t]? =some (S.args x)[t]:=getElem?_eq_getElem ht;rw[hv,ha]at h1 ⊢;exact h1;split;exact cZ;unfold ak;trivial;rintro e w' ⟨v,rfl,L,r,⟨N,hm,hN⟩,jL,g1,g2,g3,g4⟩;refine⟨v,rfl, ?_⟩
 have r0:cF ⟨ρ,lk (S.heap x),G,w,[]⟩ jL ⟨[r],L⟩ {ah:= #[v],defers:=[]} w':=by
  refine⟨g1,rfl,λt=> ?_,rfl,g3,g4,λx hx=>by cases hx⟩;cases t with
  |zero=>exact g2
  |succ t=>simp only[List.getD,Array.getD];simp;unfold ak;trivial
 have h0:∀id,N.m<=id->(⟨ρ,lk (S.heap x),G,w,[]⟩:Ctx).H id=none:=λid dN=>by simp[lk];omega
 unfold Norm.run at hN;split at hN;rename_i t1 L1 h1;simp only[]at hN;split at hN;rename_i t2 L2 h2;simp only[Option.some.injEq,cn.mk.injEq,and_true]at hN;obtain⟨rfl,rfl⟩:=hN;have⟨jL,r1⟩:=cF.gr h0 h1 (cF.fa N.fq r0);have⟨gD,r2⟩:=cF.gL N.qb r1;have⟨ρ3,r3⟩:=cF.gM N.cells r2;have⟨ρ4,r4⟩:=cF.gr h0 h2 r3;exact⟨ρ4,r4.sat,(by have h:=r4.den 0;exact h),r4.ax,r4.jQ⟩;cases hN;cases hN
theorem rM:∀{σ:List Nat} {L:List au} {j:Nat},σ.Nodup->σ.length<=L.length->
 (∀(i:Nat),σ[i]? =some j->cK (σ.zip L) j=L[i]?)/\(j ∉ σ->cK (σ.zip L) j=none)
 |[],L,j,hn,hl=>⟨λi h=>by simp at h,λ_=>rfl⟩
 |x::xs,[],j,hn,hl=>by simp at hl
 |x::xs,l::ls,j,hn,hl=>by
  have⟨h1,h2⟩:=rM (σ:=xs) (L:=ls) (j:=j) (List.nodup_cons.1 hn).2 (by simpa using hl);constructor;intro i hi;simp only[List.zip_cons_cons,cK];cases i with
  |zero=>
   simp only[List.getElem?_cons_zero,Option.some.injEq]at hi;subst hi;rw[h2 (List.nodup_cons.1 hn).1];simp
  |succ i=>
   simp only[List.getElem?_cons_succ]at hi ⊢;rw[h1 i hi];have bA:i<xs.length:=(getElem?_eq_some_iff.1 hi).1;simp only[length_cons]at hl;rw[getElem?_eq_getElem (show i<ls.length by omega)]
  intro hj;simp only[mem_cons,not_or]at hj;simp only[List.zip_cons_cons,cK];rw[h2 hj.2];simp[hj.1]
theorem gE.sum{f:FuncId}(h:gE P Z f S)(M:List AV->RM (X×List Nat)):qA P Z f (cC S M):=by
 intro base args H q hq hn ρ G w vs dK hz hs hd;unfold cC at hq;have⟨⟨x,σ⟩,_,hq⟩:=RM.pr hq;simp only[cond_eq_ite]at hq;split at hq;rename_i iu;have iu:=lQ iu;have⟨os,hq,bK,hos⟩:=nf hq;split at hq;rename_i L' r hL' hr;split at hq;rename_i hle;have hle:=le_of_ble_eq_true hle;simp only[RM.eval,Option.some.injEq]at hq;subst hq;have⟨gB,jI,mz⟩:=hn;simp only[]at dK ⊢
 have dv:∀{j:Nat} {o':au},(S.heap x)[j]? =some o'->∃(id:Nat) (o:au),σ[j]? =some id/\H id=some o/\wI (idx σ) o=some o':=by
  intro j o' dP;have hl:=ie jI;have hj:j<os.length:=by rw[<-hl];exact(getElem?_eq_some_iff.1 dP).1
  have⟨b,g1,g2⟩:=gK jI j os[j] (getElem?_eq_getElem hj);rw[dP]at g2;cases g2;have u7:j<σ.length:=by omega
  have:=(hos j σ[j] (getElem?_eq_getElem u7)).1;exact⟨σ[j],os[j],getElem?_eq_getElem u7,by rw[this,getElem?_eq_getElem hj],g1⟩
 have pH:∀{j id:Nat},σ[j]? =some id->∃o o',H id=some o/\wI (idx σ) o=some o'/\(S.heap x)[j]? =some o':=by
  intro j id hj;have⟨g1,g2⟩:=hos j id hj;have⟨o,ho⟩:=isSome_iff_exists.1 g2;have⟨b,g3,g4⟩:=gK jI j o ho;exact⟨o,b,g1.trans ho,g3,g4⟩
 have oD:∀{j id:Nat},σ[j]? =some id->pull σ ρ j=ρ id:=λh1=>by simp[pull,List.getD,h1]
 have ew:∀{b:Nat},Own (pull σ ρ) (lk (S.heap x)) b->∃(j id:Nat) (o:au),σ[j]? =some id/\H id=some o/\o.alive=true/\fp (ρ id)=some b:=by
  rintro b ⟨j,o',dP,ha,hb⟩;have⟨id,o,h1,h2,h3⟩:=dv dP;rw[oD h1]at hb;exact⟨j,id,o,h1,h2,by rw[<-(c9 h3).1];exact ha,hb⟩
 let G':Nat->Prop:=λb=>bd ρ H G b/\¬Own (pull σ ρ) (lk (S.heap x)) b
 have E:Emb (idx σ) ρ H (bd ρ H G) (pull σ ρ) (lk (S.heap x)) (bd (pull σ ρ) (lk (S.heap x)) G'):=by
  refine⟨λi j lI=> ?_,λb hb=> ?_⟩;have h1:=acJ lI;refine⟨oD h1,λo ho=> ?_⟩;have⟨o1,o',h2,h3,h4⟩:=pH h1;rw[ho]at h2;cases h2;exact⟨o',h4,(c9 h3).2⟩;rcases hb with hb|hb;have⟨j,id,o,h1,h2,h3,h4⟩:=ew hb;exact .inl ⟨id,o,h2,h3,h4⟩;exact hb.1
 have axV:Sat (pull σ ρ) (lk (S.heap x)) G' w:=by
  refine⟨λj o' dP=> ?_,λi j oi oj b hi hj ai aj bi bj=> ?_,λb hb hG=>hG.2 hb,λb hb=>aaD hs hb.1⟩;have⟨id,o,h1,h2,h3⟩:=dv dP;rw[oD h1];exact aa8 E h3 (hs.obj id o h2);have⟨id,o,h1,h2,h3⟩:=dv hi;have⟨id',o',h1',h2',h3'⟩:=dv hj;rw[oD h1]at bi;rw[oD h1']at bj;have:=hs.inj id id' o o' b h2 h2' (by rw[<-(c9 h3).1];exact ai) (by rw[<-(c9 h3').1];exact aj) bi bj;subst this;have⟨hi1,hi2⟩:=getElem?_eq_some_iff.1 h1;have⟨hj1,u7⟩:=getElem?_eq_some_iff.1 h1';exact(List.getElem_inj iu).1 (hi2.trans u7.symm)
 have hz':ZAt Z (pull σ ρ) (lk (S.heap x)) w:=⟨hz.1,λb hb ho=>by
  have⟨j,id,o,h1,h2,h3,h4⟩:=ew ho;exact hz.2 b hb ⟨id,o,h2,h3,h4⟩⟩
 have hd':=vd E gB hd;refine(h x mz (pull σ ρ) G' w vs hz' axV hd').mono ?_;rintro e w' ⟨v,he,jL,g1,g2,g3,g4⟩;refine⟨v,he, ?_⟩;have azu:=ie hL';generalize hn0:(S.eG x).length=n0 at *
 have qz:∀{j:Nat},σ.length<=j->j<n0->H (base+(j - σ.length))=none:=by
  intro j h1 h2;exact dK (j - σ.length) (by simp;omega)
 have aoM:∀{id:Nat} {o:au},H id=some o->¬(base<=id/\id<base+(L'.length - σ.length)):=by
  intro id o ho hc;have:=qz (j:=σ.length+(id - base)) (by omega) (by omega);rw[show base+(σ.length+(id - base) - σ.length)=id from by omega,ho]at this;cases this
 let gD:Nat->Value:=λid=>if base<=id/\id<base+(L'.length - σ.length)then jL (σ.length+(id - base))else ρ id
 let H2:=di H (σ.zip L') base (L'.drop σ.length)
 have hL1:∀{j:Nat} {o2:au},L'[j]? =some o2->∃o,(S.eG x)[j]? =some o/\wI (back σ base n0) o=some o2:=by
  intro j o2 h1;have hj:j<(S.eG x).length:=by have:=(getElem?_eq_some_iff.1 h1).1;omega
  have⟨b,h2,h3⟩:=gK hL' j (S.eG x)[j] (getElem?_eq_getElem hj);rw[h1]at h3;cases h3;exact⟨_,getElem?_eq_getElem hj,h2⟩
 have arn:∀{j id:Nat},σ[j]? =some id->gD id=ρ id/\jL j=ρ id:=by
  intro j id hj;have⟨o,o',h1,h2,h3⟩:=pH hj;refine⟨?_, ?_⟩;simp only[gD];rw[if_neg (aoM h1)];rw[g3.vH j o' h3,oD hj]
 have as0:∀{j id:Nat},σ[j]? =some id->H2 id=L'[j]? :=by
  intro j id hj;have bA:j<σ.length:=(getElem?_eq_some_iff.1 hj).1;have:=(rM (σ:=σ) (L:=L') (j:=id) iu hle).1 j hj;simp only[H2,di,this];rw[getElem?_eq_getElem (show j<L'.length by omega)]
 have hni:∀{id:Nat},(base<=id/\id<base+(L'.length - σ.length))->id ∉ σ:=by
  intro id hc hm;have⟨i,hi⟩:=List.getElem?_of_mem hm;have⟨o,_,h3,_⟩:=pH hi;exact aoM h3 hc
 have avu:∀{id:Nat},(base<=id/\id<base+(L'.length - σ.length))->H2 id=L'[σ.length+(id - base)]? :=by
  intro id hc;simp only[H2,di,(rM (σ:=σ) (L:=L') iu hle).2 (hni hc)];rw[if_pos (by simp only[length_drop];exact hc)];simp only[List.getElem?_drop]
 have avv:∀{id:Nat},id ∉ σ->¬(base<=id/\id<base+(L'.length - σ.length))->H2 id=H id:=by
  intro id h1 h2;simp only[H2,di,(rM (σ:=σ) (L:=L') iu hle).2 h1];rw[if_neg (by simp only[length_drop];exact h2)]
 have cls:∀{id:Nat} {o2:au},H2 id=some o2->(∃(j:Nat) (o:au),(S.eG x)[j]? =some o/\wI (back σ base n0) o=some o2/\gD id=jL j/\back σ base n0 j=some id)\/(id ∉ σ/\H id=some o2/\gD id=ρ id):=by
  intro id o2 ho;by_cases hm:id∈σ;have⟨j,hj⟩:=List.getElem?_of_mem hm;rw[as0 hj]at ho;have⟨o,h1,h2⟩:=hL1 ho;have⟨h3,h4⟩:=arn hj;exact .inl ⟨j,o,h1,h2,by rw[h3,h4],by simp only[back,nt (getElem?_eq_some_iff.1 hj).1,cond_true];exact hj⟩;by_cases hc:base<=id/\id<base+(L'.length - σ.length);rw[avu hc]at ho;have⟨o,h1,h2⟩:=hL1 ho;refine .inl ⟨_,o,h1,h2,by simp only[gD];rw[if_pos hc], ?_⟩;simp only[back,rb (show σ.length<=σ.length+(id - base)by omega),cond_false,nt (show σ.length+(id - base)<n0 by omega),cond_true];congr 1;omega;rw[avv hm hc]at ho;exact .inr ⟨hm,ho,by simp only[gD];rw[if_neg hc]⟩
 have wW:∀{id b:Nat} {o:au},id ∉ σ->H id=some o->o.alive=true->fp (ρ id)=some b->¬Own (pull σ ρ) (lk (S.heap x)) b:=by
  intro id b o hm ho ha hb hv;have⟨j,id',o',h1,h2,h3,h4⟩:=ew hv;have:=hs.inj id id' o o' b ho h2 ha h3 hb h4;subst this;exact hm (List.mem_of_getElem? h1)
 have avw:∀{b:Nat},G b->G' b:=λ{b} hb=>⟨.inr hb,λhv=>by
  have⟨j,id',o',h1,h2,h3,h4⟩:=ew hv;exact hs.apart b ⟨id',o',h2,h3,h4⟩ hb⟩
 have avx:∀{b:Nat},Own gD H2 b->Own jL (lk (S.eG x)) b\/(Own ρ H b/\G' b):=by
  rintro b ⟨id,o2,ho,ha,hb⟩;rcases cls ho with⟨j,o,h1,h2,h3,_⟩|⟨h1,h2,h3⟩;exact .inl ⟨j,o,h1,by rw[<-(c9 h2).1];exact ha,by rw[<-h3];exact hb⟩;rw[h3]at hb;exact .inr ⟨⟨id,o2,h2,ha,hb⟩,.inl ⟨id,o2,h2,ha,hb⟩,wW h1 h2 ha hb⟩
 have E2:Emb (back σ base n0) jL (lk (S.eG x)) (bd jL (lk (S.eG x)) G') gD H2 (bd gD H2 G):=by
  refine⟨λi j lI=> ?_,λb hb=> ?_⟩;simp only[back,cond_eq_ite]at lI;split at lI;rename_i bA;have⟨h3,h4⟩:=arn lI;refine⟨by rw[h3,h4],λo ho=> ?_⟩;have⟨b,h5,h6⟩:=gK hL' i o ho;exact⟨b,by rw[as0 lI];exact h6,(c9 h5).2⟩;rename_i hge;split at lI;rename_i bA;have bA:i<n0:=le_of_ble_eq_true bA
  have hge:σ.length<=i:=by
   rcases lt_or_ge i σ.length with h5|h5;exact absurd (nt h5) hge;exact h5
  simp only[Option.some.injEq]at lI;have hc:base<=j/\j<base+(L'.length - σ.length):=by omega
  have hi:σ.length+(j - base)=i:=by omega
  refine⟨by simp only[gD];rw[if_pos hc,hi],λo ho=> ?_⟩;have⟨b,h5,h6⟩:=gK hL' i o ho;exact⟨b,by rw[avu hc,hi];exact h6,(c9 h5).2⟩;cases lI;rcases hb with hb|hb;exact(avx hb).imp (λh=>h) (λh=>h.2);exact .inr (avw hb)
 have st:Step ρ H (bd ρ H G) w gD H2 (bd gD H2 G) w':=by
  refine⟨λid o ho=>by simp only[gD];rw[if_neg (aoM ho)],λid o ho=> ?_,λb hb=> ?_,λb hb hO=>g3.heap b hb (λhv=>hO (E.gy b hv)),g3.size⟩;by_cases hm:id∈σ;have⟨j,hj⟩:=List.getElem?_of_mem hm;have⟨o1,o',h1,h2,h3⟩:=pH hj;rw[ho]at h1;cases h1;have⟨o'',h4,h5⟩:=g3.fq j o' h3;have⟨o3,h6,h7⟩:=gK hL' j o'' h4;refine⟨o3,by rw[as0 hj];exact h7,λc' e' hc=> ?_⟩;have⟨c,e1,h8,h9,uP⟩:=h5 c' e' ((c9 h6).2 c' e' hc);exact⟨c,e1,(c9 h2).2 c e1 h8,h9,uP⟩;exact⟨o,by rw[avv hm (aoM ho)];exact ho,λc' e' hc=>⟨c',e',hc,rfl,rfl⟩⟩;rcases g3.gy b (E2.gy b hb)with h5|h5;exact .inl (E.gy b h5);exact .inr h5
 refine⟨gD,⟨λid o2 ho=> ?_,λi j oi oj b hi hj ai aj bi bj=> ?_,λb hb hG=> ?_,λb hb=>Nat.lt_of_lt_of_le (hs.low b hb) g3.size⟩,(wJ E2 20).1 _ _ _ hr g2,st,⟨g4.os,g4.tape,g4.output,λb hb hO=>g4.heap b hb (λhv=> ?_)⟩⟩;rcases cls ho with⟨j,o,h1,h2,h3,_⟩|⟨h1,h2,h3⟩;rw[h3];exact aa8 E2 h2 (g1.obj j o h1);rw[h3];refine(hs.obj id o2 h2).step st (λb ha hb=> ?_);exact g4.heap b (iy hs ⟨id,o2,h2,ha,hb⟩) (wW h1 h2 ha hb)
 have mixed:∀{b:Nat},Own jL (lk (S.eG x)) b->∀{id:Nat} {o:au},id ∉ σ->H id=some o->o.alive=true->fp (ρ id)=some b->False:=by
  intro b h1 id o h2 h3 h4 h5;have hG:G' b:=⟨.inl ⟨id,o,h3,h4,h5⟩,wW h2 h3 h4 h5⟩;exact g1.apart b h1 hG
 rcases cls hi with⟨j1,o1,p1,p2,p3,p4⟩|⟨p1,p2,p3⟩;rw[p3]at bi;have a1:o1.alive=true:=by rw[<-(c9 p2).1];exact ai
 rcases cls hj with⟨j2,o2,q1,q2,q3,q4⟩|⟨q1,q2,q3⟩;rw[q3]at bj;have:=g1.inj j1 j2 o1 o2 b p1 q1 a1 (by rw[<-(c9 q2).1];exact aj) bi bj;subst this;rw[p4]at q4;exact Option.some.inj q4;rw[q3]at bj;exact(mixed ⟨j1,o1,p1,a1,bi⟩ q1 q2 aj bj).elim;rw[p3]at bi;rcases cls hj with⟨j2,o2,q1,q2,q3,q4⟩|⟨q1,q2,q3⟩;rw[q3]at bj;exact(mixed ⟨j2,o2,q1,by rw[<-(c9 q2).1];exact aj,bj⟩ p1 p2 ai bi).elim;rw[q3]at bj;exact hs.inj i j oi oj b p2 q2 ai aj bi bj;rcases avx hb with h5|h5;exact g1.apart b h5 (avw hG);exact hs.apart b h5.1 hG;have⟨j,id,o,h1,h2,h3,h4⟩:=ew hv;exact hO ⟨id,o,h2,h3,h4⟩;simp[RM.eval]at hq;simp[RM.eval]at hq;simp[RM.eval]at hq
end
instance {k:IntKind} {n:Nat}:DecidableEq (CK.arr k n).V:=inferInstanceAs (DecidableEq (List Int))
instance {k:IntKind}:DecidableEq (CK.aw k).V:=inferInstanceAs (DecidableEq (List Int))
instance {k:IntKind}:DecidableEq (CK.int k).V:=inferInstanceAs (DecidableEq Int)
instance:DecidableEq CK.ag.V:=inferInstanceAs (DecidableEq ByteArray)
instance:DecidableEq CK.bool.V:=inferInstanceAs (DecidableEq Bool)
abbrev el{cs:List CK}(l:List (CL cs))(i:Int):CL cs:=l.getD i.toNat (CL.d cs)
abbrev bx{α:Type}(a:α):Prop:=a=a
abbrev acZ:Prop:=(some []:Option (List au))=some []
section
variable{K:List au->AV->Prop}{C:cn->Prop}{t e:Tree}{p q:Prop}
theorem alg{α:Type}{a:α}(h:t.ba K C):(Tree.ab (a=a) t).ba K C:=⟨rfl,h⟩
theorem wX(hp:p)(h:t.ba K C):(Tree.ab p t).ba K C:=⟨hp,h⟩
theorem ac0{d:Decidable p}(h1:p->t.ba K C)(h2:¬p->e.ba K C):(Tree.ite (@decide p d) t e).ba K C:=⟨λh=>h1 (of_decide_eq_true h),λh=>h2 (of_decide_eq_false h)⟩
theorem ac1{a b:Int}(h1:a=b->t.ba K C)(h2:a≠b->e.ba K C):(Tree.ite (a==b) t e).ba K C:=⟨λh=>h1 (by simpa using h),λh=>h2 (by simpa using h)⟩
theorem ac2{a b:Int}(h1:a≠b->t.ba K C)(h2:a=b->e.ba K C):(Tree.ite (a !=b) t e).ba K C:=⟨λh=>h1 (by simpa using h),λh=>h2 (by simpa using h)⟩
theorem ac3{b:Bool}(h:(Tree.ite b e t).ba K C):(Tree.ite (!b) t e).ba K C:=⟨λhb=>h.2 (by simpa using hb),λhb=>h.1 (by simpa using hb)⟩
theorem alh(h:t.ba K C):(Tree.ite true t e).ba K C:=⟨λ_=>h,λx=>(by cases x)⟩
theorem ali(h:e.ba K C):(Tree.ite false t e).ba K C:=⟨λx=>(by cases x),λ_=>h⟩
theorem ac4{b:Bool}(h1:b=true->t.ba K C)(h2:b=false->e.ba K C):(Tree.ite b t e).ba K C:=⟨h1,h2⟩
theorem wY(h1:p->t.ba K C)(h2:q->e.ba K C):(Tree.both p q t e).ba K C:=⟨h1,h2⟩
theorem ac5{H:List au}{v:AV}(h:K H v):(Tree.ret H v).ba K C:=h
theorem alj{c:cn}(h:C c):(Tree.at c).ba K C:=h
theorem bN{X:Type}{S:Spec X}{x:X}{L:List au}{r:AV}{o:AV}{h:List au}(m:Nat)(e:Norm.run ⟨[],[0],m,[]⟩ ⟨[r],L,[],{}⟩=some ⟨[o],h,[],{}⟩)(hm:(S.heap x).length<=m)(ho:S.out x=o)(hh:S.eG x=h):eH S x L r:=
 ⟨⟨[],[0],m,[]⟩,hm,by rw[ho,hh];exact e⟩
end
end Go.Sx
namespace Lf
open Go Go.Sx
section
variable{L:List au}
theorem abf{b:Bool}:Ends [.b .bool] (b,()) L (.s (.bool b)):=rfl
theorem ahc{b:Bool}:Ends [.b .bool] (b,()) L (.s (.aT b)):=rfl
theorem abg{n:Int}:Ends [.b (.int .i64)] (n,()) L (.s (.int .i64 n)):=rfl
theorem alk{s:ByteArray}:Ends [.b .ag] (s,()) L (.s (.ag s)):=rfl
theorem abh{s:ByteArray}{n:Int}:Ends [.b .ag,.b (.int .i64)] (s,n,()) L (.bD [.s (.ag s),.s (.aZ .i64 n)]):=rfl
theorem gj{b:Bool}{b':Bool}(h:b=b'):Ends [.b .bool] (b,()) L (.s (.aT b')):=by subst h;rfl
theorem ahd{b b':Int}(h:b=b'):Ends [.b (.int .i64)] (b,()) L (.s (.int .i64 b')):=by subst h;rfl
end
theorem alm{p:Nat->Bool}{n i:Nat}(hi:i<n)(h:p i=false):(List.range n).all p=false:=by
 rw[List.all_eq_false];exact⟨i,mem_range.2 hi,by simp[h]⟩
theorem ahe{p:Nat->Bool}{n:Nat}(h:∀i,i<n->p i=true):(List.range n).all p=true:=by
 rw[all_eq_true];exact λi hi=>h i (mem_range.1 hi)
theorem dC{p:Nat->Bool}{n:Nat}:(List.range n).all p=true↔ ∀i,i<n->p i=true:=by
 simp[all_eq_true]
theorem bt{α:Type}{l:List α}{i:Nat}{d:α}(h:i<l.length):l.getD i d=l[i]:=by simp[List.getD,h]
theorem tv{a b:ByteArray}(h:a.data.toList=b.data.toList):a=b:=by
 cases a;cases b;simp only[ByteArray.mk.injEq];exact toList_inj.1 h
theorem uC:∀(x:List UInt8),Op.bytesLess x x=false
 |[]=>rfl
 |a::x=>by simp[Op.bytesLess,uC x]
theorem wZ:∀{x y z:List UInt8},Op.bytesLess x y=true->Op.bytesLess y z=true->Op.bytesLess x z=true
 |_,[],_,h,_=>by simp[Op.bytesLess]at h
 |_,_::_,[],_,h=>by simp[Op.bytesLess]at h
 |[],b::y,c::z,_,_=>rfl
 |a::x,b::y,c::z,h1,h2=>by
  simp only[Op.bytesLess,Bool.or_eq_true,decide_eq_true_eq,and_eq_true,beq_iff_eq]at *;rcases h1 with h1|⟨rfl,h1⟩;rcases h2 with h2|⟨rfl,h2⟩;exact .inl (UInt8.lt_trans h1 h2);exact .inl h1;rcases h2 with h2|⟨rfl,h2⟩;exact .inl h2;exact .inr ⟨rfl,wZ h1 h2⟩
theorem w4:∀(x y:List UInt8),Op.bytesLess x y=true\/x=y\/Op.bytesLess y x=true
 |[],[]=>.inr (.inl rfl)
 |[],_::_=>.inl rfl
 |_::_,[]=>.inr (.inr rfl)
 |a::x,b::y=>by
  simp only[Op.bytesLess,Bool.or_eq_true,decide_eq_true_eq,and_eq_true,beq_iff_eq,List.cons.injEq];rcases UInt8.lt_or_lt_of_ne (a:=a) (b:=b)|>λh=>(Decidable.em (a=b)).imp id h with rfl|h|h;rcases w4 x y with h|rfl|h;exact .inl (.inr ⟨rfl,h⟩);exact .inr (.inl ⟨rfl,rfl⟩);exact .inr (.inr (.inr ⟨rfl,h⟩));exact .inl (.inl h);exact .inr (.inr (.inl h))
theorem ng:∀(x y:List UInt8),(Lib.compareBytes x y<0↔Op.bytesLess x y=true)/\(Lib.compareBytes x y=0↔x=y)/\(-1<=Lib.compareBytes x y/\Lib.compareBytes x y<=1)
 |[],[]=>by simp[Lib.compareBytes,Op.bytesLess]
 |[],_::_=>by simp[Lib.compareBytes,Op.bytesLess]
 |_::_,[]=>by simp[Lib.compareBytes,Op.bytesLess]
 |a::x,b::y=>by
  have⟨h1,h2,h3⟩:=ng x y;simp only[Lib.compareBytes,Op.bytesLess,List.cons.injEq];by_cases h:a<b;rw[if_pos h];have:a≠b:=λe=>by subst e;exact absurd h (UInt8.lt_irrefl a)
  simp[h,this];rw[if_neg h];by_cases h':b<a;rw[if_pos h'];have:a≠b:=λe=>by subst e;exact absurd h' (UInt8.lt_irrefl a)
  simp[h,this];rw[if_neg h'];have:a=b:=UInt8.toNat_inj.1 (by rw[UInt8.lt_iff_toNat_lt]at h h';omega);subst this;simp[h,h1,h2,h3]
def nh(a b:ByteArray):Int:=Lib.compareBytes a.data.toList b.data.toList
theorem vk(a b:ByteArray):nh a b<0↔slt a b=true:=(ng _ _).1
theorem ahf(a b:ByteArray):nh a b=0↔a=b:=by
 rw[show a=b↔a.data.toList=b.data.toList from⟨λh=>by rw[h],tv⟩];exact(ng _ _).2.1
theorem eI(a:ByteArray):slt a a=false:=uC _
theorem dc{a b c:ByteArray}(h1:slt a b=true)(h2:slt b c=true):slt a c=true:=wZ h1 h2
theorem ig(a b:ByteArray):slt a b=true\/a=b\/slt b a=true:=by
 rcases w4 a.data.toList b.data.toList with h|h|h;exact .inl h;exact .inr (.inl (tv h));exact .inr (.inr h)
theorem tw{a b:ByteArray}(h:slt a b=true):slt b a=false:=by
 cases h2:slt b a;rfl;have:=dc h h2;rw[eI]at this;cases this
theorem aln{a b:ByteArray}(h:slt a b=true):a≠b:=λe=>by subst e;rw[eI]at h;cases h
theorem w5{a b:ByteArray}(h:slt a b=false)(h2:a≠b):slt b a=true:=by
 rcases ig a b with h3|h3|h3;rw[h]at h3;cases h3;exact absurd h3 h2;exact h3
theorem ij(a:ByteArray):slt a empty=false:=by
 unfold slt;cases h:a.data.toList<;>rfl
theorem fD{a b c:ByteArray}(h1:slt a b=true)(h2:slt c b=false):slt a c=true:=by
 rcases ig b c with h3|rfl|h3;exact dc h1 h3;exact h1;rw[h2]at h3;cases h3
theorem mB{a:ByteArray}(h:a.size=0):a=empty:=by
 apply tv;have:a.data.toList.length=0:=by rw[length_toList];exact h
 rw[List.eq_nil_of_length_eq_zero this];rfl
end Lf
namespace Go.Sx
open Go
section
variable{ρ aQ:Nat->Value}{H H' H1 H2:aV}{G O O':Nat->Prop}{w w' w1 w2:World}{P:Program}{X:Ctx}{K:List au->AV->Prop}
def alo(P:Program)(t:TypeId):Bool:=match P.underlying t with
 |some (.map _ _)=>true
 |_=>false
theorem Frm.seq(f1:Frm ρ H w w1){jL:Nat->Value}(t1:Step ρ H (bd ρ H G) w jL H1 (bd jL H1 G) w1)(s1:Sat jL H1 G w1)(f2:Frm jL H1 w1 w2):Frm ρ H w w2:=by
 refine⟨f2.os.trans f1.os,f2.tape.trans f1.tape,f2.output.trans f1.output,λb hb hO=> ?_⟩
 have te:¬Own jL H1 b:=λho=>by
  rcases t1.gy b (.inl ho)with hh|hh;exact hh.elim hO (s1.apart b ho);omega
 rw[f2.heap b (by have:=t1.size;omega) te,f1.heap b hb hO]
theorem Good.ghost(hs:Sat ρ H G w){n:Nat}(hn:H n=none)(g:Value):∃aQ,aQ n=g/\Sat aQ (aF H n .aB) G w/\Step ρ H (bd ρ H G) w aQ (aF H n .aB) (bd aQ (aF H n .aB) G) w/\Frm ρ H w w:=by
 have ne:∀j x,H j=some x->j≠n:=λj x hx e=>by subst e;rw[hn]at hx;cases hx
 have ra:∀b,Own (λj=>if j=n then g else ρ j) (aF H n .aB) b->Own ρ H b:=by
  rintro b ⟨j,x,hx,h1,h2⟩;by_cases hj:j=n;subst hj;simp only[aF,if_true,Option.some.injEq]at hx;subst hx;cases h1;simp only[aF,hj,if_false]at hx h2;exact⟨j,x,hx,h1,h2⟩
 have st:Step ρ H (bd ρ H G) w (λj=>if j=n then g else ρ j) (aF H n .aB) (bd (λj=>if j=n then g else ρ j) (aF H n .aB) G) w:=by
  refine⟨λj x hx=>by simp[ne j x hx],λj x hx=>⟨x,by simp[aF,ne j x hx,hx],λc' e' hc=>⟨c',e',hc,rfl,rfl⟩⟩,λb hb=>.inl (hb.imp (ra b) id),λb hb _=>rfl,le_refl _⟩
 refine⟨_,by simp,⟨λj x hx=> ?_,λi j oi oj b h1 h2 h3 h4 h5 h6=> ?_,λb hb=>hs.apart b (ra b hb),hs.low⟩,st,rfl,rfl,rfl,λ_ _ _=>rfl⟩;by_cases hj:j=n;subst hj;simp only[aF,if_true,Option.some.injEq]at hx;subst hx;trivial;simp only[aF,hj,if_false]at hx;simp only[hj,if_false];exact(hs.obj j x hx).step st (λ_ _ _=>rfl)
 have f:∀i oi,aF H n .aB i=some oi->oi.alive=true->fp ((λj=>if j=n then g else ρ j) i)=some b->H i=some oi/\fp (ρ i)=some b:=by
  intro i oi hi vV hb;by_cases fG:i=n;subst fG;simp only[aF,if_true,Option.some.injEq]at hi;subst hi;cases vV;simp only[aF,fG,if_false]at hi hb;exact⟨hi,hb⟩
 have⟨x1,x2⟩:=f i oi h1 h3 h5;have⟨y1,y2⟩:=f j oj h2 h4 h6;exact hs.inj i j oi oj b x1 y1 h3 h4 x2 y2
theorem afz(hs:Sat ρ H G w){id base:Nat}{ck:CK}{m:List (Int×ck.V)}{t kt et:TypeId}(ht:P.underlying t=some (.map kt et))(ho:H id=some (.map ck m))(hb0:H base=none)(hb1:H (base+1)=none)
 {v:Value} (hd:ak ρ H (bd ρ H G) w (.gV id) v):∃v' w',(Instr.range t v).run P w=.ok v' w'/\
  Good ρ H G w (aF (aF (aF H base .aB) id (.jA ck m base)) (base+1) (.iter id base ck m none)) (.an (base+1) 0) v' w':=by
 unfold ak aO at hd;obtain⟨b,hb,rfl,_⟩:=hd;have⟨b',es,clock,h1,h2,h3⟩:=hs.obj id _ ho;rw[hb]at h1;cases h1;have ne0:id≠base:=λe=>by subst e;rw[hb0]at ho;cases ho
 have ne1:id≠base+1:=λe=>by subst e;rw[hb1]at ho;cases ho
 have e1:(getObj b).run P w=.ok (.map es clock) w:=by simp[getObj,Sem.run,h2]
 refine⟨.pointer (some ⟨w.heap.size,0,none⟩),w.alloc (.mapIter (some b) clock #[] clock), ?_, ?_⟩;simp[Instr.range,run_underlying ht,e1];have⟨jL,g1,s1,t1,f1⟩:=Good.ghost hs hb0 (ab2 es clock);have hρ:jL id=.map (some b):=by rw[t1.vH id _ ho,hb]
 have ho1:aF H base .aB id=some (.map ck m):=by simp[aF,ne0,ho]
 have avy:Good jL (aF H base .aB) G w (aF (aF H base .aB) id (.jA ck m base)) (.bD []) undef w:=
  Good.upd (o':=.jA ck m base) s1 ho1 rfl (λ_ _ hc=>by cases hc) ⟨b,es,clock,hρ,h2,h3,g1,by simp[aF,Ne.symm ne0]⟩ cZ
 have⟨gD,s2,d2,t2,f2⟩:=avy;have axW:gD base=ab2 es clock:=by rw[t2.vH base .aB (by simp[aF])];exact g1
 have axX:gD id=.map (some b):=by rw[t2.vH id _ ho1];exact hρ
 have uO:aF (aF H base .aB) id (.jA ck m base) (base+1)=none:=by simp[aF,hb1,Ne.symm ne1]
 have avz:Good gD (aF (aF H base .aB) id (.jA ck m base)) G w (aF (aF (aF H base .aB) id (.jA ck m base)) (base+1) (.iter id base ck m none)) (.an (base+1) 0) (.pointer (some ⟨w.heap.size,0,none⟩)) (w.alloc (.mapIter (some b) clock #[] clock)):=by
  refine Good.fresh (aa:=.pointer (some ⟨w.heap.size,0,none⟩)) s2 uO rfl rfl rfl rfl (λb' uN=>by simpa[fp]using uN.symm) ?_ ?_;refine⟨w.heap.size,b,es,clock,#[],rfl,kH,⟨?_,h3.fits,h3.vQ,h3.old,λp hp=>by cases hp⟩, ?_, ?_, ?_, ?_⟩;rw[<-h3.eq];congr 1;exact List.filter_eq_self.2 λe _=>by simp
  have:base≠base+1:=by omega
  simp only[this,if_false];exact axW;simp[aF,Ne.symm ne0];simp only[ne1,if_false];exact axX;simp[aF,ne1];unfold ak aO;exact⟨w.heap.size,by simp,rfl,by simp[aF]⟩
 have⟨ρ3,s3,d3,t3,f3⟩:=avz;exact⟨ρ3,s3,d3,t1.trans (t2.trans t3),f1.seq t1 s1 (f2.seq t2 s2 f3)⟩
theorem erase_filter{L:List MapEntry}(hb:(L.map (·.born)).Nodup){i:Nat}(hi:i<L.length):L.filter (λx=>x.born !=L[i].born)=L.eraseIdx i:=by
 induction L generalizing i with
 |nil=>simp at hi
 |cons x L ih=>
  simp only[map_cons,List.nodup_cons]at hb;cases i with
  |zero=>
   simp only[List.getElem_cons_zero,List.eraseIdx_cons_zero];rw[List.filter_cons];simp only[bne_self_eq_false,Bool.false_eq_true,if_false];refine List.filter_eq_self.2 λe he=> ?_;rw[bne_iff_ne];exact λh=>hb.1 (mem_map.2 ⟨e,he,h⟩)
  |succ i=>
   simp only[length_cons]at hi;have fG:i<L.length:=by omega
   simp only[List.getElem_cons_succ,List.eraseIdx_cons_succ];rw[List.filter_cons,if_pos,ih hb.2 fG];rw[bne_iff_ne];exact λh=>hb.1 (mem_map.2 ⟨_,getElem_mem fG,h.symm⟩)
theorem vR.next{ck:CK}{left:List (Int×ck.V)}{cur:Option (Int×ck.V)}{es:Array MapEntry}{clock:Nat}{seen:Array Nat}(h:vR ck left cur es clock seen){e:MapEntry}(he:e∈(leftOf es seen).toList):
 ∃i,∃hi:i<left.length,e.ad=.int .i64 left[i].1/\e.val=ck.val left[i].2/\vR ck (left.eraseIdx i) (some left[i]) es clock (seen.push e.born):=by
 have hL:(leftOf es seen).toList=es.toList.filter λe=> !seen.contains e.born:=by simp[leftOf]
 rw[hL]at he;obtain⟨i,hi,rfl⟩:=List.getElem_of_mem he;generalize hF:(es.toList.filter λe=> !seen.contains e.born)=F at *;have heq:=h.eq;rw[hF]at heq;have bK:F.length=left.length:=by have:=congrArg List.length heq;simpa only[length_map]using this
 have h1:=congrArg (λl=>l[i]?) heq;have hil:i<left.length:=by omega
 simp only[getElem?_map,getElem?_eq_getElem hi,getElem?_eq_getElem hil,map_some,Option.some.injEq,Prod.mk.injEq]at h1
 have kr:F[i]∈es.toList:=by
  have:=getElem_mem hi;exact(List.mem_filter.1 (show F[i]∈es.toList.filter (λe=> !seen.contains e.born)from by rw[hF];exact this)).1
 refine⟨i,hil,h1.1,h1.2,⟨?_,λp hp=>h.fits p (List.mem_of_mem_eraseIdx hp),h.vQ,h.old,λp hp=> ?_⟩⟩
 have e1:(es.toList.filter λe=> !(seen.push F[i].born).contains e.born)=F.filter (λx=>x.born !=F[i].born):=by
  generalize F[i].born=z;rw[<-hF,List.filter_filter];refine List.filter_congr λx _=> ?_;by_cases hz:x.born=z<;>simp[hz,bne]
 have iu:(F.map (·.born)).Nodup:=by
  rw[<-hF];exact(List.Sublist.map _ List.filter_sublist).nodup h.vQ
 rw[e1,erase_filter iu hi,ChangeMaps.map_eraseIdx,heq,<-ChangeMaps.map_eraseIdx];cases hp;exact⟨h.fits _ (getElem_mem hil),F[i],kr,by simp,h1.1,h1.2⟩
theorem ajk(hs:Sat ρ H G w){id mid gid:Nat}{ck ck':CK}{left:List (Int×ck.V)}{cur:Option (Int×ck.V)}{m:List (Int×ck'.V)}(hp:ck.plain=true)(ho:H id=some (.iter mid gid ck left cur))(hm:H mid=some (.jA ck' m gid))
 {v:Value} (hd:ak ρ H (bd ρ H G) w (.an id 0) v) (ty:TypeId):
 (left=[]/\(Instr.next v false ty).run P w=.ok (.tuple #[.bool false]) w/\Good ρ H G w (aF (aF H mid (.map ck' m)) id .aB) (.bD [.s (.aT false)]) (.tuple #[.bool false]) w)\/
 ∃i,∃hi:i<left.length,∃v' w1,(w1=w\/w1=w.drew)/\∃w',(Instr.next v false ty).run P w=.ok v' w'/\
  Good ρ H G w1 (aF H id (.iter mid gid ck (left.eraseIdx i) (some left[i]))) (.bD [.s (.aT true),.s (.int .i64 left[i].1),ck.av left[i].2]) v' w':=by
 unfold ak aO at hd;obtain⟨b,hb,rfl,_⟩:=hd;have⟨mb,es,clock,seen,h1,h2,h3,h4,h5,h6,h7⟩:=acp hs ho hm hb;have cX:mid≠id:=λe=>by subst e;rw[ho]at hm;cases hm
 rcases run_next_at (P:=P) w ty b mb clock clock seen es clock h1 h2 h3.old (le_refl _)with⟨k1,k2⟩|⟨e,he,w1,k1,k2⟩;refine .inl ⟨?_,k2, ?_⟩
 have hl:(es.toList.filter λe=> !seen.contains e.born)=[]:=by
  have:(leftOf es seen).toList.length=0:=by simpa using k1
  have:=List.eq_nil_of_length_eq_zero this;simpa[leftOf]using this
 have:=congrArg List.length h3.eq;rw[hl]at this;exact List.eq_nil_of_length_eq_zero (by simpa using this.symm)
 obtain⟨jL,s1,d1,t1,f1⟩:Good ρ H G w (aF H mid (.map ck' m)) (.bD [.s (.aT false)]) (.tuple #[.bool false]) w:=
  Good.upd (o':=.map ck' m) hs hm rfl (λ_ _ hc=>by cases hc) ⟨mb,es,clock,h5,h2,h4⟩ (by
   unfold ak;exact⟨[.bool false],rfl,aI.2 ⟨_,_,rfl,aJ (.aT _),bo.2 rfl⟩⟩)
 have ho1:aF H mid (.map ck' m) id=some (.iter mid gid ck left cur):=by simp[aF,Ne.symm cX,ho]
 have st:=fz (ρ:=jL) (G:=G) (w:=w) ho1;refine⟨jL,s1.kill ho1,ak.step st _ _ d1,t1.trans st,f1⟩;have⟨i,hi,g1,g2,g3⟩:=h3.next he;refine .inr ⟨i,hi,_,w1,k1,_,k2, ?_⟩
 have hs1:Sat ρ H G w1:=by
  rcases k1 with rfl|rfl;exact hs;have st:Step ρ H (bd ρ H G) w ρ H (bd ρ H G) w.drew:=⟨λ_ _ _=>rfl,λ_ o ho=>⟨o,ho,λc' e' e=>⟨c',e',e,rfl,rfl⟩⟩,λ_ h=>.inl h,λ_ _ _=>rfl,le_refl _⟩;exact⟨λj x hx=>(hs.obj j x hx).step st (λ_ _ _=>rfl),hs.inj,hs.apart,hs.low⟩
 have hh:w1.heap=w.heap:=by rcases k1 with rfl|rfl<;>rfl
 have hb1:w1.heap[b]? =some (.mapIter (some mb) clock seen clock):=by rw[hh];exact h1
 refine Good.write hs1 ho rfl rfl (by rw[hb];rfl) (λ_ _ hc=>by cases hc) ?_ ?_;exact⟨b,mb,es,clock,_,hb,fi hb1,g3,h6,by simp only[aF];split<;>first|rfl|exact h7,h5,by simp only[aF,cX,if_false];rw[hm];rfl⟩;rw[g1,g2];unfold ak;exact⟨[.bool true,.int .i64 left[i].1,ck.val left[i].2],rfl,aI.2 ⟨_,_,rfl,aJ (.aT _),aI.2 ⟨_,_,rfl,aJ (.int _ _),aI.2 ⟨_,_,rfl,aaQ (h3.fits _ (getElem_mem hi)) (acq hp _),bo.2 rfl⟩⟩⟩⟩
theorem cF.aco{s:St}{a:Act}(h:cF X ρ s a w){dst:Option Tmp}{q:b8}{v:Value}(hw:w1=w\/w1=w.drew)(hg:Good ρ s.aA X.G w1 (s.put dst q).aA (q.r s.H.length) v w'):∃aQ,cF X aQ (s.put dst q) (a.put dst v) w':=by
 have h1:cF X ρ s a w1:=by
  rcases hw with rfl|rfl;exact h;exact h.drew
 have⟨aQ,g1,g2,g3,g4⟩:=hg;have⟨arr,df⟩:=a;have hp:=ry (ρ:=aQ) (H:=(s.put dst q).aA) (O:=bd aQ (s.put dst q).aA X.G) (w:=w') h1.size (λt=>ak.step g3 _ _ (h1.den t)) dst g2 df;exact⟨aQ,g1,hp.1,hp.2,by have:=h1.defers;cases dst<;>exact this,h1.ax.trans g3,Frm.trans h1 g4,h1.bc.jQ h1.sat g4⟩
def ajl(fn:Func)(ad i:Nat):Option (Array Oper×Oper×List Item):=match hr fn ad with
 |.code (.region _ ops _)::k=>(ops[i]?).map λo=>(ops,o,k)
 |_=>none
def ahg(x:Array Oper×Oper×List Item):Option (TypeId×Tmp×Tmp):=match x.2.1.guard,x.2.1.op,x.2.1.dst with
 |none,.range t (.tmp y),some d=>bif iG x.1 then some (t,y,d)else none
 |_,_,_=>none
def alp(x:Array Oper×Oper×List Item):Option (Tmp×Tmp):=match x.2.1.guard,x.2.1.op,x.2.1.dst with
 |none,.next (.tmp y) false,some d=>bif iG x.1 then some (y,d)else none
 |_,_,_=>none
theorem Yields.congr{o:Oper}{e e':Operand->Value}{R:Value->World->Prop}(he:execOp e' o=execOp e o)(h:Yields P o e w R):Yields P o e' w R:=by
 unfold Yields at *;rw[he];exact h
theorem ac6{f:FuncId}{fn:Func}{ad i:Nat}{ops:Array Oper}{o:Oper}{k:List Item}(hat:ajl fn ad i=some (ops,o,k))(iu:iG ops=true)(hg:o.guard=none){ah:List AV}{L:List au}{stk:ur}
 (dv:(stk.plain||lP (cn.n ⟨ah,L,[],stk⟩) ops)=true)
 (h:∀G E ρ a w,cF (X.at G E) ρ ⟨ah,L⟩ a w->Yields P o a.eval w (λv w'=>∃q aQ,cF (X.at G E) aQ (St.put ⟨ah,L⟩ o.dst q) (a.put o.dst v) w'/\
   Safe P f X K ⟨(St.put ⟨ah,L⟩ o.dst q).ah,(St.put ⟨ah,L⟩ o.dst q).H,uR fn ad (i+1),stk⟩)):Safe P f X K ⟨ah,L,uR fn ad i,stk⟩:=by
 obtain⟨ho,hc⟩:ops[i]? =some o/\∀j,uR fn ad j=.inRegion ops (range' j (ops.size - j))::k:=by
  unfold ajl at hat;split at hat;rename_i n azz d k' hh;simp only[map_eq_some_iff,Prod.mk.injEq]at hat;obtain⟨o',e1,rfl,rfl,rfl⟩:=hat;exact⟨e1,λj=>by unfold uR;rw[hh]⟩;cases hat
 intro G E ρ a w iS iZ hr b t fs hw;have⟨rest,Ds,aro,tn,hwf⟩:=hw.top (c:=⟨ah,L,[],stk⟩) hr.dp.len
 have qx:kx (cn.n ⟨ah,L,[],stk⟩) rest Ds a t:=by
  have e:(⟨a.ah.toList.toArray,[]⟩:Act)=a:=by
   have:=hr.defers;cases a;simp at this ⊢;exact this
  rw[e]at aro;exact aro
 have avA:rz (cn.n ⟨ah,L,[],stk⟩) rest ops:=acI dv tn (λx=>x);have lG:=(avA.op ho).imp (λx=>x) (·.2.1);have hi:i<ops.size:=(Array.getElem?_eq_some_iff.1 ho).1
 have s5:range' i (ops.size - i)=i::range' (i+1) (ops.size - (i+1)):=by
  rw[show ops.size - i=ops.size - (i+1)+1 from by omega,List.range'_succ]
 have hy':=(h G E ρ a w hr).congr (qx.same avA ho).1;show cT P f (ku X K) b t (uR fn ad i) fs w;rw[hc i,s5];intro cs;have⟨v,w',⟨q,aQ,eR,hs⟩,mY⟩:=agQ ho (by simp[Region.wanted,hg]) (ow iu ho) hy' b k (fs++cs) (rest:=range' (i+1) (ops.size - (i+1)));have aku:=qx.put lG v;have:=hs G E aQ _ w' iS iZ eR b (t.put o.dst v) fs (hwf _ _ aku eR.defers);rw[hc (i+1)]at this;have⟨e,w2,fr,g1,g2,g3⟩:=this cs;exact⟨e,w2,fr,g1,Comes.of_steps mY g2,g3⟩
theorem afA{L:List au}{id:Nat}{x:au}(h:id<L.length)(j:Nat):(L.set id x)[j]? =aF (λi=>L[i]?) id x j:=by
 simp only[aF];rw[getElem?_set];by_cases hj:j=id;subst hj;simp[h];rw[if_neg (Ne.symm hj),if_neg hj]
theorem afB{f:FuncId}{fn:Func}{ad i:Nat}{t:TypeId}{x d:Tmp}(hat:(ajl fn ad i).bind ahg=some (t,x,d))(ht:alo P t=true){ah:List AV}{L:List au}{stk:ur}
 (dv:(stk.plain||((ajl fn ad i).any λy=>lP (cn.n ⟨ah,L,[],stk⟩) y.1))=true) {id:Nat} {ck:CK} {m:List (Int×ck.V)} (hx:ah.getD x (.s .bk)=.gV id) (dN:L[id]? =some (.map ck m))
 (h:Safe P f X K ⟨ah.set d (.an (L.length+1) 0),L.set id (.jA ck m L.length)++[.aB,.iter id L.length ck m none],uR fn ad (i+1),stk⟩):Safe P f X K ⟨ah,L,uR fn ad i,stk⟩:=by
 have⟨⟨ops,o,k⟩,h1,h2⟩:=bind_eq_some_iff.1 hat;rw[h1]at dv;unfold ahg at h2;split at h2;rename_i t' y d' e1 e2 e3;simp only[]at e1 e2 e3;rw[cond_eq_ite]at h2;split at h2;rename_i iu;simp only[Option.some.injEq,Prod.mk.injEq]at h2;obtain⟨rfl,rfl,rfl⟩:=h2
 obtain⟨kt,et,hut⟩:∃kt et,P.underlying t'=some (.map kt et):=by
  unfold alo at ht;split at ht;exact⟨_,_,by assumption⟩;cases ht
 refine ac6 h1 iu e1 (by simpa using dv) λG E ρ a w hr=> ?_;have bA:id<L.length:=(getElem?_eq_some_iff.1 dN).1;have hd:=hr.den y;rw[show(St.ah ⟨ah,L⟩).getD y (.s .bk)=.gV id from hx]at hd;have⟨v',w',g1,g2⟩:=afz (P:=P) hr.sat hut (show(St.aA ⟨ah,L⟩) id=some _ from dN) (base:=L.length) (by simp[St.aA]) (by simp[St.aA]) hd;refine dj (s:=Instr.range t' (a.eval (.tmp y))) ⟨v',w',g1, ?_⟩ (by simp only[execOp,e2]);have hl:(St.put ⟨ah,L⟩ o.dst ⟨[],[(id,.jA ck m L.length)],[.aB,.iter id L.length ck m none],λb=>.an (b+1) 0⟩).aA=
  aF (aF (aF (St.aA ⟨ah,L⟩) L.length .aB) id (.jA ck m L.length)) (L.length+1) (.iter id L.length ck m none):=by
  funext j;show(L.set id (.jA ck m L.length)++[.aB,.iter id L.length ck m none])[j]? =_;simp only[aF,St.aA];by_cases hj1:j=L.length+1;subst hj1;rw[getElem?_append_right (by simp),if_pos rfl];simp;rw[if_neg hj1];by_cases u7:j=id;subst u7;rw[getElem?_append_left (by simpa using bA),if_pos rfl];simp[bA];rw[if_neg u7];by_cases hj3:j=L.length;subst hj3;rw[getElem?_append_right (by simp),if_pos rfl];simp;rw[if_neg hj3];rcases lt_or_ge j L.length with hj|hj;rw[getElem?_append_left (by simpa using hj),List.getElem?_set_ne (Ne.symm u7)];rw[getElem?_append_right (by simpa using hj),getElem?_eq_none (by simp;omega),getElem?_eq_none (by omega)]
 rw[<-hl]at g2;have⟨aQ,eR⟩:=hr.aco (.inl rfl) g2;refine⟨_,aQ,eR, ?_⟩;rw[e3];exact h;cases h2;cases h2
theorem zL{f:FuncId}{fn:Func}{ad i:Nat}{x d:Tmp}(hat:(ajl fn ad i).bind alp=some (x,d)){ah:List AV}{L:List au}{stk:ur}
 (dv:(stk.plain||((ajl fn ad i).any λy=>lP (cn.n ⟨ah,L,[],stk⟩) y.1))=true) {id mid gid:Nat} {ck ck':CK} {left:List (Int×ck.V)} {cur:Option (Int×ck.V)} {m:List (Int×ck'.V)} (hp:ck.plain=true)
 (hx:ah.getD x (.s .bk)=.an id 0) (dN:L[id]? =some (.iter mid gid ck left cur)) (avB:L[mid]? =some (.jA ck' m gid))
 (h0:left=[]->Safe P f X K ⟨ah.set d (.bD [.s (.aT false)]),(L.set mid (.map ck' m)).set id .aB,uR fn ad (i+1),stk⟩)
 (h:∀j,j<left.length->Safe P f X K ⟨ah.set d (.bD [.s (.aT true),.s (.int .i64 (left.getD j (0,ck.d)).1),ck.av (left.getD j (0,ck.d)).2]),L.set id (.iter mid gid ck (left.eraseIdx j) (some (left.getD j (0,ck.d)))),uR fn ad (i+1),stk⟩):
 Safe P f X K ⟨ah,L,uR fn ad i,stk⟩:=by
 have⟨⟨ops,o,k⟩,h1,h2⟩:=bind_eq_some_iff.1 hat;rw[h1]at dv;unfold alp at h2;split at h2;rename_i y d' e1 e2 e3;simp only[]at e1 e2 e3;rw[cond_eq_ite]at h2;split at h2;rename_i iu;simp only[Option.some.injEq,Prod.mk.injEq]at h2;obtain⟨rfl,rfl⟩:=h2;refine ac6 h1 iu e1 (by simpa using dv) λG E ρ a w hr=> ?_;have bA:id<L.length:=(getElem?_eq_some_iff.1 dN).1;have asu:mid<L.length:=(getElem?_eq_some_iff.1 avB).1;have hd:=hr.den y;rw[show(St.ah ⟨ah,L⟩).getD y (.s .bk)=.an id 0 from hx]at hd;rcases ajk (P:=P) hr.sat hp (show(St.aA ⟨ah,L⟩) id=some _ from dN) (show(St.aA ⟨ah,L⟩) mid=some _ from avB) hd o.type with⟨g0,g1,g2⟩|⟨j,hj,v',w1,g1,w',g2,g3⟩;refine dj (s:=Instr.next (a.eval (.tmp y)) false o.type) ⟨_,_,g1, ?_⟩ (by simp only[execOp,e2])
 have hl:(St.put ⟨ah,L⟩ o.dst ⟨[],[(mid,.map ck' m),(id,.aB)],[],λ_=>.bD [.s (.aT false)]⟩).aA=aF (aF (St.aA ⟨ah,L⟩) mid (.map ck' m)) id .aB:=by
  funext j;show((L.set mid (.map ck' m)).set id .aB++[])[j]? =_;rw[append_nil,afA (by simpa using bA)];simp only[aF];split;rfl;exact afA asu j
 rw[<-hl]at g2;have⟨aQ,eR⟩:=hr.aco (.inl rfl) g2;refine⟨_,aQ,eR, ?_⟩;rw[e3];have:=h0 g0;simpa[St.put,ob,dd]using this;refine dj (s:=Instr.next (a.eval (.tmp y)) false o.type) ⟨_,_,g2, ?_⟩ (by simp only[execOp,e2]);have hl:(St.put ⟨ah,L⟩ o.dst ⟨[],[(id,.iter mid gid ck (left.eraseIdx j) (some left[j]))],[],λ_=>.bD [.s (.aT true),.s (.int .i64 left[j].1),ck.av left[j].2]⟩).aA=
  aF (St.aA ⟨ah,L⟩) id (.iter mid gid ck (left.eraseIdx j) (some left[j])):=by
  funext j';show(L.set id _++[])[j']? =_;rw[append_nil];exact afA bA j'
 rw[<-hl]at g3;have⟨aQ,eR⟩:=hr.aco g1 g3;refine⟨_,aQ,eR, ?_⟩;rw[e3];have:=h j hj;rw[show left.getD j (0,ck.d)=left[j]from by simp[List.getD,hj]]at this;simpa[St.put,ob,dd]using this;cases h2;cases h2
end
end Go.Sx
namespace Ds
open Go Go.Sx Go.Proofs Lf
noncomputable abbrev P:Program:=Tryz.prog
theorem mixed:P.follows .mixedOrders=true:=by kernel_rfl
abbrev bS:Ty:=.b (.int .i64)
abbrev dg:Ty:=.b .bool
abbrev fc:Ty:=.b .ag
theorem go{Z:bB}{X:Ctx}{t:aR}{f:FuncId}{fn:Func}{ns:List (Nat×Norm)}{c:cn}{tr:Tree}{K:List au->AV->Prop}{inl:List FuncId}(hz:eO Z X)(hX:∀id,X.H id=none)(hT:t.Ok P Z)(hf:P.funcs[f]? =some fn)
 (e:run P t.sum fn ns c inl=tr) (h:tr.ba K (Safe P f X K)):Safe P f X K c:=db (aR.sOk hT) hz mixed hf (λ_ _ id _=>hX id) e h
theorem dk{Z:bB}{X:Ctx}{t:aR}{f:FuncId}{fn:Func}{ns:List (Nat×Norm)}{c:cn}{tr:Tree}{K:List au->AV->Prop}{L:List au}{inl:List FuncId}(hz:eO Z X)(hX:X.H=lk L)(hm:∀x∈ns,L.length<=x.2.m)(hT:t.Ok P Z)(hf:P.funcs[f]? =some fn)
 (e:run P t.sum fn ns c inl=tr) (h:tr.ba K (Safe P f X K)):Safe P f X K c:=
 db (aR.sOk hT) hz mixed hf (λx hx id dN=>by rw[hX];exact getElem?_eq_none (le_trans (hm x hx) dN)) e h
abbrev cS:List CK:=[.arr .u8 64]
abbrev kS:CK:=.arr .u8 64
abbrev eS:TypeId:=165
abbrev eD:TypeId:=105
abbrev Th:Type:=List (CL cS)
abbrev As:Type:=List (Int×kS.V)
abbrev jw(i j:Nat)(fu:Int):au:=.ay [.aq i,.gV j,.s (.int .i64 fu)] eD
abbrev hD(th:Th)(m:As)(fu:Int):List au:=[jw 1 2 fu,.aq (.az cS th) eS,.map kS m]
abbrev iU:aR:=[]
abbrev inD:List FuncId:=[169,170,96]
def ac7:List (Nat×Norm):=[(6,⟨[],[0],3,[]⟩),(7,⟨[],[0,17],3,[]⟩)]
abbrev ki(l:Nat):ur:=⟨none,false,0,[],l⟩
noncomputable def cF6(th:Th)(m:As)(fu:Int):cn:=⟨sl 34 [(0,.an 0 0)],hD th m fu,hr Tryz.f49 6,{}⟩
noncomputable def axY(th:Th)(m:As)(fu:Int):cn:=⟨sl 34 [(0,.an 0 0),(13,.an 0 0),(14,.an 0 0),(15,.an 0 1),(16,.gV 2),(17,.an 4 0)],[jw 1 2 fu,.aq (.az cS th) eS,.jA kS m 3,.aB,.iter 2 3 kS m none],uR Tryz.f49 6 5,ki 6⟩
noncomputable def cF7(th:Th)(m left:As)(cur:Option (Int×kS.V))(fu:Int):cn:=⟨sl 34 [(0,.an 0 0),(17,.an 3 0)],[jw 1 2 fu,.aq (.az cS th) eS,.jA kS m 4,.iter 2 4 kS left cur,.aB],hd Tryz.f49 7,{}⟩
noncomputable def axZ(th:Th)(m:As)(fu:Int):cn:=⟨sl 34 [(0,.an 0 0),(17,.an 3 0),(18,.bD [.s (.aT false)])],[jw 1 2 fu,.aq (.az cS th) eS,.map kS m,.aB,.aB],uR Tryz.f49 7 1,ki 7⟩
noncomputable def ax0(th:Th)(m left:As)(p:Int×kS.V)(fu:Int):cn:=⟨sl 34 [(0,.an 0 0),(17,.an 3 0),(18,.bD [.s (.aT true),.s (.int .i64 p.1),kS.av p.2])],[jw 1 2 fu,.aq (.az cS th) eS,.jA kS m 4,.iter 2 4 kS left (some p),.aB],uR Tryz.f49 7 1,ki 7⟩
def pJ(th:Th):Prop:=th.length<=4096/\∀i,i<th.length->(j9 (th.getD i (CL.d cS))).length=64
def okM(n:Nat)(m:As):Prop:=(m.map (·.1)).Nodup/\∀p∈m,0<=p.1/\p.1<(n:Int)/\List.length (α:=Int) p.2=64
def okF(fu:Int):Prop:= -1<=fu/\fu<=9223372036854775807
structure bz (th:Th) (m:As) (fu:Int):Prop where
 t:pJ th
 m:okM th.length m
 f:okF fu
def lg(th:Th)(n:Int):Bool:=decide (0<=n)&&decide (n<(th.length:Int))
def mC(th:Th)(m:As)(n:Int):List Int:=match cW m n with
 |some v=>v
 |none=>j9 (th.getD n.toNat (CL.d cS))
def dX(th:Th)(m:As)(n:Int):ByteArray:=if lg th n=true then aW (mC th m n)else empty
def rdE(th:Th)(n:Int):Int:=if lg th n=true then 0 else 5
def dL(fu:Int):Int:=if fu=0 then 0 else imax (fu - 1) (-1)
def oG(th:Th)(fu n:Int)(s:ByteArray):Int:=if lg th n=true then(if s.size=64 then(if fu=0 then 42 else 0)else 1)else 5
def tx(th:Th)(m:As)(fu n:Int)(s:ByteArray):As:=if oG th fu n s=0 then l8 m n (bP s)else m
def tz(th:Th)(fu n:Int)(s:ByteArray):Int:=if lg th n=true/\s.size=64 then dL fu else fu
def yB(fu:Int):Int:=if fu=0 then 42 else 0
def ovl(th:Th)(m:As):Th:=(List.range th.length).map λ(i:Nat)=>(zb (mC th m (i:Int)):CL cS)
def lJ(th:Th)(m:As)(fu:Int):Th:=if fu=0 then th else ovl th m
def nF(m:As)(fu:Int):As:=if fu=0 then m else []
abbrev sRd:Spec (Th×As×Int×Int):=⟨λ(_,_,_,n)=>[.an 0 0,.s (.int .i64 n)],λ(th,m,fu,_)=>hD th m fu,λ(th,m,fu,_)=>[bz th m fu],λ(th,m,fu,_)=>hD th m fu,λ(th,m,_,n)=>.bD [.s (.ag (dX th m n)),.s (.int .i64 (rdE th n))]⟩
abbrev sWr:Spec (Th×As×Int×Int×ByteArray):=⟨λ(_,_,_,n,s)=>[.an 0 0,.s (.int .i64 n),.s (.ag s)],λ(th,m,fu,_)=>hD th m fu,λ(th,m,fu,_)=>[bz th m fu],
 λ(th,m,fu,n,s)=>hD th (tx th m fu n s) (tz th fu n s),λ(th,_,fu,n,s)=>.s (.int .i64 (oG th fu n s))⟩
abbrev sFl:Spec (Th×As×Int):=⟨λ_=>[.an 0 0],λ(th,m,fu)=>hD th m fu,λ(th,m,fu)=>[bz th m fu],λ(th,m,fu)=>hD (lJ th m fu) (nF m fu) (dL fu),λ(_,_,fu)=>.s (.int .i64 (yB fu))⟩
abbrev sDe:Spec (Th×As×Int):=⟨λ_=>[.an 0 0],λ(th,m,fu)=>hD th m fu,λ_=>[],λ(th,m,fu)=>hD th m fu,λ(_,_,fu)=>.s (.bool (fu==0))⟩
theorem alq(th:Th)(m:As)(fu n:Int):run P iU.sum Tryz.f135 [] (start Tryz.f135 [.an 0 0,.s (.int .i64 n)] (hD th m fu)) inD=
 Tree.ite (decide (n<(0:Int))) (Tree.ret (hD th m fu) (AV.bD [AV.s (SV.ag empty),AV.s (SV.aZ IntKind.i64 (5:Int))])) (Tree.ite (decide (n≥(↑(List.length th):Int))) (Tree.ret (hD th m fu) (AV.bD [AV.s (SV.ag empty),AV.s (SV.aZ IntKind.i64 (5:Int))])) (Tree.ite (qa m n) (Tree.ab ((0:Int)≤(0:Int)) (Tree.ab ((0:Int)≤(↑(64:Nat):Int)) (Tree.ab ((↑(64:Nat):Int)≤(↑(64:Nat):Int)) (Tree.ab ((0:Nat)+(64:Nat)≤(64:Nat)) (Tree.ret (hD th m fu++[au.ay [AV.aw IntKind.u8 (64:Nat) ((cW m n).getD (CK.arr IntKind.u8 (64:Nat)).d)] (165:Nat),au.ay [AV.aw IntKind.u8 (64:Nat) ((cW m n).getD (CK.arr IntKind.u8 (64:Nat)).d)] (165:Nat),au.ay [AV.aw IntKind.u8 (64:Nat) ((cW m n).getD (CK.arr IntKind.u8 (64:Nat)).d)] (165:Nat)]) (AV.bD [AV.s (SV.ag (aW (List.take (64:Nat) (List.drop (0:Nat) ((cW m n).getD (CK.arr IntKind.u8 (64:Nat)).d))))),AV.s (SV.aZ IntKind.i64 (0:Int))])))))) (Tree.ab ((0:Int)≤n) (Tree.ab (n<(↑(List.length th):Int)) (Tree.ab (List.length (List.getD th n.toNat (CL.d [CK.arr IntKind.u8 (64:Nat)])).fst=(64:Nat)) (Tree.ab ((0:Int)≤(0:Int)) (Tree.ab ((0:Int)≤(↑(64:Nat):Int)) (Tree.ab ((↑(64:Nat):Int)≤(↑(64:Nat):Int)) (Tree.ab ((0:Nat)+(64:Nat)≤(64:Nat)) (Tree.ret (hD th m fu++[au.ay [AV.aw IntKind.u8 (64:Nat) (List.getD th n.toNat (CL.d [CK.arr IntKind.u8 (64:Nat)])).fst] (165:Nat),au.ay [AV.aw IntKind.u8 (64:Nat) ((cW m n).getD (CK.arr IntKind.u8 (64:Nat)).d)] (165:Nat),au.ay [AV.aw IntKind.u8 (64:Nat) (List.getD th n.toNat (CL.d [CK.arr IntKind.u8 (64:Nat)])).fst] (165:Nat)]) (AV.bD [AV.s (SV.ag (aW (List.take (64:Nat) (List.drop (0:Nat) (List.getD th n.toNat (CL.d [CK.arr IntKind.u8 (64:Nat)])).fst)))),AV.s (SV.aZ IntKind.i64 (0:Int))]))))))))))):=by kernel_rfl
theorem ajm(th:Th)(m:As)(fu n:Int)(s:ByteArray):run P iU.sum Tryz.f136 [] (start Tryz.f136 [.an 0 0,.s (.int .i64 n),.s (.ag s)] (hD th m fu)) inD=
 Tree.ite (decide (n<0)) (.ret (hD th m fu) (.s (.aZ .i64 5))) (.ite (decide (n>=(↑(List.length th):Int))) (.ret (hD th m fu) (.s (.aZ .i64 5))) (.ite ((↑s.size:Int) !=64) (.ret (hD th m fu) (.s (.aZ .i64 1))) (.ite (fu==0) (.ret (hD th m fu) (.s (.aZ .i64 42))) (.ab (aG (fu - (1:Int))) (.ab (s.size<=4294967296) (.ab ((64:Nat)<=(bP s).length) (.ab (List.length ([(List.take 64 (bP s),())].getD 0 (CL.d [.arr .u8 64])).fst=64) (.ret (hD th (l8 m n ([(List.take 64 (bP s),())].getD 0 (CL.d [.arr .u8 64])).fst) (imax (fu - (1:Int)) (-1))) (.s (.aZ .i64 0)))))))))):=by kernel_rfl
theorem ajn(th:Th)(m:As)(fu:Int):run P iU.sum Tryz.f49 ac7 (start Tryz.f49 [.an 0 0] (hD th m fu)) inD=
 Tree.ite (fu==0) (.ret (hD th m fu) (.s (.aZ .i64 42))) (.ab (aG (fu - (1:Int))) (.at (cF6 th m (imax (fu - (1:Int)) (-1))))):=by kernel_rfl
theorem as1(th:Th)(m:As)(fu:Int):run P iU.sum Tryz.f49 ac7 (cF6 th m fu) inD=
 Tree.at (.mk (sl 34 [(0,.an 0 0),(13,.an 0 0),(14,.an 0 0),(15,.an 0 1),(16,.gV 2)]) (hD th m fu) (uR Tryz.f49 6 4) (.mk none false 0 [] 6)):=by kernel_rfl
theorem aoN(th:Th)(m:As)(fu:Int):run P iU.sum Tryz.f49 ac7 (axY th m fu) inD=
 Tree.at (cF7 th m m none fu):=by kernel_rfl
theorem alr(th:Th)(m left:As)(cur:Option (Int×kS.V))(fu:Int):run P iU.sum Tryz.f49 ac7 (cF7 th m left cur fu) inD=
 Tree.at (.mk (sl 34 [(0,.an 0 0),(17,.an 3 0)]) [Ds.jw 1 2 fu,.aq (.az Ds.cS th) Ds.eS,.jA (.arr .u8 64) m 4,.iter 2 4 (.arr .u8 64) left cur,.aB] (uR Tryz.f49 7 0) (.mk none false 0 [] 7)):=by kernel_rfl
theorem aoO(th:Th)(m:As)(fu:Int):run P iU.sum Tryz.f49 ac7 (axZ th m fu) inD=
 Tree.ret (hD th [] fu++[.aB,.aB]) (.s (.aZ .i64 0)):=by kernel_rfl
theorem aoP(th:Th)(m left:As)(p:Int×kS.V)(fu:Int):run P iU.sum Tryz.f49 ac7 (ax0 th m left p fu) inD=
 Tree.ab ((0:Int)<=p.fst) (.ab (p.fst<(↑(List.length th):Int)) (.at (cF7 (List.set th p.fst.toNat (p.snd,())) m left (some p) fu))):=by kernel_rfl
theorem gN{th:Th}{n:Int}:lg th n=true↔0<=n/\n<(th.length:Int):=by simp[lg]
theorem rN{th:Th}{n:Int}:lg th n=false↔n<0\/(th.length:Int)<=n:=by
 rw[<-Bool.not_eq_true,gN];omega
theorem w6{m:As}{n:Int}:qa m n=(cW m n).isSome:=by
 rw[Bool.eq_iff_iff];simp only[qa,cW,Option.isSome_map,List.find?_isSome,List.any_eq_true]
theorem w7{m:As}{n:Int}{v:kS.V}(h:cW m n=some v):(n,v)∈m:=by
 simp only[cW,map_eq_some_iff]at h;obtain⟨p,hp,rfl⟩:=h;have h1:=List.mem_of_find?_eq_some hp;have h2:=List.find?_some hp;simp only[beq_iff_eq]at h2;have⟨a,b⟩:=p;simp only at h2;subst h2;exact h1
theorem w8{th:Th}{m:As}{fu n:Int}(h:bz th m fu)(hn:lg th n=true):(mC th m n).length=64:=by
 have⟨h0,h1⟩:=gN.1 hn;unfold mC;split;rename_i v hv;exact(h.m.2 _ (w7 hv)).2.2;exact h.t.2 _ (by omega)
theorem ac8{l:List Int}(h:l.length=64):List.take 64 (List.drop 0 l)=l:=by rw[List.drop_zero,take_of_length_le (by omega)]
theorem aoQ{Z:bB}:gE P Z 135 sRd:=by
 refine aK Tryz.func135 (by kernel_rfl) (λx=>le_of_ble_eq_true (by kernel_rfl)) ?_;rintro⟨(th:Th),(m:As),(fu:Int),(n:Int)⟩ ⟨(hd:bz th m fu),_⟩ X hX hz;have bad:lg th n=false->dX th m n=empty/\rdE th n=5:=λh=>by simp[dX,rdE,h]
 refine dk hz hX (by simp) aR.Ok.nil Tryz.func135 (alq th m fu n) ⟨λh=> ?_,λh=>⟨λh2=> ?_,λh2=> ?_⟩⟩;have⟨e1,e2⟩:=bad (rN.2 (.inl (of_decide_eq_true h)));exact bN 3 (by kernel_rfl) (le_refl _) (by show AV.bD [.s (.ag (dX th m n)),.s (.int .i64 (rdE th n))]=_;rw[e1,e2]) rfl;have⟨e1,e2⟩:=bad (rN.2 (.inr (of_decide_eq_true h2)));exact bN 3 (by kernel_rfl) (le_refl _) (by show AV.bD [.s (.ag (dX th m n)),.s (.int .i64 (rdE th n))]=_;rw[e1,e2]) rfl;have h:=of_decide_eq_false h;have h2:=of_decide_eq_false h2;have dv:lg th n=true:=gN.2 ⟨by omega,by omega⟩;have hl:=w8 hd dv;have e1:dX th m n=aW (mC th m n):=by simp[dX,dv]
 have e2:rdE th n=0:=by simp[rdE,dv]
 refine⟨λhh=>⟨by omega,by omega,by omega,by omega, ?_⟩,λhh=>⟨by omega,by omega, ?_,by omega,by omega,by omega,by omega, ?_⟩⟩;rw[w6]at hh;have⟨v,hv⟩:=isSome_iff_exists.1 hh;have e3:mC th m n=v:=by unfold mC;rw[hv]
 rw[e3]at e1 hl;refine bN (o:=.bD [.s (.ag (aW (List.take 64 (List.drop 0 (((cW m n).getD (CK.arr .u8 64).d):List Int))))),.s (.int .i64 0)]) 3 (by kernel_rfl) (le_refl _) ?_ rfl;show AV.bD [.s (.ag (dX th m n)),.s (.int .i64 (rdE th n))]=_;rw[e1,e2,hv,getD_some,ac8 hl];rw[w6]at hh;have hv:cW m n=none:=by simpa using hh
 have e3:mC th m n=j9 (th.getD n.toNat (CL.d cS)):=by simp[mC,hv]
 rw[e3]at hl;exact hl;rw[w6]at hh;have hv:cW m n=none:=by simpa using hh
 have e3:mC th m n=j9 (th.getD n.toNat (CL.d cS)):=by simp[mC,hv]
 rw[e3]at e1 hl;refine bN (o:=.bD [.s (.ag (aW (List.take 64 (List.drop 0 (j9 (th.getD n.toNat (CL.d cS))))))),.s (.int .i64 0)]) 3 (by kernel_rfl) (le_refl _) ?_ rfl;show AV.bD [.s (.ag (dX th m n)),.s (.int .i64 (rdE th n))]=_;rw[e1,e2,ac8 hl]
theorem w9{Z:bB}:gE P Z 136 sWr:=by
 refine aK Tryz.func136 (by kernel_rfl) (λx=>le_of_ble_eq_true (by kernel_rfl)) ?_;rintro⟨(th:Th),(m:As),(fu:Int),(n:Int),(s:ByteArray)⟩ ⟨(hd:bz th m fu),_⟩ X hX hz;have⟨f1,f2⟩:=hd.f;have fin:∀(e:Int) (m':As) (fJ:Int),oG th fu n s=e->tx th m fu n s=m'->tz th fu n s=fJ->
  (sWr.out (th,m,fu,n,s)=.s (.int .i64 e))/\sWr.eG (th,m,fu,n,s)=hD th m' fJ:=λe m' fJ h1 h2 h3=>
  ⟨by show AV.s (.int .i64 (oG th fu n s))=_;rw[h1],by show hD th (tx th m fu n s) (tz th fu n s)=_;rw[h2,h3]⟩
 have bad:lg th n=false->oG th fu n s=5/\tx th m fu n s=m/\tz th fu n s=fu:=λh=>by simp[oG,tx,tz,h]
 refine dk hz hX (by simp) aR.Ok.nil Tryz.func136 (ajm th m fu n s) ⟨λh=> ?_,λh=>⟨λh2=> ?_,λh2=>⟨λh3=> ?_,λh3=>⟨λh4=> ?_,λh4=>⟨⟨by omega,by omega⟩, ?_, ?_, ?_, ?_⟩⟩⟩⟩⟩;have⟨e1,e2,e3⟩:=bad (rN.2 (.inl (of_decide_eq_true h)));exact bN 3 (by kernel_rfl) (le_refl _) (fin _ _ _ e1 e2 e3).1 (fin _ _ _ e1 e2 e3).2;have⟨e1,e2,e3⟩:=bad (rN.2 (.inr (of_decide_eq_true h2)));exact bN 3 (by kernel_rfl) (le_refl _) (fin _ _ _ e1 e2 e3).1 (fin _ _ _ e1 e2 e3).2
 all_goals
  have h:=of_decide_eq_false h;have h2:=of_decide_eq_false h2;have dv:lg th n=true:=gN.2 ⟨by omega,by omega⟩
 have h3:s.size≠64:=by intro e;rw[e]at h3;simp at h3
 have e1:oG th fu n s=1:=by simp[oG,dv,h3]
 exact bN 3 (by kernel_rfl) (le_refl _) (fin 1 m fu e1 (by simp[tx,e1]) (by simp[tz,h3])).1 (fin 1 m fu e1 (by simp[tx,e1]) (by simp[tz,h3])).2
 all_goals
  have h3:s.size=64:=by have:(s.size:Int)=64:=by simpa using h3
                        omega
 have h4:fu=0:=by simpa using h4
 have e1:oG th fu n s=42:=by simp[oG,dv,h3,h4]
 exact bN 3 (by kernel_rfl) (le_refl _) (fin 42 m fu e1 (by simp[tx,e1]) (by simp[tz,dv,h3,h4,dL])).1 (fin 42 m fu e1 (by simp[tx,e1]) (by simp[tz,dv,h3,h4,dL])).2;omega;rw[jH];omega;show(List.take 64 (bP s)).length=64;rw[length_take,jH];omega;have h4:fu≠0:=by simpa using h4
 have e1:oG th fu n s=0:=by simp[oG,dv,h3,h4]
 have e2:tx th m fu n s=l8 m n (List.take 64 (bP s)):=by
  rw[take_of_length_le (by rw[jH];omega)];simp[tx,e1]
 have e3:tz th fu n s=imax (fu - 1) (-1):=by simp[tz,dv,h3,dL,h4]
 exact bN 3 (by kernel_rfl) (le_refl _) (fin _ _ _ e1 e2 e3).1 (fin _ _ _ e1 e2 e3).2
theorem ac9{m:As}{n:Int}{v:kS.V}(p:Int×kS.V):p∈l8 m n v->p∈m\/p=(n,v):=by
 unfold l8;split;intro h;obtain⟨q,hq,rfl⟩:=mem_map.1 h;split;exact .inr rfl;exact .inl hq;intro h;rcases mem_append.1 h with h|h;exact .inl h;exact .inr (mem_singleton.1 h)
theorem jx(th:Th)(m:As):(ovl th m).length=th.length:=by simp[ovl]
theorem rO{th:Th}{m:As}{i:Nat}(h:i<th.length):j9 ((ovl th m).getD i (CL.d cS))=mC th m (i:Int):=by
 rw[bt (by rw[jx];exact h)];simp only[ovl,List.getElem_map,List.getElem_range];rfl
theorem als{a b:Th}(h:a.length=b.length)(hg:∀i,i<a.length->j9 (a.getD i (CL.d cS))=j9 (b.getD i (CL.d cS))):a=b:=by
 refine List.ext_getElem h λi h1 h2=> ?_;have:=hg i h1;rw[bt h1,bt h2]at this;exact Prod.ext this rfl
theorem aoR(th:Th):ovl th []=th:=als (jx _ _) λi hi=>by
 rw[jx]at hi;rw[rO hi];show j9 (th.getD (i:Int).toNat (CL.d cS))=_;rw[toNat_natCast]
theorem tA{m:As}{n:Int}(h:∀p∈m,p.1≠n):cW m n=none:=by
 simp only[cW,Option.map_eq_none_iff,List.find?_eq_none,beq_iff_eq];exact h
theorem pt{m:As}(hk:(m.map (·.1)).Nodup){p:Int×kS.V}(hp:p∈m):cW m p.1=some p.2:=by
 have⟨j,hj⟩:=List.getElem?_of_mem hp;simp only[cW,qs hk hj,map_some]
theorem xa{m:As}(hk:(m.map (·.1)).Nodup){j:Nat}(hj:j<m.length):((m.eraseIdx j).map (·.1)).Nodup/\(∀p∈m.eraseIdx j,p∈m/\p.1≠m[j].1)/\∀p∈m,p.1≠m[j].1->p∈m.eraseIdx j:=by
 refine⟨(List.Sublist.map _ (List.eraseIdx_sublist _ _)).nodup hk,λp hp=>⟨List.mem_of_mem_eraseIdx hp,λe=> ?_⟩,λp hp e=> ?_⟩;have⟨i,hi,lI⟩:=List.mem_eraseIdx_iff_getElem?.1 hp;obtain⟨bA,rfl⟩:=getElem?_eq_some_iff.1 lI;have:=(List.getElem_inj (h₀:=by simpa using bA) (h₁:=by simpa using hj) hk).1 (by simpa using e);exact hi this;have⟨i,hi⟩:=List.getElem?_of_mem hp;refine List.mem_eraseIdx_iff_getElem?.2 ⟨i,λh=> ?_,hi⟩;subst h;obtain⟨_,rfl⟩:=getElem?_eq_some_iff.1 hi;exact e rfl
theorem afC{m:As}(hk:(m.map (·.1)).Nodup){j:Nat}(hj:j<m.length)(n:Int):cW (m.eraseIdx j) n=if n=m[j].1 then none else cW m n:=by
 have⟨k1,k2,k3⟩:=xa hk hj;split;rename_i e;exact tA λp hp=>by rw[e];exact(k2 p hp).2
 rename_i e;cases h:cW m n with
 |none=>
  refine tA λp hp he=> ?_;have:=pt hk (k2 p hp).1;rw[he,h]at this;cases this
 |some v=>
  have h1:=w7 h;exact pt k1 (k3 _ h1 e)
theorem alu{th:Th}{left:As}(hk:(left.map (·.1)).Nodup){j:Nat}(hj:j<left.length)(h0:0<=left[j].1)(h1:left[j].1<(th.length:Int)):
 ovl (th.set left[j].1.toNat (zb left[j].2)) (left.eraseIdx j)=ovl th left:=by
 refine als (by rw[jx,jx,List.length_set]) λi hi=> ?_;rw[jx,List.length_set]at hi;rw[rO (by rw[List.length_set];exact hi),rO hi];unfold mC;rw[afC hk hj];by_cases e:(i:Int)=left[j].1;have hm:=pt hk (getElem_mem hj);rw[if_pos e,e,hm];simp only[];rw[mZ (by omega)];rfl;rw[if_neg e];cases cW left (i:Int)with
 |some v=>rfl
 |none=>
  simp only[toNat_natCast];rw[wo (by omega)]
theorem ada{Z:bB}:gE P Z 49 sFl:=by
 refine aK Tryz.func49 (by kernel_rfl) (λx=>le_of_ble_eq_true (by kernel_rfl)) ?_;rintro⟨(th:Th),(m:As),(fu:Int)⟩ ⟨(hd:bz th m fu),_⟩ X hX hz;have⟨f1,f2⟩:=hd.f;have kc:∀x∈ac7,(hD th m fu).length<=x.2.m:=by intro y hy;simp[ac7]at hy;rcases hy with rfl|rfl<;>exact le_refl _
 have fin:∀(e:Int) (fQ:Th) (m':As) (fJ:Int),yB fu=e->lJ th m fu=fQ->nF m fu=m'->dL fu=fJ->
  (sFl.out (th,m,fu)=.s (.int .i64 e))/\sFl.eG (th,m,fu)=hD fQ m' fJ:=λe fQ m' fJ h1 h2 h3 h4=>
  ⟨by show AV.s (.int .i64 (yB fu))=_;rw[h1],by show hD (lJ th m fu) (nF m fu) (dL fu)=_;rw[h2,h3,h4]⟩
 refine dk hz hX kc aR.Ok.nil Tryz.func49 (ajn th m fu) ⟨λh=> ?_,λh=>⟨⟨by omega,by omega⟩, ?_⟩⟩;have h:fu=0:=by simpa using h
 have f:=fin 42 th m 0 (by simp[yB,h]) (by simp[lJ,h]) (by simp[nF,h]) (by simp[dL,h]);subst h;exact bN 3 (by kernel_rfl) (le_refl _) f.1 f.2;have h:fu≠0:=by simpa using h
 generalize hfu:imax (fu - 1) (-1)=fJ;have f:=fin 0 (ovl th m) [] fJ (by simp[yB,h]) (by simp[lJ,h]) (by simp[nF,h]) (by simp[dL,h,hfu]);have loop:∀(k:Nat) (fQ:Th) (left:As) (cur:Option (Int×kS.V)),left.length=k->fQ.length=th.length->ovl fQ left=ovl th m->(left.map (·.1)).Nodup->(∀p∈left,0<=p.1/\p.1<(th.length:Int))->
  Safe P 49 X (eH sFl (th,m,fu)) (cF7 fQ m left cur fJ):=by
  intro k
  induction k with
  |zero=>
   intro fQ left cur hl bK hov hk hr;obtain rfl:=List.eq_nil_of_length_eq_zero hl;refine dk hz hX kc aR.Ok.nil Tryz.func49 (alr fQ m [] cur fJ) ?_;refine zL (x:=17) (d:=18) (by kernel_rfl) (by kernel_rfl) (id:=3) (mid:=2) (gid:=4) (ck:=kS) (ck':=kS) rfl rfl rfl rfl (λ_=> ?_) (λj hj=>absurd hj (Nat.not_lt_zero _));refine dk hz hX kc aR.Ok.nil Tryz.func49 (aoO fQ m fJ) ?_;rw[aoR]at hov;subst hov;exact bN 3 (by kernel_rfl) (le_refl _) f.1 f.2
  |succ k ih=>
   intro fQ left cur hl bK hov hk hr;refine dk hz hX kc aR.Ok.nil Tryz.func49 (alr fQ m left cur fJ) ?_;refine zL (x:=17) (d:=18) (by kernel_rfl) (by kernel_rfl) (id:=3) (mid:=2) (gid:=4) (ck:=kS) (ck':=kS) rfl rfl rfl rfl (λh0=> ?_) (λj hj=> ?_);subst h0;simp at hl;have hgj:left.getD j (0,kS.d)=left[j]:=bt hj;have⟨r1,r2⟩:=hr _ (getElem_mem hj);have⟨k1,k2,_⟩:=xa hk hj;refine dk hz hX kc aR.Ok.nil Tryz.func49 (aoP fQ m (left.eraseIdx j) (left.getD j (0,kS.d)) fJ) ⟨by rw[hgj];exact r1,by rw[hgj,bK];exact r2, ?_⟩;have:=ih (fQ.set left[j].1.toNat (zb left[j].2)) (left.eraseIdx j) (some left[j]) (by rw[List.length_eraseIdx,if_pos hj];omega) (by rw[List.length_set];exact bK) (by rw[alu hk hj r1 (by rw[bK];exact r2)];exact hov) k1
    (λp hp=>hr p (k2 p hp).1)
   rw[hgj];exact this
 refine dk hz hX kc aR.Ok.nil Tryz.func49 (as1 th m fJ) ?_;refine afB (t:=103) (x:=16) (d:=17) (by kernel_rfl) (by kernel_rfl) (by kernel_rfl) (id:=2) (ck:=kS) rfl rfl ?_;refine dk hz hX kc aR.Ok.nil Tryz.func49 (aoN th m fJ) ?_;exact loop m.length th m none rfl rfl rfl hd.m.1 λp hp=>⟨(hd.m.2 p hp).1,(hd.m.2 p hp).2.1⟩
end Ds
namespace Go.Sx
open Go
def afD(i:Nat)(c0:a8)(s:Nat->List AV->RM b8):Nat->List AV->RM b8:=λbase args=>
 match args[i]? with
 |some (.aq id)=>.aA id λo=>match o with
  |some (.aq c _)=>((s base (args.set i (.s (.ro c)))).ae0 id).bind λq=>.ret ⟨q.ab,(id,.aB)::q.up,q.new,q.r⟩
  |_=>.fail "frz: no row"
 |some .emp=>bif c0.n.beq 0 then s base (args.set i (.s (.ro c0)))else .fail "frz: nil"
 |_=>s base args
section
variable{ρ aQ:Nat->Value}{H H':aV}{G O O':Nat->Prop}{w w':World}{P:Program}{Z:bB}
theorem adb{aS:List AV}:∀{vs:List Value} {i:Nat} {a b:AV},bV ρ H O w aS vs->aS[i]? =some a->(∀v,ak ρ H O w a v->ak ρ H O w b v)->bV ρ H O w (aS.set i b) vs:=by
 induction aS with
 |nil=>intro vs i a b h hi;simp at hi
 |cons x aS ih=>
  intro vs i a b h hi hab;obtain⟨v,rest,rfl,h1,h2⟩:=aI.1 h;cases i with
  |zero=>
   simp only[List.getElem?_cons_zero,Option.some.injEq]at hi;subst hi;exact aI.2 ⟨v,rest,rfl,hab v h1,h2⟩
  |succ i=>exact aI.2 ⟨v,rest,rfl,h1,ih h2 (by simpa using hi) hab⟩
theorem ajo{f:FuncId}{s:Nat->List AV->RM b8}(h:qA P Z f s)(i:Nat)(c0:a8):qA P Z f (afD i c0 s):=by
 intro base args H q hq hn ρ G w vs dK hz hs hd;unfold afD at hq;split at hq;rename_i id hi;simp only[RM.eval]at hq;split at hq;rename_i c e ho;have⟨q',h1,h2⟩:=RM.pr hq;simp only[RM.eval,Option.some.injEq]at h2;subst h2;rw[RM.mu]at h1;have st:=fz (ρ:=ρ) (G:=G) (w:=w) ho;have hd1:=bV.step st _ _ hd
 have hd2:bV ρ (aF H id .aB) (bd ρ (aF H id .aB) G) w (args.set i (.s (.ro c))) vs:=by
  have ad:∀(aS:List AV) (vs:List Value) (i:Nat),bV ρ H (bd ρ H G) w aS vs->bV ρ (aF H id .aB) (bd ρ (aF H id .aB) G) w aS vs->aS[i]? =some (.aq id)->bV ρ (aF H id .aB) (bd ρ (aF H id .aB) G) w (aS.set i (.s (.ro c))) vs:=by
   intro aS
   induction aS with
   |nil=>intro vs i h1 h2 hi;simp at hi
   |cons x aS ih=>
    intro vs i h1 h2 hi;obtain⟨v,rest,rfl,h3,h4⟩:=aI.1 h1;have⟨v',au3,e1,h5,h6⟩:=aI.1 h2;cases e1;cases i with
    |zero=>
     simp only[List.getElem?_cons_zero,Option.some.injEq]at hi;subst hi;obtain⟨a,cap,rfl,hr,_⟩:=js hs ho h3;have:=rr hs ho;rw[hr]at this;exact aI.2 ⟨_,rest,rfl,aJ this,h6⟩
    |succ i=>exact aI.2 ⟨v,rest,rfl,h5,ih rest i h4 h6 (by simpa using hi)⟩
  exact ad args vs i hd hd1 hi
 have hz1:ZAt Z ρ (aF H id .aB) w:=⟨hz.1,λb hb hO=>hz.2 b hb (fA hO)⟩
 have abi:∀j,j<q'.new.length->aF H id .aB (base+j)=none:=λj hj=>by
  have:=dK j hj;simp only[aF];split;rename_i e1;rw[e1,ho]at this;cases this;exact this
 refine(h base _ _ q' h1 hn ρ G w vs abi hz1 (hs.kill ho) hd2).mono ?_;rintro en w' ⟨v,he,hg⟩;refine⟨v,he, ?_⟩
 have afg:di H ((id,.aB)::q'.up) base q'.new=di (aF H id .aB) q'.up base q'.new:=by
  funext j;simp only[di,cK,aF];cases cK q'.up j with
  |some x=>rfl
  |none=>
   simp only[];by_cases hj:j=id;subst hj
   have te:¬(base<=j/\j<base+q'.new.length):=by
    rintro⟨k1,k2⟩;have:=dK (j - base) (by simp only[];omega);rw[show base+(j - base)=j from by omega,ho]at this;cases this
   simp[te];simp[hj]
 simp only[];rw[afg];exact Good.after st (λb hb=>fA hb) hg;cases hq;rename_i hi;rw[cond_eq_ite]at hq;split at hq;rename_i hc;have hc:c0.n=0:=by simpa using hc
 refine h base _ H q hq hn ρ G w vs dK hz hs (adb hd hi λv hv=> ?_);unfold ak at hv;obtain⟨a,rfl⟩:=hv;exact aJ (rH hc a);cases hq;exact h base _ H q hq hn ρ G w vs dK hz hs hd
def ajp{X:Type}(S:Spec X)(x:X)(L:List au)(r:AV):Prop:=
 ∃(N:Norm) (o:AV),(S.heap x).length<=N.m/\N.run ⟨[r],L,[],{}⟩=some ⟨[o],S.eG x,[],{}⟩/\∀(ρ:Nat->Value) (H:aV) (O:Nat->Prop) (w:World) (v:Value),ak ρ H O w o v->ak ρ H O w (S.out x) v
variable{X:Type}{S:Spec X}
theorem rP{f:FuncId}{fn:Func}(hf:P.funcs[f]? =some fn)(hb:fn.body.isSome=true)(hn:∀x,(S.args x).length<=fn.ntmps)
 (h:∀x,bT (S.pre x)->∀X:Ctx,X.H=lk (S.heap x)->eO Z X->Safe P f X (ajp S x) (start fn (S.args x) (S.heap x))):gE P Z f S:=by
 intro x mz ρ G w vs hz hs hd;have⟨c,hb⟩:=isSome_iff_exists.1 hb
 have oF:vs.length=(S.args x).length:=by
  have:∀{aS:List AV} {vs:List Value},bV ρ (lk (S.heap x)) (bd ρ (lk (S.heap x)) G) w aS vs->vs.length=aS.length:=by
   intro aS
   induction aS with
   |nil=>intro vs h;rw[bo.1 h];rfl
   |cons a aS ih=>intro vs h;obtain⟨v,rest,rfl,_,h2⟩:=aI.1 h;simp[ih h2]
  exact this hd
 refine(ju (R:=ku ⟨ρ,lk (S.heap x),G,w,[]⟩ (ajp S x)) hf hb ?_).mono ?_;have:=(h x mz ⟨ρ,lk (S.heap x),G,w,[]⟩ rfl hz).goes rfl rfl (ρ:=ρ) (a:={ah:=vs.toArray++Array.replicate (fn.ntmps - vs.toArray.size) undef,defers:=[]}) (w:=w);simp only[start,hb,getD_some]at this;refine this ⟨hs, ?_,λt=> ?_,rfl,Step.refl _ _ _ _,⟨rfl,rfl,rfl,λ_ _ _=>rfl⟩,λx hx=>by cases hx⟩;simp[oF]
 have e1:∀(aS:List AV) (vs:List Value),bV ρ (lk (S.heap x)) (bd ρ (lk (S.heap x)) G) w aS vs->∀t,ak ρ (lk (S.heap x)) (bd ρ (lk (S.heap x)) G) w (aS.getD t (.bD [])) (vs.getD t undef):=by
  intro aS
  induction aS with
  |nil=>intro vs h t;rw[bo.1 h];simp only[List.getD,List.getElem?_nil,Option.getD_none];exact cZ
  |cons a aS ih=>
   intro vs h t;obtain⟨v,rest,rfl,h1,h2⟩:=aI.1 h;cases t with
   |zero=>simpa using h1
   |succ t=>simpa using ih rest h2 t
 have h1:=e1 _ _ hd t;simp only[List.getD_eq_getElem?_getD,List.getElem?_append,List.getElem?_replicate,getD_eq_getD_getElem?,Array.getElem?_append,List.getElem?_toArray,Array.getElem?_replicate,List.size_toArray]at h1 ⊢;rw[oF];split;rename_i ht;have hv:vs[t]? =some vs[t]:=getElem?_eq_getElem (by omega);have ha:(S.args x)[t]? =some (S.args x)[t]:=getElem?_eq_getElem ht;rw[hv,ha]at h1 ⊢;exact h1;split;exact cZ;unfold ak;trivial;rintro e w' ⟨v,rfl,L,r,⟨N,o,hm,hN,hwk⟩,jL,g1,g2,g3,g4⟩;refine⟨v,rfl, ?_⟩
 have r0:cF ⟨ρ,lk (S.heap x),G,w,[]⟩ jL ⟨[r],L⟩ {ah:= #[v],defers:=[]} w':=by
  refine⟨g1,rfl,λt=> ?_,rfl,g3,g4,λx hx=>by cases hx⟩;cases t with
  |zero=>exact g2
  |succ t=>simp only[List.getD,Array.getD];simp;unfold ak;trivial
 have h0:∀id,N.m<=id->(⟨ρ,lk (S.heap x),G,w,[]⟩:Ctx).H id=none:=λid dN=>by simp[lk];omega
 unfold Norm.run at hN;split at hN;rename_i t1 L1 h1;simp only[]at hN;split at hN;rename_i t2 L2 h2;simp only[Option.some.injEq,cn.mk.injEq,and_true]at hN;obtain⟨rfl,rfl⟩:=hN;have⟨jL,r1⟩:=cF.gr h0 h1 (cF.fa N.fq r0);have⟨gD,r2⟩:=cF.gL N.qb r1;have⟨ρ3,r3⟩:=cF.gM N.cells r2;have⟨ρ4,r4⟩:=cF.gr h0 h2 r3;exact⟨ρ4,r4.sat,(hwk _ _ _ _ _ (by have h:=r4.den 0;exact h)),r4.ax,r4.jQ⟩;cases hN;cases hN
end
end Go.Sx
namespace Ds
open Go Go.Sx Go.Proofs Lf
abbrev bQ(n:Int):AV:=.s (.int .i64 n)
def xb:List AV->RM ((Th×As×Int)×List Nat)
 |[.an id 0]=>.aA id λo=>match o with
  |some (.ay [.aq i,.gV j,f] _)=>.aA i λo=>match o with
   |some (.aq (.az [.arr .u8 64] th) _)=>.aA j λo=>match o,f.cP with
    |some (.map (.arr .u8 64) m),some (_,_,fu)=>.ret ((th,m,fu),[id,i,j])
    |_,_=>.fail "no map"
   |_=>.fail "no row"
  |_=>.fail "no disk's cells"
 |_=>.fail "no disk"
def mRd:List AV->RM ((Th×As×Int×Int)×List Nat)
 |[.an id 0,n]=>(xb [.an id 0]).bind λ((th,m,fu),σ)=>match n.cP with
  |some (_,_,n)=>.ret ((th,m,fu,n),σ)
  |none=>.fail "no number"
 |_=>.fail "no disk"
abbrev avC:=cC sRd mRd
def mWr:List AV->RM ((Th×As×Int×Int×ByteArray)×List Nat)
 |[.an id 0,n,.s (.ag s)]=>(xb [.an id 0]).bind λ((th,m,fu),σ)=>match n.cP with
  |some (_,_,n)=>.ret ((th,m,fu,n,s),σ)
  |none=>.fail "no number"
 |_=>.fail "no disk"
abbrev avD:=cC sWr mWr
def avE(th:Th)(m:As)(fu:Int):Bool:=th.length.ble 4096&&(List.range th.length).all (λi=>(j9 (th.getD i (CL.d cS))).length==64)&&decide (m.map (·.1)).Nodup&&m.all (λp=>decide (0<=p.1)&&decide (p.1<(th.length:Int))&&List.length (α:=Int) p.2==64)&&decide (-1<=fu)&&decide (fu<=9223372036854775807)
theorem ax1{th:Th}{m:As}{fu:Int}(h:avE th m fu=true):bz th m fu:=by
 simp only[avE,and_eq_true,all_eq_true,beq_iff_eq,decide_eq_true_eq,mem_range]at h;have⟨⟨⟨⟨⟨h1,h2⟩,h3⟩,h4⟩,h5⟩,h6⟩:=h;exact⟨⟨le_of_ble_eq_true h1,h2⟩,⟨h3,λp hp=>⟨(h4 p hp).1.1,(h4 p hp).1.2,(h4 p hp).2⟩⟩,h5,h6⟩
theorem alv{n:Nat}(h:n<=4096):bz (replicate n (CL.d cS)) [] (-1):=by
 refine⟨⟨by simpa using h,λi hi=> ?_⟩,⟨by simp,λp hp=>by cases hp⟩,by omega,by omega⟩;simp only[List.length_replicate]at hi;rw[bt (by simpa using hi),List.getElem_replicate];rfl
theorem tB{m:As}(h:(m.map (·.1)).Nodup){n:Int}{v:kS.V}:((l8 m n v).map (·.1)).Nodup:=by
 unfold l8;split;rw[rm];exact h;rename_i hn;have hn:∀p∈m,p.1≠n:=λp hp e=>hn (by simp only[qa,List.any_eq_true,beq_iff_eq];exact⟨p,hp,e⟩);rw[map_append,nodup_append];refine⟨h,by simp,λa ha b hb=> ?_⟩;simp only[map_cons,map_nil,mem_singleton]at hb;obtain⟨p,hp,rfl⟩:=mem_map.1 ha;rw[hb];exact hn p hp
theorem abj{fu:Int}(h:okF fu):okF (dL fu):=by
 unfold okF dL imax at *;split;omega;split<;>omega
theorem xc{th:Th}{m:As}{fu n:Int}{s:ByteArray}(h:bz th m fu):bz th (tx th m fu n s) (tz th fu n s):=by
 refine⟨h.t, ?_, ?_⟩;unfold tx;split;rename_i he
 have dv:lg th n=true/\s.size=64:=by
  unfold oG at he
  repeat' split at he
  all_goals first|(cases he;done)|exact⟨by assumption,by assumption⟩
 have⟨h0,h1⟩:=gN.1 dv.1;refine⟨tB h.m.1,λp hp=> ?_⟩;rcases ac9 p hp with hp|rfl;exact h.m.2 p hp;exact⟨h0,h1,by show(bP s).length=64;rw[jH];exact dv.2⟩;exact h.m;unfold tz;split;exact abj h.f;exact h.f
theorem as2{th:Th}{m:As}(h:pJ th)(hm:okM th.length m):pJ (ovl th m):=by
 refine⟨by rw[jx];exact h.1,λi hi=> ?_⟩;rw[jx]at hi;rw[rO hi];exact w8 (fu:=0) ⟨h,hm,by omega,by omega⟩ (gN.2 ⟨by omega,by omega⟩)
theorem arp{th:Th}{m:As}{fu:Int}(h:bz th m fu):bz (lJ th m fu) (nF m fu) (dL fu):=by
 unfold lJ nF;split;exact⟨h.t,h.m,abj h.f⟩;exact⟨as2 h.t h.m,⟨by simp,λp hp=>by cases hp⟩,abj h.f⟩
theorem pW(s:ByteArray):aW (bP s)=s:=by
 have⟨⟨l⟩⟩:=s;simp only[aW,bP,List.map_map];congr 2;refine(List.map_congr_left λb _=> ?_).trans (List.map_id l);simp
theorem ade{m:As}(h:(m.map (·.1)).Nodup){n x:Int}{v:kS.V}:cW (l8 m n v) x=if x=n then some v else cW m x:=by
 split;rename_i e;subst e
 have hm:(x,v)∈l8 m x v:=by
  unfold l8;split;rename_i hh;simp only[qa,List.any_eq_true,beq_iff_eq]at hh;have⟨p,hp,e⟩:=hh;exact mem_map.2 ⟨p,hp,by rw[if_pos (by simpa using e)]⟩;exact mem_append_right _ mem_cons_self
 exact pt (tB h) hm;rename_i e;cases hg:cW m x with
 |none=>
  refine tA λp hp ep=> ?_;rcases ac9 p hp with hp|rfl;have:=pt h hp;rw[ep,hg]at this;cases this;exact e ep.symm
 |some u=>
  have hu:=w7 hg;refine pt (tB h) (p:=(x,u)) ?_;unfold l8;split;exact mem_map.2 ⟨_,hu,by rw[if_neg (by simpa using e)]⟩;exact List.mem_append_left _ hu
theorem alw{th:Th}{m:As}(h:(m.map (·.1)).Nodup){n x:Int}{v:List Int}:mC th (l8 m n v) x=if x=n then v else mC th m x:=by
 have e:=ade h (n:=n) (x:=x) (v:=v);unfold mC;by_cases hx:x=n;rw[if_pos hx]at e ⊢;rw[e];rw[if_neg hx]at e ⊢;rw[e]
theorem alx{th:Th}{m:As}{x:Int}(h:lg th x=true):mC (ovl th m) [] x=mC th m x:=by
 have⟨h0,h1⟩:=gN.1 h;have:mC (ovl th m) [] x=j9 ((ovl th m).getD x.toNat (CL.d cS)):=rfl;rw[this,rO (by omega)];congr 1;omega
theorem aly{th fQ:Th}(h:fQ.length=th.length)(x:Int):lg fQ x=lg th x:=by unfold lg;rw[h]
theorem oH{th:Th}{fu n:Int}{s:ByteArray}:oG th fu n s=0↔lg th n=true/\s.size=64/\fu≠0:=by
 unfold oG;constructor
 ·intro h
  repeat' split at h
  all_goals first|(cases h;done)|exact⟨by assumption,by assumption,by assumption⟩
 ·rintro⟨h1,h2,h3⟩;simp[h1,h2,h3]
theorem alz{th:Th}{m:As}{fu n x:Int}{s:ByteArray}(h:bz th m fu):dX th (tx th m fu n s) x=if oG th fu n s=0/\x=n then s else dX th m x:=by
 unfold tx;by_cases he:oG th fu n s=0;rw[if_pos he];have⟨h1,h2,_⟩:=oH.1 he;unfold dX;rw[alw h.m.1];by_cases hx:x=n;subst hx;rw[if_pos h1,if_pos rfl,if_pos ⟨he,rfl⟩,pW];simp only[if_neg hx,hx,and_false,if_false];simp only[if_neg he,he,false_and,if_false]
theorem arq{th:Th}{m:As}{fu x:Int}:dX (lJ th m fu) (nF m fu) x=dX th m x:=by
 unfold lJ nF;split;rfl;unfold dX;rw[aly (jx th m)];split;rename_i hh;rw[alx hh];rfl
theorem avF{n:Int}(h:(Lit.int .u8 n).wf=true):0<=n/\n<=255:=by
 simp only[Lit.wf,and_eq_true,decide_eq_true_eq]at h;exact h
theorem tC(l:List Int):(aW l).size=l.length:=by
 show(l.map _).toArray.size=_;simp
theorem abk{th:Th}{m:As}{fu n:Int}(h:bz th m fu)(hn:lg th n=true):(dX th m n).size=64:=by
 unfold dX;rw[if_pos hn,tC,w8 h hn]
def fg(th:Th):Int:=(th.length:Int).tdiv 4
def vn(th:Th)(n:Int):Bool:=decide (0<=n)&&decide (n<fg th)
def pgL(th:Th)(m:As)(n:Int):Nat->List Int
 |0=>[]
 |k+1=>pgL th m n k++bP (dX th m (n*4+(k:Int)))
def pgA(th:Th)(m:As)(n:Int):List Int:=pgL th m n 4
def rQ(ws:List Int):Int:=ws.getD 0 0*256+ws.getD 1 0
def gS(th:Th)(m:As)(n:Int):Int:=if vn th n=true then(if rQ (pgA th m n)>254 then 4 else 0)else 5
def fR(th:Th)(m:As)(n:Int):ByteArray:=if gS th m n=0 then aW (((pgA th m n).drop 2).take (rQ (pgA th m n)).toNat)else empty
def zM(s:ByteArray):List Int:=(s.size:Int) / 256::(s.size:Int)%256::(bP s++replicate (254 - s.size) 0)
def iI(ws:List Int)(k:Nat):ByteArray:=aW ((ws.drop (64*k)).take 64)
def yC(th:Th)(n:Int)(ws:List Int):Nat->Nat->As->Int->As×Int×Int
 |0,_,m,f=>(m,f,0)
 |j+1,k,m,f=>if oG th f (n*4+(k:Int)) (iI ws k)=0 then yC th n ws j (k+1) (tx th m f (n*4+(k:Int)) (iI ws k)) (tz th f (n*4+(k:Int)) (iI ws k))
   else(tx th m f (n*4+(k:Int)) (iI ws k),tz th f (n*4+(k:Int)) (iI ws k),oG th f (n*4+(k:Int)) (iI ws k))
def gwC(th:Th)(n:Int)(s:ByteArray):Int:=if vn th n=true then(if(s.size:Int)>254 then 40 else 0)else 5
def ky(th:Th)(m:As)(fu n:Int)(s:ByteArray):As×Int×Int:=if gwC th n s=0 then yC th n (zM s) 4 0 m fu else(m,fu,gwC th n s)
def epN(s:ByteArray):Nat->Int
 |0=>0
 |i+1=>epN s i*256+aN s (i+1)
def pgT(s:ByteArray):Int:=aN s 9*256+aN s 10
def alA(s:ByteArray):Bool:=aN s 0==1
def abl(s:ByteArray):Int:=if epN s 8>1099511627776 then 0 else epN s 8
def abm(s:ByteArray):Int:=if pgT s>=1024 then 0 else pgT s
def mE(th:Th)(k:Int):Int:=if 0<=k/\k<=1/\k<fg th then 0 else 5
def jj(th:Th)(m:As)(k:Int):Bool:=decide (mE th k=0)&&alA (dX th m (k*4))
def gk(th:Th)(m:As)(k:Int):Int:=if mE th k=0 then abl (dX th m (k*4))else 0
def mF(th:Th)(m:As)(k:Int):Int:=if mE th k=0 then abm (dX th m (k*4))else 0
def mkB(on:Bool)(ep pg:Int):List Int:=[if on=true then 1 else 0,ep / 72057594037927936%256,ep / 281474976710656%256,ep / 1099511627776%256,ep / 4294967296%256,ep / 16777216%256,ep / 65536%256,ep / 256%256,ep%256,pg / 256%256,pg%256]++replicate 53 0
def rR(on:Bool)(ep pg:Int):ByteArray:=aW (mkB on ep pg)
def zN(th:Th)(k ep pg:Int):Int:=if mE th k=0 then(if ep<0\/ep>1099511627776\/pg<0\/pg>=1024 then 1 else 0)else 5
def yD(th:Th)(fu k:Int)(on:Bool)(ep pg:Int):Int:=if zN th k ep pg=0 then oG th fu (k*4) (rR on ep pg)else zN th k ep pg
def kz(th:Th)(m:As)(fu k:Int)(on:Bool)(ep pg:Int):As:=if zN th k ep pg=0 then tx th m fu (k*4) (rR on ep pg)else m
def pv(th:Th)(fu k:Int)(on:Bool)(ep pg:Int):Int:=if zN th k ep pg=0 then tz th fu (k*4) (rR on ep pg)else fu
theorem dm(s:ByteArray)(i:Nat):0<=aN s i/\aN s i<=255:=by
 have:=(s.data.toList.getD i 0).toNat_lt;unfold aN;omega
theorem wrap_u8(n:Int):IntKind.u8.wrap n=n%256:=rfl
theorem oI{n:Int}(h0:0<=n)(h1:n<18446744073709551616):IntKind.u64.wrap n=n:=by
 show n%18446744073709551616=n;omega
theorem rS{a b:Int}(ha:0<=a/\a<=255)(hb:0<=b/\b<=255):bJ BinOp.or IntKind.i64 (IntKind.i64.wrap (a*2^min (Int.toNat 8) IntKind.i64.bits)) b=a*256+b:=by
 have e1:IntKind.i64.wrap (a*2^min (Int.toNat 8) IntKind.i64.bits)=a*256:=by
  rw[show(2:Int)^min (Int.toNat 8) IntKind.i64.bits=256 from by decide];exact cM ⟨by omega,by omega⟩
 rw[e1];obtain⟨x,rfl⟩:=Int.eq_ofNat_of_zero_le ha.1;obtain⟨y,rfl⟩:=Int.eq_ofNat_of_zero_le hb.1;show IntKind.i64.wrap ((BitVec.ofInt 64 _ ||| BitVec.ofInt 64 _).toNat:Int)=_;have e2:(BitVec.ofInt 64 ((x:Int)*256)).toNat=2^8*x:=by rw[BitVec.toNat_ofInt];omega
 have e3:(BitVec.ofInt 64 (y:Int)).toNat=y:=by rw[BitVec.toNat_ofInt];omega
 rw[BitVec.toNat_or,e2,e3,<-Nat.two_pow_add_eq_or_of_lt (by omega),cM ⟨by omega,by omega⟩];omega
theorem afE{a b:Int}(ha:0<=a/\a<72057594037927936)(hb:0<=b/\b<=255):bJ BinOp.or IntKind.u64 (IntKind.u64.wrap (a*2^min (Int.toNat 8) IntKind.u64.bits)) (IntKind.u64.wrap b)=a*256+b:=by
 have e1:IntKind.u64.wrap (a*2^min (Int.toNat 8) IntKind.u64.bits)=a*256:=by
  rw[show(2:Int)^min (Int.toNat 8) IntKind.u64.bits=256 from by decide];exact oI (by omega) (by omega)
 rw[e1,oI (n:=b) (by omega) (by omega)];obtain⟨x,rfl⟩:=Int.eq_ofNat_of_zero_le ha.1;obtain⟨y,rfl⟩:=Int.eq_ofNat_of_zero_le hb.1;show IntKind.u64.wrap ((BitVec.ofInt 64 _ ||| BitVec.ofInt 64 _).toNat:Int)=_;have e2:(BitVec.ofInt 64 ((x:Int)*256)).toNat=2^8*x:=by rw[BitVec.toNat_ofInt];omega
 have e3:(BitVec.ofInt 64 (y:Int)).toNat=y:=by rw[BitVec.toNat_ofInt];omega
 rw[BitVec.toNat_or,e2,e3,<-Nat.two_pow_add_eq_or_of_lt (by omega),oI (by omega) (by omega)];omega
def epS(s:ByteArray):Nat->Int
 |0=>0
 |i+1=>bJ BinOp.or IntKind.u64 (IntKind.u64.wrap (epS s i*2^min (Int.toNat 8) IntKind.u64.bits)) (IntKind.u64.wrap (aN s (i+1)))
theorem tD(s:ByteArray):∀i:Nat,0<=epN s i/\epN s i<256^i
 |0=>by simp[epN]
 |i+1=>by
  have⟨h0,h1⟩:=tD s i;have hb:=dm s (i+1);rw[epN,Int.pow_succ];omega
theorem alB(s:ByteArray):∀i:Nat,i<=8->epS s i=epN s i
 |0,_=>rfl
 |i+1,hi=>by
  have⟨h0,h1⟩:=tD s i
  have h2:(256:Int)^i<=256^7:=by
   have:i=0\/i=1\/i=2\/i=3\/i=4\/i=5\/i=6\/i=7:=by omega
   rcases this with rfl|rfl|rfl|rfl|rfl|rfl|rfl|rfl<;>decide
  rw[epS,epN,alB s i (by omega)]
  exact afE ⟨h0,by have:(256:Int)^7=72057594037927936:=by decide
                   omega⟩ (dm s (i+1))
theorem gu(s:ByteArray):(bP s).length=s.size:=by unfold bP;rw[length_map];exact length_toList
theorem gv{th:Th}{n:Int}:vn th n=true↔0<=n/\n<fg th:=by simp[vn]
theorem oJ(th:Th):0<=fg th/\4*fg th<=(th.length:Int):=by
 unfold fg;rw[Int.tdiv_eq_ediv_of_nonneg (by omega)];omega
theorem abn{th:Th}{n:Int}(h:vn th n=true){k:Nat}(hk:k<4):lg th (n*4+(k:Int))=true:=by
 have⟨h0,h1⟩:=gv.1 h;have:=oJ th;exact gN.2 ⟨by omega,by omega⟩
theorem ahh{th:Th}{m:As}{fu n:Int}(h:bz th m fu)(hn:vn th n=true):∀k:Nat,k<=4->(pgL th m n k).length=64*k
 |0,_=>rfl
 |k+1,hk=>by
  rw[pgL,length_append,ahh h hn k (by omega),gu,abk h (abn hn (by omega))];omega
theorem afF{xs ys:List Int}{k:Nat}(hx:xs.length=64*k)(hy:ys.length=64)(hk:k<4):
 over (xs++replicate (256 - 64*k) 0) (64*k) 64 ys=xs++ys++replicate (256 - 64*(k+1)) 0:=by
 unfold over;rw[<-hx,List.take_left,take_of_length_le (by omega),List.drop_append,List.drop_replicate,List.drop_eq_nil_of_le (by omega),nil_append,hx];congr 2;omega
theorem as3{s:ByteArray}(h:s.size<=254):
 over (((replicate 256 (0:Int)).set 0 (IntKind.u8.wrap ((s.size:Int).fdiv (2^min (Int.toNat 8) IntKind.i64.bits)))).set 1 (IntKind.u8.wrap (s.size:Int))) 2 (min (bP s).length 254) (bP s)=zM s:=by
 have e:(replicate 256 (0:Int))=0::0::replicate 254 0:=rfl;have hl:=gu s;rw[e];simp only[List.set_cons_zero,List.set_cons_succ,over,List.take_succ_cons,List.take_zero,hl,wrap_u8];rw[show(2:Int)^min (Int.toNat 8) IntKind.i64.bits=256 from by decide,Int.fdiv_eq_ediv_of_nonneg _ (by omega),Nat.min_eq_left h,take_of_length_le (by omega),Nat.add_comm 2,List.drop_succ_cons,List.drop_succ_cons,List.drop_replicate];unfold zM;rw[show(s.size:Int) / 256%256=(s.size:Int) / 256 from by omega];rfl
theorem ahi{s:ByteArray}(h:s.size<=254):(zM s).length=256:=by
 unfold zM;simp only[length_cons,length_append,List.length_replicate,gu];omega
theorem alC{s:ByteArray}:∀x∈zM s,s.size<=254->0<=x/\x<=255:=by
 intro x hx h;simp only[zM,mem_cons,mem_append,List.mem_replicate,bP,mem_map]at hx;rcases hx with rfl|rfl|⟨b,_,rfl⟩|⟨_,rfl⟩;omega;omega;have:=b.toNat_lt;omega;omega
theorem zO{ws:List Int}(h:ws.length=256){k:Nat}(hk:k<4):(iI ws k).size=64:=by
 unfold iI;rw[tC,length_take,length_drop];omega
theorem aoS(on:Bool)(ep pg:Int):(mkB on ep pg).length=64:=rfl
theorem mG(on:Bool)(ep pg:Int):(rR on ep pg).size=64:=by unfold rR;rw[tC];rfl
theorem alD{th:Th}{n:Int}{ws:List Int}:∀(j k:Nat) (m:As) (f:Int),bz th m f->bz th (yC th n ws j k m f).1 (yC th n ws j k m f).2.1
 |0,k,m,f,h=>h
 |j+1,k,m,f,h=>by
  unfold yC;split;exact alD j (k+1) _ _ (xc h);exact xc h
theorem ars{th:Th}{m:As}{fu n:Int}{s:ByteArray}(h:bz th m fu):bz th (ky th m fu n s).1 (ky th m fu n s).2.1:=by
 unfold ky;split;exact alD _ _ _ _ h;exact h
theorem adf{th:Th}{m:As}{fu k:Int}{on:Bool}{ep pg:Int}(h:bz th m fu):bz th (kz th m fu k on ep pg) (pv th fu k on ep pg):=by
 unfold kz pv;split;exact xc h;exact h
def uT:aR:=[(135,avC),(136,avD)]
abbrev alE:FuncId:=189
abbrev inG:List FuncId:=[162,65,107,163,alE,134]
abbrev eP:TypeId:=26
abbrev eE:TypeId:=27
abbrev eA:TypeId:=233
def afG:List (Nat×Norm):=[((alE+1)*100000+1,⟨[],[0,1,4,19,21,22,24,67,68],3,[]⟩),(12,⟨[],[4,5,7,50],3,[]⟩)]
noncomputable def cGR(th:Th)(m:As)(fu n:Int)(ws:List Int)(k:Int):cn:=⟨sl 69 [(0,.tag 3),(1,.an 4 0),(4,bQ k),(19,.an 5 0),(21,.an 6 0),(22,.an 7 0),(24,.an 8 0),(67,.tag 9),(68,.tag 3)],
 [jw 1 2 fu,.aq (.az cS th) eS,.map kS m,.aB,.ay [bQ n] 3,.ay [.an 0 0] eP,.ay [.s (.ag empty)] 9,.ay [bQ 0] eE,.ay [.aw .u8 256 ws] eA,.aB],hd Tryz.f189 1,⟨some alE,false,0,[ag8 Tryz.f124 none 8 1],0⟩⟩
noncomputable def alF(th:Th)(m:As)(fu:Int)(ws:List Int):cn:=⟨sl 51 [(4,.an 3 0),(5,.an 4 0),(7,.an 5 0),(50,.tag 6)],[jw 1 2 fu,.aq (.az cS th) eS,.map kS m,.ay [.s (.ag empty)] 9,.ay [bQ 0] eE,.ay [.aw .u8 256 ws] eA,.aB],hr Tryz.f124 12,⟨none,false,1,[],0⟩⟩
def aoT:List (Nat×Norm):=[((alE+1)*100000+1,⟨[],[0,1,4,20,23,25,64,65],3,[]⟩)]
noncomputable def cGW(th:Th)(m:As)(fu n:Int)(ws:List Int)(k:Int):cn:=⟨sl 66 [(0,.tag 3),(1,.an 4 0),(4,bQ k),(20,.an 5 0),(23,.an 6 0),(25,.an 7 0),(64,.tag 8),(65,.tag 3)],
 [jw 1 2 fu,.aq (.az cS th) eS,.map kS m,.aB,.ay [bQ n] 3,.ay [.an 0 0] eP,.ay [bQ 0] eE,.ay [.aw .u8 256 ws] eA,.aB],hd Tryz.f189 1,⟨some alE,false,0,[ag8 Tryz.f178 none 11 1],0⟩⟩
abbrev avM(on:Bool)(ep pg:Int):AV:=.agg [.s (.bool on),bQ ep,bQ pg]
def ajq:List (Nat×Norm):=[(fK+9,⟨[],[],3,[]⟩),(13,⟨[],[4,6,7],3,[]⟩)]
abbrev eM:TypeId:=153
noncomputable def cGo(th:Th)(m:As)(fu:Int)(s:ByteArray)(E:Int):cn:=⟨sl 61 [(4,.an 3 0),(6,.s (.ag s)),(7,.s (.int .u64 E))],[jw 1 2 fu,.aq (.az cS th) eS,.map kS m,.ay [.s (.bool false),bQ 0,bQ 0] eM],hr Tryz.f88 13,{}⟩
def afH:List (Nat×Norm):=[(9,⟨[],[0,1,5,8],3,[]⟩),(fK+10,⟨[],[],3,[]⟩),(15,⟨[],[0,1,8],3,[]⟩)]
abbrev eB:TypeId:=164
noncomputable def cGs(th:Th)(m:As)(fu n:Int)(on:Bool)(ep pg:Int)(ws:List Int):cn:=⟨sl 65 [(0,.an 0 0),(1,bQ n),(5,.an 3 0),(8,.an 4 0)],[jw 1 2 fu,.aq (.az cS th) eS,.map kS m,.ay [.s (.bool on),bQ ep,bQ pg] eM,.ay [.aw .u8 64 ws] eB],hr Tryz.f90 9,{}⟩
noncomputable def alG(th:Th)(m:As)(fu n:Int)(ws:List Int):cn:=⟨sl 65 [(0,.an 0 0),(1,bQ n),(8,.an 3 0)],[jw 1 2 fu,.aq (.az cS th) eS,.map kS m,.ay [.aw .u8 64 ws] eB],hr Tryz.f90 15,{}⟩
theorem as4(th:Th)(m:As)(fu n:Int):run P uT.sum Tryz.f124 afG (start Tryz.f124 [.an 0 0,bQ n] (hD th m fu)) inG=
 Tree.ite (decide (n<0)) (.ret (hD th m fu++[.ay [.an 0 0] 26,.ay [.s (.ag empty)] 9,.ay [.s (.aZ .i64 5)] 27]) (.bD [.s (.ag empty),.s (.aZ .i64 5)])) (.ab ((4:Int)≠0) (.ab (aG ((↑(List.length th):Int).tdiv 4)) (.ite (decide (n>=(↑(List.length th):Int).tdiv 4)) (.ret (hD th m fu++[.ay [.an 0 0] 26,.ay [.s (.ag empty)] 9,.ay [.s (.aZ .i64 5)] 27]) (.bD [.s (.ag empty),.s (.aZ .i64 5)])) (.at (cGR th m fu n (replicate 256 0) 0))))):=by kernel_rfl
theorem alH(th:Th)(m:As)(fu n:Int)(ws:List Int)(k:Int):run P uT.sum Tryz.f124 afG (cGR th m fu n ws k) inG=
 Tree.ite (decide (k<4)) (.ab (aG (k*64)) (.ab (aG (n*4)) (.ab (aG (n*4+k)) (.ab (bx (some [AV.an 0 0,.s (.int .i64 (n*4+k))])) (.ab (bx (some (hD th m fu))) (.ab (bz th m fu) (.ite (rdE th (n*4+k) !=0) (.ret (hD th m fu++[.aB,.ay [.s (.int .i64 n)] 3,.ay [.an 0 0] 26,.ay [.s (.ag empty)] 9,.ay [.s (.int .i64 (rdE th (n*4+k)))] 27,.ay [.aw .u8 256 ws] 233,.aB]) (.bD [.s (.ag empty),.s (.int .i64 (rdE th (n*4+k)))])) (.ab ((0:Int)<=k*64) (.ab (k*64<=(↑(256:Nat):Int)) (.ab ((↑(256:Nat):Int)<=(↑(256:Nat):Int)) (.ab True (.ab ((0:Nat)+(k*64).toNat+((↑(256:Nat):Int).toNat - (k*64).toNat)<=256) (.ab (aG (k+1)) (.at (cGR th m fu n (over ws ((0:Nat)+(k*64).toNat) (min (List.map (λ(b:UInt8)=>(↑b.toNat:Int)) (dX th m (n*4+k)).data.toList).length ((↑(256:Nat):Int).toNat - (k*64).toNat)) (List.map (λ(b:UInt8)=>(↑b.toNat:Int)) (dX th m (n*4+k)).data.toList)) (k+1)))))))))))))))) (.at (alF th m fu ws)):=by kernel_rfl
theorem alI(th:Th)(m:As)(fu:Int)(ws:List Int):run P uT.sum Tryz.f124 afG (alF th m fu ws) inG=
 Tree.ab (aG (ws.getD (0:Nat) (0:Int))) (Tree.ab ((0:Int)≤(8:Int)) (Tree.ab (aG (ws.getD (1:Nat) (0:Int))) (Tree.ite (decide (bJ BinOp.or IntKind.i64 (IntKind.i64.wrap (ws.getD (0:Nat) (0:Int)*(2:Int)^min (Int.toNat (8:Int)) IntKind.i64.bits)) (ws.getD (1:Nat) (0:Int))>(254:Int))) (Tree.ret (hD th m fu++[au.ay [AV.s (SV.ag empty)] (9:Nat),au.ay [AV.s (SV.aZ IntKind.i64 (4:Int))] (27:Nat),au.ay [AV.aw IntKind.u8 (256:Nat) ws] (233:Nat),au.aB]) (AV.bD [AV.s (SV.ag empty),AV.s (SV.aZ IntKind.i64 (4:Int))])) (Tree.ab (aG ((2:Int)+bJ BinOp.or IntKind.i64 (IntKind.i64.wrap (ws.getD (0:Nat) (0:Int)*(2:Int)^min (Int.toNat (8:Int)) IntKind.i64.bits)) (ws.getD (1:Nat) (0:Int)))) (Tree.ab ((0:Int)≤(2:Int)) (Tree.ab ((2:Int)≤(2:Int)+bJ BinOp.or IntKind.i64 (IntKind.i64.wrap (ws.getD (0:Nat) (0:Int)*(2:Int)^min (Int.toNat (8:Int)) IntKind.i64.bits)) (ws.getD (1:Nat) (0:Int))) (Tree.ab ((2:Int)+bJ BinOp.or IntKind.i64 (IntKind.i64.wrap (ws.getD (0:Nat) (0:Int)*(2:Int)^min (Int.toNat (8:Int)) IntKind.i64.bits)) (ws.getD (1:Nat) (0:Int))≤(↑(256:Nat):Int)) (Tree.ab ((2:Nat)+(((2:Int)+bJ BinOp.or IntKind.i64 (IntKind.i64.wrap (ws.getD (0:Nat) (0:Int)*(2:Int)^min (Int.toNat (8:Int)) IntKind.i64.bits)) (ws.getD (1:Nat) (0:Int))).toNat - Int.toNat (2:Int))≤(256:Nat)) (Tree.ret (hD th m fu++[au.ay [AV.s (SV.ag (aW (List.take (((2:Int)+bJ BinOp.or IntKind.i64 (IntKind.i64.wrap (ws.getD (0:Nat) (0:Int)*(2:Int)^min (Int.toNat (8:Int)) IntKind.i64.bits)) (ws.getD (1:Nat) (0:Int))).toNat - Int.toNat (2:Int)) (List.drop (2:Nat) ws))))] (9:Nat),au.ay [AV.s (SV.aZ IntKind.i64 (0:Int))] (27:Nat),au.ay [AV.aw IntKind.u8 (256:Nat) ws] (233:Nat),au.aB]) (AV.bD [AV.s (SV.ag (aW (List.take (((2:Int)+bJ BinOp.or IntKind.i64 (IntKind.i64.wrap (ws.getD (0:Nat) (0:Int)*(2:Int)^min (Int.toNat (8:Int)) IntKind.i64.bits)) (ws.getD (1:Nat) (0:Int))).toNat - Int.toNat (2:Int)) (List.drop (2:Nat) ws)))),AV.s (SV.aZ IntKind.i64 (0:Int))])))))))))):=by kernel_rfl
theorem as5(th:Th)(m:As)(fu n:Int)(s:ByteArray):run P uT.sum Tryz.f178 aoT (start Tryz.f178 [.an 0 0,bQ n,.s (.ag s)] (hD th m fu)) inG=
 Tree.ite (decide (n<(0:Int))) (Tree.ret (hD th m fu++[au.ay [AV.an (0:Nat) (0:Nat)] (26:Nat),au.ay [AV.s (SV.aZ IntKind.i64 (5:Int))] (27:Nat)]) (AV.s (SV.aZ IntKind.i64 (5:Int)))) (Tree.ab ((4:Int)≠(0:Int)) (Tree.ab (aG ((↑(List.length th):Int).tdiv (4:Int))) (Tree.ite (decide (n≥(↑(List.length th):Int).tdiv (4:Int))) (Tree.ret (hD th m fu++[au.ay [AV.an (0:Nat) (0:Nat)] (26:Nat),au.ay [AV.s (SV.aZ IntKind.i64 (5:Int))] (27:Nat)]) (AV.s (SV.aZ IntKind.i64 (5:Int)))) (Tree.ite (decide ((↑s.size:Int)>(254:Int))) (Tree.ret (hD th m fu++[au.ay [AV.an (0:Nat) (0:Nat)] (26:Nat),au.ay [AV.s (SV.aZ IntKind.i64 (40:Int))] (27:Nat)]) (AV.s (SV.aZ IntKind.i64 (40:Int)))) (Tree.ab ((0:Int)≤(8:Int)) (Tree.ab ((0:Int)≤(2:Int)) (Tree.ab ((2:Int)≤(↑(256:Nat):Int)) (Tree.ab ((↑(256:Nat):Int)≤(↑(256:Nat):Int)) (Tree.ab True (Tree.ab ((2:Nat)+(254:Nat)≤(256:Nat)) (Tree.at (cGW th m fu n (over (((replicate (256:Nat) (0:Int)).set (0:Nat) (IntKind.u8.wrap ((↑s.size:Int).fdiv ((2:Int)^min (Int.toNat (8:Int)) IntKind.i64.bits)))).set (1:Nat) (IntKind.u8.wrap (↑s.size:Int))) (2:Nat) (min (List.map (fun(b:UInt8)=>(↑b.toNat:Int)) s.data.toList).length (254:Nat)) (List.map (fun(b:UInt8)=>(↑b.toNat:Int)) s.data.toList)) (0:Int))))))))))))):=by kernel_rfl
theorem alJ(th:Th)(m:As)(fu n:Int)(ws:List Int)(k:Int):run P uT.sum Tryz.f178 aoT (cGW th m fu n ws k) inG=
 Tree.ite (decide (k<4)) (.ab (aG (k*64)) (.ab (aG (n*4)) (.ab (aG (n*4+k)) (.ab (aG (k*64+64)) (.ab ((0:Int)<=k*64) (.ab (k*64<=k*64+64) (.ab (k*64+64<=(↑(256:Nat):Int)) (.ab ((0:Nat)+(k*64).toNat+((k*64+64).toNat - (k*64).toNat)<=256) (.ab (bx (some [AV.an 0 0,.s (.int .i64 (n*4+k)),.s (.ag (aW (List.take ((k*64+64).toNat - (k*64).toNat) (List.drop ((0:Nat)+(k*64).toNat) ws))))])) (.ab (bx (some (hD th m fu))) (.ab (bz th m fu) (.ite (oG th fu (n*4+k) (aW (List.take ((k*64+64).toNat - (k*64).toNat) (List.drop ((0:Nat)+(k*64).toNat) ws))) !=0) (.ret (hD th (tx th m fu (n*4+k) (aW (List.take ((k*64+64).toNat - (k*64).toNat) (List.drop ((0:Nat)+(k*64).toNat) ws)))) (tz th fu (n*4+k) (aW (List.take ((k*64+64).toNat - (k*64).toNat) (List.drop ((0:Nat)+(k*64).toNat) ws))))++[.aB,.ay [.s (.int .i64 n)] 3,.ay [.an 0 0] 26,.ay [.s (.int .i64 (oG th fu (n*4+k) (aW (List.take ((k*64+64).toNat - (k*64).toNat) (List.drop ((0:Nat)+(k*64).toNat) ws)))))] 27,.ay [.aw .u8 256 ws] 233,.aB]) (.s (.int .i64 (oG th fu (n*4+k) (aW (List.take ((k*64+64).toNat - (k*64).toNat) (List.drop ((0:Nat)+(k*64).toNat) ws))))))) (.ab (aG (k+1)) (.at (cGW th (tx th m fu (n*4+k) (aW (List.take ((k*64+64).toNat - (k*64).toNat) (List.drop ((0:Nat)+(k*64).toNat) ws)))) (tz th fu (n*4+k) (aW (List.take ((k*64+64).toNat - (k*64).toNat) (List.drop ((0:Nat)+(k*64).toNat) ws)))) n ws (k+1)))))))))))))))) (.ret (hD th m fu++[.aB,.ay [.s (.int .i64 n)] 3,.ay [.an 0 0] 26,.ay [.s (.aZ .i64 0)] 27,.ay [.aw .u8 256 ws] 233,.aB]) (.s (.aZ .i64 0))):=by kernel_rfl
theorem as6(th:Th)(m:As)(fu n:Int):run P uT.sum Tryz.f88 ajq (start Tryz.f88 [.an 0 0,bQ n] (hD th m fu)) inG=
 Tree.ite (decide (n>(1:Int))) (Tree.ret (hD th m fu++[au.ay [AV.s (SV.aT false),AV.s (SV.aZ IntKind.i64 (0:Int)),AV.s (SV.aZ IntKind.i64 (0:Int))] (153:Nat)]) (AV.bD [AV.agg [AV.s (SV.aT false),AV.s (SV.aZ IntKind.i64 (0:Int)),AV.s (SV.aZ IntKind.i64 (0:Int))],AV.s (SV.aZ IntKind.i64 (5:Int))]))
 (Tree.ite (decide (n<(0:Int))) (Tree.ret (hD th m fu++[au.ay [AV.s (SV.aT false),AV.s (SV.aZ IntKind.i64 (0:Int)),AV.s (SV.aZ IntKind.i64 (0:Int))] (153:Nat)]) (AV.bD [AV.agg [AV.s (SV.aT false),AV.s (SV.aZ IntKind.i64 (0:Int)),AV.s (SV.aZ IntKind.i64 (0:Int))],AV.s (SV.aZ IntKind.i64 (5:Int))])) (Tree.ab ((4:Int)≠(0:Int)) (Tree.ab (aG ((↑(List.length th):Int).tdiv (4:Int))) (Tree.ite (decide (n≥(↑(List.length th):Int).tdiv (4:Int))) (Tree.ret (hD th m fu++[au.ay [AV.s (SV.aT false),AV.s (SV.aZ IntKind.i64 (0:Int)),AV.s (SV.aZ IntKind.i64 (0:Int))] (153:Nat)]) (AV.bD [AV.agg [AV.s (SV.aT false),AV.s (SV.aZ IntKind.i64 (0:Int)),AV.s (SV.aZ IntKind.i64 (0:Int))],AV.s (SV.aZ IntKind.i64 (5:Int))])) (Tree.ab (aG (n*(4:Int))) (Tree.ab (bx (some [AV.an (0:Nat) (0:Nat),AV.s (SV.int IntKind.i64 (n*(4:Int)))])) (Tree.ab (bx (some (hD th m fu))) (Tree.ab (bz th m fu) (Tree.ite (rdE th (n*(4:Int)) !=(0:Int)) (Tree.ret (hD th m fu++[au.ay [AV.s (SV.aT false),AV.s (SV.aZ IntKind.i64 (0:Int)),AV.s (SV.aZ IntKind.i64 (0:Int))] (153:Nat)]) (AV.bD [AV.agg [AV.s (SV.aT false),AV.s (SV.aZ IntKind.i64 (0:Int)),AV.s (SV.aZ IntKind.i64 (0:Int))],AV.s (SV.int IntKind.i64 (rdE th (n*(4:Int))))])) (Tree.ab ((0:Int)≤(8:Int)) (Tree.ab ((0:Int)≤(1:Int)) (Tree.ab ((1:Int)<(↑(dX th m (n*(4:Int))).size:Int)) (Tree.ab ((0:Int)≤(8:Int)) (Tree.ab ((0:Int)≤(2:Int)) (Tree.ab ((2:Int)<(↑(dX th m (n*(4:Int))).size:Int)) (Tree.ab ((0:Int)≤(8:Int)) (Tree.ab ((0:Int)≤(3:Int)) (Tree.ab ((3:Int)<(↑(dX th m (n*(4:Int))).size:Int)) (Tree.ab ((0:Int)≤(8:Int)) (Tree.ab ((0:Int)≤(4:Int)) (Tree.ab ((4:Int)<(↑(dX th m (n*(4:Int))).size:Int)) (Tree.ab ((0:Int)≤(8:Int)) (Tree.ab ((0:Int)≤(5:Int)) (Tree.ab ((5:Int)<(↑(dX th m (n*(4:Int))).size:Int)) (Tree.ab ((0:Int)≤(8:Int)) (Tree.ab ((0:Int)≤(6:Int)) (Tree.ab ((6:Int)<(↑(dX th m (n*(4:Int))).size:Int)) (Tree.ab ((0:Int)≤(8:Int)) (Tree.ab ((0:Int)≤(7:Int)) (Tree.ab ((7:Int)<(↑(dX th m (n*(4:Int))).size:Int)) (Tree.ab ((0:Int)≤(8:Int)) (Tree.ab ((0:Int)≤(8:Int)) (Tree.ab ((8:Int)<(↑(dX th m (n*(4:Int))).size:Int)) (Tree.at (cGo th m fu (dX th m (n*(4:Int))) (bJ BinOp.or IntKind.u64 (IntKind.u64.wrap (bJ BinOp.or IntKind.u64 (IntKind.u64.wrap (bJ BinOp.or IntKind.u64 (IntKind.u64.wrap (bJ BinOp.or IntKind.u64 (IntKind.u64.wrap (bJ BinOp.or IntKind.u64 (IntKind.u64.wrap (bJ BinOp.or IntKind.u64 (IntKind.u64.wrap (bJ BinOp.or IntKind.u64 (IntKind.u64.wrap (bJ BinOp.or IntKind.u64 (0:Int) (IntKind.u64.wrap (aN (dX th m (n*(4:Int))) (Int.toNat (1:Int))))*(2:Int)^min (Int.toNat (8:Int)) IntKind.u64.bits)) (IntKind.u64.wrap (aN (dX th m (n*(4:Int))) (Int.toNat (2:Int))))*(2:Int)^min (Int.toNat (8:Int)) IntKind.u64.bits)) (IntKind.u64.wrap (aN (dX th m (n*(4:Int))) (Int.toNat (3:Int))))*(2:Int)^min (Int.toNat (8:Int)) IntKind.u64.bits)) (IntKind.u64.wrap (aN (dX th m (n*(4:Int))) (Int.toNat (4:Int))))*(2:Int)^min (Int.toNat (8:Int)) IntKind.u64.bits)) (IntKind.u64.wrap (aN (dX th m (n*(4:Int))) (Int.toNat (5:Int))))*(2:Int)^min (Int.toNat (8:Int)) IntKind.u64.bits)) (IntKind.u64.wrap (aN (dX th m (n*(4:Int))) (Int.toNat (6:Int))))*(2:Int)^min (Int.toNat (8:Int)) IntKind.u64.bits)) (IntKind.u64.wrap (aN (dX th m (n*(4:Int))) (Int.toNat (7:Int))))*(2:Int)^min (Int.toNat (8:Int)) IntKind.u64.bits)) (IntKind.u64.wrap (aN (dX th m (n*(4:Int))) (Int.toNat (8:Int)))))))))))))))))))))))))))))))))))))))):=by kernel_rfl
theorem loopGo(th:Th)(m:As)(fu:Int)(s:ByteArray)(E:Int):run P uT.sum Tryz.f88 ajq (cGo th m fu s E) inG=
 Tree.ab ((0:Int)≤(0:Int)) (Tree.ab ((0:Int)<(↑s.size:Int)) (Tree.ab ((0:Int)≤(9:Int)) (Tree.ab ((9:Int)<(↑s.size:Int)) (Tree.ab (aG (aN s (Int.toNat (9:Int)))) (Tree.ab ((0:Int)≤(8:Int)) (Tree.ab ((0:Int)≤(10:Int)) (Tree.ab ((10:Int)<(↑s.size:Int)) (Tree.ab (aG (aN s (Int.toNat (10:Int)))) (Tree.ite (decide (E>(1099511627776:Int))) (Tree.ite (decide (bJ BinOp.or IntKind.i64 (IntKind.i64.wrap (aN s (Int.toNat (9:Int))*(2:Int)^min (Int.toNat (8:Int)) IntKind.i64.bits)) (aN s (Int.toNat (10:Int)))≥(1024:Int))) (Tree.ret (hD th m fu++[au.ay [AV.s (SV.bool (aN s (Int.toNat (0:Int))==(1:Int))),AV.s (SV.aZ IntKind.i64 (0:Int)),AV.s (SV.aZ IntKind.i64 (0:Int))] (153:Nat)]) (AV.bD [AV.agg [AV.s (SV.bool (aN s (Int.toNat (0:Int))==(1:Int))),AV.s (SV.aZ IntKind.i64 (0:Int)),AV.s (SV.aZ IntKind.i64 (0:Int))],AV.s (SV.aZ IntKind.i64 (0:Int))])) (Tree.ret (hD th m fu++[au.ay [AV.s (SV.bool (aN s (Int.toNat (0:Int))==(1:Int))),AV.s (SV.aZ IntKind.i64 (0:Int)),AV.s (SV.int IntKind.i64 (bJ BinOp.or IntKind.i64 (IntKind.i64.wrap (aN s (Int.toNat (9:Int))*(2:Int)^min (Int.toNat (8:Int)) IntKind.i64.bits)) (aN s (Int.toNat (10:Int)))))] (153:Nat)]) (AV.bD [AV.agg [AV.s (SV.bool (aN s (Int.toNat (0:Int))==(1:Int))),AV.s (SV.aZ IntKind.i64 (0:Int)),AV.s (SV.int IntKind.i64 (bJ BinOp.or IntKind.i64 (IntKind.i64.wrap (aN s (Int.toNat (9:Int))*(2:Int)^min (Int.toNat (8:Int)) IntKind.i64.bits)) (aN s (Int.toNat (10:Int)))))],AV.s (SV.aZ IntKind.i64 (0:Int))]))) (Tree.ite (decide (bJ BinOp.or IntKind.i64 (IntKind.i64.wrap (aN s (Int.toNat (9:Int))*(2:Int)^min (Int.toNat (8:Int)) IntKind.i64.bits)) (aN s (Int.toNat (10:Int)))≥(1024:Int))) (Tree.ret (hD th m fu++[au.ay [AV.s (SV.bool (aN s (Int.toNat (0:Int))==(1:Int))),AV.s (SV.int IntKind.i64 (IntKind.i64.wrap E)),AV.s (SV.aZ IntKind.i64 (0:Int))] (153:Nat)]) (AV.bD [AV.agg [AV.s (SV.bool (aN s (Int.toNat (0:Int))==(1:Int))),AV.s (SV.int IntKind.i64 (IntKind.i64.wrap E)),AV.s (SV.aZ IntKind.i64 (0:Int))],AV.s (SV.aZ IntKind.i64 (0:Int))])) (Tree.ret (hD th m fu++[au.ay [AV.s (SV.bool (aN s (Int.toNat (0:Int))==(1:Int))),AV.s (SV.int IntKind.i64 (IntKind.i64.wrap E)),AV.s (SV.int IntKind.i64 (bJ BinOp.or IntKind.i64 (IntKind.i64.wrap (aN s (Int.toNat (9:Int))*(2:Int)^min (Int.toNat (8:Int)) IntKind.i64.bits)) (aN s (Int.toNat (10:Int)))))] (153:Nat)]) (AV.bD [AV.agg [AV.s (SV.bool (aN s (Int.toNat (0:Int))==(1:Int))),AV.s (SV.int IntKind.i64 (IntKind.i64.wrap E)),AV.s (SV.int IntKind.i64 (bJ BinOp.or IntKind.i64 (IntKind.i64.wrap (aN s (Int.toNat (9:Int))*(2:Int)^min (Int.toNat (8:Int)) IntKind.i64.bits)) (aN s (Int.toNat (10:Int)))))],AV.s (SV.aZ IntKind.i64 (0:Int))])))))))))))):=by kernel_rfl
theorem as7(th:Th)(m:As)(fu n:Int)(on:Bool)(ep pg:Int):run P uT.sum Tryz.f90 afH (start Tryz.f90 [.an 0 0,bQ n,avM on ep pg] (hD th m fu)) inG=
 Tree.ite (decide (n>1)) (.ret (hD th m fu++[.ay [.s (.bool on),.s (.int .i64 ep),.s (.int .i64 pg)] 153]) (.s (.aZ .i64 5))) (.ite (decide (n<0)) (.ret (hD th m fu++[.ay [.s (.bool on),.s (.int .i64 ep),.s (.int .i64 pg)] 153]) (.s (.aZ .i64 5))) (.ab ((4:Int)≠0) (.ab (aG ((↑(List.length th):Int).tdiv 4)) (.ite (decide (n>=(↑(List.length th):Int).tdiv 4)) (.ret (hD th m fu++[.ay [.s (.bool on),.s (.int .i64 ep),.s (.int .i64 pg)] 153]) (.s (.aZ .i64 5))) (.ite (decide (ep<0)) (.ret (hD th m fu++[.ay [.s (.bool on),.s (.int .i64 ep),.s (.int .i64 pg)] 153]) (.s (.aZ .i64 1))) (.ite (decide (ep>1099511627776)) (.ret (hD th m fu++[.ay [.s (.bool on),.s (.int .i64 ep),.s (.int .i64 pg)] 153]) (.s (.aZ .i64 1))) (.ite (decide (pg<0)) (.ret (hD th m fu++[.ay [.s (.bool on),.s (.int .i64 ep),.s (.int .i64 pg)] 153]) (.s (.aZ .i64 1))) (.ite (decide (pg>=1024)) (.ret (hD th m fu++[.ay [.s (.bool on),.s (.int .i64 ep),.s (.int .i64 pg)] 153]) (.s (.aZ .i64 1))) (.ite on (.at (cGs th m fu n on ep pg ((replicate 64 0).set 0 1))) (.at (cGs th m fu n on ep pg (replicate 64 0)))))))))))):=by kernel_rfl
theorem as8(th:Th)(m:As)(fu n:Int)(on:Bool)(ep pg:Int)(ws:List Int):run P uT.sum Tryz.f90 afH (cGs th m fu n on ep pg ws) inG=
 Tree.ab ((0:Int)≤(0:Int)) (Tree.ab ((0:Int)≤(8:Int)) (Tree.ab ((0:Int)≤(16:Int)) (Tree.ab ((0:Int)≤(24:Int)) (Tree.ab ((0:Int)≤(32:Int)) (Tree.ab ((0:Int)≤(40:Int)) (Tree.ab ((0:Int)≤(48:Int)) (Tree.ab ((0:Int)≤(56:Int)) (Tree.ab ((0:Int)≤(8:Int)) (Tree.at (alG th m fu n ((((((((((ws.set (8:Nat) (IntKind.u8.wrap (ep.fdiv ((2:Int)^min (Int.toNat (0:Int)) IntKind.i64.bits)))).set (7:Nat) (IntKind.u8.wrap (ep.fdiv ((2:Int)^min (Int.toNat (8:Int)) IntKind.i64.bits)))).set (6:Nat) (IntKind.u8.wrap (ep.fdiv ((2:Int)^min (Int.toNat (16:Int)) IntKind.i64.bits)))).set (5:Nat) (IntKind.u8.wrap (ep.fdiv ((2:Int)^min (Int.toNat (24:Int)) IntKind.i64.bits)))).set (4:Nat) (IntKind.u8.wrap (ep.fdiv ((2:Int)^min (Int.toNat (32:Int)) IntKind.i64.bits)))).set (3:Nat) (IntKind.u8.wrap (ep.fdiv ((2:Int)^min (Int.toNat (40:Int)) IntKind.i64.bits)))).set (2:Nat) (IntKind.u8.wrap (ep.fdiv ((2:Int)^min (Int.toNat (48:Int)) IntKind.i64.bits)))).set (1:Nat) (IntKind.u8.wrap (ep.fdiv ((2:Int)^min (Int.toNat (56:Int)) IntKind.i64.bits)))).set (9:Nat) (IntKind.u8.wrap (pg.fdiv ((2:Int)^min (Int.toNat (8:Int)) IntKind.i64.bits)))).set (10:Nat) (IntKind.u8.wrap pg)))))))))))):=by kernel_rfl
theorem alK(th:Th)(m:As)(fu n:Int)(ws:List Int):run P uT.sum Tryz.f90 afH (alG th m fu n ws) inG=
 Tree.ab (aG (n*4)) (.ab ((0:Int)<=0) (.ab ((0:Int)<=(↑(64:Nat):Int)) (.ab ((↑(64:Nat):Int)<=(↑(64:Nat):Int)) (.ab ((0:Nat)+(64:Nat)<=64) (.ab (bx (some [AV.an 0 0,.s (.int .i64 (n*4)),.s (.ag (aW (List.take 64 (List.drop 0 ws))))])) (.ab (bx (some (hD th m fu))) (.ab (bz th m fu) (.ret (hD th (tx th m fu (n*4) (aW (List.take 64 (List.drop 0 ws)))) (tz th fu (n*4) (aW (List.take 64 (List.drop 0 ws))))++[.ay [.aw .u8 64 ws] 164]) (.s (.int .i64 (oG th fu (n*4) (aW (List.take 64 (List.drop 0 ws)))))))))))))):=by kernel_rfl
theorem as9(th:Th)(m:As)(fu:Int):run P uT.sum Tryz.f65 [] (start Tryz.f65 [.an 0 0] (hD th m fu)) inG=
 Tree.ab ((4:Int)≠0) (.ab (aG ((↑(List.length th):Int).tdiv 4)) (.ret (hD th m fu) (.s (.int .i64 ((↑(List.length th):Int).tdiv 4))))):=by kernel_rfl
abbrev sGR:Spec (Th×As×Int×Int):=⟨λ(_,_,_,n)=>[.an 0 0,bQ n],λ(th,m,fu,_)=>hD th m fu,λ(th,m,fu,n)=>[bz th m fu,aG n],λ(th,m,fu,_)=>hD th m fu,λ(th,m,_,n)=>.bD [.s (.ag (fR th m n)),bQ (gS th m n)]⟩
abbrev sGW:Spec (Th×As×Int×Int×ByteArray):=⟨λ(_,_,_,n,s)=>[.an 0 0,bQ n,.s (.ag s)],λ(th,m,fu,_)=>hD th m fu,λ(th,m,fu,n,_)=>[bz th m fu,aG n],λ(th,m,fu,n,s)=>hD th (ky th m fu n s).1 (ky th m fu n s).2.1,λ(th,m,fu,n,s)=>bQ (ky th m fu n s).2.2⟩
abbrev sGo:Spec (Th×As×Int×Int):=⟨λ(_,_,_,n)=>[.an 0 0,bQ n],λ(th,m,fu,_)=>hD th m fu,λ(th,m,fu,n)=>[bz th m fu,aG n],λ(th,m,fu,_)=>hD th m fu,λ(th,m,_,n)=>.bD [avM (jj th m n) (gk th m n) (mF th m n),bQ (mE th n)]⟩
abbrev sGs:Spec (Th×As×Int×Int×Bool×Int×Int):=⟨λ(_,_,_,n,on,ep,pg)=>[.an 0 0,bQ n,avM on ep pg],λ(th,m,fu,_)=>hD th m fu,λ(th,m,fu,n,_)=>[bz th m fu,aG n],λ(th,m,fu,n,on,ep,pg)=>hD th (kz th m fu n on ep pg) (pv th fu n on ep pg),λ(th,_,fu,n,on,ep,pg)=>bQ (yD th fu n on ep pg)⟩
abbrev sPn:Spec (Th×As×Int):=⟨λ_=>[.an 0 0],λ(th,m,fu)=>hD th m fu,λ(th,m,fu)=>[bz th m fu],λ(th,m,fu)=>hD th m fu,λ(th,_,_)=>bQ (fg th)⟩
theorem gw{Z:bB}:uT.Ok P Z:=aR.Ok.cons (aoQ.sum mRd) (aR.Ok.cons (w9.sum mWr) aR.Ok.nil)
theorem adg{Z:bB}:gE P Z 65 sPn:=by
 refine aK Tryz.func65 (by kernel_rfl) (λx=>le_of_ble_eq_true (by kernel_rfl)) ?_;rintro⟨(th:Th),(m:As),(fu:Int)⟩ ⟨(hd:bz th m fu),_⟩ X hX hz;have h4:=hd.t.1;have:=oJ th;refine dk hz hX (by simp) gw Tryz.func65 (as9 th m fu) ⟨by decide,⟨by unfold fg at this;omega,by unfold fg at this;omega⟩, ?_⟩;exact bN 3 rfl (le_refl _) rfl rfl
theorem alL{th:Th}{n:Int}(h:lg th n=true):rdE th n=0:=by unfold rdE;rw[if_pos h]
theorem alM{ws:List Int}(h:∀x∈ws,0<=x/\x<=255):bJ BinOp.or IntKind.i64 (IntKind.i64.wrap (ws.getD 0 0*2^min (Int.toNat 8) IntKind.i64.bits)) (ws.getD 1 0)=rQ ws/\0<=rQ ws/\rQ ws<=65535:=by
 have b:∀i,0<=ws.getD i 0/\ws.getD i 0<=255:=λi=>by
  by_cases hi:i<ws.length;rw[bt hi];exact h _ (getElem_mem hi);simp[List.getD,getElem?_eq_none (Nat.le_of_not_lt hi)]
 have h0:=b 0;have h1:=b 1;unfold rQ;exact⟨rS h0 h1,by omega,by omega⟩
theorem xd{th:Th}{m:As}{n:Int}:∀k:Nat,∀x∈pgL th m n k,0<=x/\x<=255
 |0,x,hx=>by cases hx
 |k+1,x,hx=>by
  rw[pgL,mem_append]at hx;rcases hx with hx|hx;exact xd k x hx;simp only[bP,mem_map]at hx;obtain⟨b,_,rfl⟩:=hx;have:=b.toNat_lt;omega
theorem ata{Z:bB}{X:Ctx}{th:Th}{m:As}{fu n:Int}(hX:X.H=lk (sGR.heap (th,m,fu,n)))(hz:eO Z X)(hd:bz th m fu)(hp:vn th n=true):Safe P 124 X (eH sGR (th,m,fu,n)) (alF th m fu (pgA th m n)):=by
 have kc:∀x∈afG,(sGR.heap (th,m,fu,n)).length<=x.2.m:=by intro y hy;simp[afG]at hy;rcases hy with rfl|rfl<;>exact le_refl _
 refine dk hz hX kc gw Tryz.func124 (alI th m fu (pgA th m n)) ?_;have⟨e,l0,l1⟩:=alM (ws:=pgA th m n) (xd 4)
 have b:∀i,aG ((pgA th m n).getD i 0):=λi=>by
  by_cases hi:i<(pgA th m n).length;rw[bt hi];have:=xd 4 _ (getElem_mem hi);exact⟨by omega,by omega⟩;simp[List.getD,getElem?_eq_none (Nat.le_of_not_lt hi),aG]
 rw[e];generalize hl:rQ (pgA th m n)=l at *;have g1:l>254->gS th m n=4:=λh=>by unfold gS;rw[if_pos hp,hl,if_pos h]
 have g2:¬l>254->gS th m n=0:=λh=>by unfold gS;rw[if_pos hp,hl,if_neg h]
 refine⟨b 0,by decide,b 1,λh=> ?_,λh=>⟨⟨by omega,by omega⟩,by decide,by omega,by have:=of_decide_eq_false h;omega,by have:=of_decide_eq_false h;omega, ?_⟩⟩;have h:=g1 (of_decide_eq_true h);refine bN 3 rfl (le_refl _) ?_ rfl;simp[fR,h,yk];have h:=g2 (of_decide_eq_false h);refine bN 3 rfl (le_refl _) ?_ rfl;simp only[fR,h,if_true,hl];rw[show(2+l).toNat - Int.toNat 2=l.toNat from by omega];rfl
theorem avG{Z:bB}:gE P Z 124 sGR:=by
 refine aK Tryz.func124 (by kernel_rfl) (λx=>le_of_ble_eq_true (by kernel_rfl)) ?_;rintro⟨(th:Th),(m:As),(fu:Int),(n:Int)⟩ ⟨(hd:bz th m fu),(hn:aG n),_⟩ X hX hz;have kc:∀x∈afG,(sGR.heap (th,m,fu,n)).length<=x.2.m:=by intro y hy;simp[afG]at hy;rcases hy with rfl|rfl<;>exact le_refl _
 have h4:=hd.t.1;have hN:=oJ th;unfold aG at hn
 have bad:¬vn th n=true->fR th m n=empty/\gS th m n=5:=λh=>by
  have:gS th m n=5:=by unfold gS;rw[if_neg h]
  exact⟨by unfold fR;rw[if_neg (by rw[this];decide)],this⟩
 have loop:vn th n=true->∀(j k:Nat),k+j=4->Safe P 124 X (eH sGR (th,m,fu,n)) (cGR th m fu n (pgL th m n k++replicate (256 - 64*k) 0) (k:Int)):=by
  intro hp j;have⟨p0,p1⟩:=gv.1 hp
  induction j with
  |zero=>
   intro k hk;obtain rfl:k=4:=by omega
   refine dk hz hX kc gw Tryz.func124 (alH th m fu n _ 4) ⟨λh=>absurd (of_decide_eq_true h) (by omega),λ_=> ?_⟩;have e:pgL th m n 4++replicate (256 - 64*4) 0=pgA th m n:=append_nil _;rw[e];exact ata hX hz hd hp
  |succ j ih=>
   intro k hk;have dv:=abn hp (show k<4 by omega);have next:=ih (k+1) (by omega)
   have hl:=ahh hd hp k (by omega);have hs:(bP (dX th m (n*4+(k:Int)))).length=64:=by rw[gu];exact abk hd dv
   have ho:=afF (k:=k) hl hs (by omega);have e0:=alL dv;refine dk hz hX kc gw Tryz.func124 (alH th m fu n _ k) ?_;rw[show(pgL th m n (k+1))=pgL th m n k++bP (dX th m (n*4+(k:Int)))from rfl,<-ho]at next
   have eo:over (pgL th m n k++replicate (256 - 64*k) 0) (0+((k:Int)*64).toNat) (min (List.map (λ(b:UInt8)=>(b.toNat:Int)) (dX th m (n*4+(k:Int))).data.toList).length ((256:Int).toNat - ((k:Int)*64).toNat)) (List.map (λ(b:UInt8)=>(b.toNat:Int)) (dX th m (n*4+(k:Int))).data.toList)=over (pgL th m n k++replicate (256 - 64*k) 0) (64*k) 64 (bP (dX th m (n*4+(k:Int)))):=by
    show over _ _ (min (bP _).length _) (bP _)=_;rw[hs,show(0+((k:Int)*64).toNat)=64*k from by omega,show min 64 ((256:Int).toNat - ((k:Int)*64).toNat)=64 from by omega]
   rw[show((256:Nat):Int)=256 from rfl,eo,e0];refine⟨λ_=>⟨⟨by omega,by omega⟩,⟨by omega,by omega⟩,⟨by omega,by omega⟩,rfl,rfl,hd,λh=>absurd h (by decide),λ_=>⟨by omega,by omega,by omega,trivial,by omega,⟨by omega,by omega⟩,next⟩⟩,λh=>absurd (of_decide_eq_false h) (by omega)⟩
 refine dk hz hX kc gw Tryz.func124 (as4 th m fu n) ?_;have lp:=loop;unfold fg at hN
 repeat' (with_reducible (first|refine alg ?_|refine wX ?_ ?_|refine ac0 (λ_=> ?_) (λ_=> ?_)|refine ac1 (λ_=> ?_) (λ_=> ?_)|refine ac2 (λ_=> ?_) (λ_=> ?_)|refine alh ?_|refine ali ?_|refine ac3 ?_|refine ac4 (λ_=> ?_) (λ_=> ?_)|refine wY (λ_=> ?_) (λ_=> ?_)|refine ac5 ?_|refine alj ?_))
 all_goals first|omega|exact⟨by omega,by omega⟩|skip
 have⟨e1,e2⟩:=bad (λh=>by have:=gv.1 h;omega);refine bN 3 rfl (le_refl _) ?_ rfl;simp[e1,e2,yk];have⟨e1,e2⟩:=bad (λh=>by have:=gv.1 h;unfold fg at this;omega);refine bN 3 rfl (le_refl _) ?_ rfl;simp[e1,e2,yk];exact lp (gv.2 ⟨by omega,by unfold fg;omega⟩) 4 0 rfl
theorem avH{Z:bB}:gE P Z 178 sGW:=by
 refine aK Tryz.func178 (by kernel_rfl) (λx=>le_of_ble_eq_true (by kernel_rfl)) ?_;rintro⟨(th:Th),(m:As),(fu:Int),(n:Int),(s:ByteArray)⟩ ⟨(hd:bz th m fu),(hn:aG n),_⟩ X hX hz;have kc:∀x∈aoT,(sGW.heap (th,m,fu,n,s)).length<=x.2.m:=by intro y hy;simp[aoT]at hy;rcases hy with rfl;exact le_refl _
 have h4:=hd.t.1;have hN:=oJ th;unfold aG at hn;have bad:∀c,gwC th n s=c->c≠0->ky th m fu n s=(m,fu,c):=λc h h2=>by unfold ky;rw[h,if_neg h2]
 have loop:vn th n=true->s.size<=254->∀(j k:Nat) (m':As) (fJ:Int),k+j=4->bz th m' fJ->ky th m fu n s=yC th n (zM s) j k m' fJ->Safe P 178 X (eH sGW (th,m,fu,n,s)) (cGW th m' fJ n (zM s) (k:Int)):=by
  intro hp ax2 j;have⟨p0,p1⟩:=gv.1 hp;have hl:=ahi ax2
  induction j with
  |zero=>
   intro k m' fJ hk hd' hr;obtain rfl:k=4:=by omega
   refine dk hz hX kc gw Tryz.func178 (alJ th m' fJ n _ 4) ⟨λh=>absurd (of_decide_eq_true h) (by omega),λ_=> ?_⟩;rw[yC]at hr;refine bN 3 rfl (le_refl _) ?_ ?_<;>simp[hr,yk]
  |succ j ih=>
   intro k m' fJ hk hd' hr;have next:=ih (k+1)
   have es:aW (List.take ((((k:Int)*64+64)).toNat - ((k:Int)*64).toNat) (List.drop (0+((k:Int)*64).toNat) (zM s)))=iI (zM s) k:=by
    unfold iI;rw[show(0+((k:Int)*64).toNat)=64*k from by omega,show((((k:Int)*64+64)).toNat - ((k:Int)*64).toNat)=64 from by omega]
   rw[yC]at hr;refine dk hz hX kc gw Tryz.func178 (alJ th m' fJ n _ k) ?_;rw[show((256:Nat):Int)=256 from rfl,es];refine⟨λ_=>⟨⟨by omega,by omega⟩,⟨by omega,by omega⟩,⟨by omega,by omega⟩,⟨by omega,by omega⟩,by omega,by omega,by omega,by omega,rfl,rfl,hd',λh=> ?_,λh=>⟨⟨by omega,by omega⟩, ?_⟩⟩,λh=>absurd (of_decide_eq_false h) (by omega)⟩;have h:¬oG th fJ (n*4+(k:Int)) (iI (zM s) k)=0:=by simpa using h
   rw[if_neg h]at hr;refine bN 3 rfl (le_refl _) ?_ ?_<;>simp[hr,yk];have h:oG th fJ (n*4+(k:Int)) (iI (zM s) k)=0:=by simpa using h
   rw[if_pos h]at hr;exact next _ _ (by omega) (xc hd') hr
 refine dk hz hX kc gw Tryz.func178 (as5 th m fu n s) ?_;have lp:=loop;have hb:=λh=>as3 (s:=s) h;unfold bP at hb;unfold fg at hN
 repeat' (with_reducible (first|refine alg ?_|refine wX ?_ ?_|refine ac0 (λ_=> ?_) (λ_=> ?_)|refine ac1 (λ_=> ?_) (λ_=> ?_)|refine ac2 (λ_=> ?_) (λ_=> ?_)|refine alh ?_|refine ali ?_|refine ac3 ?_|refine ac4 (λ_=> ?_) (λ_=> ?_)|refine wY (λ_=> ?_) (λ_=> ?_)|refine ac5 ?_|refine alj ?_))
 all_goals first|omega|exact⟨by omega,by omega⟩|trivial|skip
 have e:=bad 5 (by unfold gwC;rw[if_neg (λh=>by have:=gv.1 h;omega)]) (by decide);refine bN 3 rfl (le_refl _) ?_ ?_<;>simp[e,yk];have e:=bad 5 (by unfold gwC;rw[if_neg (λh=>by have:=gv.1 h;unfold fg at this;omega)]) (by decide);refine bN 3 rfl (le_refl _) ?_ ?_<;>simp[e,yk];have e:=bad 40 (by unfold gwC;rw[if_pos (gv.2 ⟨by omega,by unfold fg;omega⟩),if_pos (by omega)]) (by decide);refine bN 3 rfl (le_refl _) ?_ ?_<;>simp[e,yk];rw[hb (by omega)];have hp:vn th n=true:=gv.2 ⟨by omega,by unfold fg;omega⟩;have ec:gwC th n s=0:=by unfold gwC;rw[if_pos hp,if_neg (by omega)]
 exact lp hp (by omega) 4 0 m fu rfl hd (by unfold ky;rw[ec,if_pos rfl])
theorem atb(s:ByteArray):bJ BinOp.or IntKind.i64 (IntKind.i64.wrap (aN s (Int.toNat 9)*2^min (Int.toNat 8) IntKind.i64.bits)) (aN s (Int.toNat 10))=pgT s/\0<=pgT s/\pgT s<=65535:=by
 have h0:=dm s 9;have h1:=dm s 10;refine⟨rS h0 h1, ?_⟩;unfold pgT;omega
theorem atc{Z:bB}{X:Ctx}{th:Th}{m:As}{fu n:Int}(hX:X.H=lk (sGo.heap (th,m,fu,n)))(hz:eO Z X)(hr:mE th n=0)(hs:(dX th m (n*4)).size=64)(E:Int)(hE:E=epS (dX th m (n*4)) 8):Safe P 88 X (eH sGo (th,m,fu,n)) (cGo th m fu (dX th m (n*4)) E):=by
 have kc:∀x∈ajq,(sGo.heap (th,m,fu,n)).length<=x.2.m:=by intro y hy;simp[ajq,fK]at hy;rcases hy with rfl|rfl<;>exact le_refl _
 rw[alB _ 8 (le_refl _)]at hE;subst hE;refine dk hz hX kc gw Tryz.func88 (loopGo th m fu _ _) ?_;have o1:jj th m n=(aN (dX th m (n*4)) (Int.toNat 0)==1):=by unfold jj alA;rw[hr];rfl
 have o2:gk th m n=abl (dX th m (n*4)):=by unfold gk;rw[hr,if_pos rfl]
 have o3:mF th m n=abm (dX th m (n*4)):=by unfold mF;rw[hr,if_pos rfl]
 have b9:=dm (dX th m (n*4)) (Int.toNat 9);have b10:=dm (dX th m (n*4)) (Int.toNat 10);have⟨p1,p2,p3⟩:=atb (dX th m (n*4));have⟨g0,g1⟩:=tD (dX th m (n*4)) 8;rw[p1];generalize dX th m (n*4)=s at *;have q1:epN s 8>1099511627776->abl s=0:=λh=>by unfold abl;rw[if_pos h]
 have q2:¬epN s 8>1099511627776->abl s=epN s 8:=λh=>by unfold abl;rw[if_neg h]
 have q3:pgT s>=1024->abm s=0:=λh=>by unfold abm;rw[if_pos h]
 have q4:¬pgT s>=1024->abm s=pgT s:=λh=>by unfold abm;rw[if_neg h]
 have w1:epN s 8<=1099511627776->IntKind.i64.wrap (epN s 8)=epN s 8:=λh=>cM ⟨by omega,by omega⟩
 repeat' (with_reducible (first|refine alg ?_|refine wX ?_ ?_|refine ac0 (λ_=> ?_) (λ_=> ?_)|refine ac1 (λ_=> ?_) (λ_=> ?_)|refine ac2 (λ_=> ?_) (λ_=> ?_)|refine alh ?_|refine ali ?_|refine ac3 ?_|refine ac4 (λ_=> ?_) (λ_=> ?_)|refine wY (λ_=> ?_) (λ_=> ?_)|refine ac5 ?_|refine alj ?_))
 all_goals first|omega|exact⟨by omega,by omega⟩|skip
 have e1:=q1 (by omega);have e2:=q3 (by omega);refine bN 3 rfl (le_refl _) ?_ rfl;simp only[o1,o2,o3,e1,e2,hr];rfl;have e1:=q1 (by omega);have e2:=q4 (by omega);refine bN 3 rfl (le_refl _) ?_ rfl;simp only[o1,o2,o3,e1,e2,hr];rfl;have e1:=q2 (by omega);have e2:=q3 (by omega);have e3:=w1 (by omega);refine bN 3 rfl (le_refl _) ?_ rfl;simp only[o1,o2,o3,e1,e2,hr,e3];rfl;have e1:=q2 (by omega);have e2:=q4 (by omega);have e3:=w1 (by omega);refine bN 3 rfl (le_refl _) ?_ rfl;simp only[o1,o2,o3,e1,e2,hr,e3];rfl
theorem alN{th:Th}{m:As}{n:Int}(h:¬(0<=n/\n<=1/\n<fg th)):mE th n=5/\jj th m n=false/\gk th m n=0/\mF th m n=0:=by
 have e:mE th n=5:=by unfold mE;rw[if_neg h]
 unfold jj gk mF;rw[e];exact⟨rfl,rfl,rfl,rfl⟩
theorem go_ok{Z:bB}:gE P Z 88 sGo:=by
 refine aK Tryz.func88 (by kernel_rfl) (λx=>le_of_ble_eq_true (by kernel_rfl)) ?_;rintro⟨(th:Th),(m:As),(fu:Int),(n:Int)⟩ ⟨(hd:bz th m fu),(hn:aG n),_⟩ X hX hz;have kc:∀x∈ajq,(sGo.heap (th,m,fu,n)).length<=x.2.m:=by intro y hy;simp[ajq,fK]at hy;rcases hy with rfl|rfl<;>exact le_refl _
 have h4:=hd.t.1;have hN:=oJ th;unfold aG at hn;have no:= @alN th m n;have yes:0<=n->n<=1->n<fg th->mE th n=0/\lg th (n*4)=true:=λa b c=>⟨by unfold mE;rw[if_pos ⟨a,b,c⟩],gN.2 ⟨by omega,by omega⟩⟩;have fin:=λh1 h2=>atc (Z:=Z) (n:=n) hX hz h1 h2;unfold fg at hN no yes;refine dk hz hX kc gw Tryz.func88 (as6 th m fu n) ?_
 repeat' (with_reducible (first|refine alg ?_|refine wX ?_ ?_|refine ac0 (λ_=> ?_) (λ_=> ?_)|refine ac1 (λ_=> ?_) (λ_=> ?_)|refine ac2 (λ_=> ?_) (λ_=> ?_)|refine alh ?_|refine ali ?_|refine ac3 ?_|refine ac4 (λ_=> ?_) (λ_=> ?_)|refine wY (λ_=> ?_) (λ_=> ?_)|refine ac5 ?_|refine alj ?_))
 all_goals first|omega|exact⟨by omega,by omega⟩|assumption|skip
 have⟨e1,e2,e3,e4⟩:=no (by omega);refine bN 3 rfl (le_refl _) ?_ rfl;simp only[e1,e2,e3,e4];rfl;have⟨e1,e2,e3,e4⟩:=no (by omega);refine bN 3 rfl (le_refl _) ?_ rfl;simp only[e1,e2,e3,e4];rfl;have⟨e1,e2,e3,e4⟩:=no (by omega);refine bN 3 rfl (le_refl _) ?_ rfl;simp only[e1,e2,e3,e4];rfl
 all_goals have⟨e1,e2⟩:=yes (by omega) (by omega) (by omega)
 exact absurd (alL e2) (by assumption)
 all_goals have e3:=abk hd e2
 all_goals first|omega|skip
 exact fin e1 e3 _ rfl
theorem atd{ep pg:Int}(h0:0<=ep)(h1:0<=pg)(on:Bool)(ws:List Int)(hw:ws=if on=true then(replicate 64 (0:Int)).set 0 1 else replicate 64 0):
 ((((((((((ws.set 8 (IntKind.u8.wrap (ep.fdiv (2^min (Int.toNat 0) IntKind.i64.bits)))).set 7 (IntKind.u8.wrap (ep.fdiv (2^min (Int.toNat 8) IntKind.i64.bits)))).set 6 (IntKind.u8.wrap (ep.fdiv (2^min (Int.toNat 16) IntKind.i64.bits)))).set 5 (IntKind.u8.wrap (ep.fdiv (2^min (Int.toNat 24) IntKind.i64.bits)))).set 4 (IntKind.u8.wrap (ep.fdiv (2^min (Int.toNat 32) IntKind.i64.bits)))).set 3 (IntKind.u8.wrap (ep.fdiv (2^min (Int.toNat 40) IntKind.i64.bits)))).set 2 (IntKind.u8.wrap (ep.fdiv (2^min (Int.toNat 48) IntKind.i64.bits)))).set 1 (IntKind.u8.wrap (ep.fdiv (2^min (Int.toNat 56) IntKind.i64.bits)))).set 9 (IntKind.u8.wrap (pg.fdiv (2^min (Int.toNat 8) IntKind.i64.bits)))).set 10 (IntKind.u8.wrap pg))=mkB on ep pg:=by
 have e:(replicate 64 (0:Int))=0::0::0::0::0::0::0::0::0::0::0::replicate 53 0:=rfl
 simp only[wrap_u8,show(2:Int)^min (Int.toNat 0) IntKind.i64.bits=1 from by decide,show(2:Int)^min (Int.toNat 8) IntKind.i64.bits=256 from by decide,show(2:Int)^min (Int.toNat 16) IntKind.i64.bits=65536 from by decide,show(2:Int)^min (Int.toNat 24) IntKind.i64.bits=16777216 from by decide,
  show(2:Int)^min (Int.toNat 32) IntKind.i64.bits=4294967296 from by decide,show(2:Int)^min (Int.toNat 40) IntKind.i64.bits=1099511627776 from by decide,show(2:Int)^min (Int.toNat 48) IntKind.i64.bits=281474976710656 from by decide,show(2:Int)^min (Int.toNat 56) IntKind.i64.bits=72057594037927936 from by decide,
  Int.fdiv_eq_ediv_of_nonneg ep (by decide:(0:Int)<=1),Int.fdiv_eq_ediv_of_nonneg ep (by decide:(0:Int)<=256),Int.fdiv_eq_ediv_of_nonneg ep (by decide:(0:Int)<=65536),Int.fdiv_eq_ediv_of_nonneg ep (by decide:(0:Int)<=16777216),Int.fdiv_eq_ediv_of_nonneg ep (by decide:(0:Int)<=4294967296),Int.fdiv_eq_ediv_of_nonneg ep (by decide:(0:Int)<=1099511627776),Int.fdiv_eq_ediv_of_nonneg ep (by decide:(0:Int)<=281474976710656),Int.fdiv_eq_ediv_of_nonneg ep (by decide:(0:Int)<=72057594037927936),Int.fdiv_eq_ediv_of_nonneg pg (by decide:(0:Int)<=256),Int.ediv_one]
 cases on;rw[if_neg (by decide),e]at hw;subst hw;rfl;rw[if_pos rfl,e]at hw;subst hw;rfl
theorem ate{Z:bB}{X:Ctx}{th:Th}{m:As}{fu n:Int}{on:Bool}{ep pg:Int}(hX:X.H=lk (sGs.heap (th,m,fu,n,on,ep,pg)))(hz:eO Z X)(hd:bz th m fu)(hn:0<=n/\n<=1)(hs:zN th n ep pg=0)(h0:0<=ep)(h1:0<=pg)(ws:List Int)(hw:ws=if on=true then(replicate 64 (0:Int)).set 0 1 else replicate 64 0):
 Safe P 90 X (eH sGs (th,m,fu,n,on,ep,pg)) (cGs th m fu n on ep pg ws):=by
 have kc:∀x∈afH,(sGs.heap (th,m,fu,n,on,ep,pg)).length<=x.2.m:=by intro y hy;simp[afH,fK]at hy;rcases hy with rfl|rfl|rfl<;>exact le_refl _
 have e:=atd h0 h1 on ws hw;have l:=aoS on ep pg
 have fin:Safe P 90 X (eH sGs (th,m,fu,n,on,ep,pg)) (alG th m fu n (mkB on ep pg)):=by
  refine dk hz hX kc gw Tryz.func90 (alK th m fu n _) ?_;rw[show aW (List.take 64 (List.drop 0 (mkB on ep pg)))=rR on ep pg from by unfold rR;rw[List.drop_zero,take_of_length_le (by omega)]];refine⟨⟨by omega,by omega⟩,by decide,by decide,by decide,by decide,rfl,rfl,hd, ?_⟩;refine bN 3 rfl (le_refl _) ?_ ?_<;>simp[yD,kz,pv,hs,yk]
 refine dk hz hX kc gw Tryz.func90 (as8 th m fu n on ep pg ws) ?_;rw[e];exact⟨by decide,by decide,by decide,by decide,by decide,by decide,by decide,by decide,by decide,fin⟩
theorem art{Z:bB}:gE P Z 90 sGs:=by
 refine aK Tryz.func90 (by kernel_rfl) (λx=>le_of_ble_eq_true (by kernel_rfl)) ?_;rintro⟨(th:Th),(m:As),(fu:Int),(n:Int),(on:Bool),(ep:Int),(pg:Int)⟩ ⟨(hd:bz th m fu),(hn:aG n),_⟩ X hX hz;have kc:∀x∈afH,(sGs.heap (th,m,fu,n,on,ep,pg)).length<=x.2.m:=by intro y hy;simp[afH,fK]at hy;rcases hy with rfl|rfl|rfl<;>exact le_refl _
 have h4:=hd.t.1;have hN:=oJ th
 have no:∀c,zN th n ep pg=c->c≠0->yD th fu n on ep pg=c/\kz th m fu n on ep pg=m/\pv th fu n on ep pg=fu:=λc h h2=>by
  unfold yD kz pv;rw[h,if_neg h2,if_neg h2,if_neg h2];exact⟨rfl,rfl,rfl⟩
 have c5:¬(0<=n/\n<=1/\n<fg th)->zN th n ep pg=5:=λh=>by unfold zN;rw[(alN (m:=m) h).1];rfl
 have c0:0<=n->n<=1->n<fg th->mE th n=0:=λa b c=>by unfold mE;rw[if_pos ⟨a,b,c⟩]
 have c1:0<=n->n<=1->n<fg th->(ep<0\/ep>1099511627776\/pg<0\/pg>=1024)->zN th n ep pg=1:=λa b c h=>by unfold zN;rw[c0 a b c,if_pos rfl,if_pos h]
 have c2:0<=n->n<=1->n<fg th->¬(ep<0\/ep>1099511627776\/pg<0\/pg>=1024)->zN th n ep pg=0:=λa b c h=>by unfold zN;rw[c0 a b c,if_pos rfl,if_neg h]
 have fin:=λh1 h2 h3 h4 ws=>ate (Z:=Z) (th:=th) (m:=m) (fu:=fu) (n:=n) (on:=on) (ep:=ep) (pg:=pg) hX hz hd h1 h2 h3 h4 ws;unfold aG at hn;unfold fg at hN c5 c0 c1 c2;refine dk hz hX kc gw Tryz.func90 (as7 th m fu n on ep pg) ?_
 repeat' (with_reducible (first|refine alg ?_|refine wX ?_ ?_|refine ac0 (λ_=> ?_) (λ_=> ?_)|refine ac1 (λ_=> ?_) (λ_=> ?_)|refine ac2 (λ_=> ?_) (λ_=> ?_)|refine alh ?_|refine ali ?_|refine ac3 ?_|refine ac4 (λ_=> ?_) (λ_=> ?_)|refine wY (λ_=> ?_) (λ_=> ?_)|refine ac5 ?_|refine alj ?_))
 all_goals first|omega|exact⟨by omega,by omega⟩|skip
 have⟨e1,e2,e3⟩:=no 5 (c5 (by omega)) (by decide);refine bN 3 rfl (le_refl _) ?_ ?_<;>simp[e1,e2,e3,yk];have⟨e1,e2,e3⟩:=no 5 (c5 (by omega)) (by decide);refine bN 3 rfl (le_refl _) ?_ ?_<;>simp[e1,e2,e3,yk];have⟨e1,e2,e3⟩:=no 5 (c5 (by omega)) (by decide);refine bN 3 rfl (le_refl _) ?_ ?_<;>simp[e1,e2,e3,yk];have⟨e1,e2,e3⟩:=no 1 (c1 (by omega) (by omega) (by omega) (by omega)) (by decide);refine bN 3 rfl (le_refl _) ?_ ?_<;>simp[e1,e2,e3,yk];have⟨e1,e2,e3⟩:=no 1 (c1 (by omega) (by omega) (by omega) (by omega)) (by decide);refine bN 3 rfl (le_refl _) ?_ ?_<;>simp[e1,e2,e3,yk];have⟨e1,e2,e3⟩:=no 1 (c1 (by omega) (by omega) (by omega) (by omega)) (by decide);refine bN 3 rfl (le_refl _) ?_ ?_<;>simp[e1,e2,e3,yk];have⟨e1,e2,e3⟩:=no 1 (c1 (by omega) (by omega) (by omega) (by omega)) (by decide);refine bN 3 rfl (le_refl _) ?_ ?_<;>simp[e1,e2,e3,yk];rename_i hon;exact fin ⟨by omega,by omega⟩ (c2 (by omega) (by omega) (by omega) (by omega)) (by omega) (by omega) _ (by rw[if_pos hon]);rename_i hon;exact fin ⟨by omega,by omega⟩ (c2 (by omega) (by omega) (by omega) (by omega)) (by omega) (by omega) _ (by rw[if_neg (by rw[hon];decide)])
def yE(ep pg:Int):Prop:=0<=ep/\ep<=1099511627776/\0<=pg/\pg<1024
theorem abo{ws:List Int}{i:Nat}(hi:i<ws.length)(h:0<=ws.getD i 0/\ws.getD i 0<=255):aN (aW ws) i=ws.getD i 0:=by
 have e:aN (aW ws) i=(((ws.map λn=>UInt8.ofNat n.toNat).getD i 0).toNat:Int):=rfl
 have e2:(ws.map λn=>UInt8.ofNat n.toNat).getD i 0=UInt8.ofNat (ws.getD i 0).toNat:=by
  rw[bt (by simpa using hi),bt hi,List.getElem_map]
 rw[e,e2,UInt8.toNat_ofNat'];omega
theorem yF{ws:List Int}(h:∀x∈ws,0<=x/\x<=255):bP (aW ws)=ws:=by
 simp only[aW,bP,List.map_map];refine(List.map_congr_left λb hb=> ?_).trans (List.map_id ws);have:=h b hb;simp only[Function.comp,UInt8.toNat_ofNat',id];omega
theorem alO(on:Bool)(ep pg:Int):∀x∈mkB on ep pg,0<=x/\x<=255:=by
 intro x hx;simp only[mkB,mem_append,mem_cons,List.mem_replicate,List.not_mem_nil,or_false]at hx;rcases hx with(rfl|rfl|rfl|rfl|rfl|rfl|rfl|rfl|rfl|rfl|rfl)|⟨_,rfl⟩;split<;>omega
 all_goals omega
theorem aoU(on:Bool)(ep pg:Int){i:Nat}(hi:i<64):aN (rR on ep pg) i=(mkB on ep pg).getD i 0:=by
 have hl:i<(mkB on ep pg).length:=hi;refine abo hl ?_;rw[bt hl];exact alO on ep pg _ (getElem_mem hl)
theorem alP{on:Bool}{ep pg:Int}(h:yE ep pg):alA (rR on ep pg)=on/\abl (rR on ep pg)=ep/\abm (rR on ep pg)=pg:=by
 have⟨h0,h1,h2,h3⟩:=h;have b:=λ(i:Nat) (hi:i<64)=>aoU on ep pg hi
 have e8:epN (rR on ep pg) 8=ep:=by
  simp only[epN,b 1 (by decide),b 2 (by decide),b 3 (by decide),b 4 (by decide),b 5 (by decide),b 6 (by decide),b 7 (by decide),b 8 (by decide)];show((((((((0*256+ep / 72057594037927936%256)*256+ep / 281474976710656%256)*256+ep / 1099511627776%256)*256+ep / 4294967296%256)*256+ep / 16777216%256)*256+ep / 65536%256)*256+ep / 256%256)*256+ep%256)=ep;omega
 have et:pgT (rR on ep pg)=pg:=by
  unfold pgT;rw[b 9 (by decide),b 10 (by decide)];show pg / 256%256*256+pg%256=pg;omega
 refine⟨?_, ?_, ?_⟩;unfold alA;rw[b 0 (by decide)];show((if on=true then 1 else 0:Int)==1)=on;cases on<;>rfl;unfold abl;rw[e8,if_neg (by omega)];unfold abm;rw[et,if_neg (by omega)]
theorem alQ{th:Th}{m:As}{k:Int}{s:ByteArray}(hr:mE th k=0)(hs:dX th m (k*4)=s):jj th m k=alA s/\gk th m k=abl s/\mF th m k=abm s:=by
 unfold jj gk mF;rw[hr,hs,if_pos rfl,if_pos rfl];exact⟨by simp,rfl,rfl⟩
theorem lj{th:Th}{k:Int}:mE th k=0↔0<=k/\k<=1/\k<fg th:=by
 unfold mE;split;rename_i h;simp[h];rename_i h;exact⟨λh2=>absurd h2 (by decide),λh2=>absurd h2 h⟩
theorem xe{th:Th}{k:Int}(h:mE th k=0):lg th (k*4)=true:=by
 have⟨h0,h1,h2⟩:=lj.1 h;have:=oJ th;exact gN.2 ⟨by omega,by omega⟩
theorem abp{th:Th}{m:As}{fu k ep pg:Int}{on:Bool}(hd:bz th m fu)(hf:fu≠0)(hk:mE th k=0)(h:yE ep pg):
 yD th fu k on ep pg=0/\pv th fu k on ep pg=dL fu/\∀x,dX th (kz th m fu k on ep pg) x=if x=k*4 then rR on ep pg else dX th m x:=by
 have⟨h0,h1,h2,h3⟩:=h;have hc:zN th k ep pg=0:=by unfold zN;rw[hk,if_pos rfl,if_neg (by omega)]
 have dv:=xe hk;have hw:oG th fu (k*4) (rR on ep pg)=0:=oH.2 ⟨dv,mG _ _ _,hf⟩;unfold yD pv kz;rw[hc,if_pos rfl,if_pos rfl,if_pos rfl];refine⟨hw, ?_,λx=> ?_⟩;unfold tz;rw[if_pos ⟨dv,mG _ _ _⟩];rw[alz hd];by_cases hx:x=k*4;rw[if_pos ⟨hw,hx⟩,if_pos hx];rw[if_neg (λh=>hx h.2),if_neg hx]
theorem alR{th:Th}{n:Int}{ws:List Int}(hp:vn th n=true)(hw:ws.length=256):∀(j k:Nat) (m:As),k+j=4->bz th m (-1)->
 (yC th n ws j k m (-1)).2=(-1,0)/\(∀i:Nat,k<=i->i<4->dX th (yC th n ws j k m (-1)).1 (n*4+(i:Int))=iI ws i)/\
   ∀x,(∀i:Nat,k<=i->i<4->x≠n*4+(i:Int))->dX th (yC th n ws j k m (-1)).1 x=dX th m x
 |0,k,m,hk,hd=>⟨rfl,λi h1 h2=>by omega,λx _=>rfl⟩
 |j+1,k,m,hk,hd=>by
  have dv:=abn hp (show k<4 by omega);have hs:=zO hw (show k<4 by omega);have he:oG th (-1) (n*4+(k:Int)) (iI ws k)=0:=oH.2 ⟨dv,hs,by decide⟩;have hf:tz th (-1) (n*4+(k:Int)) (iI ws k)= -1:=by unfold tz;rw[if_pos ⟨dv,hs⟩];rfl
  have hd':=xc (n:=n*4+(k:Int)) (s:=iI ws k) hd;have hr:=λx=>alz (n:=n*4+(k:Int)) (x:=x) (s:=iI ws k) hd;rw[hf]at hd';have⟨h1,h2,h3⟩:=alR hp hw j (k+1) _ (by omega) hd';unfold yC;rw[if_pos he,hf];refine⟨h1,λi hi hi4=> ?_,λx hx=> ?_⟩;by_cases e:i=k;subst e;rw[h3 _ (λi' a b=>by omega),hr,if_pos ⟨he,rfl⟩];exact h2 i (by omega) hi4;rw[h3 x (λi a b=>hx i (by omega) b),hr,if_neg (λh=>hx k (le_refl _) (by omega) h.2)]
theorem zP{th fQ:Th}{m m':As}{n:Int}:∀k:Nat,(∀i:Nat,i<k->dX th m (n*4+(i:Int))=dX fQ m' (n*4+(i:Int)))->pgL th m n k=pgL fQ m' n k
 |0,_=>rfl
 |k+1,h=>by rw[pgL,pgL,zP k (λi hi=>h i (by omega)),h k (by omega)]
theorem adh{th fQ:Th}{m m':As}{n:Int}(hl:fQ.length=th.length)(h:∀i:Nat,i<4->dX th m (n*4+(i:Int))=dX fQ m' (n*4+(i:Int))):
 gS fQ m' n=gS th m n/\fR fQ m' n=fR th m n:=by
 have e:pgA fQ m' n=pgA th m n:=(zP 4 h).symm;have ep:vn fQ n=vn th n:=by unfold vn fg;rw[hl]
 have eg:gS fQ m' n=gS th m n:=by unfold gS;rw[e,ep]
 exact⟨eg,by unfold fR;rw[eg,e]⟩
theorem atf{th:Th}{m:As}{n:Int}{s:ByteArray}(hp:vn th n=true)(hs:s.size<=254)(h:pgA th m n=zM s):gS th m n=0/\fR th m n=s:=by
 have hl:rQ (zM s)=(s.size:Int):=by
  unfold rQ zM;show(s.size:Int) / 256*256+(s.size:Int)%256=s.size;omega
 have e:gS th m n=0:=by unfold gS;rw[if_pos hp,h,hl,if_neg (by omega)]
 refine⟨e, ?_⟩;unfold fR;rw[if_pos e,h,hl,toNat_natCast];unfold zM;show aW ((bP s++replicate (254 - s.size) 0).take s.size)=s;rw[List.take_append_of_le_length (by rw[gu];exact le_refl _),take_of_length_le (by rw[gu];exact le_refl _),pW]
theorem alS{ws:List Int}(hw:ws.length=256)(hb:∀x∈ws,0<=x/\x<=255):bP (iI ws 0)++bP (iI ws 1)++bP (iI ws 2)++bP (iI ws 3)=ws:=by
 have e:∀k,bP (iI ws k)=(ws.drop (64*k)).take 64:=λk=>yF λx hx=>hb x (List.mem_of_mem_drop (List.mem_of_mem_take hx));rw[e,e,e,e];have h3:(ws.drop (64*3)).take 64=ws.drop 192:=take_of_length_le (by rw[length_drop];omega);rw[h3];have d:∀k,(ws.drop k).take 64++ws.drop (k+64)=ws.drop k:=λk=>by rw[<-List.drop_drop,List.take_append_drop]
 have d2:=d 128;have d1:=d 64;have d0:=d 0;simp only[append_assoc];rw[show 64*2=128 from rfl,d2,show 64*1=64 from rfl,d1,show 64*0=0 from rfl,d0];rfl
end Ds
namespace Lf
open Go Go.Sx Go.Proofs
noncomputable abbrev P:Program:=Tryz.prog
theorem mixed:P.follows .mixedOrders=true:=by kernel_rfl
abbrev bS:Ty:=.b (.int .i64)
abbrev dg:Ty:=.b .bool
abbrev fc:Ty:=.b .ag
abbrev adi:Ty:=.b (.row (.aw .i64) 3)
abbrev cE:List CK:=[.ag,.ag]
abbrev cB:List CK:=[.ag,.int .i64]
abbrev En:Type:=ByteArray×ByteArray×Unit
abbrev Br:Type:=ByteArray×Int×Unit
abbrev eE:TypeId:=66
abbrev eB:TypeId:=137
abbrev rT:Ty:=.b (.row (.az cE) eE)
abbrev yG:Ty:=.b (.row (.az cB) eB)
abbrev fE:Ty:=.st [.bool,.row (.az cE) eE,.row (.az cB) eB]
abbrev avN(l:Bool)(es:List En)(bs:List Br):AV:=.agg [.s (.bool l),.s (.ro (.az cE es)),.s (.ro (.az cB bs))]
abbrev obN(l:Bool)(es:List En)(bs:List Br)(t:TypeId):au:=.ay [.s (.bool l),.s (.ro (.az cE es)),.s (.ro (.az cB bs))] t
theorem go{Z:bB}{X:Ctx}{t:aR}{f:FuncId}{fn:Func}{ns:List (Nat×Norm)}{c:cn}{tr:Tree}{K:List au->AV->Prop}(hz:eO Z X)(hX:∀id,X.H id=none)(hT:t.Ok P Z)(hf:P.funcs[f]? =some fn)
 (e:run P t.sum fn ns c=tr) (h:tr.ba K (Safe P f X K)):Safe P f X K c:=db (aR.sOk hT) hz mixed hf (λ_ _ id _=>hX id) e h
def dE:En:=(empty,empty,())
def dB:Br:=(empty,0,())
def okE(es:List En)(i:Nat):Bool:= !(decide ((es.getD i dE).1=empty)||decide (((es.getD i dE).1.size:Int)>24)||decide (((es.getD i dE).2.1.size:Int)>100)||(decide (0<i)&& !slt (es.getD (i - 1) dE).1 (es.getD i dE).1))
def okB(bs:List Br)(i:Nat):Bool:= !(decide (((bs.getD i dB).1.size:Int)>24)||decide ((bs.getD i dB).2.1<2)||decide ((bs.getD i dB).2.1>=1024)||(decide (0<i)&& !slt (bs.getD (i - 1) dB).1 (bs.getD i dB).1))
def kB(es:List En):Bool:=(List.range es.length).all (okE es)
def iq(bs:List Br):Bool:=(List.range bs.length).all (okB bs)
def dM(l:Bool)(es:List En)(bs:List Br):Bool:= !((l&&decide ((bs.length:Int)>0))||(!l&&decide ((es.length:Int)>0)))&&kB es&&iq bs
def iU:aR:=[]
def alT:List (Nat×Norm):=[(4,⟨[],[1,27,28,29],0,[]⟩),(10,⟨[],[1,67,68,69],0,[]⟩)]
noncomputable def uD(l:Bool)(es:List En)(bs:List Br)(i:Int):cn:=⟨sl 105 [(1,.an 0 0),(27,.s (.ro (.az cE es))),(28,.s (.int .i64 (es.length:Int))),(29,.s (.int .i64 i))],[obN l es bs 131],hd Tryz.f166 4,{}⟩
noncomputable def adj(l:Bool)(es:List En)(bs:List Br)(i:Int):cn:=⟨sl 105 [(1,.an 0 0),(67,.s (.ro (.az cB bs))),(68,.s (.int .i64 (bs.length:Int))),(69,.s (.int .i64 i))],[obN l es bs 131],hd Tryz.f166 10,{}⟩
theorem aoV(l:Bool)(es:List En)(bs:List Br):run P iU.sum Tryz.f166 alT (start Tryz.f166 [avN l es bs] [])=
 Tree.ite l (.ite (decide ((↑bs.length:Int)>0)) (.ret [.ay [.s (.bool l),.s (.ro (.az [.ag,.ag] es)),.s (.ro (.az [.ag,.int .i64] bs))] 131] (.s (.aT false))) (.ite (!l) (.ite (decide ((↑es.length:Int)>0)) (.ret [.ay [.s (.bool l),.s (.ro (.az [.ag,.ag] es)),.s (.ro (.az [.ag,.int .i64] bs))] 131] (.s (.aT false))) (.at (uD l es bs 0))) (.at (uD l es bs 0)))) (.ite (!l) (.ite (decide ((↑es.length:Int)>0)) (.ret [.ay [.s (.bool l),.s (.ro (.az [.ag,.ag] es)),.s (.ro (.az [.ag,.int .i64] bs))] 131] (.s (.aT false))) (.at (uD l es bs 0))) (.at (uD l es bs 0))):=by kernel_rfl
theorem adk(l:Bool)(es:List En)(bs:List Br)(i:Int):run P iU.sum Tryz.f166 alT (uD l es bs i)=
 Tree.ite (decide (i<(↑es.length:Int))) (.ab ((0:Int)<=i) (.ab (i<(↑es.length:Int)) (.ite (decide ((es.getD i.toNat (CL.d [.ag,.ag])).fst=empty)) (.ret [.ay [.s (.bool l),.s (.ro (.az [.ag,.ag] es)),.s (.ro (.az [.ag,.int .i64] bs))] 131,.ay [.s (.ag (es.getD i.toNat (CL.d [.ag,.ag])).fst),.s (.ag (es.getD i.toNat (CL.d [.ag,.ag])).snd.fst)] 66] (.s (.aT false))) (.ite (decide ((↑(ByteArray.size (es.getD i.toNat (CL.d [.ag,.ag])).fst):Int)>24)) (.ret [.ay [.s (.bool l),.s (.ro (.az [.ag,.ag] es)),.s (.ro (.az [.ag,.int .i64] bs))] 131,.ay [.s (.ag (es.getD i.toNat (CL.d [.ag,.ag])).fst),.s (.ag (es.getD i.toNat (CL.d [.ag,.ag])).snd.fst)] 66] (.s (.aT false))) (.ite (decide ((↑(ByteArray.size (es.getD i.toNat (CL.d [.ag,.ag])).snd.fst):Int)>100)) (.ret [.ay [.s (.bool l),.s (.ro (.az [.ag,.ag] es)),.s (.ro (.az [.ag,.int .i64] bs))] 131,.ay [.s (.ag (es.getD i.toNat (CL.d [.ag,.ag])).fst),.s (.ag (es.getD i.toNat (CL.d [.ag,.ag])).snd.fst)] 66] (.s (.aT false))) (.ite (decide (i>0)) (.ab (aG (i - (1:Int))) (.ab ((0:Int)<=i - (1:Int)) (.ab (i - (1:Int)<(↑es.length:Int)) (.ite (!slt (es.getD (i - (1:Int)).toNat (CL.d [.ag,.ag])).fst (es.getD i.toNat (CL.d [.ag,.ag])).fst) (.ret [.ay [.s (.bool l),.s (.ro (.az [.ag,.ag] es)),.s (.ro (.az [.ag,.int .i64] bs))] 131,.ay [.s (.ag (es.getD i.toNat (CL.d [.ag,.ag])).fst),.s (.ag (es.getD i.toNat (CL.d [.ag,.ag])).snd.fst)] 66] (.s (.aT false))) (.ab (aG (i+1)) (.at (uD l es bs (i+1)))))))) (.ab (aG (i+1)) (.at (uD l es bs (i+1)))))))))) (.at (adj l es bs 0)):=by kernel_rfl
theorem adl(l:Bool)(es:List En)(bs:List Br)(i:Int):run P iU.sum Tryz.f166 alT (adj l es bs i)=
 Tree.ite (decide (i<(↑bs.length:Int))) (.ab ((0:Int)<=i) (.ab (i<(↑bs.length:Int)) (.ite (decide ((↑(ByteArray.size (bs.getD i.toNat (CL.d [.ag,.int .i64])).fst):Int)>24)) (.ret [.ay [.s (.bool l),.s (.ro (.az [.ag,.ag] es)),.s (.ro (.az [.ag,.int .i64] bs))] 131,.ay [.s (.ag (bs.getD i.toNat (CL.d [.ag,.int .i64])).fst),.s (.int .i64 (bs.getD i.toNat (CL.d [.ag,.int .i64])).snd.fst)] 137] (.s (.aT false))) (.ite (decide ((bs.getD i.toNat (CL.d [.ag,.int .i64])).snd.fst<2)) (.ret [.ay [.s (.bool l),.s (.ro (.az [.ag,.ag] es)),.s (.ro (.az [.ag,.int .i64] bs))] 131,.ay [.s (.ag (bs.getD i.toNat (CL.d [.ag,.int .i64])).fst),.s (.int .i64 (bs.getD i.toNat (CL.d [.ag,.int .i64])).snd.fst)] 137] (.s (.aT false))) (.ite (decide ((bs.getD i.toNat (CL.d [.ag,.int .i64])).snd.fst>=1024)) (.ret [.ay [.s (.bool l),.s (.ro (.az [.ag,.ag] es)),.s (.ro (.az [.ag,.int .i64] bs))] 131,.ay [.s (.ag (bs.getD i.toNat (CL.d [.ag,.int .i64])).fst),.s (.int .i64 (bs.getD i.toNat (CL.d [.ag,.int .i64])).snd.fst)] 137] (.s (.aT false))) (.ite (decide (i>0)) (.ab (aG (i - (1:Int))) (.ab ((0:Int)<=i - (1:Int)) (.ab (i - (1:Int)<(↑bs.length:Int)) (.ite (!slt (bs.getD (i - (1:Int)).toNat (CL.d [.ag,.int .i64])).fst (bs.getD i.toNat (CL.d [.ag,.int .i64])).fst) (.ret [.ay [.s (.bool l),.s (.ro (.az [.ag,.ag] es)),.s (.ro (.az [.ag,.int .i64] bs))] 131,.ay [.s (.ag (bs.getD i.toNat (CL.d [.ag,.int .i64])).fst),.s (.int .i64 (bs.getD i.toNat (CL.d [.ag,.int .i64])).snd.fst)] 137] (.s (.aT false))) (.ab (aG (i+1)) (.at (adj l es bs (i+1)))))))) (.ab (aG (i+1)) (.at (adj l es bs (i+1)))))))))) (.ret [.ay [.s (.bool l),.s (.ro (.az [.ag,.ag] es)),.s (.ro (.az [.ag,.int .i64] bs))] 131] (.s (.aT true))):=by kernel_rfl
theorem afI{Z:bB}:dO P Z 166 [fE] [dg] (λ_=>[]) (λ((l,es,bs,()),())=>(dM l es bs,())):=by
 refine aM Tryz.func166 (by kernel_rfl) (by kernel_rfl) ?_;rintro⟨⟨(l:Bool),(es:List En),(bs:List Br),⟨⟩⟩,⟨⟩⟩ ⟨⟨_,hle,hlb,_⟩,_⟩ _ X hX hz;have hle:es.length<=9223372036854775807:=hle;have hlb:bs.length<=9223372036854775807:=hlb
 have second:kB es=true->dM l es bs=iq bs->∀(n k:Nat),k+n=bs.length->(∀j,j<k->okB bs j=true)->Safe P 166 X (Ends [dg] (dM l es bs,())) (adj l es bs (k:Int)):=by
  intro he hm n
  induction n with
  |zero=>
   intro k hk hp;refine go hz hX aR.Ok.nil Tryz.func166 (adl l es bs k) ⟨λh=>absurd (of_decide_eq_true h) (by omega),λh=>gj ?_⟩;rw[hm];exact ahe (λj hj=>hp j (by omega))
  |succ n ih=>
   intro k hk hp;have no:okB bs k=false->dM l es bs=false:=λh=>by rw[hm];exact alm (by omega) h
   refine go hz hX aR.Ok.nil Tryz.func166 (adl l es bs k) ⟨λh=>⟨by omega,by omega, ?_⟩,λh=>absurd (of_decide_eq_false h) (by omega)⟩;simp only[toNat_natCast];refine⟨λh1=>gj (no ?_),λh1=>⟨λh2=>gj (no ?_),λh2=>⟨λh3=>gj (no ?_),λh3=>⟨λh4=> ?_,λh4=>⟨⟨by omega,by omega⟩, ?_⟩⟩⟩⟩⟩;show(!(decide (((bs.getD k dB).1.size:Int)>24)||_||_||_))=false;rw[show decide (((bs.getD k dB).1.size:Int)>24)=true from h1];rfl;show(!(_||decide ((bs.getD k dB).2.1<2)||_||_))=false;rw[show decide ((bs.getD k dB).2.1<2)=true from h2];simp;show(!(_||_||decide ((bs.getD k dB).2.1>=1024)||_))=false;rw[show decide ((bs.getD k dB).2.1>=1024)=true from h3];simp;have h0:(k:Int)>0:=of_decide_eq_true h4;rw[show((k:Int) - 1).toNat=k - 1 from by omega];refine⟨⟨by omega,by omega⟩,by omega,by omega,λh5=>gj (no ?_),λh5=>⟨⟨by omega,by omega⟩,ih (k+1) (by omega) (λj hj=> ?_)⟩⟩;show(!(_||_||_||(decide (0<k)&& !slt (bs.getD (k - 1) dB).1 (bs.getD k dB).1)))=false;rw[show(!slt (bs.getD (k - 1) dB).1 (bs.getD k dB).1)=true from h5,show decide (0<k)=true from decide_eq_true (by omega)];simp;by_cases u7:j=k;subst u7;show(!(decide (((bs.getD j dB).1.size:Int)>24)||decide ((bs.getD j dB).2.1<2)||decide ((bs.getD j dB).2.1>=1024)||(decide (0<j)&& !slt (bs.getD (j - 1) dB).1 (bs.getD j dB).1)))=true;rw[show(!slt (bs.getD (j - 1) dB).1 (bs.getD j dB).1)=false from h5,show decide ((bs.getD j dB).2.1>=1024)=false from h3,show decide ((bs.getD j dB).2.1<2)=false from h2,show decide (((bs.getD j dB).1.size:Int)>24)=false from h1];simp;exact hp j (by omega);have h0:¬(k:Int)>0:=of_decide_eq_false h4;refine ih (k+1) (by omega) (λj hj=> ?_);by_cases u7:j=k;subst u7;show(!(decide (((bs.getD j dB).1.size:Int)>24)||decide ((bs.getD j dB).2.1<2)||decide ((bs.getD j dB).2.1>=1024)||(decide (0<j)&& !slt (bs.getD (j - 1) dB).1 (bs.getD j dB).1)))=true;rw[show decide ((bs.getD j dB).2.1>=1024)=false from h3,show decide ((bs.getD j dB).2.1<2)=false from h2,show decide (((bs.getD j dB).1.size:Int)>24)=false from h1,decide_eq_false (by omega)];rfl;exact hp j (by omega)
 have first:dM l es bs=(kB es&&iq bs)->∀(n k:Nat),k+n=es.length->(∀j,j<k->okE es j=true)->Safe P 166 X (Ends [dg] (dM l es bs,())) (uD l es bs (k:Int)):=by
  intro hm n
  induction n with
  |zero=>
   intro k hk hp;have he:kB es=true:=ahe (λj hj=>hp j (by omega));exact go hz hX aR.Ok.nil Tryz.func166 (adk l es bs k) ⟨λh=>absurd (of_decide_eq_true h) (by omega),λh=>second he (by rw[hm,he];rfl) bs.length 0 (by omega) (λj hj=>by omega)⟩
  |succ n ih=>
   intro k hk hp;have no:okE es k=false->dM l es bs=false:=λh=>by rw[hm,show kB es=false from alm (by omega) h];rfl
   refine go hz hX aR.Ok.nil Tryz.func166 (adk l es bs k) ⟨λh=>⟨by omega,by omega, ?_⟩,λh=>absurd (of_decide_eq_false h) (by omega)⟩;simp only[toNat_natCast];refine⟨λh1=>gj (no ?_),λh1=>⟨λh2=>gj (no ?_),λh2=>⟨λh3=>gj (no ?_),λh3=>⟨λh4=> ?_,λh4=>⟨⟨by omega,by omega⟩, ?_⟩⟩⟩⟩⟩;show(!(decide ((es.getD k dE).1=empty)||_||_||_))=false;rw[show decide ((es.getD k dE).1=empty)=true from h1];rfl;show(!(_||decide (((es.getD k dE).1.size:Int)>24)||_||_))=false;rw[show decide (((es.getD k dE).1.size:Int)>24)=true from h2];simp;show(!(_||_||decide (((es.getD k dE).2.1.size:Int)>100)||_))=false;rw[show decide (((es.getD k dE).2.1.size:Int)>100)=true from h3];simp;have h0:(k:Int)>0:=of_decide_eq_true h4;rw[show((k:Int) - 1).toNat=k - 1 from by omega];refine⟨⟨by omega,by omega⟩,by omega,by omega,λh5=>gj (no ?_),λh5=>⟨⟨by omega,by omega⟩,ih (k+1) (by omega) (λj hj=> ?_)⟩⟩;show(!(_||_||_||(decide (0<k)&& !slt (es.getD (k - 1) dE).1 (es.getD k dE).1)))=false;rw[show(!slt (es.getD (k - 1) dE).1 (es.getD k dE).1)=true from h5,show decide (0<k)=true from decide_eq_true (by omega)];simp;by_cases u7:j=k;subst u7;show(!(decide ((es.getD j dE).1=empty)||decide (((es.getD j dE).1.size:Int)>24)||decide (((es.getD j dE).2.1.size:Int)>100)||(decide (0<j)&& !slt (es.getD (j - 1) dE).1 (es.getD j dE).1)))=true;rw[show(!slt (es.getD (j - 1) dE).1 (es.getD j dE).1)=false from h5,show decide (((es.getD j dE).2.1.size:Int)>100)=false from h3,show decide (((es.getD j dE).1.size:Int)>24)=false from h2,show decide ((es.getD j dE).1=empty)=false from h1];simp;exact hp j (by omega);have h0:¬(k:Int)>0:=of_decide_eq_false h4;refine ih (k+1) (by omega) (λj hj=> ?_);by_cases u7:j=k;subst u7;show(!(decide ((es.getD j dE).1=empty)||decide (((es.getD j dE).1.size:Int)>24)||decide (((es.getD j dE).2.1.size:Int)>100)||(decide (0<j)&& !slt (es.getD (j - 1) dE).1 (es.getD j dE).1)))=true;rw[show decide (((es.getD j dE).2.1.size:Int)>100)=false from h3,show decide (((es.getD j dE).1.size:Int)>24)=false from h2,show decide ((es.getD j dE).1=empty)=false from h1,decide_eq_false (by omega)];rfl;exact hp j (by omega)
 refine go hz hX aR.Ok.nil Tryz.func166 (aoV l es bs) ⟨λhl=>⟨λh1=>gj ?_,λh1=>⟨λh2=> ?_,λh2=>first ?_ es.length 0 (by omega) (λj hj=>by omega)⟩⟩,λhl=>⟨λh1=>⟨λh2=>gj ?_,λh2=>first ?_ es.length 0 (by omega) (λj hj=>by omega)⟩,λh1=> ?_⟩⟩;show(!((l&&decide ((bs.length:Int)>0))||_)&&_&&_)=false;rw[hl,h1];rfl;subst hl;cases h2;show(!((l&&decide ((bs.length:Int)>0))||(!l&&_))&&_&&_)=_;rw[hl,h1];rfl;show(!((l&&_)||(!l&&decide ((es.length:Int)>0)))&&_&&_)=false;rw[hl,h2];rfl;show(!((l&&_)||(!l&&decide ((es.length:Int)>0)))&&_&&_)=_;rw[hl,h2];rfl;subst hl;cases h1
theorem ik{α:Type}{l:List α}{k:Nat}{d:α}(h:k<l.length):l.take k++[l.getD k d]=l.take (k+1):=by
 rw[bt h,List.take_succ_eq_append_getElem h]
abbrev aru:=cU [fc,fc] [bS] (λ_=>[]) (λ(a,b,())=>(nh a b,()))
def atg:aR:=[(167,aru)]
def ahj:aR:=[(128,aru)]
theorem aoW(a b:ByteArray):run P atg.sum Tryz.f128 [] (start Tryz.f128 [.s (.ag a),.s (.ag b)] [])=
 Tree.ret [] (.s (.int .i64 (nh a b))):=by kernel_rfl
theorem afJ(x:Br)(b:ByteArray):run P ahj.sum Tryz.f127 [] (start Tryz.f127 [.agg [.s (.ag x.1),.s (.int .i64 x.2.1)],.s (.ag b)] [])=
 Tree.ret [.ay [.s (.ag x.fst),.s (.int .i64 x.snd.fst)] 137] (.s (.int .i64 (nh x.fst b))):=by kernel_rfl
theorem adm(x:En)(b:ByteArray):run P ahj.sum Tryz.f152 [] (start Tryz.f152 [.agg [.s (.ag x.1),.s (.ag x.2.1)],.s (.ag b)] [])=
 Tree.ret [.ay [.s (.ag x.fst),.s (.ag x.snd.fst)] 66] (.s (.int .i64 (nh x.fst b))):=by kernel_rfl
set_option maxHeartbeats 1000000 in
set_option maxRecDepth 100000 in
theorem abq(a b:ByteArray)(w:World):Calls P 167 #[.string a,.string b] w λe w'=>e=.returned (.int .i64 (nh a b))/\w'=w:=by
 have mixed:=mixed;have t3:=Tryz.underlying3;have t9:=Tryz.underlying9;have u3:=run_underlying t3;have u9:=run_underlying t9
 go_enter Tryz.func167,Tryz.ntmps167
 go_wp2
 rw[run_callFunc_extern Tryz.func190 (by kernel_rfl) (by kernel_rfl) (by kernel_rfl) (e:=Extern.BytealgCompare.compare) (by kernel_rfl),Lib.run_compareString];simp only[Result.andThen];rw[Oper.upon_value]
 go_wp2
 go_ret
 exact⟨rfl,rfl⟩
theorem aoX{Z:bB}:dO P Z 167 [fc,fc] [bS] (λ_=>[]) (λ(a,b,())=>(nh a b,())):=by
 rintro⟨(a:ByteArray),(b:ByteArray),⟨⟩⟩ _ _ G w vs hG hz hd;obtain⟨v,rest,rfl,h1,h2⟩:=aI.1 hd;obtain⟨u,rest,rfl,h3,h4⟩:=aI.1 h2;obtain rfl:=bo.1 h4;obtain rfl:=fP h1;obtain rfl:=fP h3;refine(abq a b w).mono ?_;rintro e w' ⟨rfl,rfl⟩;refine⟨_,rfl,Good.val ⟨λid o ho=>by simp at ho,λi j oi oj b hi=>by simp at hi,λb hb=> ?_,hG⟩ ?_⟩;have⟨id,o,ho,_⟩:=hb;cases ho;exact aJ (.int .i64 _)
theorem alU{Z:bB}:dO P Z 128 [fc,fc] [bS] (λ_=>[]) (λ(a,b,())=>(nh a b,())):=by
 refine aM Tryz.func128 (by kernel_rfl) (by kernel_rfl) ?_;rintro⟨(a:ByteArray),(b:ByteArray),⟨⟩⟩ _ _ X hX hz;exact go hz hX (aR.Ok.cons aoX.sum aR.Ok.nil) Tryz.func128 (aoW a b) abg
abbrev tBr:Ty:=.st [.ag,.int .i64]
abbrev tEn:Ty:=.st [.ag,.ag]
theorem ajr{Z:bB}:dO P Z 127 [tBr,fc] [bS] (λ_=>[]) (λ((a,_,()),b,())=>(nh a b,())):=by
 refine aM Tryz.func127 (by kernel_rfl) (by kernel_rfl) ?_;rintro⟨⟨(a:ByteArray),(n:Int),⟨⟩⟩,(b:ByteArray),⟨⟩⟩ _ _ X hX hz;exact go hz hX (aR.Ok.cons alU.sum aR.Ok.nil) Tryz.func127 (afJ (a,n,()) b) abg
theorem afK{Z:bB}:dO P Z 152 [tEn,fc] [bS] (λ_=>[]) (λ((a,_,()),b,())=>(nh a b,())):=by
 refine aM Tryz.func152 (by kernel_rfl) (by kernel_rfl) ?_;rintro⟨⟨(a:ByteArray),(n:ByteArray),⟨⟩⟩,(b:ByteArray),⟨⟩⟩ _ _ X hX hz;exact go hz hX (aR.Ok.cons alU.sum aR.Ok.nil) Tryz.func152 (adm (a,n,()) b) abg
abbrev ax3:=cU [tBr,fc] [bS] (λ_=>[]) (λ((a,_,()),b,())=>(nh a b,()))
abbrev ax4:=cU [tEn,fc] [bS] (λ_=>[]) (λ((a,_,()),b,())=>(nh a b,()))
def adn:aR:=[(127,ax3)
 ,(152,ax4)
 ]
def aoY:List (Nat×Norm):=[(3,⟨[],[0,1,2,8,9,10],0,[]⟩)]
noncomputable def alV(bs:List Br)(ad:ByteArray)(i j:Int):cn:=⟨sl 49 [(0,.s (.ro (.az cB bs))),(1,.s (.ag ad)),(2,.s (.qW 127)),(8,.s (.int .i64 (bs.length:Int))),(9,.s (.int .i64 i)),(10,.s (.int .i64 j))],[],hd Tryz.f126 3,{}⟩
noncomputable def alW(bs:List En)(ad:ByteArray)(i j:Int):cn:=⟨sl 49 [(0,.s (.ro (.az cE bs))),(1,.s (.ag ad)),(2,.s (.qW 152)),(8,.s (.int .i64 (bs.length:Int))),(9,.s (.int .i64 i)),(10,.s (.int .i64 j))],[],hd Tryz.f151 3,{}⟩
abbrev ajs(x:Br):ByteArray:=x.1
abbrev qB(x:En):ByteArray:=x.1
abbrev nw(l:List Br):List ByteArray:=l.map ajs
abbrev cg(l:List En):List ByteArray:=l.map qB
theorem aoZ(bs:List Br)(ad:ByteArray):run P adn.sum Tryz.f126 aoY (start Tryz.f126 [.s (.ro (.az cB bs)),.s (.ag ad),.s (.qW 127)] [])=
 Tree.at (alV bs ad 0 (↑bs.length:Int)):=by kernel_rfl
theorem ahk(bs:List Br)(ad:ByteArray)(i j:Int):run P adn.sum Tryz.f126 aoY (alV bs ad i j)=
 Tree.ite (decide (i<j)) (Tree.ab (aG (i+j)) (Tree.ab ((0:Int)≤(1:Int)) (Tree.ab ((0:Int)≤IntKind.i64.wrap ((IntKind.u64.wrap (i+j)).fdiv ((2:Int)^min (Int.toNat (1:Int)) IntKind.u64.bits))) (Tree.ab (IntKind.i64.wrap ((IntKind.u64.wrap (i+j)).fdiv ((2:Int)^min (Int.toNat (1:Int)) IntKind.u64.bits))<(↑bs.length:Int)) (Tree.ite (decide (nh (bs.getD (IntKind.i64.wrap ((IntKind.u64.wrap (i+j)).fdiv ((2:Int)^min (Int.toNat (1:Int)) IntKind.u64.bits))).toNat (CL.d [CK.ag,CK.int IntKind.i64])).fst ad<(0:Int))) (Tree.ab (aG (IntKind.i64.wrap ((IntKind.u64.wrap (i+j)).fdiv ((2:Int)^min (Int.toNat (1:Int)) IntKind.u64.bits))+(1:Int))) (Tree.at (alV bs ad (IntKind.i64.wrap ((IntKind.u64.wrap (i+j)).fdiv ((2:Int)^min (Int.toNat (1:Int)) IntKind.u64.bits))+(1:Int)) j))) (Tree.at (alV bs ad i (IntKind.i64.wrap ((IntKind.u64.wrap (i+j)).fdiv ((2:Int)^min (Int.toNat (1:Int)) IntKind.u64.bits)))))))))) (Tree.ite (decide (i<(↑bs.length:Int))) (Tree.ab ((0:Int)≤i) (Tree.ab (i<(↑bs.length:Int)) (Tree.ret [] (AV.bD [AV.s (SV.int IntKind.i64 i),AV.s (SV.bool (nh (bs.getD i.toNat (CL.d [CK.ag,CK.int IntKind.i64])).fst ad==(0:Int)))])))) (Tree.ret [] (AV.bD [AV.s (SV.int IntKind.i64 i),AV.s (SV.aT false)]))):=by kernel_rfl
theorem ao0(bs:List En)(ad:ByteArray):run P adn.sum Tryz.f151 aoY (start Tryz.f151 [.s (.ro (.az cE bs)),.s (.ag ad),.s (.qW 152)] [])=
 Tree.at (alW bs ad 0 (↑bs.length:Int)):=by kernel_rfl
theorem ahl(bs:List En)(ad:ByteArray)(i j:Int):run P adn.sum Tryz.f151 aoY (alW bs ad i j)=
 Tree.ite (decide (i<j)) (Tree.ab (aG (i+j)) (Tree.ab ((0:Int)≤(1:Int)) (Tree.ab ((0:Int)≤IntKind.i64.wrap ((IntKind.u64.wrap (i+j)).fdiv ((2:Int)^min (Int.toNat (1:Int)) IntKind.u64.bits))) (Tree.ab (IntKind.i64.wrap ((IntKind.u64.wrap (i+j)).fdiv ((2:Int)^min (Int.toNat (1:Int)) IntKind.u64.bits))<(↑bs.length:Int)) (Tree.ite (decide (nh (bs.getD (IntKind.i64.wrap ((IntKind.u64.wrap (i+j)).fdiv ((2:Int)^min (Int.toNat (1:Int)) IntKind.u64.bits))).toNat (CL.d [CK.ag,CK.ag])).fst ad<(0:Int))) (Tree.ab (aG (IntKind.i64.wrap ((IntKind.u64.wrap (i+j)).fdiv ((2:Int)^min (Int.toNat (1:Int)) IntKind.u64.bits))+(1:Int))) (Tree.at (alW bs ad (IntKind.i64.wrap ((IntKind.u64.wrap (i+j)).fdiv ((2:Int)^min (Int.toNat (1:Int)) IntKind.u64.bits))+(1:Int)) j))) (Tree.at (alW bs ad i (IntKind.i64.wrap ((IntKind.u64.wrap (i+j)).fdiv ((2:Int)^min (Int.toNat (1:Int)) IntKind.u64.bits)))))))))) (Tree.ite (decide (i<(↑bs.length:Int))) (Tree.ab ((0:Int)≤i) (Tree.ab (i<(↑bs.length:Int)) (Tree.ret [] (AV.bD [AV.s (SV.int IntKind.i64 i),AV.s (SV.bool (nh (bs.getD i.toNat (CL.d [CK.ag,CK.ag])).fst ad==(0:Int)))])))) (Tree.ret [] (AV.bD [AV.s (SV.int IntKind.i64 i),AV.s (SV.aT false)]))):=by kernel_rfl
def de(ks:List ByteArray)(ad:ByteArray):Nat:=(ks.takeWhile (λk=>slt k ad)).length
def ke(ks:List ByteArray)(ad:ByteArray):Bool:=decide (ks[de ks ad]? =some ad)
def jk(ks:List ByteArray):Prop:=∀i j,i<j->j<ks.length->slt (ks.getD i empty) (ks.getD j empty)=true
theorem dq{α:Type}(l:List α)(f:α->ByteArray)(d:α)(t:Nat)(hd:f d=empty:=by rfl):(l.map f).getD t empty=f (l.getD t d):=by
 simp only[List.getD,getElem?_map];cases l[t]? with
 |none=>exact hd.symm
 |some x=>rfl
theorem afL:∀{ks:List ByteArray} {ad:ByteArray} {i:Nat},i<=ks.length->(∀t,t<i->slt (ks.getD t empty) ad=true)->(i<ks.length->slt (ks.getD i empty) ad=false)->de ks ad=i
 |[],ad,i,h,_,_=>by
  simp only[length_nil,Nat.le_zero]at h;subst h;rfl
 |k::ks,ad,0,h,_,h2=>by
  have:=h2 (by simp);simp only[List.getD_cons_zero]at this;simp[de,List.takeWhile,this]
 |k::ks,ad,i+1,h,h1,h2=>by
  have h0:=h1 0 (by omega);simp only[List.getD_cons_zero]at h0;have:=afL (ks:=ks) (ad:=ad) (i:=i) (by simpa using h) (λt ht=>by simpa using h1 (t+1) (by omega)) (λhi=>by simpa using h2 (by simpa using hi));simp only[de]at this ⊢;simp[List.takeWhile,h0,this]
theorem xf(n:Int):(n==0)=decide (n=0):=by
 by_cases h:n=0<;>simp[h]
theorem alX{s:Int}(h0:0<=s)(h1:s<9223372036854775808):(IntKind.u64.wrap s).fdiv (2^min (Int.toNat 1) IntKind.u64.bits)=s / 2:=by
 have e1:IntKind.u64.wrap s=s:=by
  show s%18446744073709551616=s;omega
 rw[e1];show s.fdiv 2=s / 2;rw[Int.fdiv_eq_ediv_of_nonneg _ (by omega)]
theorem mH{Z:bB}:adn.Ok P Z:=aR.Ok.cons ajr.sum (
 aR.Ok.cons afK.sum
 aR.Ok.nil)
theorem ath{Z:bB}:dO P Z 126 [yG,fc,.b .fn] [bS,dg] (λ(l,_,f,())=>[(f:Nat)=127,(l:List Br).length<=1000000,jk (nw l)]) (λ(l,ad,_,())=>((de (nw l) ad:Nat),ke (nw l) ad,())):=by
 refine aM Tryz.func126 (by kernel_rfl) (by kernel_rfl) ?_;rintro⟨(l:List Br),(ad:ByteArray),(f:Nat),⟨⟩⟩ _ ⟨(hf:f=127),(hl:l.length<=1000000),(hs:jk (nw l)),_⟩ X hX hz;subst hf;have hk:∀t,(nw l).getD t empty=(l.getD t dB).1:=λt=>dq l ajs dB t;have hn:(nw l).length=l.length:=length_map _;have loop:∀(n i j:Nat),j - i<=n->i<=j->j<=l.length->(∀t,t<i->slt (l.getD t dB).1 ad=true)->(∀t,j<=t->t<l.length->slt (l.getD t dB).1 ad=false)->
  Safe P 126 X (Ends [bS,dg] ((de (nw l) ad:Nat),ke (nw l) ad,())) (alV l ad (i:Int) (j:Int)):=by
  intro n
  induction n with
  |zero=>
   intro i j h1 h2 h3 h4 h5;have hlb:de (nw l) ad=i:=afL (by rw[hn];omega) (λt ht=>by rw[hk];exact h4 t ht) (λh=>by rw[hn]at h;rw[hk];exact h5 i (by omega) h);refine go hz hX mH Tryz.func126 (ahk l ad i j) ⟨λh=>absurd (of_decide_eq_true h) (by omega),λh=>⟨λh6=>⟨by omega,of_decide_eq_true h6, ?_⟩,λh6=> ?_⟩⟩;have h7:i<l.length:=by have:=of_decide_eq_true h6;omega
   simp only[toNat_natCast];rw[ke,hlb];refine bq ((i:Int),nh (l.getD i dB).1 ad==0,()) ?_ (by kernel_rfl);congr 2;rw[getElem?_map,getElem?_eq_getElem h7,bt h7];simp only[map_some,Option.some.injEq];rw[xf,decide_eq_decide.2 (ahf _ _)];have h7:¬i<l.length:=by have:=of_decide_eq_false h6;omega
   rw[ke,hlb];refine bq ((i:Int),false,()) ?_ (by kernel_rfl);congr 2;rw[getElem?_map,getElem?_eq_none (Nat.le_of_not_lt h7)];rfl
  |succ n ih=>
   intro i j h1 h2 h3 h4 h5;by_cases lI:i<j;have e:=alX (s:=(i:Int)+(j:Int)) (by omega) (by omega);have e2:((i:Int)+(j:Int)) / 2=((i+j) / 2:Nat):=by omega
   refine go hz hX mH Tryz.func126 (ahk l ad i j) ?_;have e3:IntKind.i64.wrap (((i+j) / 2:Nat):Int)=(((i+j) / 2:Nat):Int):=cM ⟨by omega,by omega⟩;rw[e,e2,e3];simp only[toNat_natCast];refine⟨λh=>⟨⟨by omega,by omega⟩,by decide,by omega,by omega,λh6=>⟨⟨by omega,by omega⟩, ?_⟩,λh6=> ?_⟩,λh=>absurd (of_decide_eq_false h) (by omega)⟩;have h7:slt (l.getD ((i+j) / 2) dB).1 ad=true:=(vk _ _).1 (of_decide_eq_true h6);refine ih ((i+j) / 2+1) j (by omega) (by omega) h3 (λt ht=> ?_) h5;by_cases hte:t=(i+j) / 2;rw[hte];exact h7;have:=hs t ((i+j) / 2) (by omega) (by omega);rw[hk,hk]at this;exact dc this h7
   have h7:slt (l.getD ((i+j) / 2) dB).1 ad=false:=by
    cases h8:slt (l.getD ((i+j) / 2) dB).1 ad;rfl;exact absurd ((vk _ _).2 h8) (of_decide_eq_false h6)
   refine ih i ((i+j) / 2) (by omega) (by omega) (by omega) h4 (λt ht htl=> ?_);by_cases hte:t=(i+j) / 2;rw[hte];exact h7;have:=hs ((i+j) / 2) t (by omega) (by omega);rw[hk,hk]at this;cases h8:slt (l.getD t dB).1 ad;rfl;rw[dc this h8]at h7;cases h7;exact ih i j (by omega) h2 h3 h4 h5
 exact go hz hX mH Tryz.func126 (aoZ l ad) (loop l.length 0 l.length (by omega) (by omega) (by omega) (λt ht=>by omega) (λt ht htl=>by omega))
theorem ati{Z:bB}:dO P Z 151 [rT,fc,.b .fn] [bS,dg] (λ(l,_,f,())=>[(f:Nat)=152,(l:List En).length<=1000000,jk (cg l)]) (λ(l,ad,_,())=>((de (cg l) ad:Nat),ke (cg l) ad,())):=by
 refine aM Tryz.func151 (by kernel_rfl) (by kernel_rfl) ?_;rintro⟨(l:List En),(ad:ByteArray),(f:Nat),⟨⟩⟩ _ ⟨(hf:f=152),(hl:l.length<=1000000),(hs:jk (cg l)),_⟩ X hX hz;subst hf;have hk:∀t,(cg l).getD t empty=(l.getD t dE).1:=λt=>dq l qB dE t;have hn:(cg l).length=l.length:=length_map _;have loop:∀(n i j:Nat),j - i<=n->i<=j->j<=l.length->(∀t,t<i->slt (l.getD t dE).1 ad=true)->(∀t,j<=t->t<l.length->slt (l.getD t dE).1 ad=false)->
  Safe P 151 X (Ends [bS,dg] ((de (cg l) ad:Nat),ke (cg l) ad,())) (alW l ad (i:Int) (j:Int)):=by
  intro n
  induction n with
  |zero=>
   intro i j h1 h2 h3 h4 h5;have hlb:de (cg l) ad=i:=afL (by rw[hn];omega) (λt ht=>by rw[hk];exact h4 t ht) (λh=>by rw[hn]at h;rw[hk];exact h5 i (by omega) h);refine go hz hX mH Tryz.func151 (ahl l ad i j) ⟨λh=>absurd (of_decide_eq_true h) (by omega),λh=>⟨λh6=>⟨by omega,of_decide_eq_true h6, ?_⟩,λh6=> ?_⟩⟩;have h7:i<l.length:=by have:=of_decide_eq_true h6;omega
   simp only[toNat_natCast];rw[ke,hlb];refine bq ((i:Int),nh (l.getD i dE).1 ad==0,()) ?_ (by kernel_rfl);congr 2;rw[getElem?_map,getElem?_eq_getElem h7,bt h7];simp only[map_some,Option.some.injEq];rw[xf,decide_eq_decide.2 (ahf _ _)];have h7:¬i<l.length:=by have:=of_decide_eq_false h6;omega
   rw[ke,hlb];refine bq ((i:Int),false,()) ?_ (by kernel_rfl);congr 2;rw[getElem?_map,getElem?_eq_none (Nat.le_of_not_lt h7)];rfl
  |succ n ih=>
   intro i j h1 h2 h3 h4 h5;by_cases lI:i<j;have e:=alX (s:=(i:Int)+(j:Int)) (by omega) (by omega);have e2:((i:Int)+(j:Int)) / 2=((i+j) / 2:Nat):=by omega
   refine go hz hX mH Tryz.func151 (ahl l ad i j) ?_;have e3:IntKind.i64.wrap (((i+j) / 2:Nat):Int)=(((i+j) / 2:Nat):Int):=cM ⟨by omega,by omega⟩;rw[e,e2,e3];simp only[toNat_natCast];refine⟨λh=>⟨⟨by omega,by omega⟩,by decide,by omega,by omega,λh6=>⟨⟨by omega,by omega⟩, ?_⟩,λh6=> ?_⟩,λh=>absurd (of_decide_eq_false h) (by omega)⟩;have h7:slt (l.getD ((i+j) / 2) dE).1 ad=true:=(vk _ _).1 (of_decide_eq_true h6);refine ih ((i+j) / 2+1) j (by omega) (by omega) h3 (λt ht=> ?_) h5;by_cases hte:t=(i+j) / 2;rw[hte];exact h7;have:=hs t ((i+j) / 2) (by omega) (by omega);rw[hk,hk]at this;exact dc this h7
   have h7:slt (l.getD ((i+j) / 2) dE).1 ad=false:=by
    cases h8:slt (l.getD ((i+j) / 2) dE).1 ad;rfl;exact absurd ((vk _ _).2 h8) (of_decide_eq_false h6)
   refine ih i ((i+j) / 2) (by omega) (by omega) (by omega) h4 (λt ht htl=> ?_);by_cases hte:t=(i+j) / 2;rw[hte];exact h7;have:=hs ((i+j) / 2) t (by omega) (by omega);rw[hk,hk]at this;cases h8:slt (l.getD t dE).1 ad;rfl;rw[dc this h8]at h7;cases h7;exact ih i j (by omega) h2 h3 h4 h5
 exact go hz hX mH Tryz.func151 (ao0 l ad) (loop l.length 0 l.length (by omega) (by omega) (by omega) (λt ht=>by omega) (λt ht htl=>by omega))
abbrev ax5:=cU [yG,fc,.b .fn] [bS,dg] (λ(l,_,f,())=>[(f:Nat)=127,(l:List Br).length<=1000000,jk (nw l)]) (λ(l,ad,_,())=>((de (nw l) ad:Nat),ke (nw l) ad,()))
abbrev ax6:=cU [rT,fc,.b .fn] [bS,dg] (λ(l,_,f,())=>[(f:Nat)=152,(l:List En).length<=1000000,jk (cg l)]) (λ(l,ad,_,())=>((de (cg l) ad:Nat),ke (cg l) ad,()))
def alY:aR:=[(126,ax5)
 ,(151,ax6)
 ]
def abr:List (Nat×Norm):=[(3,⟨[(3,.aw .i64 [],3)],[1,3,9,10,11],0,[]⟩),(8,⟨[(3,.aw .i64 [],3)],[3,28,29,30],0,[]⟩)]
noncomputable def vp(l:Bool)(es:List En)(bs:List Br)(acc:List Int)(i:Int):cn:=⟨sl 43 [(1,.an 0 0),(3,.aq 1),(9,.s (.ro (.az cE es))),(10,.s (.int .i64 (es.length:Int))),(11,.s (.int .i64 i))],[obN l es bs 131,.aq (.aw .i64 acc) 3],hd Tryz.f180 3,{}⟩
noncomputable def vq(bs:List Br)(acc:List Int)(i:Int):cn:=⟨sl 43 [(3,.aq 0),(28,.s (.ro (.az cB bs))),(29,.s (.int .i64 (bs.length:Int))),(30,.s (.int .i64 i))],[.aq (.aw .i64 acc) 3],hd Tryz.f180 8,{}⟩
def qU(x:En):Int:=2+(x.1.size:Int)+(x.2.1.size:Int)
def qC(x:Br):Int:=3+(x.1.size:Int)
def aX(es:List En)(bs:List Br):List Int:=es.map qU++bs.map qC
def bI(es:List En)(bs:List Br):Int:=1+((es.map qU).sum+(bs.map qC).sum)
def bF(es:List En):Prop:=es.length<=1000/\∀x∈es,x.1.size<=1000/\x.2.1.size<=1000
def bG(bs:List Br):Prop:=bs.length<=1000/\∀x∈bs,x.1.size<=1000
abbrev alZ:=cU [fE] [adi] (λ((_,es,bs,()),())=>[bF es,bG bs]) (λ((_,es,bs,()),())=>(aX es bs,()))
def arv:aR:=[(180,alZ)]
def al0:List (Nat×Norm):=[(3,⟨[],[3,7,8,9],0,[]⟩)]
noncomputable def ahm(l:List Int)(a i:Int):cn:=⟨sl 18 [(3,.s (.int .i64 a)),(7,.aq 0),(8,.s (.int .i64 (l.length:Int))),(9,.s (.int .i64 i))],[.aq (.aw .i64 l) 3],hd Tryz.f175 3,{}⟩
abbrev arw:=cU [fE] [bS] (λ((_,es,bs,()),())=>[bF es,bG bs]) (λ((_,es,bs,()),())=>(bI es bs,()))
def avJ:aR:=[(175,arw)]
theorem ajt(l:List Br)(ad:ByteArray):run P alY.sum Tryz.f79 [] (start Tryz.f79 [.s (.ro (.az cB l)),.s (.ag ad)] [])=
 Tree.ab ((127:Nat)=(127:(Ty.b B.fn).V)) (.ab (l.length<=1000000) (.ab (jk (nw l)) (.ite (!ke (nw l) ad) (.ab (aG ((↑(de (nw l) ad):bS.V) - (1:Int))) (.ret [] (.s (.int .i64 (imax 0 ((↑(de (nw l) ad):bS.V) - (1:Int))))))) (.ret [] (.s (.int .i64 (imax 0 (↑(de (nw l) ad):bS.V)))))))):=by kernel_rfl
theorem afM(l:List En)(ad:ByteArray):run P alY.sum Tryz.f115 [] (start Tryz.f115 [.s (.ro (.az cE l)),.s (.ag ad)] [])=
 Tree.ab ((152:Nat)=(152:(Ty.b B.fn).V)) (.ab (l.length<=1000000) (.ab (jk (cg l)) (.ret [] (.bD [.s (.int .i64 (↑(de (cg l) ad):bS.V)),.s (.bool (ke (cg l) ad))])))):=by kernel_rfl
theorem aju(l:Bool)(es:List En)(bs:List Br):run P iU.sum Tryz.f180 abr (start Tryz.f180 [avN l es bs] [])=
 Tree.at (vp l es bs [] 0):=by kernel_rfl
theorem xg(l:Bool)(es:List En)(bs:List Br)(acc:List Int)(i:Int):run P iU.sum Tryz.f180 abr (vp l es bs acc i)=
 Tree.ite (decide (i<(↑es.length:Int))) (.ab ((0:Int)<=i) (.ab (i<(↑es.length:Int)) (.ab (aG ((2:Int)+(↑(ByteArray.size (es.getD i.toNat (CL.d [.ag,.ag])).fst):Int))) (.ab (aG ((2:Int)+(↑(ByteArray.size (es.getD i.toNat (CL.d [.ag,.ag])).fst):Int)+(↑(ByteArray.size (es.getD i.toNat (CL.d [.ag,.ag])).snd.fst):Int))) (.ab ((acc.length+1)*(8:Nat)<=140737488355328) (.ab (aG (i+1)) (.at (vp l es bs (acc++[(2:Int)+(↑(ByteArray.size (es.getD i.toNat (CL.d [.ag,.ag])).fst):Int)+(↑(ByteArray.size (es.getD i.toNat (CL.d [.ag,.ag])).snd.fst):Int)]) (i+1))))))))) (.at (vq bs acc 0)):=by kernel_rfl
theorem xh(bs:List Br)(acc:List Int)(i:Int):run P iU.sum Tryz.f180 abr (vq bs acc i)=
 Tree.ite (decide (i<(↑bs.length:Int))) (.ab ((0:Int)<=i) (.ab (i<(↑bs.length:Int)) (.ab (aG ((3:Int)+(↑(ByteArray.size (bs.getD i.toNat (CL.d [.ag,.int .i64])).fst):Int))) (.ab ((acc.length+1)*(8:Nat)<=140737488355328) (.ab (aG (i+1)) (.at (vq bs (acc++[(3:Int)+(↑(ByteArray.size (bs.getD i.toNat (CL.d [.ag,.int .i64])).fst):Int)]) (i+1)))))))) (.ret [.aq (.aw .i64 acc) 3] (.aq 0)):=by kernel_rfl
theorem treeSize(l:Bool)(es:List En)(bs:List Br):run P arv.sum Tryz.f175 al0 (start Tryz.f175 [avN l es bs] [])=
 Tree.ab (bF es) (.ab (bG bs) (.at (ahm (aX es bs) 1 0))):=by kernel_rfl
theorem ado(l:List Int)(a i:Int):run P arv.sum Tryz.f175 al0 (ahm l a i)=
 Tree.ite (decide (i<(↑l.length:Int))) (.ab ((0:Int)<=i) (.ab (i<(↑l.length:Int)) (.ab (aG (a+l.getD i.toNat 0)) (.ab (aG (i+1)) (.at (ahm l (a+l.getD i.toNat 0) (i+1))))))) (.ret [.aq (.aw .i64 l) 3] (.s (.int .i64 a))):=by kernel_rfl
theorem al1(l:Bool)(es:List En)(bs:List Br):run P avJ.sum Tryz.f146 [] (start Tryz.f146 [avN l es bs] [])=
 Tree.ab (bF es) (.ab (bG bs) (.ret [.ay [.s (.bool l),.s (.ro (.az [.ag,.ag] es)),.s (.ro (.az [.ag,.int .i64] bs))] 131] (.s (.bool (decide (bI es bs<=254)))))):=by kernel_rfl
theorem adp{Z:bB}:alY.Ok P Z:=aR.Ok.cons ath.sum (
 aR.Ok.cons ati.sum
 aR.Ok.nil)
def br(l:List Br)(ad:ByteArray):Int:=imax 0 (if ke (nw l) ad=true then(de (nw l) ad:Int)else(de (nw l) ad:Int) - 1)
theorem xi(ks:List ByteArray)(ad:ByteArray):de ks ad<=ks.length:=by
 unfold de;exact(List.takeWhile_sublist _).length_le
theorem xj{Z:bB}:dO P Z 79 [yG,fc] [bS] (λ(l,_,())=>[(l:List Br).length<=1000000,jk (nw l)]) (λ(l,ad,())=>(br l ad,())):=by
 refine aM Tryz.func79 (by kernel_rfl) (by kernel_rfl) ?_;rintro⟨(l:List Br),(ad:ByteArray),⟨⟩⟩ _ ⟨(hl:l.length<=1000000),(hs:jk (nw l)),_⟩ X hX hz;have hb:=xi (nw l) ad;rw[show(nw l).length=l.length from length_map _]at hb;refine go hz hX adp Tryz.func79 (ajt l ad) ⟨rfl,hl,hs,λh=>⟨⟨by omega,by omega⟩,ahd ?_⟩,λh=>ahd ?_⟩;have h:ke (nw l) ad=false:=by simpa using h
 simp[br,h];have h:ke (nw l) ad=true:=by simpa using h
 simp[br,h]
theorem tE{Z:bB}:dO P Z 115 [rT,fc] [bS,dg] (λ(l,_,())=>[(l:List En).length<=1000000,jk (cg l)]) (λ(l,ad,())=>((de (cg l) ad:Nat),ke (cg l) ad,())):=by
 refine aM Tryz.func115 (by kernel_rfl) (by kernel_rfl) ?_;rintro⟨(l:List En),(ad:ByteArray),⟨⟩⟩ _ ⟨(hl:l.length<=1000000),(hs:jk (cg l)),_⟩ X hX hz;exact go hz hX adp Tryz.func115 (afM l ad) ⟨rfl,hl,hs,bq _ rfl (by kernel_rfl)⟩
theorem xk{es:List En}(h:bF es)(i:Nat):(es.getD i dE).1.size<=1000/\(es.getD i dE).2.1.size<=1000:=by
 by_cases hi:i<es.length;rw[bt hi];exact h.2 _ (getElem_mem hi);rw[show es.getD i dE=dE from by simp[List.getD,getElem?_eq_none (Nat.le_of_not_lt hi)]];exact⟨by decide,by decide⟩
theorem xl{bs:List Br}(h:bG bs)(i:Nat):(bs.getD i dB).1.size<=1000:=by
 by_cases hi:i<bs.length;rw[bt hi];exact h.2 _ (getElem_mem hi);rw[show bs.getD i dB=dB from by simp[List.getD,getElem?_eq_none (Nat.le_of_not_lt hi)]];decide
theorem pX{α:Type}{l:List α}{k:Nat}{d:α}(f:α->Int)(h:k<l.length):(l.take k).map f++[f (l.getD k d)]=(l.take (k+1)).map f:=by
 rw[<-ik (d:=d) h,map_append];rfl
theorem rU{Z:bB}:dO P Z 180 [fE] [adi] (λ((_,es,bs,()),())=>[bF es,bG bs]) (λ((_,es,bs,()),())=>(aX es bs,())):=by
 refine aM Tryz.func180 (by kernel_rfl) (by kernel_rfl) ?_;rintro⟨⟨(l:Bool),(es:List En),(bs:List Br),⟨⟩⟩,⟨⟩⟩ _ ⟨(he:bF es),(hb:bG bs),_⟩ X hX hz;have he1:=he.1;have hb1:=hb.1
 have second:∀(n k:Nat),k+n=bs.length->Safe P 180 X (Ends [adi] (aX es bs,())) (vq bs (es.map qU++(bs.take k).map qC) (k:Int)):=by
  intro n
  induction n with
  |zero=>
   intro k hk;refine go hz hX aR.Ok.nil Tryz.func180 (xh bs _ k) ⟨λh=>absurd (of_decide_eq_true h) (by omega),λh=> ?_⟩;rw[take_of_length_le (by omega)];exact bq (aX es bs,()) rfl (by kernel_rfl)
  |succ n ih=>
   intro k hk;have cq:=xl hb k;refine go hz hX aR.Ok.nil Tryz.func180 (xh bs _ k) ⟨λh=>⟨by omega,by omega, ?_, ?_,⟨by omega,by omega⟩, ?_⟩,λh=>absurd (of_decide_eq_false h) (by omega)⟩;simp only[toNat_natCast];show aG (3+((bs.getD k dB).1.size:Int));exact⟨by omega,by omega⟩;simp only[length_append,length_map,length_take];omega;simp only[toNat_natCast];have:=ih (k+1) (by omega);rw[<-pX (d:=dB) qC (by omega),<-append_assoc]at this;exact this
 have first:∀(n k:Nat),k+n=es.length->Safe P 180 X (Ends [adi] (aX es bs,())) (vp l es bs ((es.take k).map qU) (k:Int)):=by
  intro n
  induction n with
  |zero=>
   intro k hk;refine go hz hX aR.Ok.nil Tryz.func180 (xg l es bs _ k) ⟨λh=>absurd (of_decide_eq_true h) (by omega),λh=> ?_⟩;rw[take_of_length_le (by omega)];have:=second bs.length 0 (by omega);simp only[List.take_zero,map_nil,append_nil]at this;exact this
  |succ n ih=>
   intro k hk;have⟨hs1,hs2⟩:=xk he k;refine go hz hX aR.Ok.nil Tryz.func180 (xg l es bs _ k) ⟨λh=>⟨by omega,by omega, ?_, ?_, ?_,⟨by omega,by omega⟩, ?_⟩,λh=>absurd (of_decide_eq_false h) (by omega)⟩;simp only[toNat_natCast];show aG (2+((es.getD k dE).1.size:Int));exact⟨by omega,by omega⟩;simp only[toNat_natCast];show aG (2+((es.getD k dE).1.size:Int)+((es.getD k dE).2.1.size:Int));exact⟨by omega,by omega⟩;simp only[length_map,length_take];omega;simp only[toNat_natCast];have:=ih (k+1) (by omega);rw[<-pX (d:=dE) qU (by omega)]at this;exact this
 exact go hz hX aR.Ok.nil Tryz.func180 (aju l es bs) (first es.length 0 (by omega))
theorem zQ{es:List En}{bs:List Br}(he:bF es)(hb:bG bs):∀x∈aX es bs,0<=x/\x<=2002:=by
 intro x hx;rcases mem_append.1 hx with hx|hx;obtain⟨y,hy,rfl⟩:=mem_map.1 hx;have:=he.2 y hy;simp only[qU];omega;obtain⟨y,hy,rfl⟩:=mem_map.1 hx;have:=hb.2 y hy;simp only[qC];omega
theorem pw{l:List Int}{m:Int}(h:∀x∈l,0<=x/\x<=m)(hm:0<=m):0<=l.sum/\l.sum<=m*l.length:=by
 induction l with
 |nil=>simp
 |cons x l ih=>
  have h1:=h x (by simp);have⟨h2,h3⟩:=ih (λy hy=>h y (by simp[hy]));simp only[sum_cons,length_cons];refine⟨by omega, ?_⟩;rw[show((l.length+1:Nat):Int)=(l.length:Int)+1 from rfl,Int.mul_add];omega
theorem jy{l:List Int}{k:Nat}(h:k<l.length):(l.take k).sum+l.getD k 0=(l.take (k+1)).sum:=by
 rw[<-ik (d:=(0:Int)) h,List.sum_append];simp
theorem oK(es:List En)(bs:List Br):bI es bs=1+(aX es bs).sum:=by
 simp[bI,aX,List.sum_append]
theorem ahn{Z:bB}:dO P Z 175 [fE] [bS] (λ((_,es,bs,()),())=>[bF es,bG bs]) (λ((_,es,bs,()),())=>(bI es bs,())):=by
 refine aM Tryz.func175 (by kernel_rfl) (by kernel_rfl) ?_;rintro⟨⟨(l:Bool),(es:List En),(bs:List Br),⟨⟩⟩,⟨⟩⟩ _ ⟨(he:bF es),(hb:bG bs),_⟩ X hX hz;have hr:=zQ he hb
 have bK:(aX es bs).length<=2000:=by
  have:=he.1;have:=hb.1;simp only[aX,length_append,length_map];omega
 show Safe P 175 X (Ends [bS] (bI es bs,())) _;rw[oK]
 have loop:∀(n k:Nat),k+n=(aX es bs).length->Safe P 175 X (Ends [bS] (1+(aX es bs).sum,())) (ahm (aX es bs) (1+((aX es bs).take k).sum) (k:Int)):=by
  intro n
  induction n with
  |zero=>
   intro k hk;refine go hz hX (aR.Ok.cons rU.sum aR.Ok.nil) Tryz.func175 (ado _ _ k) ⟨λh=>absurd (of_decide_eq_true h) (by omega),λh=> ?_⟩;rw[take_of_length_le (by omega)];exact abg
  |succ n ih=>
   intro k hk;have h1:=pw (l:=(aX es bs).take k) (m:=2002) (λx hx=>hr x (List.mem_of_mem_take hx)) (by omega)
   have h2:0<=(aX es bs).getD k 0/\(aX es bs).getD k 0<=2002:=by
    rw[bt (by omega)];exact hr _ (getElem_mem _)
   have h3:((aX es bs).take k).length<=2000:=by rw[length_take];omega
   refine go hz hX (aR.Ok.cons rU.sum aR.Ok.nil) Tryz.func175 (ado _ _ k) ?_;simp only[toNat_natCast];refine⟨λh=>⟨by omega,by omega,⟨by omega,by omega⟩,⟨by omega,by omega⟩, ?_⟩,λh=>absurd (of_decide_eq_false h) (by omega)⟩;have:=ih (k+1) (by omega);rw[<-jy (by omega),<-Int.add_assoc]at this;exact this
 have:=loop (aX es bs).length 0 (by omega);exact go hz hX (aR.Ok.cons rU.sum aR.Ok.nil) Tryz.func175 (treeSize l es bs) ⟨he,hb,this⟩
theorem aho{Z:bB}:dO P Z 146 [fE] [dg] (λ((_,es,bs,()),())=>[bF es,bG bs]) (λ((_,es,bs,()),())=>(decide (bI es bs<=254),())):=by
 refine aM Tryz.func146 (by kernel_rfl) (by kernel_rfl) ?_;rintro⟨⟨(l:Bool),(es:List En),(bs:List Br),⟨⟩⟩,⟨⟩⟩ _ ⟨(he:bF es),(hb:bG bs),_⟩ X hX hz;exact go hz hX (aR.Ok.cons ahn.sum aR.Ok.nil) Tryz.func146 (al1 l es bs) ⟨he,hb,abf⟩
def abt(s:ByteArray):List Int:=s.data.toList.map λb=>(b.toNat:Int)
def zR(s:ByteArray):List Int:=IntKind.u8.wrap (s.size:Int)::abt s
abbrev avK:Type:=ByteArray×List Int
def adq:Spec avK:=⟨λx=>[.s (.ag x.1),.an 0 0],λx=>[.ay [.aq 1] 107,.aq (.aw .u8 x.2) 5],λx=>[x.2.length<=100000000,x.1.size<=1000000],λx=>[.ay [.aq 2] 107,.aB,.aq (.aw .u8 (x.2++zR x.1)) 5],λ_=>.bD []⟩
def arx:List AV->RM (avK×List Nat)
 |[.s (.ag s),.an id 0]=>.aA id λ
  |some (.ay [.aq j] _)=>.aA j λ
   |some (.aq (.aw .u8 zs) _)=>.ret ((s,zs),[id,j])
   |_=>.fail "enc1: no bytes"
  |_=>.fail "enc1: no box"
 |_=>.fail "enc1"
abbrev atj:=cU [fE] [dg] (λ_=>[]) (λ((l,es,bs,()),())=>(dM l es bs,()))
abbrev ary:=cU [fE] [dg] (λ((_,es,bs,()),())=>[bF es,bG bs]) (λ((_,es,bs,()),())=>(decide (bI es bs<=254),()))
def xm:aR:=[(166,atj),(146,ary),(194,cC adq arx)]
def ahp:List (Nat×Norm):=[(8,⟨[],[1,4],0,[]⟩),(10,⟨[],[1,4,5,25,26,27],0,[]⟩),(16,⟨[],[4,5,41,42,43],0,[]⟩)]
noncomputable def ahq(l:Bool)(es:List En)(bs:List Br)(zs:List Int):cn:=⟨sl 64 [(1,.an 0 0),(4,.an 1 0)],[obN l es bs 131,.ay [.aq 2] 107,.aq (.aw .u8 zs) 5],hr Tryz.f177 8,{}⟩
noncomputable def ahr(l:Bool)(es:List En)(bs:List Br)(zs:List Int)(i:Int):cn:=⟨sl 64 [(1,.an 0 0),(4,.an 1 0),(5,.fn 194 [.an 1 0]),(25,.s (.ro (.az cE es))),(26,.s (.int .i64 (es.length:Int))),(27,.s (.int .i64 i))],[obN l es bs 131,.ay [.aq 2] 107,.aq (.aw .u8 zs) 5],hd Tryz.f177 10,{}⟩
noncomputable def ahs(bs:List Br)(zs:List Int)(i:Int):cn:=⟨sl 64 [(4,.an 0 0),(5,.fn 194 [.an 0 0]),(41,.s (.ro (.az cB bs))),(42,.s (.int .i64 (bs.length:Int))),(43,.s (.int .i64 i))],[.ay [.aq 1] 107,.aq (.aw .u8 zs) 5],hd Tryz.f177 16,{}⟩
theorem al2(s:ByteArray)(zs:List Int):run P iU.sum Tryz.f194 [] (start Tryz.f194 [.s (.ag s),.an 0 0] [.ay [.aq 1] 107,.aq (.aw .u8 zs) 5])=
 Tree.ab ((zs.length+(1:Nat))*(1:Nat)≤(140737488355328:Nat)) (Tree.ab (((zs++[IntKind.u8.wrap (↑s.size:Int)]).length+(List.map (fun(b:UInt8)=>(↑b.toNat:Int)) s.data.toList).length)*(1:Nat)≤(140737488355328:Nat)) (Tree.ret [au.ay [AV.aq (4:Nat)] (107:Nat),au.aB,au.aq (a8.aw IntKind.u8 [IntKind.u8.wrap (↑s.size:Int)]) (5:Nat),au.aB,au.aq (a8.aw IntKind.u8 (zs++[IntKind.u8.wrap (↑s.size:Int)]++List.map (fun(b:UInt8)=>(↑b.toNat:Int)) s.data.toList)) (5:Nat)] (AV.bD []))):=by kernel_rfl
theorem ao1(l:Bool)(es:List En)(bs:List Br):run P xm.sum Tryz.f177 ahp (start Tryz.f177 [avN l es bs] [])=
 Tree.ite (!dM l es bs) (.ret [.ay [.s (.bool l),.s (.ro (.az [.ag,.ag] es)),.s (.ro (.az [.ag,.int .i64] bs))] 131] (.bD [.s (.ag empty),.s (.aZ .i64 4)])) (.ab (bF es) (.ab (bG bs) (.ite (!decide (bI es bs<=254)) (.ret [.ay [.s (.bool l),.s (.ro (.az [.ag,.ag] es)),.s (.ro (.az [.ag,.int .i64] bs))] 131] (.bD [.s (.ag empty),.s (.aZ .i64 40)])) (.ite l (.ab ((0:Int)<=0) (.ab ((0:Int)<(↑(1:Nat):Int)) (.at (ahq l es bs ([(2:Int)].set 0 1))))) (.at (ahq l es bs [(2:Int)])))))):=by kernel_rfl
theorem ao2(l:Bool)(es:List En)(bs:List Br)(zs:List Int):run P xm.sum Tryz.f177 ahp (ahq l es bs zs)=
 Tree.at (ahr l es bs zs 0):=by kernel_rfl
theorem adr(l:Bool)(es:List En)(bs:List Br)(zs:List Int)(i:Int):run P xm.sum Tryz.f177 ahp (ahr l es bs zs i)=
 Tree.ite (decide (i<(↑es.length:Int))) (.ab ((0:Int)<=i) (.ab (i<(↑es.length:Int)) (.ab (bx (some [AV.s (.ag (es.getD i.toNat (CL.d [.ag,.ag])).fst),.an 0 0])) (.ab (bx (some [au.ay [.aq 1] 107,.aq (.aw .u8 zs) 5])) (.ab (zs.length<=100000000) (.ab (ByteArray.size (es.getD i.toNat (CL.d [.ag,.ag])).fst<=1000000) (.ab (bx (some [AV.s (.ag (es.getD i.toNat (CL.d [.ag,.ag])).snd.fst),.an 0 0])) (.ab (bx (some [au.ay [.aq 1] 107,.aq (.aw .u8 (zs++zR (es.getD i.toNat (CL.d [.ag,.ag])).fst)) 5])) (.ab ((zs++zR (es.getD i.toNat (CL.d [.ag,.ag])).fst).length<=100000000) (.ab (ByteArray.size (es.getD i.toNat (CL.d [.ag,.ag])).snd.fst<=1000000) (.ab (aG (i+1)) (.at (ahr l es bs (zs++zR (es.getD i.toNat (CL.d [.ag,.ag])).fst++zR (es.getD i.toNat (CL.d [.ag,.ag])).snd.fst) (i+1)))))))))))))) (.at (ahs bs zs 0)):=by kernel_rfl
theorem ads(bs:List Br)(zs:List Int)(i:Int):run P xm.sum Tryz.f177 ahp (ahs bs zs i)=
 Tree.ite (decide (i<(↑bs.length:Int))) (Tree.ab ((0:Int)≤i) (Tree.ab (i<(↑bs.length:Int)) (Tree.ab (bx (some [AV.s (SV.ag (bs.getD i.toNat (CL.d [CK.ag,CK.int IntKind.i64])).fst),AV.an (0:Nat) (0:Nat)])) (Tree.ab (bx (some [au.ay [AV.aq (1:Nat)] (107:Nat),au.aq (a8.aw IntKind.u8 zs) (5:Nat)])) (Tree.ab (zs.length≤(100000000:Nat)) (Tree.ab (ByteArray.size (bs.getD i.toNat (CL.d [CK.ag,CK.int IntKind.i64])).fst≤(1000000:Nat)) (Tree.ab ((0:Int)≤(8:Int)) (Tree.ab (((zs++zR (bs.getD i.toNat (CL.d [CK.ag,CK.int IntKind.i64])).fst).length+(2:Nat))*(1:Nat)≤(140737488355328:Nat)) (Tree.ab (aG (i+(1:Int))) (Tree.at (ahs bs (zs++zR (bs.getD i.toNat (CL.d [CK.ag,CK.int IntKind.i64])).fst++[IntKind.u8.wrap (Int.fdiv (bs.getD i.toNat (CL.d [CK.ag,CK.int IntKind.i64])).snd.fst ((2:Int)^min (Int.toNat (8:Int)) IntKind.i64.bits)),IntKind.u8.wrap (bs.getD i.toNat (CL.d [CK.ag,CK.int IntKind.i64])).snd.fst]) (i+(1:Int))))))))))))) (Tree.ret [au.ay [AV.aq (1:Nat)] (107:Nat),au.aq (a8.aw IntKind.u8 zs) (5:Nat)] (AV.bD [AV.s (SV.ag (aW zs)),AV.s (SV.aZ IntKind.i64 (0:Int))])):=by kernel_rfl
theorem dk{Z:bB}{X:Ctx}{t:aR}{f:FuncId}{fn:Func}{ns:List (Nat×Norm)}{c:cn}{tr:Tree}{K:List au->AV->Prop}{L:List au}(hz:eO Z X)(hX:X.H=lk L)(hm:∀x∈ns,L.length<=x.2.m)(hT:t.Ok P Z)(hf:P.funcs[f]? =some fn)
 (e:run P t.sum fn ns c=tr) (h:tr.ba K (Safe P f X K)):Safe P f X K c:=db (aR.sOk hT) hz mixed hf (λx hx id dN=>by rw[hX];exact getElem?_eq_none (le_trans (hm x hx) dN)) e h
theorem ao3{Z:bB}:gE P Z 194 adq:=by
 refine aK Tryz.func194 (by kernel_rfl) (λx=>le_of_ble_eq_true (by kernel_rfl)) ?_;rintro⟨(s:ByteArray),(zs:List Int)⟩ ⟨(h1:zs.length<=100000000),(h2:s.size<=1000000),_⟩ X hX hz;have hs:s.data.toList.length=s.size:=length_toList;refine dk hz hX (by simp) aR.Ok.nil Tryz.func194 (al2 s zs) ⟨by omega,by simp only[length_append,length_map,List.length_singleton];omega,⟨[],[0],2,[]⟩,le_refl _, ?_⟩;have e:zs++zR s=zs++[IntKind.u8.wrap (s.size:Int)]++abt s:=by simp[zR]
 show Norm.run _ _=some ⟨[AV.bD []],[.ay [.aq 2] 107,.aB,.aq (.aw .u8 (zs++zR s)) 5],[],{}⟩;rw[e];kernel_rfl
def oL(x:En):List Int:=zR x.1++zR x.2.1
def uU(x:Br):List Int:=zR x.1++[IntKind.u8.wrap (Int.fdiv x.2.1 (2^min (Int.toNat 8) IntKind.i64.bits)),IntKind.u8.wrap x.2.1]
def yH(l:Bool):List Int:=[if l=true then 1 else 2]
def oM(l:Bool)(es:List En)(bs:List Br):List Int:=yH l++es.flatMap oL++bs.flatMap uU
def adt(l:Bool)(es:List En)(bs:List Br):Bool:=dM l es bs&&decide (bI es bs<=254)
def dG(l:Bool)(es:List En)(bs:List Br):ByteArray:=if adt l es bs=true then aW (oM l es bs)else empty
def iJ(l:Bool)(es:List En)(bs:List Br):Int:=if dM l es bs=true then(if bI es bs<=254 then 0 else 40)else 4
theorem ni(s:ByteArray):(zR s).length=s.size+1:=by
 have hs:s.data.toList.length=s.size:=length_toList;simp[zR,abt,hs]
theorem zS{α β:Type}{l:List α}{k:Nat}{d:α}(f:α->List β)(h:k<l.length):(l.take k).flatMap f++f (l.getD k d)=(l.take (k+1)).flatMap f:=by
 rw[<-ik (d:=d) h,List.flatMap_append];simp
theorem rV{α β:Type}(f:α->List β)(m:Nat):∀{l:List α},(∀x∈l,(f x).length<=m)->(l.flatMap f).length<=m*l.length
 |[],_=>by simp
 |x::l,h=>by
  have h1:=h x (by simp);have h2:=rV f m (l:=l) (λy hy=>h y (by simp[hy]));simp only[List.flatMap_cons,length_append,length_cons,Nat.mul_add];omega
theorem adu{x:En}(h:x.1.size<=1000/\x.2.1.size<=1000):(oL x).length<=2002:=by
 simp only[oL,length_append,ni];omega
theorem al3{x:Br}(h:x.1.size<=1000):(uU x).length<=1003:=by
 simp only[uU,length_append,ni,length_cons,length_nil];omega
theorem kJ{Z:bB}:xm.Ok P Z:=aR.Ok.cons afI.sum (aR.Ok.cons aho.sum (aR.Ok.cons (ao3.sum arx) aR.Ok.nil))
theorem ajv{Z:bB}:dO P Z 177 [fE] [fc,bS] (λ((_,es,bs,()),())=>[bF es,bG bs]) (λ((l,es,bs,()),())=>(dG l es bs,iJ l es bs,())):=by
 refine aM Tryz.func177 (by kernel_rfl) (by kernel_rfl) ?_;rintro⟨⟨(l:Bool),(es:List En),(bs:List Br),⟨⟩⟩,⟨⟩⟩ _ ⟨(he:bF es),(hb:bG bs),_⟩ X hX hz;have he1:=he.1;have hb1:=hb.1;show Safe P 177 X (Ends [fc,bS] (dG l es bs,iJ l es bs,())) _
 have second:dG l es bs=aW (oM l es bs)->iJ l es bs=0->∀(n k:Nat),k+n=bs.length->Safe P 177 X (Ends [fc,bS] (dG l es bs,iJ l es bs,())) (ahs bs (yH l++es.flatMap oL++(bs.take k).flatMap uU) (k:Int)):=by
  intro hS hN n
  induction n with
  |zero=>
   intro k hk;refine go hz hX kJ Tryz.func177 (ads bs _ k) ⟨λh=>absurd (of_decide_eq_true h) (by omega),λh=> ?_⟩;rw[take_of_length_le (by omega),hS,hN];exact abh
  |succ n ih=>
   intro k hk;have cq:=xl hb k;have hl1:(es.flatMap oL).length<=2002*es.length:=rV oL 2002 (λx hx=>adu (he.2 x hx));have zo:((bs.take k).flatMap uU).length<=1003*(bs.take k).length:=rV uU 1003 (λx hx=>al3 (hb.2 x (List.mem_of_mem_take hx)));have hl3:(bs.take k).length<=1000:=by rw[length_take];omega
   have hl:(yH l++es.flatMap oL++(bs.take k).flatMap uU).length<=4000000:=by
    simp only[length_append,yH,List.length_singleton];omega
   refine go hz hX kJ Tryz.func177 (ads bs _ k) ?_;simp only[toNat_natCast];refine⟨λh=>⟨by omega,by omega,trivial,trivial,by omega, ?_,by decide, ?_,⟨by omega,by omega⟩, ?_⟩,λh=>absurd (of_decide_eq_false h) (by omega)⟩;show(bs.getD k dB).1.size<=1000000;omega;rw[length_append,ni];show(_+((bs.getD k dB).1.size+1)+2)*1<=_;omega;have:=ih (k+1) (by omega);rw[<-zS (d:=dB) uU (by omega),<-append_assoc]at this;rw[append_assoc (yH l++es.flatMap oL++(bs.take k).flatMap uU)];exact this
 have first:dG l es bs=aW (oM l es bs)->iJ l es bs=0->∀(n k:Nat),k+n=es.length->Safe P 177 X (Ends [fc,bS] (dG l es bs,iJ l es bs,())) (ahr l es bs (yH l++(es.take k).flatMap oL) (k:Int)):=by
  intro hS hN n
  induction n with
  |zero=>
   intro k hk;refine go hz hX kJ Tryz.func177 (adr l es bs _ k) ⟨λh=>absurd (of_decide_eq_true h) (by omega),λh=> ?_⟩;rw[take_of_length_le (by omega)];have:=second hS hN bs.length 0 (by omega);simp only[List.take_zero,List.flatMap_nil,append_nil]at this;exact this
  |succ n ih=>
   intro k hk;have⟨hs1,hs2⟩:=xk he k;have zo:((es.take k).flatMap oL).length<=2002*(es.take k).length:=rV oL 2002 (λx hx=>adu (he.2 x (List.mem_of_mem_take hx)));have hl3:(es.take k).length<=1000:=by rw[length_take];omega
   have hl:(yH l++(es.take k).flatMap oL).length<=4000000:=by
    simp only[length_append,yH,List.length_singleton];omega
   refine go hz hX kJ Tryz.func177 (adr l es bs _ k) ?_;simp only[toNat_natCast];refine⟨λh=>⟨by omega,by omega,trivial,trivial,by omega, ?_,trivial,trivial, ?_, ?_,⟨by omega,by omega⟩, ?_⟩,λh=>absurd (of_decide_eq_false h) (by omega)⟩;show(es.getD k dE).1.size<=1000000;omega;rw[length_append,ni];show _+((es.getD k dE).1.size+1)<=_;omega;show(es.getD k dE).2.1.size<=1000000;omega;have:=ih (k+1) (by omega);rw[<-zS (d:=dE) oL (by omega),<-append_assoc]at this;rw[append_assoc (yH l++(es.take k).flatMap oL)];exact this
 refine go hz hX kJ Tryz.func177 (ao1 l es bs) ⟨λh=> ?_,λh=>⟨he,hb,λh2=> ?_,λh2=> ?_⟩⟩;have h:dM l es bs=false:=by simpa using h
 have e1:dG l es bs=empty:=by simp[dG,adt,h]
 have e2:iJ l es bs=4:=by simp[iJ,h]
 rw[e1,e2];exact abh;have h:dM l es bs=true:=by simpa using h
 have h2:¬bI es bs<=254:=by simpa using h2
 have e1:dG l es bs=empty:=by simp[dG,adt,h,h2]
 have e2:iJ l es bs=40:=by simp[iJ,h,h2]
 rw[e1,e2];exact abh;have h:dM l es bs=true:=by simpa using h
 have h2:bI es bs<=254:=by simpa using h2
 have e1:dG l es bs=aW (oM l es bs):=by simp[dG,adt,h,h2]
 have e2:iJ l es bs=0:=by simp[iJ,h,h2]
 have st:Safe P 177 X (Ends [fc,bS] (dG l es bs,iJ l es bs,())) (ahq l es bs (yH l)):=by
  refine go hz hX kJ Tryz.func177 (ao2 l es bs _) ?_;have:=first e1 e2 es.length 0 (by omega)
  simp only[List.take_zero,List.flatMap_nil,append_nil]at this;exact this
 refine⟨λh3=>⟨by decide,by decide, ?_⟩,λh3=> ?_⟩;subst h3;exact st;subst h3;exact st
theorem al4{bs:List Br}(h:iq bs=true){i:Nat}(hi:i+1<bs.length):slt (bs.getD i dB).1 (bs.getD (i+1) dB).1=true:=by
 have:=dC.1 h (i+1) hi;simp only[okB,not_eq_true',Bool.or_eq_false_iff,Bool.and_eq_false_iff,decide_eq_false_iff_not,Bool.not_eq_false']at this;have h2:=this.2;rcases h2 with h2|h2;omega;simpa using h2
theorem al5{es:List En}(h:kB es=true){i:Nat}(hi:i+1<es.length):slt (es.getD i dE).1 (es.getD (i+1) dE).1=true:=by
 have:=dC.1 h (i+1) hi;simp only[okE,not_eq_true',Bool.or_eq_false_iff,Bool.and_eq_false_iff,decide_eq_false_iff_not,Bool.not_eq_false']at this;have h2:=this.2;rcases h2 with h2|h2;omega;simpa using h2
theorem uE{ks:List ByteArray}(h:∀i,i+1<ks.length->slt (ks.getD i empty) (ks.getD (i+1) empty)=true):jk ks:=by
 intro i j lI hj
 induction j with
 |zero=>omega
 |succ j ih=>
  by_cases he:i=j;subst he;exact h i hj;exact dc (ih (by omega) (by omega)) (h j hj)
theorem atk{bs:List Br}(h:iq bs=true):jk (nw bs):=uE λi hi=>by
 rw[length_map]at hi;rw[dq bs ajs dB,dq bs ajs dB];exact al4 h hi
theorem avL{es:List En}(h:kB es=true):jk (cg es):=uE λi hi=>by
 rw[length_map]at hi;rw[dq es qB dE,dq es qB dE];exact al5 h hi
theorem eJ{l:Bool}{es:List En}{bs:List Br}(h:dM l es bs=true):(l=true->bs=[])/\(l=false->es=[])/\kB es=true/\iq bs=true:=by
 simp only[dM,and_eq_true,not_eq_true',Bool.or_eq_false_iff,Bool.and_eq_false_iff,decide_eq_false_iff_not]at h;have⟨⟨⟨h1,h2⟩,h3⟩,h4⟩:=h;refine⟨λhl=> ?_,λhl=> ?_,h3,h4⟩;subst hl;rcases h1 with h1|h1;cases h1;exact List.eq_nil_of_length_eq_zero (by omega);subst hl;rcases h2 with h2|h2;cases h2;exact List.eq_nil_of_length_eq_zero (by omega)
theorem afN:∀{ks:List ByteArray} {ad:ByteArray} {t:Nat},t<de ks ad->slt (ks.getD t empty) ad=true
 |[],ad,t,h=>by simp[de]at h
 |k::ks,ad,t,h=>by
  simp only[de,List.takeWhile]at h;split at h;rename_i hk;cases t with
  |zero=>simpa using hk
  |succ t=>
   simp only[length_cons]at h;simpa using afN (ks:=ks) (ad:=ad) (t:=t) (by simp only[de];omega)
  simp at h
theorem afO:∀{ks:List ByteArray} {ad:ByteArray},de ks ad<ks.length->slt (ks.getD (de ks ad) empty) ad=false
 |[],ad,h=>by simp at h
 |k::ks,ad,h=>by
  by_cases hk:slt k ad=true;have e:de (k::ks) ad=de ks ad+1:=by simp[de,List.takeWhile,hk]
  rw[e]at h ⊢;simpa using afO (ks:=ks) (ad:=ad) (by simpa using h);have hk:slt k ad=false:=by simpa using hk
  have e:de (k::ks) ad=0:=by simp[de,List.takeWhile,hk]
  rw[e];simpa using hk
theorem al6{ks:List ByteArray}{ad:ByteArray}(hs:jk ks){t:Nat}(h1:de ks ad<=t)(h2:t<ks.length):slt (ks.getD t empty) ad=false:=by
 have h:=afO (ks:=ks) (ad:=ad) (by omega);by_cases he:t=de ks ad;rw[he];exact h;have h3:=hs (de ks ad) t (by omega) h2;cases h4:slt (ks.getD t empty) ad;rfl;rw[dc h3 h4]at h;cases h
theorem kC{ks:List ByteArray}{ad:ByteArray}:ke ks ad=true↔de ks ad<ks.length/\ks.getD (de ks ad) empty=ad:=by
 simp only[ke,decide_eq_true_eq];constructor;intro h;have h1:=(getElem?_eq_some_iff.1 h).1;exact⟨h1,by simp[List.getD,h]⟩;rintro⟨h1,h2⟩;rw[bt h1]at h2;rw[getElem?_eq_getElem h1,h2]
theorem xn{ks:List ByteArray}{ad:ByteArray}(hs:jk ks)(h0:ks≠[]):∃p:Nat,imax 0 (if ke ks ad=true then(de ks ad:Int)else(de ks ad:Int) - 1)=(p:Int)/\p<ks.length/\
 (p=0\/slt ad (ks.getD p empty)=false)/\(∀t,p<t->t<ks.length->slt ad (ks.getD t empty)=true):=by
 have bK:0<ks.length:=by
  cases ks with
  |nil=>exact absurd rfl h0
  |cons k ks=>simp
 have hle:=xi ks ad;have up:∀t,de ks ad<=t->t<ks.length->ks.getD t empty≠ad->slt ad (ks.getD t empty)=true:=λt h1 h2 h3=>w5 (al6 hs h1 h2) h3;by_cases hk:ke ks ad=true;have⟨h1,h2⟩:=kC.1 hk;rw[if_pos hk];refine⟨de ks ad,by unfold imax;split<;>omega,h1,.inr (by rw[h2];exact eI ad),λt ht htl=> ?_⟩;rw[<-h2];have:=hs (de ks ad) t ht htl;rw[h2]at this ⊢;exact this;rw[if_neg hk]
 have cX:∀t,de ks ad<=t->t<ks.length->ks.getD t empty≠ad:=by
  intro t h1 h2 h3;by_cases he:t=de ks ad;subst he;exact hk (kC.2 ⟨h2,h3⟩);have h4:=hs (de ks ad) t (by omega) h2;rw[h3]at h4;rw[afO (by omega)]at h4;cases h4
 rcases Nat.eq_zero_or_pos (de ks ad)with hz|hz;refine⟨0,by rw[hz];rfl,bK,.inl rfl,λt ht htl=>up t (by omega) htl (cX t (by omega) htl)⟩;refine⟨de ks ad - 1,by unfold imax;split<;>omega,by omega,.inr (tw (afN (by omega))),λt ht htl=>up t (by omega) htl (cX t (by omega) htl)⟩
end Lf
